/- Parts of a proof. No condition. -/
import Derived.Test.YtphaeahdmfapgaaGreatGR
set_option maxRecDepth 100000
set_option maxHeartbeats 8000000
set_option maxRecDepth 100000
set_option linter.unusedSimpArgs false
set_option linter.unusedVariables false
namespace Go
variable {p : Prop}
theorem od_ (h : p := by rw [h1 y (by rw [List.take_succ_cons]; exact List.mem_cons_self ..)]; simp) : p := h
theorem op_ (h : p := by rw [List.take_succ_cons]; exact List.mem_cons_of_mem _ hu) : p := h
theorem oq_ (h : p := by have := Hz.out; rw [List.take_length] at this; exact this) : p := h
theorem oz_ (h : p := by rw [List.take_succ_cons]; exact List.mem_cons_self ..) : p := h
theorem oP_ (h : p := by simp [results, Tryz.results19, go_sem] <;> rfl) : p := h
theorem oQ_ (h : p := by simp [results, Tryz.results43, go_sem] <;> rfl) : p := h
theorem vW_ (h : p := by rw [h x (List.mem_cons_self ..)]; simp) : p := h
theorem wB_ (h : p := by
 obtain rfl : k = xs.length := by omega
 have hfin : ∃ (B : Option Addr) (cap : Nat), u5 = .slice B xs.length cap := by
  have h := Own.out; rcases h.2 with ⟨rfl, h0⟩ | ⟨gb, cap, cur, rfl, _⟩
  ·exact ⟨none, 0, by rw [h0]⟩
  ·exact ⟨_, _, rfl⟩
 obtain ⟨B, cap, rfl⟩ := hfin; have own := Own.out; rw [List.take_length] at own; have Fin := hh_ own; clear own; go_wp2; go_ret; exact ⟨B, cap, rfl, Fin.out, hg⟩) : p := h
theorem wR_ (h : p := by
 exact ⟨k + 1, by omega, by go_num, by rw [zT _ Hxk.out, HTF.out]; simpa using hown', fun y hy => by
  obtain ⟨h1, e1⟩ := qQ9.1 Hxk.out; rw [List.take_succ_eq_append_getElem h1, e1] at hy; rcases List.mem_append.1 hy with hy | hy
  ·exact Hz.out y hy
  ·simp at hy; subst hy; rw [HTF.out], hg7⟩) : p := h
theorem x5_ (h : p := by
 exact ⟨0, Nat.zero_le _, rfl, World.ownsRow_nil _ _ _ _, fun x hx => by simp at hx, za.refl w⟩) : p := h
theorem yr_ (h : p := by
 obtain ⟨g, o, a, b, c⟩ := h i x hx; exact ⟨g, o, a, b.grow hg, c.grow hg⟩) : p := h
theorem y2_ (h : p := by
 intro v' w7 hown' hgrow _; have hg7 : za w w7 := za.own (G2.al _) hgrow (fun i hi => (HL2.out i hi).1); clear hgrow; go_wp2; go_roundw
 case rel => exact wR_
 case measure => exact wa_) : p := h
end Go
namespace Go.Proofs.YtphaeahdmfapgaaGreat
open Go.RowKit Go.Calm
def qM (f : List V -> Int) : List Z -> Int
 | [] => 0
 | x :: l => x.2 * f x.1 + qM f l
theorem QE (f : List V -> Int) : ∀ a b : List Z, qM f (a ++ b) = qM f a + qM f b
 | [], b => by simp [qM]
 | x :: a, b => by simp only [List.cons_append, qM, QE f a b]; omega
theorem YY {l s : List Z} (hl : ZG l) (h : yZ l = (s, 0)) : xi s /\ zD s = 0 /\ ∀ q, xe s q = xe l q := by
 have sp := qe l (fun x hx => (hl x hx).2); unfold yZ at h; rcases Wj (yC l) with ⟨e, hn, hb⟩ | ⟨e, he, hf⟩
 ·rw [e] at h; have es : yC l = s := (Prod.mk.inj h).1; have oks : ZG s := by rw [<- es]; exact Ls hl
  rw [es] at sp hn hb; exact ⟨sp.1, (SM.canon sp.1 oks hb hn).rz u4_ u4_, sp.2⟩
 ·rw [hf] at h; exact absurd (Prod.mk.inj h).2 he
def FS (u r : List V) : Int := if zj r = zj u then 1 else 0
def Xa (w : World) (A : Option Addr) (xs : List E) : Prop := ∀ i x, xs[i]? = some x -> ∃ g o, A = some ⟨g, o, none⟩ /\ zK w g (o + i * 6) x /\ EX w x
theorem Xa.grow {w w' : World} {A : Option Addr} {xs : List E} (h : Xa w A xs) (hg : za w w') : Xa w' A xs := fun i x hx => yr_
def xq (cols : List Int) : List E -> List Int × Int
 | [] => ([], 0)
 | x :: l => if (zP cols x).2 ≠ 0 then ([], (zP cols x).2) else if (xq cols l).2 ≠ 0 then ([], (xq cols l).2) else ((zP cols x).1 :: (xq cols l).1, 0)
theorem Xr (cols : List Int) : ∀ xs : List E, (∀ x ∈ xs, (zP cols x).2 = 0) -> xq cols xs = (xs.map (fun x => (zP cols x).1), 0)
 | [], _ => rfl
 | x :: l, h => by
  have ih := Xr cols l (fun y hy => h y (List.mem_cons_of_mem _ hy)); unfold xq; rw [if_neg vW_, ih, if_neg u5_]; rfl
theorem X7 (cols : List Int) : ∀ (xs : List E) (k : Nat) (x : E), xs[k]? = some x -> (∀ y ∈ xs.take k, (zP cols y).2 = 0) -> (zP cols x).2 ≠ 0 -> xq cols xs = ([], (zP cols x).2)
 | [], k, x, h, _, _ => by simp at h
 | y :: l, 0, x, h, _, h2 => by
  simp at h; subst h; unfold xq; rw [if_pos h2]
 | y :: l, k + 1, x, h, h1, h2 => by
  have ih := X7 cols l k x uT_ (fun u hu => h1 u op_) h2; unfold xq; rw [if_neg od_, ih, if_pos h2]
theorem ZE {cols : List Int} : ∀ {xs : List E}, (xq cols xs).2 = 0 -> ∀ x ∈ xs, (zP cols x).2 = 0
 | [], _, x, hx => by simp at hx
 | y :: l, h, x, hx => by
  unfold xq at h; split at h
  ·exact xi_
  ·rename_i h1; split at h
   ·rename_i h2; exact absurd h h2
   ·rename_i h2; rcases List.mem_cons.1 hx with rfl | hx
    ·simpa using h1
    ·exact ZE uQ_ x hx
def zE (cols : List Int) (xs : List E) : List Int × Int := if 8 < xs.length then ([], 5) else xq cols xs
theorem xo {cols : List Int} {xs : List E} (h : (zE cols xs).2 = 0) : xs.length <= 8 /\ ∀ x ∈ xs, (zP cols x).2 = 0 := by
 unfold zE at h; split at h
 ·simp at h
 ·exact ⟨by omega, ZE h⟩
theorem Yq {w : World} {base : Nat} {v : Value} {n : Nat} {ys : List Int} (h : w.ownsRow base 3 1 v n (ys.map (Value.int .i64))) : ∃ (B : Option Addr) (cap : Nat), v = .slice B ys.length cap /\ yD w B ys /\ zX B ys.length cap := by
 have hn := h.1; obtain ⟨_, h⟩ := h; obtain rfl : n = ys.length := by simpa using hn.symm
 rcases h with ⟨rfl, h0⟩ | ⟨gb, cap, cur, rfl, hB, hgb, hle, hmx, hcs, htk⟩
 ·have : ys = [] := List.length_eq_zero_iff.1 h0; subst this; exact ⟨none, 0, rfl, fun i x hx => by simp at hx, zX.nil⟩
 ·have hb : zc w gb 3 cur := hgb; refine ⟨some ⟨gb, 0, none⟩, cap, rfl, fun i x hx => ⟨gb, 0, rfl, ?_⟩, ⟨hle, fun h => by cases h⟩⟩; have hv : (ys.map (Value.int .i64))[i]? = some (.int .i64 x) := by simp [hx]
  rw [<- htk, List.getElem?_take] at hv; split at hv
  ·rw [Nat.zero_add, hb.cell]; simpa using hv
  ·cases hv
def XC (w : World) (B : Option Addr) : Prop := ∀ a, B = some a -> w.heap.size <= a.block
theorem xO {w : World} {base n m s cap : Nat} {e : TypeId} {B : Option Addr} {vs : List Value} (h : w.ownsRow base e s (.slice B n cap) m vs) : ∀ a, B = some a -> base <= a.block := fun a ha => by
 subst ha; exact (h.lt a.block rfl).1
theorem jC (w : World) (A : Option Addr) : yD w A [] := fun i x hx => by simp at hx
theorem zT {α β : Type} (f : α -> β) {xs : List α} {k : Nat} {x : α} (h : xs[k]? = some x) : (xs.take (k + 1)).map f = (xs.take k).map f ++ [f x] := by
 obtain ⟨h1, e1⟩ := qQ9.1 h; rw [List.take_succ_eq_append_getElem h1, e1]; simp
theorem Y0 (cols : List Int) (Ac : Option Addr) (cc : Nat) (xs : List E) (A : Option Addr) (c : Nat) (w : World) (hlen : cols.length <= 9223372036854775807) (hl : xs.length <= 9223372036854775807) (hc : yD w Ac cols) (hx : Xa w A xs) :
  Calls Tryz.prog 19 #[.slice Ac cols.length cc, .slice A xs.length c] w fun en w' => ∃ (B : Option Addr) (cap : Nat), en = .returned (.tuple #[.slice B (zE cols xs).1.length cap, .int .i64 (zE cols xs).2]) /\ yD w' B (zE cols xs).1 /\ zX B (zE cols xs).1.length cap /\ XC w B /\ za w w' := by
 have Hx := hh_ hx; have Hc := hh_ hc; have Ti := hh_ x9; clear hx hc; obtain ⟨R, hR⟩ : ∃ R, zE cols xs = R := ⟨_, rfl⟩
 rw [hR]; have HR := hh_ hR; clear hR; go_enter Tryz.func19, Tryz.ntmps19
 by_cases h8 : 8 < xs.length
 ·have d8 : decide ((8 : Int) < (xs.length : Int)) = true := decide_eq_true u4_; have e : R = ([], 5) := by rw [<- HR.out]; unfold zE; rw [if_pos h8]
  subst e; go_wp2; refine qX_ oP_ rfl ?_; exact ⟨none, 0, rfl, jC _ _, zX.nil, (fun a ha => by cases ha), za.refl _⟩
 ·have d8 : decide ((8 : Int) < (xs.length : Int)) = false := decide_eq_false u4_; have e : R = xq cols xs := by rw [<- HR.out]; unfold zE; rw [if_neg h8]
  have Re := hh_ e; clear e; go_wp2
  go_loopw [6, 16] (fun t i wr => ∃ k : Nat, k <= xs.length /\ i = .int .i64 k /\ wr.ownsRow w.heap.size 3 1 t k (((xs.take k).map (fun x => (zP cols x).1)).map (Value.int .i64)) /\ (∀ x ∈ xs.take k, (zP cols x).2 = 0) /\ za w wr) (fun _ i _ => xs.length - (intOf i).toNat)
  case atStart => exact x5_
  case round =>
   obtain ⟨k, hk, rfl, hown, hz, hg⟩ := hrel; have Own := hh_ hown; have Hz := hh_ hz; clear hown hz
   by_cases hlt : k < xs.length
   ·obtain ⟨x, hxk⟩ : ∃ x, xs[k]? = some x := ⟨_, qQ_ hlt⟩
    obtain ⟨gx, ox, rfl, hec, hex⟩ := (Hx.out.grow hg) k x hxk; obtain ⟨c0, c1, c2, c3, c4, c5⟩ := hec; obtain ⟨T, F, hTF⟩ : ∃ T F, zP cols x = (T, F) := ⟨_, _, rfl⟩
    have ct := fun W (h : za wr W) => ZD cols Ac cc x W hlen (Hc.out.grow (hg.trans h)) (hex.grow h)
    rw [hTF] at ct; simp only at ct; have Hxk := hh_ hxk; have HTF := hh_ hTF; have hl2 := Own.out.lt; have HL2 := hh_ hl2; clear hxk hex hTF hl2; unfold E.val at ct; obtain ⟨ti, hti, hz0, hz1, hz2⟩ := Ti.out
    by_cases h0 : F = 0
    ·subst h0
     go_wp2_with (first
      | (go_at_call 34; ((with_reducible refine (ct _ zd).mono ?_); rintro e w2 ⟨rfl, hg2⟩; have Own2 := hh_ (zh Own.out (((za.refl wr).al _).trans hg2)); have G2 := (hg.al _).trans hg2; clear hg2))
      | (at_builtin; refine wpList_append_own _ rfl _ _ 33 rfl w.heap.size 3 ti (.int .i64 0) 1 8 Tryz.underlying33 hti hz0 hz1 hz2 rfl u3_ _ _ _ rfl (Own2.out.alloc _) ⟨w2.heap.size, 0, none⟩ 1 1 [.int .i64 T] rfl rfl ?c1 ?c2 ?c3 ?c4 ?c5 ?_))
     case c1 => exact w6_
     case c2 => exact ya_
     case c3 => exact x6_
     case c4 => omega
     case c5 => exact ym_
     ·exact y2_
    ·have d0 : (F != 0) = true := by simpa using h0
     have e : R = ([], F) := by rw [Re.out, X7 cols xs k x Hxk.out Hz.out (by rw [HTF.out]; exact h0), HTF.out]
     subst e
     go_wp2_with (go_at_call 34; ((with_reducible refine (ct _ zd).mono ?_); rintro e w2 ⟨rfl, hg2⟩; have G2 := (hg.al _).trans hg2; clear hg2))
     refine qX_ oP_ rfl ?_; exact ⟨none, 0, rfl, jC _ _, zX.nil, (fun a ha => by cases ha), G2⟩
   ·obtain rfl : k = xs.length := by omega
    have own := Own.out; rw [List.take_length] at own; have e : R = (xs.map (fun x => (zP cols x).1), 0) := by rw [Re.out, Xr cols xs oq_]
    subst e; obtain ⟨B, cap, rfl, hi, hs⟩ := Yq own; have Fin := hh_ (And.intro hi (And.intro hs (xO own))); clear own hi hs; go_wp2; refine qX_ oP_ rfl ?_; exact ⟨B, cap, by simp, Fin.out.1, by simpa using Fin.out.2.1, Fin.out.2.2, hg⟩
theorem Qp (cols : List Int) (Ac : Option Addr) (cc : Nat) (xs : List E) (A : Option Addr) (c : Nat) (w : World) (hlen : cols.length <= 9223372036854775807) (hl : xs.length <= 9223372036854775807) (hc : yD w Ac cols) (hx : Xa w A xs) :
  Calls Tryz.prog 19 #[.slice Ac cols.length cc, .slice A xs.length c] w fun en w' => ∃ (B : Option Addr) (cap : Nat), en = .returned (.tuple #[.slice B (zE cols xs).1.length cap, .int .i64 (zE cols xs).2]) /\ yD w' B (zE cols xs).1 /\ zX B (zE cols xs).1.length cap /\ za w w' := (Y0 cols Ac cc xs A c w hlen hl hc hx).mono fun e w' ⟨B, cap, h1, h2, h3, _, h4⟩ => ⟨B, cap, h1, h2, h3, h4⟩
theorem Xt (xs : List E) (A : Option Addr) (c : Nat) (row : List V) (Ar : Option Addr) (cr : Nat) (w : World) (hl : xs.length <= 1000) (hlr : row.length <= 9223372036854775807) (hx : Xa w A xs) (hre : ∀ x ∈ xs, RE row.length x) (hr : ∀ v ∈ row, RV v) (hrow : yS w Ar row) :
  Calls Tryz.prog 82 #[.slice A xs.length c, .slice Ar row.length cr] w fun en w' => ∃ (B : Option Addr) (cap : Nat), en = .returned (.slice B xs.length cap) /\ w'.ownsRow w.heap.size 24 3 (.slice B xs.length cap) xs.length (zF (xs.map (yd row))) /\ za w w' := by
 have Hx := hh_ hx; have Hre := hh_ hre; have Hr := hh_ hr; have Hrow := hh_ hrow; have Ti := hh_ jS; clear hx hre hr hrow; go_enter Tryz.func82, Tryz.ntmps82; go_wp2
 go_loopw [5, 9] (fun t i wr => ∃ k : Nat, k <= xs.length /\ i = .int .i64 k /\ wr.ownsRow w.heap.size 24 3 t k (zF ((xs.take k).map (yd row))) /\ za w wr) (fun _ i _ => xs.length - (intOf i).toNat)
 case atStart => exact xz_
 case round =>
  obtain ⟨k, hk, rfl, hown, hg⟩ := hrel; have Own := hh_ hown; clear hown
  by_cases hlt : k < xs.length
  ·obtain ⟨x, hxk⟩ : ∃ x, xs[k]? = some x := ⟨_, qQ_ hlt⟩
   obtain ⟨gx, ox, rfl, hec, hex⟩ := (Hx.out.grow hg) k x hxk; have co := fun W (h : za wr W) => Lr row Ar cr hlr Hr.out x (Hre.out x (qZ_ hxk)) gx (ox + k * 6) wr W hex hec (Hrow.out.grow hg) h
   have e := zT (yd row) hxk; have E := hh_ e; obtain ⟨ti, hti, hz0, hz1, hz2⟩ := Ti.out; have hl2 := Own.out.lt; have HL2 := hh_ hl2; generalize yd row x = v9 at *; unfold V.val at co; clear hxk e hl2 hec hex
   go_wp2_with (first
    | (go_at_call 81; ((with_reducible refine (co _ zd).mono ?_); rintro e w2 ⟨rfl, hg2⟩; have Own2 := hh_ (zh Own.out hg2); have G2 := hg.trans hg2; clear hg2))
    | (at_builtin; refine wpList_append_own _ rfl _ _ 57 rfl w.heap.size 24 ti (.agg #[.int .i64 0, .int .i64 0, .string ⟨#[]⟩]) 3 32 Tryz.underlying57 hti hz0 hz1 hz2 rfl u3_ _ _ _ rfl (Own2.out.alloc _) ⟨w2.heap.size, 0, none⟩ 1 1 (zF [v9]) rfl rfl ?c1 (Yo _) ?c3 ?c4 ?c5 ?_))
   case c1 => exact wE_
   case c3 => exact x6_
   case c4 => omega
   case c5 => exact ym_
   ·exact yX_
  ·exact wB_
def QO (cols : List Int) (es : List E) (z : List Z) : List Z × Int := if (zE cols es).2 ≠ 0 then ([], (zE cols es).2) else if zO cols z ≠ 0 then ([], zO cols z) else yZ (z.map (fun r => (es.map (yd r.1), r.2)))
def jr (w : World) (y : I) : Prop := ∃ base, w.ownsRow base 24 3 (.slice y.A y.row.length y.cap) y.row.length (zF y.row)
theorem jr.grow {w w' : World} {y : I} (h : jr w y) (hg : za w w') : jr w' y := ⟨_, zh h.choose_spec hg⟩
theorem jr.kept {w w' : World} {y : I} {base n : Nat} {v : Value} {xs : List Value} (h : jr w y) (hown : w.ownsRow base 59 2 v n xs) (hg : w.grownBy w' v.ownBlock) : jr w' y :=
 ⟨_, World.ownsRow.kept h.choose_spec hg (xJ h.choose_spec hown u3_)⟩
theorem jr.vsl {w : World} {y : I} (h : jr w y) : yS w y.A y.row := by
 obtain ⟨base, h⟩ := h; obtain ⟨B, c, e, hv⟩ := Yt h; simp at e; rw [e.1]; exact hv
def PV (n : Nat) (vs : List V) (v : Value) (W : World) : Prop := ∃ (B : Option Addr) (cap : Nat), v = .slice B n cap /\ ∃ base, W.ownsRow base 24 3 (.slice B n cap) n (zF vs)
def PZ (n : Nat) (m : Int) (vs : List V) (v : Value) (W : World) : Prop := ∃ (B : Option Addr) (cap : Nat), v = .agg #[.slice B n cap, .int .i64 m] /\ ∃ base, W.ownsRow base 24 3 (.slice B n cap) n (zF vs)
def PB (n : Nat) (m : Int) (vs : List V) (v : Value) (W : World) : Prop := ∃ (B : Option Addr) (cap g : Nat), v = .slice (some ⟨g, 0, none⟩) 1 1 /\ zc W g 59 #[.slice B n cap, .int .i64 m] /\ ∃ base, W.ownsRow base 24 3 (.slice B n cap) n (zF vs)
theorem PV.pers (n : Nat) (vs : List V) : ∀ v w w', za w w' -> PV n vs v w -> PV n vs v w' := fun v w w' hg ⟨B, cap, e, base, h⟩ => ⟨B, cap, e, base, zh h hg⟩
theorem PZ.pers (n : Nat) (m : Int) (vs : List V) : ∀ v w w', za w w' -> PZ n m vs v w -> PZ n m vs v w' := fun v w w' hg ⟨B, cap, e, base, h⟩ => ⟨B, cap, e, base, zh h hg⟩
theorem PB.pers (n : Nat) (m : Int) (vs : List V) : ∀ v w w', za w w' -> PB n m vs v w -> PB n m vs v w' := fun v w w' hg ⟨B, cap, g, e, hb, base, h⟩ => ⟨B, cap, g, e, hb.grow hg, base, zh h hg⟩
theorem CF (cols : List Int) (Ac : Option Addr) (cc : Nat) (es : List E) (Ae : Option Addr) (ce : Nat) (xs : List I) (A : Option Addr) (c : Nat) (w : World) (hlen : cols.length <= 9223372036854775807) (hle : es.length <= 9223372036854775807) (hc : yD w Ac cols) (hE : Xa w Ae es) (h : In w ⟨A, xs, c⟩) :
  Calls Tryz.prog 43 #[.slice Ac cols.length cc, .slice Ae es.length ce, .slice A xs.length c] w fun en w' => z0 w w' en (QO cols es (xs.map zg)) := by
 have hza : xc w A xs := h.z; have H := hh_ h; have Hz := hh_ hza; have Hc := hh_ hc; have HX := hh_ hE; have ct := Qp cols Ac cc es Ae ce w hlen hle hc hE; have ci := fun W (hg : za w W) => qU cols Ac cc xs A c W hlen (Hc.out.grow hg) (H.out.grow hg)
 obtain ⟨TS, TE, hTE⟩ : ∃ TS TE, zE cols es = (TS, TE) := ⟨_, _, rfl⟩
 obtain ⟨IE, hIE⟩ : ∃ IE, zO cols (xs.map zg) = IE := ⟨_, rfl⟩
 rw [hTE] at ct; rw [hIE] at ci; obtain ⟨Q, hQ⟩ : ∃ Q, QO cols es (xs.map zg) = Q := ⟨_, rfl⟩
 rw [hQ]; have fin : Q = if TE ≠ 0 then ([], TE) else if IE ≠ 0 then ([], IE) else yZ ((xs.map zg).map (fun r => (es.map (yd r.1), r.2))) := by rw [<- hQ]; unfold QO; rw [hTE, hIE]
 have Fin := hh_ fin; have HTE := hh_ hTE; have HIE := hh_ hIE; clear h hza hc hE hTE hIE hQ fin; go_enter Tryz.func43, Tryz.ntmps43
 by_cases h0 : TE = 0
 ·by_cases h1 : IE = 0
  ·subst h0 h1; have eQ : Q = yZ ((xs.map zg).map (fun r => (es.map (yd r.1), r.2))) := by rw [Fin.out]; simp
   obtain ⟨_, hwz, hfit⟩ := zt HIE.out; obtain ⟨a1, a2, a3, a4⟩ := S.facts (s := ⟨A, xs, c⟩) hwz; have a1 : xs.length <= 400 := a1; have A2 := hh_ (show ∀ y ∈ xs, y.row.length <= 8 from a2); have A3 := hh_ (show ∀ y ∈ xs, ∀ v ∈ y.row, RV v from a3); have A4 := hh_ (show ∀ y ∈ xs, -1000000 <= y.w /\ y.w <= 1000000 from a4); have Hfit := hh_ (show ∀ y ∈ xs, xN cols y.row = 0 from fun y hy => hfit (zg y) (qZ9 hy)); obtain ⟨he8, hty⟩ := xo (by rw [HTE.out] : (zE cols es).2 = 0); have Hty := hh_ hty; have EQ := hh_ eQ; clear eQ hwz hfit a2 a3 a4 hty
   go_upto_region 8 with (first
    | (go_at_call 19; ((with_reducible refine ct.mono ?_); rintro e w2 ⟨BT, capT, rfl, _, _, hg2⟩))
    | (go_at_call 28; ((with_reducible refine (ci _ hg2).mono ?_); rintro e w3 ⟨rfl, hg3⟩)))
   have G3 := hh_ (hg2.trans hg3); clear ct ci; go_wp2
   go_loopw [11, 31] (fun t i wr => ∃ (k : Nat) (out : List I), k <= xs.length /\ i = .int .i64 k /\ wr.ownsRow w3.heap.size 59 2 t k (zx out) /\ out.map zg = (xs.take k).map (fun y => (es.map (yd y.row), y.w)) /\ (∀ y ∈ out, jr wr y) /\ za w3 wr) (fun _ i _ => xs.length - (intOf i).toNat)
   case atStart => exact ⟨0, [], Nat.zero_le _, rfl, World.ownsRow_nil _ _ _ _, rfl, fun y hy => by simp at hy, za.refl _⟩
   case round =>
    obtain ⟨k, out, hk, rfl, hown, hmap, hor, hg⟩ := hrel; have Own := hh_ hown; have Map := hh_ hmap; have Ors := hh_ hor; clear hown hmap hor
    by_cases hlt : k < xs.length
    ·obtain ⟨y, hyk⟩ : ∃ y, xs[k]? = some y := ⟨_, qQ_ hlt⟩
     have hmem := qZ_ hyk; obtain ⟨gx, ox, rfl, c1, c2, hyv⟩ := (Hz.out.grow (G3.out.trans hg)) k y hyk
     have hre : ∀ x ∈ es, RE y.row.length x := fun x hx => by
      obtain ⟨T, hok⟩ := xk (Hty.out x hx); rw [((yo cols y.row).1 (Hfit.out y hmem)).1]; exact Yc x hok.ty
     have hlr : y.row.length <= 9223372036854775807 := by have := A2.out y hmem; omega
     have cv := fun W (h : za wr W) => Xt es Ae ce y.row y.A y.cap W u4_ hlr (HX.out.grow (G3.out.trans (hg.trans h))) hre (A3.out y hmem) (hyv.grow h)
     have es1 := zT (fun y : I => (es.map (yd y.row), y.w)) hyk; have Es := hh_ es1; have ln : (es.map (yd y.row)).length = es.length := by simp
     have Ln := hh_ ln; generalize es.map (yd y.row) = VR at cv Es Ln; clear hyk hmem hre es1 ln hyv; go_upto_region 11 with fail
     refine zb (fun Z => zc Z wr.heap.size 59 #[.slice y.A y.row.length y.cap, .int .i64 y.w] /\ za wr Z) ⟨zc.new _ _ _, (za.refl wr).al _⟩ ?_; rintro Z ⟨Bz, Gz⟩; apply ze 9 uY_ uY_
     case h' =>
      intro Q0 hQ0; simp only [List.take_succ_cons, List.take_zero]
      repeat ((first | ((first | apply zu rfl | apply zw rfl rfl rfl); case h1 => (intro w1 hw1 hF K hK; obtain ⟨bz, fz⟩ := (Bz.grow hw1).rules; go_simp; first | exact hK _ (za.refl _))) | apply zz rfl rfl rfl rfl); intro K hK; go_simp; apply hK; clear hK K)
      apply zN (PV es.length VR) rfl
      case h1 =>
       intro w1 hw1 hF K hK; go_simp
       go_at_call 82
       refine (cv w1 (Gz.trans hw1)).mono ?_; rintro en w' ⟨B, cap, rfl, ho, hg'⟩; exact ⟨_, rfl, hK _ _ hg' ⟨B, cap, rfl, _, ho⟩⟩
      intro v39 K hK; go_simp; apply hK; clear hK K
      repeat ((first | ((first | apply zu rfl | apply zw rfl rfl rfl); case h1 => (intro w1 hw1 hF K hK; obtain ⟨bz, fz⟩ := (Bz.grow hw1).rules; go_simp; first | exact hK _ (za.refl _))) | apply zz rfl rfl rfl rfl); intro K hK; go_simp; apply hK; clear hK K)
      apply zN (PZ es.length y.w VR) rfl
      case h1 =>
       intro w1 hw1 hF K hK; obtain ⟨B, cap, hv, h1⟩ := hF _ (List.mem_cons_self ..) ⟨_, rfl, by decide⟩; subst hv; go_simp; exact hK _ _ (za.refl _) ⟨B, cap, rfl, h1⟩
      intro v42 K hK; go_simp; apply hK; clear hK K
      repeat ((first | ((first | apply zu rfl | apply zw rfl rfl rfl); case h1 => (intro w1 hw1 hF K hK; obtain ⟨bz, fz⟩ := (Bz.grow hw1).rules; go_simp; first | exact hK _ (za.refl _))) | apply zz rfl rfl rfl rfl); intro K hK; go_simp; apply hK; clear hK K)
      apply zN (PB es.length y.w VR) rfl
      case h1 =>
       intro w1 hw1 hF K hK; obtain ⟨B, cap, hv, h1⟩ := hF _ (List.mem_cons_self ..) ⟨_, rfl, by decide⟩; subst hv; go_simp; exact hK _ _ ((za.refl _).al _) ⟨B, cap, w1.heap.size, rfl, zc.new _ _ _, h1.choose, zh h1.choose_spec ((za.refl _).al _)⟩
      intro v43 K hK; go_simp; apply hK; clear hK K
      repeat ((first | ((first | apply zu rfl | apply zw rfl rfl rfl); case h1 => (intro w1 hw1 hF K hK; obtain ⟨bz, fz⟩ := (Bz.grow hw1).rules; go_simp; first | exact hK _ (za.refl _))) | apply zz rfl rfl rfl rfl); intro K hK; go_simp; apply hK; clear hK K)
      refine zo ?_; intro w1 hw1 hF; apply hQ0; clear hQ0; simp only [List.drop_succ_cons, List.drop_zero]; obtain ⟨B, cap, gb, hv, hb1, base, ho⟩ := hF _ (List.mem_cons_self ..); subst hv; clear hF; have G1 := Gz.trans hw1; have Own1 := hh_ (zh Own.out G1); have HB := hh_ hb1; have HO := hh_ ho; clear hb1 ho; have lenO := Own.out.1; rw [yW] at lenO
      go_wp2_with (at_builtin; refine zi rfl _ _ rfl w3.heap.size _ _ _ rfl Own1.out _ [I.mk B VR cap y.w] rfl (qf Ln.out HB.out) uV_ (by have := (hg.trans G1).size; simp; omega) ?_; intro v7 w7 own7 gr7)
      have G7 : za w3 w7 := zp (hg.trans G1) gr7 Own1.out; have Own7 := hh_ own7
      have O7 : ∀ u ∈ out ++ [I.mk B VR cap y.w], jr w7 u := fun u hu => by
       rcases List.mem_append.1 hu with hu | hu
       ·exact ((Ors.out u hu).grow G1).kept Own1.out gr7
       ·simp at hu; subst hu; exact jr.kept ⟨base, by have := HO.out; rw [<- Ln.out] at this; exact this⟩ Own1.out gr7
      have OR7 := hh_ O7; clear own7 gr7 O7; go_roundw
      case rel => exact ⟨k + 1, out ++ [I.mk B VR cap y.w], by omega, by go_num, by simpa using Own7.out, by rw [Es.out, List.map_append, Map.out]; rfl, OR7.out, G7⟩
      case measure => exact wa_
     case hp' => exact ⟨PV.pers _ _, PZ.pers _ _ _, PB.pers _ _ _, trivial⟩
    ·obtain rfl : k = xs.length := by omega
     obtain ⟨B, cap, rfl, hzf, hkf⟩ := yR Own.out (fun y hy => (Ors.out y hy).vsl); have lenO := Own.out.1; rw [yW] at lenO; have hm := Map.out; rw [List.take_length] at hm
     have hx2 : ∀ y ∈ out, ∃ x ∈ xs, y.row = es.map (yd x.row) /\ y.w = x.w := fun y hy => by
      have h1 := qZ9 (f := zg) hy; rw [hm] at h1; obtain ⟨x, hx, e⟩ := List.mem_map.1 h1; exact ⟨x, hx, (Prod.mk.inj e).1.symm, (Prod.mk.inj e).2.symm⟩
     have cs := kd out B cap wr u4_ hzf (fun y hy => by obtain ⟨x, hx, e, _⟩ := hx2 y hy; rw [e]; simp; omega) (fun y hy => by
       obtain ⟨x, hx, e, _⟩ := hx2 y hy; rw [e]; intro v hv; obtain ⟨u, hu, rfl⟩ := List.mem_map.1 hv
       exact YK (Hty.out u hu) (Hfit.out x hx)) (fun y hy => by obtain ⟨x, hx, _, e⟩ := hx2 y hy; rw [e]; exact A4.out x hx)
     have eq2 : out.map zg = (xs.map zg).map (fun r => (es.map (yd r.1), r.2)) := by rw [hm]; simp [zg]
     rw [eq2, <- EQ.out] at cs; clear hzf hkf hm hx2 eq2
     go_wp2_with (go_at_call 29; ((with_reducible refine cs.mono ?_); rintro en w7 ⟨C, zs, cap2, rfl, hz3, hm3, hk3, hg3⟩; have Out := hh_ (And.intro hz3 (And.intro hm3 hk3)); clear hz3 hm3 hk3))
     refine qX_ oQ_ rfl ?_; exact ⟨C, zs, cap2, rfl, Out.out.1, Out.out.2.1, Out.out.2.2, G3.out.trans (hg.trans hg3)⟩
  ·subst h0; have d1 : (IE != 0) = true := by simpa using h1
   have eQ : Q = ([], IE) := by rw [Fin.out]; simp [h1]
   go_wp2_with (first
    | (go_at_call 19; ((with_reducible refine ct.mono ?_); rintro e w2 ⟨BT, capT, rfl, _, _, hg2⟩))
    | (go_at_call 28; ((with_reducible refine (ci _ hg2).mono ?_); rintro e w3 ⟨rfl, hg3⟩)))
   refine qX_ oQ_ rfl ?_; exact ⟨none, [], 0, by rw [eQ]; rfl, zy _ _, by rw [eQ]; rfl, zX.nil, hg2.trans hg3⟩
 ·have d0 : (TE != 0) = true := by simpa using h0
  have eQ : Q = ([], TE) := by rw [Fin.out, if_pos h0]
  go_wp2_with (go_at_call 19; ((with_reducible refine ct.mono ?_); rintro e w2 ⟨BT, capT, rfl, _, _, hg2⟩))
  refine qX_ oQ_ rfl ?_; exact ⟨none, [], 0, by rw [eQ]; rfl, zy _ _, by rw [eQ]; rfl, zX.nil, hg2⟩
def Rp (x : E) (u r : List V) : Int := if yi x r then FS u r else 0
def yU (es : List E) (r : List V) : List V := es.map (yd r)
theorem KL (es : List E) (r : List V) : yU es (zj r) = yU es r := by
 unfold yU; exact List.map_congr_left (fun e _ => XR r e)
theorem CG {cols : List Int} {es : List E} {z : List Z} (h1 : (zE cols es).2 = 0) (h2 : zO cols z = 0) : ZG (z.map (fun r => (es.map (yd r.1), r.2))) := fun y hy => by
 obtain ⟨he8, hty⟩ := xo h1; obtain ⟨r, hr, rfl⟩ := List.mem_map.1 hy; refine ⟨by simpa using he8, fun v hv => ?_⟩; obtain ⟨u, hu, rfl⟩ := List.mem_map.1 hv; exact YK (hty u hu) ((zt h2).2.2 r hr)
end Go.Proofs.YtphaeahdmfapgaaGreat
namespace Go.Proofs.YtphaeahdmfapgaaGreat
open Go.ChangeShapes Go.WideShapes Go.ChangeAt Go.RowKit Go.Calm
set_option maxRecDepth 100000
section
variable {H : Type} {enc : TypeId × Value -> H} {w : World} {base : Nat} {spare : Nat -> Bool} {held : Bool}
theorem Sg {fuel : Nat} {cs : List Value} {x : DataW H × List MemPlace} (h : DataW.trod enc Tryz.prog w base spare held fuel 25 cs = some x) :
  ∃ (A : Option Addr) (xs : List E) (cap : Nat), cs = [.slice A xs.length cap] /\ Xa w A xs /\ xs.length <= maxLen /\ xs.length <= cap := by
 obtain ⟨A, len, cap, n, D, hcs, hl, hcap, hi⟩ := qG (c := 6) Tryz.underlying25 uY_ u4_ h
 haveI : Inhabited E := ⟨.leaf⟩
 obtain ⟨xs, hxl, hx⟩ := Zn (α := E) (P := fun i x => ∃ g o, A = some ⟨g, o, none⟩ /\ zK w g (o + i * 6) x /\ EX w x) len (fun i hlt => by
  obtain ⟨g, o, ys, hA, hyl, hat, hd⟩ := hi i hlt; obtain ⟨x, hx, hv⟩ := Wg _ hd; subst hx
  exact ⟨x, g, o, hA, ⟨hat 0 _ rfl, hat 1 _ rfl, hat 2 _ rfl, hat 3 _ rfl, hat 4 _ rfl, hat 5 _ rfl⟩, hv⟩)
 exact ⟨A, xs, cap, by rw [hcs, hxl], hx, by omega, by omega⟩
end
