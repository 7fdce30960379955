/- Parts of a proof. No condition. -/
import Derived.Test.YtflggnopgnoeiaaGreatGR
set_option maxRecDepth 100000
set_option maxHeartbeats 8000000
set_option maxRecDepth 100000
set_option linter.unusedSimpArgs false
set_option linter.unusedVariables false
namespace Go
variable {p : Prop}
theorem oe_ (h : p := by rw [h1 y (by rw [List.take_succ_cons]; exact List.mem_cons_self ..)]; simp) : p := h
theorem oq_ (h : p := by rw [List.take_succ_cons]; exact List.mem_cons_of_mem _ hu) : p := h
theorem or_ (h : p := by have := Hz.out; rw [List.take_length] at this; exact this) : p := h
theorem ow_ (h : p := by rw [List.take_succ_cons]; exact List.mem_cons_self ..) : p := h
theorem oF_ (h : p := by simp [results, Tryz.results166, go_sem] <;> rfl) : p := h
theorem o0_ (h : p := by simp [results, Tryz.results21, go_sem] <;> rfl) : p := h
theorem vJ_ (h : p := by rw [h x (List.mem_cons_self ..)]; simp) : p := h
theorem wt_ (h : p := by
 exact ⟨k + 1, by omega, by go_num, by rw [yi _ Hxk.out, HTF.out]; simpa using hown', fun y hy => by
  obtain ⟨h1, e1⟩ := qQ9.1 Hxk.out; rw [List.take_succ_eq_append_getElem h1, e1] at hy; rcases List.mem_append.1 hy with hy | hy
  ·exact Hz.out y hy
  ·simp at hy; subst hy; rw [HTF.out], hg7⟩) : p := h
theorem xX_ (h : p := by
 exact ⟨0, Nat.zero_le _, rfl, World.ownsRow_nil _ _ _ _, fun x hx => by simp at hx, za.refl w⟩) : p := h
theorem ym_ (h : p := by
 obtain ⟨g, o, a, b, c⟩ := h i x hx; exact ⟨g, o, a, b.grow hg, c.grow hg⟩) : p := h
theorem yY_ (h : p := by
 intro v' w7 hown' hgrow _; have hg7 : za w w7 := za.own (G2.al _) hgrow (fun i hi => (HL2.out i hi).1); clear hgrow; go_wp2; go_roundw
 case rel => exact wt_
 case measure => exact u1_) : p := h
end Go
namespace Go.Proofs.YtflggnopgnoeiaaGreat
open Go.RowKit Go.Calm
def KU {α : Type} (f : List V -> α) : Prop := ∀ r q, zd r = zd q -> f r = f q
def yn (f : List V -> Int) : List Z -> Int
 | [] => 0
 | x :: l => x.2 * f x.1 + yn f l
theorem jI (f : List V -> Int) : ∀ a b : List Z, yn f (a ++ b) = yn f a + yn f b
 | [], b => by simp [yn]
 | x :: a, b => by simp only [List.cons_append, yn, jI f a b]; omega
theorem ZK (f : List V -> Int) (t : Int) : ∀ a : List Z, yn f (yI t a) = t * yn f a
 | [] => by simp [yI, yn]
 | x :: a => by
  have ih := ZK f t a; unfold yI at ih; simp only [yI, List.map_cons, yn, ih]; rw [Int.mul_add, Int.mul_assoc]
theorem MC (f : List V -> Int) (p : Z -> Bool) : ∀ l : List Z, yn f l = yn f (l.filter p) + yn f (l.filter (fun x => !p x))
 | [] => by simp [yn]
 | x :: l => by
  have ih := MC f p l; rw [List.filter_cons, List.filter_cons]; cases hx : p x
  ·simp [yn, ih]; omega
  ·simp [yn, ih]; omega
theorem Rt (f : List V -> Int) (hf : KU f) (r : List V) : ∀ l : List Z, yn f (l.filter (fun x => decide (zd x.1 = zd r))) = f r * zW l r
 | [] => by simp [yn, qM]
 | x :: l => by
  have ih := Rt f hf r l; rw [List.filter_cons, zq]
  by_cases hx : zd x.1 = zd r
  ·rw [if_pos uw_, if_pos hx]; simp only [yn]; rw [ih, hf _ _ hx, Int.mul_add, Int.mul_comm x.2]
  ·rw [if_neg uw_, if_neg hx, ih]; simp
theorem MF (f : List V -> Int) (hf : KU f) : ∀ (n : Nat) (l : List Z), l.length <= n -> (∀ q, zW l q = 0) -> yn f l = 0
 | 0, l, hl, _ => by rw [List.length_eq_zero_iff.1 (by omega : l.length = 0)]; rfl
 | n + 1, [], _, _ => rfl
 | n + 1, x :: l, hl, h => by
  have e := MC f (fun y => decide (zd y.1 = zd x.1)) (x :: l); rw [Rt f hf x.1, h x.1, Int.mul_zero, Int.zero_add] at e; rw [e]; refine MF f hf n _ ?_ (fun q => ?_)
  ·rw [List.filter_cons, if_neg uY_]; have := List.length_filter_le (fun y : Z => !decide (zd y.1 = zd x.1)) l; simp at hl; omega
  ·have := kp (fun r => !decide (zd r = zd x.1)) (fun r q h => by rw [h]) q (x :: l); rw [this, h q]; split <;> rfl
theorem Kp {f : List V -> Int} (hf : KU f) {a b : List Z} (h : ∀ q, zW a q = zW b q) : yn f a = yn f b := by
 have := MF f hf _ (a ++ yI (-1) b) (Nat.le_refl _) (fun q => by rw [qo, Xx, h]; omega); rw [jI, ZK] at this; omega
theorem Fi {f : List V -> Int} (hf : KU f) {s a b : List Z} {n : Int} (h : ∀ q, zW s q = zW a q + n * zW b q) : yn f s = yn f a + n * yn f b := by
 rw [<- ZK, <- jI]; exact Kp hf (fun q => by rw [h, qo, Xx])
theorem Ta (f g : List V -> Int) : ∀ l : List Z, (∀ x ∈ l, f x.1 = g x.1) -> yn f l = yn g l
 | [], _ => rfl
 | x :: l, h => by simp only [yn, h x (List.mem_cons_self ..), Ta f g l (fun y hy => h y (List.mem_cons_of_mem _ hy))]
theorem qC {l s : List Z} (hl : Xk l) (h : yy l = (s, 0)) : yA s /\ zC s = 0 /\ ∀ q, zW s q = zW l q := by
 have sp := yW l (fun x hx => (hl x hx).2); unfold yy at h; rcases XC (yE l) with ⟨e, hn, hb⟩ | ⟨e, he, hf⟩
 ·rw [e] at h; have es : yE l = s := (Prod.mk.inj h).1; have oks : Xk s := by rw [<- es]; exact Jb hl
  rw [es] at sp hn hb; exact ⟨sp.1, (SM.canon sp.1 oks hb hn).rz uX_ uX_, sp.2⟩
 ·rw [hf] at h; exact absurd (Prod.mk.inj h).2 he
def Q6 (u r : List V) : Int := if zd r = zd u then 1 else 0
theorem V6 (u : List V) : KU (Q6 u) := fun r q h => by unfold Q6; rw [h]
theorem zaC (l : List Z) (u : List V) : zW l u = yn (Q6 u) l := by
 induction l with
 | nil => rfl
 | cons x l ih =>
  rw [zq, yn, ih]; unfold Q6
  by_cases h : zd x.1 = zd u
  ·rw [if_pos h, if_pos h]; omega
  ·rw [if_neg h, if_neg h]; omega
theorem Tg (g : List V -> List V) (u : List V) : ∀ l : List Z, zW (l.map (fun r => (g r.1, r.2))) u = yn (fun r => Q6 u (g r)) l
 | [] => rfl
 | x :: l => by
  have ih := Tg g u l; rw [List.map_cons, zq, yn, ih]; unfold Q6
  by_cases h : zd (g x.1) = zd u
  ·simp [h]
  ·simp [h]
def WW (w : World) (A : Option Addr) (xs : List E) : Prop := ∀ i x, xs[i]? = some x -> ∃ g o, A = some ⟨g, o, none⟩ /\ zF w g (o + i * 6) x /\ EX w x
theorem WW.grow {w w' : World} {A : Option Addr} {xs : List E} (h : WW w A xs) (hg : za w w') : WW w' A xs := fun i x hx => ym_
def xF (cols : List Int) : List E -> List Int × Int
 | [] => ([], 0)
 | x :: l => if (zD cols x).2 ≠ 0 then ([], (zD cols x).2) else if (xF cols l).2 ≠ 0 then ([], (xF cols l).2) else ((zD cols x).1 :: (xF cols l).1, 0)
theorem kI (cols : List Int) : ∀ xs : List E, (∀ x ∈ xs, (zD cols x).2 = 0) -> xF cols xs = (xs.map (fun x => (zD cols x).1), 0)
 | [], _ => rfl
 | x :: l, h => by
  have ih := kI cols l (fun y hy => h y (List.mem_cons_of_mem _ hy)); unfold xF; rw [if_neg vJ_, ih, if_neg uY_]; rfl
theorem YA (cols : List Int) : ∀ (xs : List E) (k : Nat) (x : E), xs[k]? = some x -> (∀ y ∈ xs.take k, (zD cols y).2 = 0) -> (zD cols x).2 ≠ 0 -> xF cols xs = ([], (zD cols x).2)
 | [], k, x, h, _, _ => by simp at h
 | y :: l, 0, x, h, _, h2 => by
  simp at h; subst h; unfold xF; rw [if_pos h2]
 | y :: l, k + 1, x, h, h1, h2 => by
  have ih := YA cols l k x uI_ (fun u hu => h1 u oq_) h2; unfold xF; rw [if_neg oe_, ih, if_pos h2]
theorem QG {cols : List Int} : ∀ {xs : List E}, (xF cols xs).2 = 0 -> ∀ x ∈ xs, (zD cols x).2 = 0
 | [], _, x, hx => by simp at hx
 | y :: l, h, x, hx => by
  unfold xF at h; split at h
  ·exact wX_
  ·rename_i h1; split at h
   ·rename_i h2; exact absurd h h2
   ·rename_i h2; rcases List.mem_cons.1 hx with rfl | hx
    ·simpa using h1
    ·exact QG uE_ x hx
def zB (cols : List Int) (xs : List E) : List Int × Int := if 8 < xs.length then ([], 5) else xF cols xs
theorem ql {cols : List Int} {xs : List E} (h : (zB cols xs).2 = 0) : xs.length <= 8 /\ ∀ x ∈ xs, (zD cols x).2 = 0 := by
 unfold zB at h; split at h
 ·simp at h
 ·exact ⟨by omega, QG h⟩
theorem Y5 {w : World} {base : Nat} {v : Value} {n : Nat} {ys : List Int} (h : w.ownsRow base 3 1 v n (ys.map (Value.int .i64))) : ∃ (B : Option Addr) (cap : Nat), v = .slice B ys.length cap /\ yU w B ys /\ yf B ys.length cap := by
 have hn := h.1; obtain ⟨_, h⟩ := h; obtain rfl : n = ys.length := by simpa using hn.symm
 rcases h with ⟨rfl, h0⟩ | ⟨gb, cap, cur, rfl, hB, hgb, hle, hmx, hcs, htk⟩
 ·have : ys = [] := List.length_eq_zero_iff.1 h0; subst this; exact ⟨none, 0, rfl, fun i x hx => by simp at hx, yf.nil⟩
 ·have hb : zb w gb 3 cur := hgb; refine ⟨some ⟨gb, 0, none⟩, cap, rfl, fun i x hx => ⟨gb, 0, rfl, ?_⟩, ⟨hle, fun h => by cases h⟩⟩; have hv : (ys.map (Value.int .i64))[i]? = some (.int .i64 x) := by simp [hx]
  rw [<- htk, List.getElem?_take] at hv; split at hv
  ·rw [Nat.zero_add, hb.cell]; simpa using hv
  ·cases hv
def Ya (w : World) (B : Option Addr) : Prop := ∀ a, B = some a -> w.heap.size <= a.block
theorem x8 {w : World} {base n m s cap : Nat} {e : TypeId} {B : Option Addr} {vs : List Value} (h : w.ownsRow base e s (.slice B n cap) m vs) : ∀ a, B = some a -> base <= a.block := fun a ha => by
 subst ha; exact (h.lt a.block rfl).1
theorem jX (w : World) (A : Option Addr) : yU w A [] := fun i x hx => by simp at hx
theorem yi {α β : Type} (f : α -> β) {xs : List α} {k : Nat} {x : α} (h : xs[k]? = some x) : (xs.take (k + 1)).map f = (xs.take k).map f ++ [f x] := by
 obtain ⟨h1, e1⟩ := qQ9.1 h; rw [List.take_succ_eq_append_getElem h1, e1]; simp
theorem ZO (cols : List Int) (Ac : Option Addr) (cc : Nat) (xs : List E) (A : Option Addr) (c : Nat) (w : World) (hlen : cols.length <= 9223372036854775807) (hl : xs.length <= 9223372036854775807) (hc : yU w Ac cols) (hx : WW w A xs) :
  Calls Tryz.prog 21 #[.slice Ac cols.length cc, .slice A xs.length c] w fun en w' => ∃ (B : Option Addr) (cap : Nat), en = .returned (.tuple #[.slice B (zB cols xs).1.length cap, .int .i64 (zB cols xs).2]) /\ yU w' B (zB cols xs).1 /\ yf B (zB cols xs).1.length cap /\ Ya w B /\ za w w' := by
 have Hx := hh_ hx; have Hc := hh_ hc; have Ti := hh_ qV; clear hx hc; obtain ⟨R, hR⟩ : ∃ R, zB cols xs = R := ⟨_, rfl⟩
 rw [hR]; have HR := hh_ hR; clear hR; go_enter Tryz.func21, Tryz.ntmps21
 by_cases h8 : 8 < xs.length
 ·have d8 : decide ((8 : Int) < (xs.length : Int)) = true := decide_eq_true uX_; have e : R = ([], 5) := by rw [<- HR.out]; unfold zB; rw [if_pos h8]
  subst e; go_wp2; refine qX_ o0_ rfl ?_; exact ⟨none, 0, rfl, jX _ _, yf.nil, (fun a ha => by cases ha), za.refl _⟩
 ·have d8 : decide ((8 : Int) < (xs.length : Int)) = false := decide_eq_false uX_; have e : R = xF cols xs := by rw [<- HR.out]; unfold zB; rw [if_neg h8]
  have Re := hh_ e; clear e; go_wp2
  go_loopw [6, 16] (fun t i wr => ∃ k : Nat, k <= xs.length /\ i = .int .i64 k /\ wr.ownsRow w.heap.size 3 1 t k (((xs.take k).map (fun x => (zD cols x).1)).map (Value.int .i64)) /\ (∀ x ∈ xs.take k, (zD cols x).2 = 0) /\ za w wr) (fun _ i _ => xs.length - (intOf i).toNat)
  case atStart => exact xX_
  case round =>
   obtain ⟨k, hk, rfl, hown, hz, hg⟩ := hrel; have Own := hh_ hown; have Hz := hh_ hz; clear hown hz
   by_cases hlt : k < xs.length
   ·obtain ⟨x, hxk⟩ : ∃ x, xs[k]? = some x := ⟨_, qQ_ hlt⟩
    obtain ⟨gx, ox, rfl, hec, hex⟩ := (Hx.out.grow hg) k x hxk; obtain ⟨c0, c1, c2, c3, c4, c5⟩ := hec; obtain ⟨T, F, hTF⟩ : ∃ T F, zD cols x = (T, F) := ⟨_, _, rfl⟩
    have ct := fun W (h : za wr W) => QF cols Ac cc x W hlen (Hc.out.grow (hg.trans h)) (hex.grow h)
    rw [hTF] at ct; simp only at ct; have Hxk := hh_ hxk; have HTF := hh_ hTF; have hl2 := Own.out.lt; have HL2 := hh_ hl2; clear hxk hex hTF hl2; unfold E.val at ct; obtain ⟨ti, hti, hz0, hz1, hz2⟩ := Ti.out
    by_cases h0 : F = 0
    ·subst h0
     go_wp2_with (first
      | (go_at_call 64; ((with_reducible refine (ct _ ze).mono ?_); rintro e w2 ⟨rfl, hg2⟩; have Own2 := hh_ (zi Own.out (((za.refl wr).al _).trans hg2)); have G2 := (hg.al _).trans hg2; clear hg2))
      | (at_builtin; refine wpList_append_own _ rfl _ _ 22 rfl w.heap.size 3 ti (.int .i64 0) 1 8 Tryz.underlying22 hti hz0 hz1 hz2 rfl uW_ _ _ _ rfl (Own2.out.alloc _) ⟨w2.heap.size, 0, none⟩ 1 1 [.int .i64 T] rfl rfl ?c1 ?c2 ?c3 ?c4 ?c5 ?_))
     case c1 => exact wR_
     case c2 => exact x2_
     case c3 => exact yc_
     case c4 => omega
     case c5 => exact yz_
     ·exact yY_
    ·have d0 : (F != 0) = true := by simpa using h0
     have e : R = ([], F) := by rw [Re.out, YA cols xs k x Hxk.out Hz.out (by rw [HTF.out]; exact h0), HTF.out]
     subst e
     go_wp2_with (go_at_call 64; ((with_reducible refine (ct _ ze).mono ?_); rintro e w2 ⟨rfl, hg2⟩; have G2 := (hg.al _).trans hg2; clear hg2))
     refine qX_ o0_ rfl ?_; exact ⟨none, 0, rfl, jX _ _, yf.nil, (fun a ha => by cases ha), G2⟩
   ·obtain rfl : k = xs.length := by omega
    have own := Own.out; rw [List.take_length] at own; have e : R = (xs.map (fun x => (zD cols x).1), 0) := by rw [Re.out, kI cols xs or_]
    subst e; obtain ⟨B, cap, rfl, hi, hs⟩ := Y5 own; have Fin := hh_ (And.intro hi (And.intro hs (x8 own))); clear own hi hs; go_wp2; refine qX_ o0_ rfl ?_; exact ⟨B, cap, by simp, Fin.out.1, by simpa using Fin.out.2.1, Fin.out.2.2, hg⟩
theorem Wh (cols : List Int) (Ac : Option Addr) (cc : Nat) (xs : List E) (A : Option Addr) (c : Nat) (w : World) (hlen : cols.length <= 9223372036854775807) (hl : xs.length <= 9223372036854775807) (hc : yU w Ac cols) (hx : WW w A xs) :
  Calls Tryz.prog 21 #[.slice Ac cols.length cc, .slice A xs.length c] w fun en w' => ∃ (B : Option Addr) (cap : Nat), en = .returned (.tuple #[.slice B (zB cols xs).1.length cap, .int .i64 (zB cols xs).2]) /\ yU w' B (zB cols xs).1 /\ yf B (zB cols xs).1.length cap /\ za w w' := (ZO cols Ac cc xs A c w hlen hl hc hx).mono fun e w' ⟨B, cap, h1, h2, h3, _, h4⟩ => ⟨B, cap, h1, h2, h3, h4⟩
theorem XS (xs : List E) (A : Option Addr) (c : Nat) (row : List V) (Ar : Option Addr) (cr : Nat) (w : World) (hl : xs.length <= 1000) (hlr : row.length <= 9223372036854775807) (hx : WW w A xs) (hre : ∀ x ∈ xs, RE row.length x) (hr : ∀ v ∈ row, RV v) (hrow : xi w Ar row) :
  Calls Tryz.prog 24 #[.slice A xs.length c, .slice Ar row.length cr] w fun en w' => ∃ (B : Option Addr) (cap : Nat), en = .returned (.slice B xs.length cap) /\ w'.ownsRow w.heap.size 33 3 (.slice B xs.length cap) xs.length (zN (xs.map (yu row))) /\ za w w' := by
 have Hx := hh_ hx; have Hre := hh_ hre; have Hr := hh_ hr; have Hrow := hh_ hrow; have Ti := hh_ XH; clear hx hre hr hrow; go_enter Tryz.func24, Tryz.ntmps24; go_wp2
 go_loopw [5, 9] (fun t i wr => ∃ k : Nat, k <= xs.length /\ i = .int .i64 k /\ wr.ownsRow w.heap.size 33 3 t k (zN ((xs.take k).map (yu row))) /\ za w wr) (fun _ i _ => xs.length - (intOf i).toNat)
 case atStart => exact ys_
 case round =>
  obtain ⟨k, hk, rfl, hown, hg⟩ := hrel; have Own := hh_ hown; clear hown
  by_cases hlt : k < xs.length
  ·obtain ⟨x, hxk⟩ : ∃ x, xs[k]? = some x := ⟨_, qQ_ hlt⟩
   obtain ⟨gx, ox, rfl, hec, hex⟩ := (Hx.out.grow hg) k x hxk; have co := fun W (h : za wr W) => Ny row Ar cr hlr Hr.out x (Hre.out x (qZ_ hxk)) gx (ox + k * 6) wr W hex hec (Hrow.out.grow hg) h
   have e := yi (yu row) hxk; have E := hh_ e; obtain ⟨ti, hti, hz0, hz1, hz2⟩ := Ti.out; have hl2 := Own.out.lt; have HL2 := hh_ hl2; generalize yu row x = v9 at *; unfold V.val at co; clear hxk e hl2 hec hex
   go_wp2_with (first
    | (go_at_call 67; ((with_reducible refine (co _ ze).mono ?_); rintro e w2 ⟨rfl, hg2⟩; have Own2 := hh_ (zi Own.out hg2); have G2 := hg.trans hg2; clear hg2))
    | (at_builtin; refine wpList_append_own _ rfl _ _ 51 rfl w.heap.size 33 ti (.agg #[.int .i64 0, .int .i64 0, .string ⟨#[]⟩]) 3 32 Tryz.underlying51 hti hz0 hz1 hz2 rfl uW_ _ _ _ rfl (Own2.out.alloc _) ⟨w2.heap.size, 0, none⟩ 1 1 (zN [v9]) rfl rfl ?c1 (QS _) ?c3 ?c4 ?c5 ?_))
   case c1 => exact wZ_
   case c3 => exact yc_
   case c4 => omega
   case c5 => exact yz_
   ·exact yZ_
  ·obtain rfl : k = xs.length := by omega
   have hfin : ∃ (B : Option Addr) (cap : Nat), u5 = .slice B xs.length cap := by
    have h := Own.out; rcases h.2 with ⟨rfl, h0⟩ | ⟨gb, cap, cur, rfl, _⟩
    ·exact ⟨none, 0, by rw [h0]⟩
    ·exact ⟨_, _, rfl⟩
   obtain ⟨B, cap, rfl⟩ := hfin; have own := Own.out; rw [List.take_length] at own; have Fin := hh_ own; clear own; go_wp2; go_ret; exact ⟨B, cap, rfl, Fin.out, hg⟩
def Xc (cols : List Int) (es : List E) (z : List Z) : List Z × Int := if (zB cols es).2 ≠ 0 then ([], (zB cols es).2) else if zo cols z ≠ 0 then ([], zo cols z) else yy (z.map (fun r => (es.map (yu r.1), r.2)))
def jM (w : World) (y : I) : Prop := ∃ base, w.ownsRow base 33 3 (.slice y.A y.row.length y.cap) y.row.length (zN y.row)
theorem jM.grow {w w' : World} {y : I} (h : jM w y) (hg : za w w') : jM w' y := ⟨_, zi h.choose_spec hg⟩
theorem jM.kept {w w' : World} {y : I} {base n : Nat} {v : Value} {xs : List Value} (h : jM w y) (hown : w.ownsRow base 53 2 v n xs) (hg : w.grownBy w' v.ownBlock) : jM w' y :=
 ⟨_, World.ownsRow.kept h.choose_spec hg (xY h.choose_spec hown uW_)⟩
theorem jM.vsl {w : World} {y : I} (h : jM w y) : xi w y.A y.row := by
 obtain ⟨base, h⟩ := h; obtain ⟨B, c, e, hv⟩ := Qq h; simp at e; rw [e.1]; exact hv
def PV (n : Nat) (vs : List V) (v : Value) (W : World) : Prop := ∃ (B : Option Addr) (cap : Nat), v = .slice B n cap /\ ∃ base, W.ownsRow base 33 3 (.slice B n cap) n (zN vs)
def PZ (n : Nat) (m : Int) (vs : List V) (v : Value) (W : World) : Prop := ∃ (B : Option Addr) (cap : Nat), v = .agg #[.slice B n cap, .int .i64 m] /\ ∃ base, W.ownsRow base 33 3 (.slice B n cap) n (zN vs)
def PB (n : Nat) (m : Int) (vs : List V) (v : Value) (W : World) : Prop := ∃ (B : Option Addr) (cap g : Nat), v = .slice (some ⟨g, 0, none⟩) 1 1 /\ zb W g 53 #[.slice B n cap, .int .i64 m] /\ ∃ base, W.ownsRow base 33 3 (.slice B n cap) n (zN vs)
theorem PV.pers (n : Nat) (vs : List V) : ∀ v w w', za w w' -> PV n vs v w -> PV n vs v w' := fun v w w' hg ⟨B, cap, e, base, h⟩ => ⟨B, cap, e, base, zi h hg⟩
theorem PZ.pers (n : Nat) (m : Int) (vs : List V) : ∀ v w w', za w w' -> PZ n m vs v w -> PZ n m vs v w' := fun v w w' hg ⟨B, cap, e, base, h⟩ => ⟨B, cap, e, base, zi h hg⟩
theorem PB.pers (n : Nat) (m : Int) (vs : List V) : ∀ v w w', za w w' -> PB n m vs v w -> PB n m vs v w' := fun v w w' hg ⟨B, cap, g, e, hb, base, h⟩ => ⟨B, cap, g, e, hb.grow hg, base, zi h hg⟩
theorem GL (cols : List Int) (Ac : Option Addr) (cc : Nat) (es : List E) (Ae : Option Addr) (ce : Nat) (xs : List I) (A : Option Addr) (c : Nat) (w : World) (hlen : cols.length <= 9223372036854775807) (hle : es.length <= 9223372036854775807) (hc : yU w Ac cols) (hE : WW w Ae es) (h : In w ⟨A, xs, c⟩) :
  Calls Tryz.prog 166 #[.slice Ac cols.length cc, .slice Ae es.length ce, .slice A xs.length c] w fun en w' => yr w w' en (Xc cols es (xs.map zh)) := by
 have hza : xe w A xs := h.z; have H := hh_ h; have Hz := hh_ hza; have Hc := hh_ hc; have HX := hh_ hE; have ct := Wh cols Ac cc es Ae ce w hlen hle hc hE; have ci := fun W (hg : za w W) => jw cols Ac cc xs A c W hlen (Hc.out.grow hg) (H.out.grow hg)
 obtain ⟨TS, TE, hTE⟩ : ∃ TS TE, zB cols es = (TS, TE) := ⟨_, _, rfl⟩
 obtain ⟨IE, hIE⟩ : ∃ IE, zo cols (xs.map zh) = IE := ⟨_, rfl⟩
 rw [hTE] at ct; rw [hIE] at ci; obtain ⟨Q, hQ⟩ : ∃ Q, Xc cols es (xs.map zh) = Q := ⟨_, rfl⟩
 rw [hQ]; have fin : Q = if TE ≠ 0 then ([], TE) else if IE ≠ 0 then ([], IE) else yy ((xs.map zh).map (fun r => (es.map (yu r.1), r.2))) := by rw [<- hQ]; unfold Xc; rw [hTE, hIE]
 have Fin := hh_ fin; have HTE := hh_ hTE; have HIE := hh_ hIE; clear h hza hc hE hTE hIE hQ fin; go_enter Tryz.func166, Tryz.ntmps166
 by_cases h0 : TE = 0
 ·by_cases h1 : IE = 0
  ·subst h0 h1; have eQ : Q = yy ((xs.map zh).map (fun r => (es.map (yu r.1), r.2))) := by rw [Fin.out]; simp
   obtain ⟨_, hwz, hfit⟩ := zE HIE.out; obtain ⟨a1, a2, a3, a4⟩ := S.facts (s := ⟨A, xs, c⟩) hwz; have a1 : xs.length <= 400 := a1; have A2 := hh_ (show ∀ y ∈ xs, y.row.length <= 8 from a2); have A3 := hh_ (show ∀ y ∈ xs, ∀ v ∈ y.row, RV v from a3); have A4 := hh_ (show ∀ y ∈ xs, -1000000 <= y.w /\ y.w <= 1000000 from a4); have Hfit := hh_ (show ∀ y ∈ xs, x6 cols y.row = 0 from fun y hy => hfit (zh y) (qZ9 hy)); obtain ⟨he8, hty⟩ := ql (by rw [HTE.out] : (zB cols es).2 = 0); have Hty := hh_ hty; have EQ := hh_ eQ; clear eQ hwz hfit a2 a3 a4 hty
   go_upto_region 8 with (first
    | (go_at_call 21; ((with_reducible refine ct.mono ?_); rintro e w2 ⟨BT, capT, rfl, _, _, hg2⟩))
    | (go_at_call 23; ((with_reducible refine (ci _ hg2).mono ?_); rintro e w3 ⟨rfl, hg3⟩)))
   have G3 := hh_ (hg2.trans hg3); clear ct ci; go_wp2
   go_loopw [11, 31] (fun t i wr => ∃ (k : Nat) (out : List I), k <= xs.length /\ i = .int .i64 k /\ wr.ownsRow w3.heap.size 53 2 t k (zr out) /\ out.map zh = (xs.take k).map (fun y => (es.map (yu y.row), y.w)) /\ (∀ y ∈ out, jM wr y) /\ za w3 wr) (fun _ i _ => xs.length - (intOf i).toNat)
   case atStart => exact ⟨0, [], Nat.zero_le _, rfl, World.ownsRow_nil _ _ _ _, rfl, fun y hy => by simp at hy, za.refl _⟩
   case round =>
    obtain ⟨k, out, hk, rfl, hown, hmap, hor, hg⟩ := hrel; have Own := hh_ hown; have Map := hh_ hmap; have Ors := hh_ hor; clear hown hmap hor
    by_cases hlt : k < xs.length
    ·obtain ⟨y, hyk⟩ : ∃ y, xs[k]? = some y := ⟨_, qQ_ hlt⟩
     have hmem := qZ_ hyk; obtain ⟨gx, ox, rfl, c1, c2, hyv⟩ := (Hz.out.grow (G3.out.trans hg)) k y hyk
     have hre : ∀ x ∈ es, RE y.row.length x := fun x hx => by
      obtain ⟨T, hok⟩ := kR (Hty.out x hx); rw [((y7 cols y.row).1 (Hfit.out y hmem)).1]; exact QH x hok.ty
     have hlr : y.row.length <= 9223372036854775807 := by have := A2.out y hmem; omega
     have cv := fun W (h : za wr W) => XS es Ae ce y.row y.A y.cap W uX_ hlr (HX.out.grow (G3.out.trans (hg.trans h))) hre (A3.out y hmem) (hyv.grow h)
     have es1 := yi (fun y : I => (es.map (yu y.row), y.w)) hyk; have Es := hh_ es1; have ln : (es.map (yu y.row)).length = es.length := by simp
     have Ln := hh_ ln; generalize es.map (yu y.row) = VR at cv Es Ln; clear hyk hmem hre es1 ln hyv; go_upto_region 11 with fail
     refine zc (fun Z => zb Z wr.heap.size 53 #[.slice y.A y.row.length y.cap, .int .i64 y.w] /\ za wr Z) ⟨zb.new _ _ _, (za.refl wr).al _⟩ ?_; rintro Z ⟨Bz, Gz⟩; apply wp_region_calm 9 uQ_ uQ_
     case h' =>
      intro Q0 hQ0; simp only [List.take_succ_cons, List.take_zero]
      repeat ((first | ((first | apply calm_p rfl | apply zu rfl rfl rfl); case h1 => (intro w1 hw1 hF K hK; obtain ⟨bz, fz⟩ := (Bz.grow hw1).rules; go_simp; first | exact hK _ (za.refl _))) | apply zw rfl rfl rfl rfl); intro K hK; go_simp; apply hK; clear hK K)
      apply calm_fp (PV es.length VR) rfl
      case h1 =>
       intro w1 hw1 hF K hK; go_simp
       go_at_call 24
       refine (cv w1 (Gz.trans hw1)).mono ?_; rintro en w' ⟨B, cap, rfl, ho, hg'⟩; exact ⟨_, rfl, hK _ _ hg' ⟨B, cap, rfl, _, ho⟩⟩
      intro v39 K hK; go_simp; apply hK; clear hK K
      repeat ((first | ((first | apply calm_p rfl | apply zu rfl rfl rfl); case h1 => (intro w1 hw1 hF K hK; obtain ⟨bz, fz⟩ := (Bz.grow hw1).rules; go_simp; first | exact hK _ (za.refl _))) | apply zw rfl rfl rfl rfl); intro K hK; go_simp; apply hK; clear hK K)
      apply calm_fp (PZ es.length y.w VR) rfl
      case h1 =>
       intro w1 hw1 hF K hK; obtain ⟨B, cap, hv, h1⟩ := hF _ (List.mem_cons_self ..) ⟨_, rfl, by decide⟩; subst hv; go_simp; exact hK _ _ (za.refl _) ⟨B, cap, rfl, h1⟩
      intro v42 K hK; go_simp; apply hK; clear hK K
      repeat ((first | ((first | apply calm_p rfl | apply zu rfl rfl rfl); case h1 => (intro w1 hw1 hF K hK; obtain ⟨bz, fz⟩ := (Bz.grow hw1).rules; go_simp; first | exact hK _ (za.refl _))) | apply zw rfl rfl rfl rfl); intro K hK; go_simp; apply hK; clear hK K)
      apply calm_fp (PB es.length y.w VR) rfl
      case h1 =>
       intro w1 hw1 hF K hK; obtain ⟨B, cap, hv, h1⟩ := hF _ (List.mem_cons_self ..) ⟨_, rfl, by decide⟩; subst hv; go_simp; exact hK _ _ ((za.refl _).al _) ⟨B, cap, w1.heap.size, rfl, zb.new _ _ _, h1.choose, zi h1.choose_spec ((za.refl _).al _)⟩
      intro v43 K hK; go_simp; apply hK; clear hK K
      repeat ((first | ((first | apply calm_p rfl | apply zu rfl rfl rfl); case h1 => (intro w1 hw1 hF K hK; obtain ⟨bz, fz⟩ := (Bz.grow hw1).rules; go_simp; first | exact hK _ (za.refl _))) | apply zw rfl rfl rfl rfl); intro K hK; go_simp; apply hK; clear hK K)
      refine calm_nil ?_; intro w1 hw1 hF; apply hQ0; clear hQ0; simp only [List.drop_succ_cons, List.drop_zero]; obtain ⟨B, cap, gb, hv, hb1, base, ho⟩ := hF _ (List.mem_cons_self ..); subst hv; clear hF; have G1 := Gz.trans hw1; have Own1 := hh_ (zi Own.out G1); have HB := hh_ hb1; have HO := hh_ ho; clear hb1 ho; have lenO := Own.out.1; rw [xv] at lenO
      go_wp2_with (at_builtin; refine zj rfl _ _ rfl w3.heap.size _ _ _ rfl Own1.out _ [I.mk B VR cap y.w] rfl (jD Ln.out HB.out) uN_ (by have := (hg.trans G1).size; simp; omega) ?_; intro v7 w7 own7 gr7)
      have G7 : za w3 w7 := zy (hg.trans G1) gr7 Own1.out; have Own7 := hh_ own7
      have O7 : ∀ u ∈ out ++ [I.mk B VR cap y.w], jM w7 u := fun u hu => by
       rcases List.mem_append.1 hu with hu | hu
       ·exact ((Ors.out u hu).grow G1).kept Own1.out gr7
       ·simp at hu; subst hu; exact jM.kept ⟨base, by have := HO.out; rw [<- Ln.out] at this; exact this⟩ Own1.out gr7
      have OR7 := hh_ O7; clear own7 gr7 O7; go_roundw
      case rel => exact ⟨k + 1, out ++ [I.mk B VR cap y.w], by omega, by go_num, by simpa using Own7.out, by rw [Es.out, List.map_append, Map.out]; rfl, OR7.out, G7⟩
      case measure => exact u1_
     case hp' => exact ⟨PV.pers _ _, PZ.pers _ _ _, PB.pers _ _ _, trivial⟩
    ·obtain rfl : k = xs.length := by omega
     obtain ⟨B, cap, rfl, hzf, hkf⟩ := yQ Own.out (fun y hy => (Ors.out y hy).vsl); have lenO := Own.out.1; rw [xv] at lenO; have hm := Map.out; rw [List.take_length] at hm
     have hx2 : ∀ y ∈ out, ∃ x ∈ xs, y.row = es.map (yu x.row) /\ y.w = x.w := fun y hy => by
      have h1 := qZ9 (f := zh) hy; rw [hm] at h1; obtain ⟨x, hx, e⟩ := List.mem_map.1 h1; exact ⟨x, hx, (Prod.mk.inj e).1.symm, (Prod.mk.inj e).2.symm⟩
     have cs := kW out B cap wr uX_ hzf (fun y hy => by obtain ⟨x, hx, e, _⟩ := hx2 y hy; rw [e]; simp; omega) (fun y hy => by
       obtain ⟨x, hx, e, _⟩ := hx2 y hy; rw [e]; intro v hv; obtain ⟨u, hu, rfl⟩ := List.mem_map.1 hv
       exact JF (Hty.out u hu) (Hfit.out x hx)) (fun y hy => by obtain ⟨x, hx, _, e⟩ := hx2 y hy; rw [e]; exact A4.out x hx)
     have eq2 : out.map zh = (xs.map zh).map (fun r => (es.map (yu r.1), r.2)) := by rw [hm]; simp [zh]
     rw [eq2, <- EQ.out] at cs; clear hzf hkf hm hx2 eq2
     go_wp2_with (go_at_call 29; ((with_reducible refine cs.mono ?_); rintro en w7 ⟨C, zs, cap2, rfl, hz3, hm3, hk3, hg3⟩; have Out := hh_ (And.intro hz3 (And.intro hm3 hk3)); clear hz3 hm3 hk3))
     refine qX_ oF_ rfl ?_; exact ⟨C, zs, cap2, rfl, Out.out.1, Out.out.2.1, Out.out.2.2, G3.out.trans (hg.trans hg3)⟩
  ·subst h0; have d1 : (IE != 0) = true := by simpa using h1
   have eQ : Q = ([], IE) := by rw [Fin.out]; simp [h1]
   go_wp2_with (first
    | (go_at_call 21; ((with_reducible refine ct.mono ?_); rintro e w2 ⟨BT, capT, rfl, _, _, hg2⟩))
    | (go_at_call 23; ((with_reducible refine (ci _ hg2).mono ?_); rintro e w3 ⟨rfl, hg3⟩)))
   refine qX_ oF_ rfl ?_; exact ⟨none, [], 0, by rw [eQ]; rfl, zX _ _, by rw [eQ]; rfl, yf.nil, hg2.trans hg3⟩
 ·have d0 : (TE != 0) = true := by simpa using h0
  have eQ : Q = ([], TE) := by rw [Fin.out, if_pos h0]
  go_wp2_with (go_at_call 21; ((with_reducible refine ct.mono ?_); rintro e w2 ⟨BT, capT, rfl, _, _, hg2⟩))
  refine qX_ oF_ rfl ?_; exact ⟨none, [], 0, by rw [eQ]; rfl, zX _ _, by rw [eQ]; rfl, yf.nil, hg2⟩
def jR (x : E) (u r : List V) : Int := if yD x r then Q6 u r else 0
theorem Zx (x : E) (u : List V) : KU (jR x u) := fun r q h => by unfold jR; rw [XG x h, V6 u r q h]
def yJ (es : List E) (r : List V) : List V := es.map (yu r)
theorem MQ (es : List E) (r : List V) : yJ es (zd r) = yJ es r := by
 unfold yJ; exact List.map_congr_left (fun e _ => Yn r e)
theorem Tf (es : List E) {r q : List V} (h : zd r = zd q) : yJ es r = yJ es q := by rw [<- MQ es r, h, MQ]
def Vn (es : List E) (u r : List V) : Int := Q6 u (yJ es r)
theorem Mg (es : List E) (u : List V) : KU (Vn es u) := fun r q h => by unfold Vn; rw [Tf es h]
theorem YZ {cols : List Int} {es : List E} {z : List Z} (h1 : (zB cols es).2 = 0) (h2 : zo cols z = 0) : Xk (z.map (fun r => (es.map (yu r.1), r.2))) := fun y hy => by
 obtain ⟨he8, hty⟩ := ql h1; obtain ⟨r, hr, rfl⟩ := List.mem_map.1 hy; refine ⟨by simpa using he8, fun v hv => ?_⟩; obtain ⟨u, hu, rfl⟩ := List.mem_map.1 hv; exact JF (hty u hu) ((zE h2).2.2 r hr)
theorem TO {cols : List Int} {es : List E} {z a : List Z} (h : Xc cols es z = (a, 0)) : yA a /\ zC a = 0 /\ ∀ u, zW a u = yn (Vn es u) z := by
 unfold Xc at h; split at h
 ·exact u8_
 ·rename_i h1; split at h
  ·exact wg_
  ·rename_i h2; obtain ⟨c, w, e⟩ := qC (YZ uB_ uE_) h; exact ⟨c, w, fun u => by rw [e]; exact Tg (yJ es) u z⟩
end Go.Proofs.YtflggnopgnoeiaaGreat
namespace Go.Proofs.YtflggnopgnoeiaaGreat
open Go.ChangeShapes Go.WideShapes Go.ChangeAt Go.RowKit Go.Calm
set_option maxRecDepth 100000
section
variable {H : Type} {enc : TypeId × Value -> H} {w : World} {base : Nat} {spare : Nat -> Bool} {held : Bool}
theorem UX {fuel : Nat} {cs : List Value} {x : DataW H × List MemPlace} (h : DataW.trod enc Tryz.prog w base spare held fuel 23 cs = some x) :
  ∃ (A : Option Addr) (xs : List E) (cap : Nat), cs = [.slice A xs.length cap] /\ WW w A xs /\ xs.length <= maxLen /\ xs.length <= cap := by
 obtain ⟨A, len, cap, n, D, hcs, hl, hcap, hi⟩ := qX (c := 6) Tryz.underlying23 uQ_ uX_ h
 haveI : Inhabited E := ⟨.leaf⟩
 obtain ⟨xs, hxl, hx⟩ := Qm (α := E) (P := fun i x => ∃ g o, A = some ⟨g, o, none⟩ /\ zF w g (o + i * 6) x /\ EX w x) len (fun i hlt => by
  obtain ⟨g, o, ys, hA, hyl, hat, hd⟩ := hi i hlt; obtain ⟨x, hx, hv⟩ := JB _ hd; subst hx
  exact ⟨x, g, o, hA, ⟨hat 0 _ rfl, hat 1 _ rfl, hat 2 _ rfl, hat 3 _ rfl, hat 4 _ rfl, hat 5 _ rfl⟩, hv⟩)
 exact ⟨A, xs, cap, by rw [hcs, hxl], hx, by omega, by omega⟩
end
