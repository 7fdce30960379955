/-
 Joined texts of this claim: Lin, Op4, Op5, Op6, ReadE. What each proves its own head says; no condition beside those that each theorem names.
-/
import Derived.Test.YtcaedcpjdmlilaaGreatGR
import Derived.Test.YtcaedcpjdmlilaaGreatGH
import Derived.Test.YtcaedcpjdmlilaaGreatGD
set_option maxRecDepth 100000
set_option maxHeartbeats 8000000
namespace Go.Proofs.YtcaedcpjdmlilaaGreat
open Go.RowKit Go.Calm
set_option linter.unusedSimpArgs false
set_option linter.unusedVariables false
def Nx {α : Type} (f : List V -> α) : Prop := ∀ r q, zd r = zd q -> f r = f q
def yR (f : List V -> Int) : List Z -> Int
 | [] => 0
 | x :: l => x.2 * f x.1 + yR f l
theorem WI (f : List V -> Int) : ∀ a b : List Z, yR f (a ++ b) = yR f a + yR f b
 | [], b => by simp [yR]
 | x :: a, b => by simp only [List.cons_append, yR, WI f a b]; omega
theorem Kn (f : List V -> Int) (t : Int) : ∀ a : List Z, yR f (xl t a) = t * yR f a
 | [] => by simp [xl, yR]
 | x :: a => by
  have ih := Kn f t a; unfold xl at ih; simp only [xl, List.map_cons, yR, ih]; rw [Int.mul_add, Int.mul_assoc]
theorem Ma (f : List V -> Int) (p : Z -> Bool) : ∀ l : List Z, yR f l = yR f (l.filter p) + yR f (l.filter (fun x => !p x))
 | [] => by simp [yR]
 | x :: l => by
  have ih := Ma f p l; rw [List.filter_cons, List.filter_cons]; cases hx : p x
  ·simp [yR, ih]; omega
  ·simp [yR, ih]; omega
theorem P8 (f : List V -> Int) (hf : Nx f) (r : List V) : ∀ l : List Z, yR f (l.filter (fun x => decide (zd x.1 = zd r))) = f r * yi l r
 | [] => by simp [yR, qR]
 | x :: l => by
  have ih := P8 f hf r l; rw [List.filter_cons, zm]
  by_cases hx : zd x.1 = zd r
  ·rw [if_pos (by simpa using hx), if_pos hx]; simp only [yR]; rw [ih, hf _ _ hx, Int.mul_add, Int.mul_comm x.2]
  ·rw [if_neg (by simpa using hx), if_neg hx, ih]; simp
theorem Mb (f : List V -> Int) (hf : Nx f) : ∀ (n : Nat) (l : List Z), l.length <= n -> (∀ q, yi l q = 0) -> yR f l = 0
 | 0, l, hl, _ => by rw [List.length_eq_zero_iff.1 (by omega : l.length = 0)]; rfl
 | n + 1, [], _, _ => rfl
 | n + 1, x :: l, hl, h => by
  have e := Ma f (fun y => decide (zd y.1 = zd x.1)) (x :: l); rw [P8 f hf x.1, h x.1, Int.mul_zero, Int.zero_add] at e; rw [e]; refine Mb f hf n _ ?_ (fun q => ?_)
  ·rw [List.filter_cons, if_neg (by simp)]; have := List.length_filter_le (fun y : Z => !decide (zd y.1 = zd x.1)) l; simp at hl; omega
  ·have := Y5 (fun r => !decide (zd r = zd x.1)) (fun r q h => by rw [h]) q (x :: l); rw [this, h q]; split <;> rfl
theorem Km {f : List V -> Int} (hf : Nx f) {a b : List Z} (h : ∀ q, yi a q = yi b q) : yR f a = yR f b := by
 have := Mb f hf _ (a ++ xl (-1) b) (Nat.le_refl _) (fun q => by rw [jc, QS, h]; omega); rw [WI, Kn] at this; omega
theorem SQ (f g : List V -> Int) : ∀ l : List Z, (∀ x ∈ l, f x.1 = g x.1) -> yR f l = yR g l
 | [], _ => rfl
 | x :: l, h => by simp only [yR, h x (List.mem_cons_self ..), SQ f g l (fun y hy => h y (List.mem_cons_of_mem _ hy))]
theorem kG {l s : List Z} (hl : QC l) (h : yN l = (s, 0)) : yp s /\ zu s = 0 /\ ∀ q, yi s q = yi l q := by
 have sp := qZ l (fun x hx => (hl x hx).2); unfold yN at h; rcases Xr (xJ l) with ⟨e, hn, hb⟩ | ⟨e, he, hf⟩
 ·rw [e] at h; have es : xJ l = s := (Prod.mk.inj h).1; have oks : QC s := by rw [<- es]; exact Jc hl
  rw [es] at sp hn hb; exact ⟨sp.1, (SM.canon sp.1 oks hb hn).rz (by omega) (by omega), sp.2⟩
 ·rw [hf] at h; exact absurd (Prod.mk.inj h).2 he
def Wb (u r : List V) : Int := if zd r = zd u then 1 else 0
theorem Vm (u : List V) : Nx (Wb u) := fun r q h => by unfold Wb; rw [h]
theorem GO (l : List Z) (u : List V) : yi l u = yR (Wb u) l := by
 induction l with
 | nil => rfl
 | cons x l ih =>
  rw [zm, yR, ih]; unfold Wb
  by_cases h : zd x.1 = zd u
  ·rw [if_pos h, if_pos h]; omega
  ·rw [if_neg h, if_neg h]; omega
theorem Ec (g : List V -> List V) (u : List V) : ∀ l : List Z, yi (l.map (fun r => (g r.1, r.2))) u = yR (fun r => Wb u (g r)) l
 | [] => rfl
 | x :: l => by
  have ih := Ec g u l; rw [List.map_cons, zm, yR, ih]; unfold Wb
  by_cases h : zd (g x.1) = zd u
  ·simp [h]
  ·simp [h]
def KG (w : World) (A : Option Addr) (xs : List E) : Prop := ∀ i x, xs[i]? = some x -> ∃ g o, A = some ⟨g, o, none⟩ /\ zv w g (o + i * 6) x /\ EX w x
theorem KG.grow {w w' : World} {A : Option Addr} {xs : List E} (h : KG w A xs) (hg : za w w') : KG w' A xs := fun i x hx => by
 obtain ⟨g, o, a, b, c⟩ := h i x hx; exact ⟨g, o, a, b.grow hg, c.grow hg⟩
def yW (cols : List Int) : List E -> List Int × Int
 | [] => ([], 0)
 | x :: l => if (zr cols x).2 ≠ 0 then ([], (zr cols x).2) else if (yW cols l).2 ≠ 0 then ([], (yW cols l).2) else ((zr cols x).1 :: (yW cols l).1, 0)
theorem XF (cols : List Int) : ∀ xs : List E, (∀ x ∈ xs, (zr cols x).2 = 0) -> yW cols xs = (xs.map (fun x => (zr cols x).1), 0)
 | [], _ => rfl
 | x :: l, h => by
  have ih := XF cols l (fun y hy => h y (List.mem_cons_of_mem _ hy)); unfold yW; rw [if_neg (by rw [h x (List.mem_cons_self ..)]; simp), ih, if_neg (by simp)]; rfl
theorem WL (cols : List Int) : ∀ (xs : List E) (k : Nat) (x : E), xs[k]? = some x -> (∀ y ∈ xs.take k, (zr cols y).2 = 0) -> (zr cols x).2 ≠ 0 -> yW cols xs = ([], (zr cols x).2)
 | [], k, x, h, _, _ => by simp at h
 | y :: l, 0, x, h, _, h2 => by
  simp at h; subst h; unfold yW; rw [if_pos h2]
 | y :: l, k + 1, x, h, h1, h2 => by
  have ih := WL cols l k x (by simpa using h) (fun u hu => h1 u (by rw [List.take_succ_cons]; exact List.mem_cons_of_mem _ hu)) h2; unfold yW; rw [if_neg (by rw [h1 y (by rw [List.take_succ_cons]; exact List.mem_cons_self ..)]; simp), ih, if_pos h2]
theorem QN {cols : List Int} : ∀ {xs : List E}, (yW cols xs).2 = 0 -> ∀ x ∈ xs, (zr cols x).2 = 0
 | [], _, x, hx => by simp at hx
 | y :: l, h, x, hx => by
  unfold yW at h; split at h
  ·rename_i h1; exact absurd h h1
  ·rename_i h1; split at h
   ·rename_i h2; exact absurd h h2
   ·rename_i h2; rcases List.mem_cons.1 hx with rfl | hx
    ·simpa using h1
    ·exact QN (by simpa using h2) x hx
def zy (cols : List Int) (xs : List E) : List Int × Int := if 8 < xs.length then ([], 5) else yW cols xs
theorem xm {cols : List Int} {xs : List E} (h : (zy cols xs).2 = 0) : xs.length <= 8 /\ ∀ x ∈ xs, (zr cols x).2 = 0 := by
 unfold zy at h; split at h
 ·simp at h
 ·exact ⟨by omega, QN h⟩
theorem Jd {w : World} {base : Nat} {v : Value} {n : Nat} {ys : List Int} (h : w.ownsRow base 3 1 v n (ys.map (Value.int .i64))) : ∃ (B : Option Addr) (cap : Nat), v = .slice B ys.length cap /\ xe w B ys /\ yw B ys.length cap := by
 have hn := h.1; obtain ⟨_, h⟩ := h; obtain rfl : n = ys.length := by simpa using hn.symm
 rcases h with ⟨rfl, h0⟩ | ⟨gb, cap, cur, rfl, hB, hgb, hle, hmx, hcs, htk⟩
 ·have : ys = [] := List.length_eq_zero_iff.1 h0; subst this; exact ⟨none, 0, rfl, fun i x hx => by simp at hx, yw.nil⟩
 ·have hb : zb w gb 3 cur := hgb; refine ⟨some ⟨gb, 0, none⟩, cap, rfl, fun i x hx => ⟨gb, 0, rfl, ?_⟩, ⟨hle, fun h => by cases h⟩⟩; have hv : (ys.map (Value.int .i64))[i]? = some (.int .i64 x) := by simp [hx]
  rw [<- htk, List.getElem?_take] at hv; split at hv
  ·rw [Nat.zero_add, hb.cell]; simpa using hv
  ·cases hv
def Zj (w : World) (B : Option Addr) : Prop := ∀ a, B = some a -> w.heap.size <= a.block
theorem jI {w : World} {base n m s cap : Nat} {e : TypeId} {B : Option Addr} {vs : List Value} (h : w.ownsRow base e s (.slice B n cap) m vs) : ∀ a, B = some a -> base <= a.block := fun a ha => by
 subst ha; exact (h.lt a.block rfl).1
theorem Ql (w : World) (A : Option Addr) : xe w A [] := fun i x hx => by simp at hx
theorem yH {α β : Type} (f : α -> β) {xs : List α} {k : Nat} {x : α} (h : xs[k]? = some x) : (xs.take (k + 1)).map f = (xs.take k).map f ++ [f x] := by
 obtain ⟨h1, e1⟩ := List.getElem?_eq_some_iff.1 h; rw [List.take_succ_eq_append_getElem h1, e1]; simp
theorem ZN (cols : List Int) (Ac : Option Addr) (cc : Nat) (xs : List E) (A : Option Addr) (c : Nat) (w : World) (hlen : cols.length <= 9223372036854775807) (hl : xs.length <= 9223372036854775807) (hc : xe w Ac cols) (hx : KG w A xs) :
  Calls Tryz.prog 67 #[.slice Ac cols.length cc, .slice A xs.length c] w fun en w' => ∃ (B : Option Addr) (cap : Nat), en = .returned (.tuple #[.slice B (zy cols xs).1.length cap, .int .i64 (zy cols xs).2]) /\ xe w' B (zy cols xs).1 /\ yw B (zy cols xs).1.length cap /\ Zj w B /\ za w w' := by
 have Hx := Lib.hid hx; have Hc := Lib.hid hc; have Ti := Lib.hid jO; clear hx hc; obtain ⟨R, hR⟩ : ∃ R, zy cols xs = R := ⟨_, rfl⟩
 rw [hR]; have HR := Lib.hid hR; clear hR; go_enter Tryz.func67, Tryz.ntmps67
 by_cases h8 : 8 < xs.length
 ·have d8 : decide ((8 : Int) < (xs.length : Int)) = true := decide_eq_true (by omega); have e : R = ([], 5) := by rw [<- HR.out]; unfold zy; rw [if_pos h8]
  subst e; go_wp2; refine bodyPost_ret (by simp [results, Tryz.results67, go_sem] <;> rfl) rfl ?_; exact ⟨none, 0, rfl, Ql _ _, yw.nil, (fun a ha => by cases ha), za.refl _⟩
 ·have d8 : decide ((8 : Int) < (xs.length : Int)) = false := decide_eq_false (by omega); have e : R = yW cols xs := by rw [<- HR.out]; unfold zy; rw [if_neg h8]
  have Re := Lib.hid e; clear e; go_wp2
  go_loopw [6, 16] (fun t i wr => ∃ k : Nat, k <= xs.length /\ i = .int .i64 k /\ wr.ownsRow w.heap.size 3 1 t k (((xs.take k).map (fun x => (zr cols x).1)).map (Value.int .i64)) /\ (∀ x ∈ xs.take k, (zr cols x).2 = 0) /\ za w wr) (fun _ i _ => xs.length - (intOf i).toNat)
  case atStart => exact ⟨0, Nat.zero_le _, rfl, World.ownsRow_nil _ _ _ _, fun x hx => by simp at hx, za.refl w⟩
  case round =>
   obtain ⟨k, hk, rfl, hown, hz, hg⟩ := hrel; have Own := Lib.hid hown; have Hz := Lib.hid hz; clear hown hz
   by_cases hlt : k < xs.length
   ·obtain ⟨x, hxk⟩ : ∃ x, xs[k]? = some x := ⟨_, List.getElem?_eq_getElem hlt⟩
    obtain ⟨gx, ox, rfl, hec, hex⟩ := (Hx.out.grow hg) k x hxk; obtain ⟨c0, c1, c2, c3, c4, c5⟩ := hec; obtain ⟨T, F, hTF⟩ : ∃ T F, zr cols x = (T, F) := ⟨_, _, rfl⟩
    have ct := fun W (h : za wr W) => Yt cols Ac cc x W hlen (Hc.out.grow (hg.trans h)) (hex.grow h)
    rw [hTF] at ct; simp only at ct; have Hxk := Lib.hid hxk; have HTF := Lib.hid hTF; have hl2 := Own.out.lt; have HL2 := Lib.hid hl2; clear hxk hex hTF hl2; unfold E.val at ct; obtain ⟨ti, hti, hz0, hz1, hz2⟩ := Ti.out
    by_cases h0 : F = 0
    ·subst h0
     go_wp2_with (first
      | (go_at_call 103; ((with_reducible refine (ct _ (by with_reducible repeat (first | exact za.refl _ | assumption | refine za.set ?_ (by simp <;> omega) _ | refine za.al ?_ _ | refine za.drew ?_ | refine za.drewN ?_ _ | refine za.trans ?_ (by assumption)))).mono ?_); rintro e w2 ⟨rfl, hg2⟩; have Own2 := Lib.hid (zl Own.out (((za.refl wr).al _).trans hg2)); have G2 := (hg.al _).trans hg2; clear hg2))
      | (at_builtin; refine wpList_append_own _ rfl _ _ 33 rfl w.heap.size 3 ti (.int .i64 0) 1 8 Tryz.underlying33 hti hz0 hz1 hz2 rfl (by decide) _ _ _ rfl (Own2.out.alloc _) ⟨w2.heap.size, 0, none⟩ 1 1 [.int .i64 T] rfl rfl ?c1 ?c2 ?c3 ?c4 ?c5 ?_))
     case c1 =>
      intro j u hj
      match j, hj with
      | 0, hj => simp at hj; subst hj; simp [Addr.add]
     case c2 => intro u hu; simp at hu; subst hu; rfl
     case c3 => unfold maxLen; omega
     case c4 => omega
     case c5 => have := G2.size; simp; omega
     ·intro v' w7 hown' hgrow _; have hg7 : za w w7 := za.own (G2.al _) hgrow (fun i hi => (HL2.out i hi).1); clear hgrow; go_wp2; go_roundw
      case rel => exact ⟨k + 1, by omega, by go_num, by rw [yH _ Hxk.out, HTF.out]; simpa using hown', fun y hy => by
       obtain ⟨h1, e1⟩ := List.getElem?_eq_some_iff.1 Hxk.out; rw [List.take_succ_eq_append_getElem h1, e1] at hy; rcases List.mem_append.1 hy with hy | hy
       ·exact Hz.out y hy
       ·simp at hy; subst hy; rw [HTF.out], hg7⟩
      case measure => simp [intOf]; omega
    ·have d0 : (F != 0) = true := by simpa using h0
     have e : R = ([], F) := by rw [Re.out, WL cols xs k x Hxk.out Hz.out (by rw [HTF.out]; exact h0), HTF.out]
     subst e
     go_wp2_with (go_at_call 103; ((with_reducible refine (ct _ (by with_reducible repeat (first | exact za.refl _ | assumption | refine za.set ?_ (by simp <;> omega) _ | refine za.al ?_ _ | refine za.drew ?_ | refine za.drewN ?_ _ | refine za.trans ?_ (by assumption)))).mono ?_); rintro e w2 ⟨rfl, hg2⟩; have G2 := (hg.al _).trans hg2; clear hg2))
     refine bodyPost_ret (by simp [results, Tryz.results67, go_sem] <;> rfl) rfl ?_; exact ⟨none, 0, rfl, Ql _ _, yw.nil, (fun a ha => by cases ha), G2⟩
   ·obtain rfl : k = xs.length := by omega
    have own := Own.out; rw [List.take_length] at own; have e : R = (xs.map (fun x => (zr cols x).1), 0) := by rw [Re.out, XF cols xs (by have := Hz.out; rw [List.take_length] at this; exact this)]
    subst e; obtain ⟨B, cap, rfl, hi, hs⟩ := Jd own; have Fin := Lib.hid (And.intro hi (And.intro hs (jI own))); clear own hi hs; go_wp2; refine bodyPost_ret (by simp [results, Tryz.results67, go_sem] <;> rfl) rfl ?_; exact ⟨B, cap, by simp, Fin.out.1, by simpa using Fin.out.2.1, Fin.out.2.2, hg⟩
theorem Wl (cols : List Int) (Ac : Option Addr) (cc : Nat) (xs : List E) (A : Option Addr) (c : Nat) (w : World) (hlen : cols.length <= 9223372036854775807) (hl : xs.length <= 9223372036854775807) (hc : xe w Ac cols) (hx : KG w A xs) :
  Calls Tryz.prog 67 #[.slice Ac cols.length cc, .slice A xs.length c] w fun en w' => ∃ (B : Option Addr) (cap : Nat), en = .returned (.tuple #[.slice B (zy cols xs).1.length cap, .int .i64 (zy cols xs).2]) /\ xe w' B (zy cols xs).1 /\ yw B (zy cols xs).1.length cap /\ za w w' := (ZN cols Ac cc xs A c w hlen hl hc hx).mono fun e w' ⟨B, cap, h1, h2, h3, _, h4⟩ => ⟨B, cap, h1, h2, h3, h4⟩
theorem XG (xs : List E) (A : Option Addr) (c : Nat) (row : List V) (Ar : Option Addr) (cr : Nat) (w : World) (hl : xs.length <= 1000) (hlr : row.length <= 9223372036854775807) (hx : KG w A xs) (hre : ∀ x ∈ xs, RE row.length x) (hr : ∀ v ∈ row, RV v) (hrow : xp w Ar row) :
  Calls Tryz.prog 148 #[.slice A xs.length c, .slice Ar row.length cr] w fun en w' => ∃ (B : Option Addr) (cap : Nat), en = .returned (.slice B xs.length cap) /\ w'.ownsRow w.heap.size 24 3 (.slice B xs.length cap) xs.length (zH (xs.map (yt row))) /\ za w w' := by
 have Hx := Lib.hid hx; have Hre := Lib.hid hre; have Hr := Lib.hid hr; have Hrow := Lib.hid hrow; have Ti := Lib.hid ZD; clear hx hre hr hrow; go_enter Tryz.func148, Tryz.ntmps148; go_wp2
 go_loopw [5, 9] (fun t i wr => ∃ k : Nat, k <= xs.length /\ i = .int .i64 k /\ wr.ownsRow w.heap.size 24 3 t k (zH ((xs.take k).map (yt row))) /\ za w wr) (fun _ i _ => xs.length - (intOf i).toNat)
 case atStart => exact ⟨0, Nat.zero_le _, rfl, World.ownsRow_nil _ _ _ _, za.refl w⟩
 case round =>
  obtain ⟨k, hk, rfl, hown, hg⟩ := hrel; have Own := Lib.hid hown; clear hown
  by_cases hlt : k < xs.length
  ·obtain ⟨x, hxk⟩ : ∃ x, xs[k]? = some x := ⟨_, List.getElem?_eq_getElem hlt⟩
   obtain ⟨gx, ox, rfl, hec, hex⟩ := (Hx.out.grow hg) k x hxk; have co := fun W (h : za wr W) => MT row Ar cr hlr Hr.out x (Hre.out x (List.mem_of_getElem? hxk)) gx (ox + k * 6) wr W hex hec (Hrow.out.grow hg) h
   have e := yH (yt row) hxk; have E := Lib.hid e; obtain ⟨ti, hti, hz0, hz1, hz2⟩ := Ti.out; have hl2 := Own.out.lt; have HL2 := Lib.hid hl2; generalize yt row x = v9 at *; unfold V.val at co; clear hxk e hl2 hec hex
   go_wp2_with (first
    | (go_at_call 147; ((with_reducible refine (co _ (by with_reducible repeat (first | exact za.refl _ | assumption | refine za.set ?_ (by simp <;> omega) _ | refine za.al ?_ _ | refine za.drew ?_ | refine za.drewN ?_ _ | refine za.trans ?_ (by assumption)))).mono ?_); rintro e w2 ⟨rfl, hg2⟩; have Own2 := Lib.hid (zl Own.out hg2); have G2 := hg.trans hg2; clear hg2))
    | (at_builtin; refine wpList_append_own _ rfl _ _ 60 rfl w.heap.size 24 ti (.agg #[.int .i64 0, .int .i64 0, .string ⟨#[]⟩]) 3 32 Tryz.underlying60 hti hz0 hz1 hz2 rfl (by decide) _ _ _ rfl (Own2.out.alloc _) ⟨w2.heap.size, 0, none⟩ 1 1 (zH [v9]) rfl rfl ?c1 (Lw _) ?c3 ?c4 ?c5 ?_))
   case c1 =>
    intro j u hj
    match j, hj with
    | 0, hj => simp [zH] at hj; subst hj; simp [Addr.add]
    | 1, hj => simp [zH] at hj; subst hj; simp [Addr.add]
    | 2, hj => simp [zH] at hj; subst hj; simp [Addr.add]
   case c3 => unfold maxLen; omega
   case c4 => omega
   case c5 => have := G2.size; simp; omega
   ·intro v' w7 hown' hgrow _; have hg7 : za w w7 := za.own (G2.al _) hgrow (fun i hi => (HL2.out i hi).1); clear hgrow; go_wp2; go_roundw
    case rel => exact ⟨k + 1, by omega, by go_num, by rw [E.out, Qg]; simpa using hown', hg7⟩
    case measure => simp [intOf]; omega
  ·obtain rfl : k = xs.length := by omega
   have hfin : ∃ (B : Option Addr) (cap : Nat), u5 = .slice B xs.length cap := by
    have h := Own.out; rcases h.2 with ⟨rfl, h0⟩ | ⟨gb, cap, cur, rfl, _⟩
    ·exact ⟨none, 0, by rw [h0]⟩
    ·exact ⟨_, _, rfl⟩
   obtain ⟨B, cap, rfl⟩ := hfin; have own := Own.out; rw [List.take_length] at own; have Fin := Lib.hid own; clear own; go_wp2; go_ret; exact ⟨B, cap, rfl, Fin.out, hg⟩
def ZF (cols : List Int) (es : List E) (z : List Z) : List Z × Int := if (zy cols es).2 ≠ 0 then ([], (zy cols es).2) else if zF cols z ≠ 0 then ([], zF cols z) else yN (z.map (fun r => (es.map (yt r.1), r.2)))
def jx (w : World) (y : I) : Prop := ∃ base, w.ownsRow base 24 3 (.slice y.A y.row.length y.cap) y.row.length (zH y.row)
theorem jx.grow {w w' : World} {y : I} (h : jx w y) (hg : za w w') : jx w' y := ⟨_, zl h.choose_spec hg⟩
theorem jx.kept {w w' : World} {y : I} {base n : Nat} {v : Value} {xs : List Value} (h : jx w y) (hown : w.ownsRow base 62 2 v n xs) (hg : w.grownBy w' v.ownBlock) : jx w' y :=
 ⟨_, World.ownsRow.kept h.choose_spec hg (Vf h.choose_spec hown (by decide))⟩
theorem jx.vsl {w : World} {y : I} (h : jx w y) : xp w y.A y.row := by
 obtain ⟨base, h⟩ := h; obtain ⟨B, c, e, hv⟩ := MZ h; simp at e; rw [e.1]; exact hv
def PV (n : Nat) (vs : List V) (v : Value) (W : World) : Prop := ∃ (B : Option Addr) (cap : Nat), v = .slice B n cap /\ ∃ base, W.ownsRow base 24 3 (.slice B n cap) n (zH vs)
def PZ (n : Nat) (m : Int) (vs : List V) (v : Value) (W : World) : Prop := ∃ (B : Option Addr) (cap : Nat), v = .agg #[.slice B n cap, .int .i64 m] /\ ∃ base, W.ownsRow base 24 3 (.slice B n cap) n (zH vs)
def PB (n : Nat) (m : Int) (vs : List V) (v : Value) (W : World) : Prop := ∃ (B : Option Addr) (cap g : Nat), v = .slice (some ⟨g, 0, none⟩) 1 1 /\ zb W g 62 #[.slice B n cap, .int .i64 m] /\ ∃ base, W.ownsRow base 24 3 (.slice B n cap) n (zH vs)
theorem PV.pers (n : Nat) (vs : List V) : ∀ v w w', za w w' -> PV n vs v w -> PV n vs v w' := fun v w w' hg ⟨B, cap, e, base, h⟩ => ⟨B, cap, e, base, zl h hg⟩
theorem PZ.pers (n : Nat) (m : Int) (vs : List V) : ∀ v w w', za w w' -> PZ n m vs v w -> PZ n m vs v w' := fun v w w' hg ⟨B, cap, e, base, h⟩ => ⟨B, cap, e, base, zl h hg⟩
theorem PB.pers (n : Nat) (m : Int) (vs : List V) : ∀ v w w', za w w' -> PB n m vs v w -> PB n m vs v w' := fun v w w' hg ⟨B, cap, g, e, hb, base, h⟩ => ⟨B, cap, g, e, hb.grow hg, base, zl h hg⟩
theorem Fn (cols : List Int) (Ac : Option Addr) (cc : Nat) (es : List E) (Ae : Option Addr) (ce : Nat) (xs : List I) (A : Option Addr) (c : Nat) (w : World) (hlen : cols.length <= 9223372036854775807) (hle : es.length <= 9223372036854775807) (hc : xe w Ac cols) (hE : KG w Ae es) (h : In w ⟨A, xs, c⟩) :
  Calls Tryz.prog 109 #[.slice Ac cols.length cc, .slice Ae es.length ce, .slice A xs.length c] w fun en w' => yu w w' en (ZF cols es (xs.map zj)) := by
 have hza : xF w A xs := h.z; have H := Lib.hid h; have Hz := Lib.hid hza; have Hc := Lib.hid hc; have HX := Lib.hid hE; have ct := Wl cols Ac cc es Ae ce w hlen hle hc hE; have ci := fun W (hg : za w W) => qW cols Ac cc xs A c W hlen (Hc.out.grow hg) (H.out.grow hg)
 obtain ⟨TS, TE, hTE⟩ : ∃ TS TE, zy cols es = (TS, TE) := ⟨_, _, rfl⟩
 obtain ⟨IE, hIE⟩ : ∃ IE, zF cols (xs.map zj) = IE := ⟨_, rfl⟩
 rw [hTE] at ct; rw [hIE] at ci; obtain ⟨Q, hQ⟩ : ∃ Q, ZF cols es (xs.map zj) = Q := ⟨_, rfl⟩
 rw [hQ]; have fin : Q = if TE ≠ 0 then ([], TE) else if IE ≠ 0 then ([], IE) else yN ((xs.map zj).map (fun r => (es.map (yt r.1), r.2))) := by rw [<- hQ]; unfold ZF; rw [hTE, hIE]
 have Fin := Lib.hid fin; have HTE := Lib.hid hTE; have HIE := Lib.hid hIE; clear h hza hc hE hTE hIE hQ fin; go_enter Tryz.func109, Tryz.ntmps109
 by_cases h0 : TE = 0
 ·by_cases h1 : IE = 0
  ·subst h0 h1; have eQ : Q = yN ((xs.map zj).map (fun r => (es.map (yt r.1), r.2))) := by rw [Fin.out]; simp
   obtain ⟨_, hwz, hfit⟩ := zp HIE.out; obtain ⟨a1, a2, a3, a4⟩ := S.facts (s := ⟨A, xs, c⟩) hwz; have a1 : xs.length <= 400 := a1; have A2 := Lib.hid (show ∀ y ∈ xs, y.row.length <= 8 from a2); have A3 := Lib.hid (show ∀ y ∈ xs, ∀ v ∈ y.row, RV v from a3); have A4 := Lib.hid (show ∀ y ∈ xs, -1000000 <= y.w /\ y.w <= 1000000 from a4); have Hfit := Lib.hid (show ∀ y ∈ xs, jq cols y.row = 0 from fun y hy => hfit (zj y) (List.mem_map_of_mem hy)); obtain ⟨he8, hty⟩ := xm (by rw [HTE.out] : (zy cols es).2 = 0); have Hty := Lib.hid hty; have EQ := Lib.hid eQ; clear eQ hwz hfit a2 a3 a4 hty
   go_upto_region 8 with (first
    | (go_at_call 67; ((with_reducible refine ct.mono ?_); rintro e w2 ⟨BT, capT, rfl, _, _, hg2⟩))
    | (go_at_call 76; ((with_reducible refine (ci _ hg2).mono ?_); rintro e w3 ⟨rfl, hg3⟩)))
   have G3 := Lib.hid (hg2.trans hg3); clear ct ci; go_wp2
   go_loopw [11, 31] (fun t i wr => ∃ (k : Nat) (out : List I), k <= xs.length /\ i = .int .i64 k /\ wr.ownsRow w3.heap.size 62 2 t k (zt out) /\ out.map zj = (xs.take k).map (fun y => (es.map (yt y.row), y.w)) /\ (∀ y ∈ out, jx wr y) /\ za w3 wr) (fun _ i _ => xs.length - (intOf i).toNat)
   case atStart => exact ⟨0, [], Nat.zero_le _, rfl, World.ownsRow_nil _ _ _ _, rfl, fun y hy => by simp at hy, za.refl _⟩
   case round =>
    obtain ⟨k, out, hk, rfl, hown, hmap, hor, hg⟩ := hrel; have Own := Lib.hid hown; have Map := Lib.hid hmap; have Ors := Lib.hid hor; clear hown hmap hor
    by_cases hlt : k < xs.length
    ·obtain ⟨y, hyk⟩ : ∃ y, xs[k]? = some y := ⟨_, List.getElem?_eq_getElem hlt⟩
     have hmem := List.mem_of_getElem? hyk; obtain ⟨gx, ox, rfl, c1, c2, hyv⟩ := (Hz.out.grow (G3.out.trans hg)) k y hyk
     have hre : ∀ x ∈ es, RE y.row.length x := fun x hx => by
      obtain ⟨T, hok⟩ := Xz (Hty.out x hx); rw [((yP cols y.row).1 (Hfit.out y hmem)).1]; exact WN x hok.ty
     have hlr : y.row.length <= 9223372036854775807 := by have := A2.out y hmem; omega
     have cv := fun W (h : za wr W) => XG es Ae ce y.row y.A y.cap W (by omega) hlr (HX.out.grow (G3.out.trans (hg.trans h))) hre (A3.out y hmem) (hyv.grow h)
     have es1 := yH (fun y : I => (es.map (yt y.row), y.w)) hyk; have Es := Lib.hid es1; have ln : (es.map (yt y.row)).length = es.length := by simp
     have Ln := Lib.hid ln; generalize es.map (yt y.row) = VR at cv Es Ln; clear hyk hmem hre es1 ln hyv; go_upto_region 11 with fail
     refine zc (fun Z => zb Z wr.heap.size 62 #[.slice y.A y.row.length y.cap, .int .i64 y.w] /\ za wr Z) ⟨zb.new _ _ _, (za.refl wr).al _⟩ ?_; rintro Z ⟨Bz, Gz⟩; apply wp_region_calm 9 (by kernel_rfl) (by kernel_rfl)
     case h' =>
      intro Q0 hQ0; simp only [List.take_succ_cons, List.take_zero]
      repeat ((first | ((first | apply calm_p rfl | apply zg rfl rfl rfl); case h1 => (intro w1 hw1 hF K hK; obtain ⟨bz, fz⟩ := (Bz.grow hw1).rules; go_simp; first | exact hK _ (za.refl _))) | apply ze rfl rfl rfl rfl); intro K hK; go_simp; apply hK; clear hK K)
      apply calm_fp (PV es.length VR) rfl
      case h1 =>
       intro w1 hw1 hF K hK; go_simp
       go_at_call 148
       refine (cv w1 (Gz.trans hw1)).mono ?_; rintro en w' ⟨B, cap, rfl, ho, hg'⟩; exact ⟨_, rfl, hK _ _ hg' ⟨B, cap, rfl, _, ho⟩⟩
      intro v39 K hK; go_simp; apply hK; clear hK K
      repeat ((first | ((first | apply calm_p rfl | apply zg rfl rfl rfl); case h1 => (intro w1 hw1 hF K hK; obtain ⟨bz, fz⟩ := (Bz.grow hw1).rules; go_simp; first | exact hK _ (za.refl _))) | apply ze rfl rfl rfl rfl); intro K hK; go_simp; apply hK; clear hK K)
      apply calm_fp (PZ es.length y.w VR) rfl
      case h1 =>
       intro w1 hw1 hF K hK; obtain ⟨B, cap, hv, h1⟩ := hF _ (List.mem_cons_self ..) ⟨_, rfl, by decide⟩; subst hv; go_simp; exact hK _ _ (za.refl _) ⟨B, cap, rfl, h1⟩
      intro v42 K hK; go_simp; apply hK; clear hK K
      repeat ((first | ((first | apply calm_p rfl | apply zg rfl rfl rfl); case h1 => (intro w1 hw1 hF K hK; obtain ⟨bz, fz⟩ := (Bz.grow hw1).rules; go_simp; first | exact hK _ (za.refl _))) | apply ze rfl rfl rfl rfl); intro K hK; go_simp; apply hK; clear hK K)
      apply calm_fp (PB es.length y.w VR) rfl
      case h1 =>
       intro w1 hw1 hF K hK; obtain ⟨B, cap, hv, h1⟩ := hF _ (List.mem_cons_self ..) ⟨_, rfl, by decide⟩; subst hv; go_simp; exact hK _ _ ((za.refl _).al _) ⟨B, cap, w1.heap.size, rfl, zb.new _ _ _, h1.choose, zl h1.choose_spec ((za.refl _).al _)⟩
      intro v43 K hK; go_simp; apply hK; clear hK K
      repeat ((first | ((first | apply calm_p rfl | apply zg rfl rfl rfl); case h1 => (intro w1 hw1 hF K hK; obtain ⟨bz, fz⟩ := (Bz.grow hw1).rules; go_simp; first | exact hK _ (za.refl _))) | apply ze rfl rfl rfl rfl); intro K hK; go_simp; apply hK; clear hK K)
      refine calm_nil ?_; intro w1 hw1 hF; apply hQ0; clear hQ0; simp only [List.drop_succ_cons, List.drop_zero]; obtain ⟨B, cap, gb, hv, hb1, base, ho⟩ := hF _ (List.mem_cons_self ..); subst hv; clear hF; have G1 := Gz.trans hw1; have Own1 := Lib.hid (zl Own.out G1); have HB := Lib.hid hb1; have HO := Lib.hid ho; clear hb1 ho; have lenO := Own.out.1; rw [qc] at lenO
      go_wp2_with (at_builtin; refine zS rfl _ _ rfl w3.heap.size _ _ _ rfl Own1.out _ [I.mk B VR cap y.w] rfl (jJ Ln.out HB.out) (by simp; omega) (by have := (hg.trans G1).size; simp; omega) ?_; intro v7 w7 own7 gr7)
      have G7 : za w3 w7 := zY (hg.trans G1) gr7 Own1.out; have Own7 := Lib.hid own7
      have O7 : ∀ u ∈ out ++ [I.mk B VR cap y.w], jx w7 u := fun u hu => by
       rcases List.mem_append.1 hu with hu | hu
       ·exact ((Ors.out u hu).grow G1).kept Own1.out gr7
       ·simp at hu; subst hu; exact jx.kept ⟨base, by have := HO.out; rw [<- Ln.out] at this; exact this⟩ Own1.out gr7
      have OR7 := Lib.hid O7; clear own7 gr7 O7; go_roundw
      case rel => exact ⟨k + 1, out ++ [I.mk B VR cap y.w], by omega, by go_num, by simpa using Own7.out, by rw [Es.out, List.map_append, Map.out]; rfl, OR7.out, G7⟩
      case measure => simp [intOf]; omega
     case hp' => exact ⟨PV.pers _ _, PZ.pers _ _ _, PB.pers _ _ _, trivial⟩
    ·obtain rfl : k = xs.length := by omega
     obtain ⟨B, cap, rfl, hzf, hkf⟩ := Yh Own.out (fun y hy => (Ors.out y hy).vsl); have lenO := Own.out.1; rw [qc] at lenO; have hm := Map.out; rw [List.take_length] at hm
     have hx2 : ∀ y ∈ out, ∃ x ∈ xs, y.row = es.map (yt x.row) /\ y.w = x.w := fun y hy => by
      have h1 := List.mem_map_of_mem (f := zj) hy; rw [hm] at h1; obtain ⟨x, hx, e⟩ := List.mem_map.1 h1; exact ⟨x, hx, (Prod.mk.inj e).1.symm, (Prod.mk.inj e).2.symm⟩
     have cs := kF out B cap wr (by omega) hzf (fun y hy => by obtain ⟨x, hx, e, _⟩ := hx2 y hy; rw [e]; simp; omega) (fun y hy => by
       obtain ⟨x, hx, e, _⟩ := hx2 y hy; rw [e]; intro v hv; obtain ⟨u, hu, rfl⟩ := List.mem_map.1 hv
       exact Zz (Hty.out u hu) (Hfit.out x hx)) (fun y hy => by obtain ⟨x, hx, _, e⟩ := hx2 y hy; rw [e]; exact A4.out x hx)
     have eq2 : out.map zj = (xs.map zj).map (fun r => (es.map (yt r.1), r.2)) := by rw [hm]; simp [zj]
     rw [eq2, <- EQ.out] at cs; clear hzf hkf hm hx2 eq2
     go_wp2_with (go_at_call 52; ((with_reducible refine cs.mono ?_); rintro en w7 ⟨C, zs, cap2, rfl, hz3, hm3, hk3, hg3⟩; have Out := Lib.hid (And.intro hz3 (And.intro hm3 hk3)); clear hz3 hm3 hk3))
     refine bodyPost_ret (by simp [results, Tryz.results109, go_sem] <;> rfl) rfl ?_; exact ⟨C, zs, cap2, rfl, Out.out.1, Out.out.2.1, Out.out.2.2, G3.out.trans (hg.trans hg3)⟩
  ·subst h0; have d1 : (IE != 0) = true := by simpa using h1
   have eQ : Q = ([], IE) := by rw [Fin.out]; simp [h1]
   go_wp2_with (first
    | (go_at_call 67; ((with_reducible refine ct.mono ?_); rintro e w2 ⟨BT, capT, rfl, _, _, hg2⟩))
    | (go_at_call 76; ((with_reducible refine (ci _ hg2).mono ?_); rintro e w3 ⟨rfl, hg3⟩)))
   refine bodyPost_ret (by simp [results, Tryz.results109, go_sem] <;> rfl) rfl ?_; exact ⟨none, [], 0, by rw [eQ]; rfl, yd _ _, by rw [eQ]; rfl, yw.nil, hg2.trans hg3⟩
 ·have d0 : (TE != 0) = true := by simpa using h0
  have eQ : Q = ([], TE) := by rw [Fin.out, if_pos h0]
  go_wp2_with (go_at_call 67; ((with_reducible refine ct.mono ?_); rintro e w2 ⟨BT, capT, rfl, _, _, hg2⟩))
  refine bodyPost_ret (by simp [results, Tryz.results109, go_sem] <;> rfl) rfl ?_; exact ⟨none, [], 0, by rw [eQ]; rfl, yd _ _, by rw [eQ]; rfl, yw.nil, hg2⟩
def kU (x : E) (u r : List V) : Int := if zw x r then Wb u r else 0
theorem ZC (x : E) (u : List V) : Nx (kU x u) := fun r q h => by unfold kU; rw [qz x h, Vm u r q h]
def xn (es : List E) (r : List V) : List V := es.map (yt r)
theorem Mk (es : List E) (r : List V) : xn es (zd r) = xn es r := by
 unfold xn; exact List.map_congr_left (fun e _ => Yg r e)
theorem S2 (es : List E) {r q : List V} (h : zd r = zd q) : xn es r = xn es q := by rw [<- Mk es r, h, Mk]
def Fl (es : List E) (u r : List V) : Int := Wb u (xn es r)
theorem U0 (es : List E) (u : List V) : Nx (Fl es u) := fun r q h => by unfold Fl; rw [S2 es h]
theorem Ty {cols : List Int} {es : List E} {z : List Z} (h1 : (zy cols es).2 = 0) (h2 : zF cols z = 0) : QC (z.map (fun r => (es.map (yt r.1), r.2))) := fun y hy => by
 obtain ⟨he8, hty⟩ := xm h1; obtain ⟨r, hr, rfl⟩ := List.mem_map.1 hy; refine ⟨by simpa using he8, fun v hv => ?_⟩; obtain ⟨u, hu, rfl⟩ := List.mem_map.1 hv; exact Zz (hty u hu) ((zp h2).2.2 r hr)
theorem Tx {cols : List Int} {es : List E} {z a : List Z} (h : ZF cols es z = (a, 0)) : yp a /\ zu a = 0 /\ ∀ u, yi a u = yR (Fl es u) z := by
 unfold ZF at h; split at h
 ·rename_i h1; exact absurd (Prod.mk.inj h).2 h1
 ·rename_i h1; split at h
  ·rename_i h2; exact absurd (Prod.mk.inj h).2 h2
  ·rename_i h2; obtain ⟨c, w, e⟩ := kG (Ty (by simpa using h1) (by simpa using h2)) h; exact ⟨c, w, fun u => by rw [e]; exact Ec (xn es) u z⟩
end Go.Proofs.YtcaedcpjdmlilaaGreat

namespace Go.Proofs.YtcaedcpjdmlilaaGreat
open Go.ChangeShapes Go.WideShapes Go.ChangeAt Go.RowKit Go.Calm
set_option maxRecDepth 100000
set_option linter.unusedVariables false
set_option linter.unusedSimpArgs false
section
variable {H : Type} {enc : TypeId × Value -> H} {w : World} {base : Nat} {spare : Nat -> Bool} {held : Bool}
theorem Uy {fuel : Nat} {cs : List Value} {x : DataW H × List MemPlace} (h : DataW.trod enc Tryz.prog w base spare held fuel 25 cs = some x) :
  ∃ (A : Option Addr) (xs : List E) (cap : Nat), cs = [.slice A xs.length cap] /\ KG w A xs /\ xs.length <= maxLen /\ xs.length <= cap := by
 obtain ⟨A, len, cap, n, D, hcs, hl, hcap, hi⟩ := qF (c := 6) Tryz.underlying25 (by kernel_rfl) (by omega) h
 haveI : Inhabited E := ⟨.leaf⟩
 obtain ⟨xs, hxl, hx⟩ := QA (α := E) (P := fun i x => ∃ g o, A = some ⟨g, o, none⟩ /\ zv w g (o + i * 6) x /\ EX w x) len (fun i hlt => by
  obtain ⟨g, o, ys, hA, hyl, hat, hd⟩ := hi i hlt; obtain ⟨x, hx, hv⟩ := JC _ hd; subst hx
  exact ⟨x, g, o, hA, ⟨hat 0 _ rfl, hat 1 _ rfl, hat 2 _ rfl, hat 3 _ rfl, hat 4 _ rfl, hat 5 _ rfl⟩, hv⟩)
 exact ⟨A, xs, cap, by rw [hcs, hxl], hx, by omega, by omega⟩
end
end Go.Proofs.YtcaedcpjdmlilaaGreat

