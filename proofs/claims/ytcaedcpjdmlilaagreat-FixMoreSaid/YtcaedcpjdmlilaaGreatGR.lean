/-
 Joined texts of this claim: Op1, Op2. What each proves its own head says; no condition beside those that each theorem names.
-/
import Derived.Test.YtcaedcpjdmlilaaGreatGG
import Derived.Test.YtcaedcpjdmlilaaGreatGKa
import Derived.Test.YtcaedcpjdmlilaaGreatGQ
set_option maxRecDepth 100000
set_option maxHeartbeats 8000000
namespace Go.Proofs.YtcaedcpjdmlilaaGreat
open Go.RowKit Go.Calm
set_option linter.unusedSimpArgs false
set_option linter.unusedVariables false
def zw (x : E) (row : List V) : Bool := yx (yt row x) == 2
theorem Ui : bare yf = yf := by decide
theorem Uf (row : List V) (c : Nat) : bare ((zd row).getD c yf) = bare (row.getD c yf) := by
 rw [List.getD_eq_getElem?_getD, List.getD_eq_getElem?_getD]; unfold zd; rw [List.getElem?_map]; cases row[c]? with
 | none => rfl
 | some v => exact YA v
theorem Yg (row : List V) : ∀ e : E, yt (zd row) e = yt row e
 | .leaf => rfl
 | .mk k v c A n cap kid => by
  have h0 := Yg row (kid 0); have h1 := Yg row (kid 1); have h2 := Yg row (kid 2); simp only [yt, h0, h1, h2, Uf]
theorem LF (x : E) (row : List V) : zw x (zd row) = zw x row := by unfold zw; rw [Yg]
theorem qz (x : E) {r q : List V} (h : zd r = zd q) : zw x r = zw x q := by rw [<- LF x r, h, LF]
def zD (cols : List Int) (x : E) : Int := if (zr cols x).2 = 0 /\ (zr cols x).1 ≠ 2 /\ (zr cols x).1 ≠ 1 then 9 else (zr cols x).2
theorem jZ {cols : List Int} {x : E} (h : zD cols x = 0) : (zr cols x).2 = 0 /\ ((zr cols x).1 = 2 \/ (zr cols x).1 = 1) := by
 unfold zD at h; split at h
 ·simp at h
 ·rename_i h1; refine ⟨h, ?_⟩
  by_cases h2 : (zr cols x).1 = 2
  ·exact .inl h2
  ·by_cases h3 : (zr cols x).1 = 1
   ·exact .inr h3
   ·exact absurd ⟨h, h2, h3⟩ h1
def Z9 (cols : List Int) : List Z -> Int
 | [] => 0
 | x :: l => if jq cols x.1 ≠ 0 then jq cols x.1 else Z9 cols l
theorem Zy (cols : List Int) : ∀ z : List Z, Z9 cols z = 0 ↔ ∀ x ∈ z, jq cols x.1 = 0
 | [] => by simp [Z9]
 | x :: l => by
  have ih := Zy cols l; unfold Z9; simp only [List.mem_cons, forall_eq_or_imp]; split
  ·rename_i h; exact ⟨fun e => absurd e h, fun e => absurd e.1 h⟩
  ·rename_i h; have h : jq cols x.1 = 0 := by simpa using h
   rw [ih]; exact ⟨fun e => ⟨h, e⟩, fun e => e.2⟩
theorem BE (cols : List Int) {xs : List I} {k : Nat} {x : I} (h : xs[k]? = some x) : Z9 cols ((xs.drop k).map zj) = if jq cols x.row ≠ 0 then jq cols x.row else Z9 cols ((xs.drop (k + 1)).map zj) := by
 obtain ⟨h1, e1⟩ := List.getElem?_eq_some_iff.1 h; rw [List.drop_eq_getElem_cons h1, e1]; rfl
def zF (cols : List Int) (z : List Z) : Int := if 8 < cols.length then 5 else if zu z ≠ 0 then zu z else Z9 cols z
theorem zp {cols : List Int} {z : List Z} (h : zF cols z = 0) : cols.length <= 8 /\ zu z = 0 /\ ∀ x ∈ z, jq cols x.1 = 0 := by
 unfold zF at h; split at h
 ·simp at h
 ·split at h
  ·rename_i h1; exact absurd h h1
  ·rename_i h0 h1; exact ⟨by omega, by simpa using h1, (Zy cols z).1 h⟩
def yQ (cols : List Int) (x : E) (z : List Z) : List Z × Int := if zD cols x ≠ 0 then ([], zD cols x) else if zF cols z ≠ 0 then ([], zF cols z) else yN (z.filter (fun r => zw x r.1))
theorem Y5 (p : List V -> Bool) (hp : ∀ r q, zd r = zd q -> p r = p q) (q : List V) : ∀ l : List Z, yi (l.filter (fun r => p r.1)) q = if p q then yi l q else 0
 | [] => by simp [qR]
 | x :: l => by
  have ih := Y5 p hp q l; rw [List.filter_cons]
  by_cases h : zd x.1 = zd q
  ·have e := hp _ _ h
   by_cases hq : p q = true
   ·rw [if_pos (by rw [e]; exact hq), zm, ih, if_pos hq, zm, if_pos hq]
   ·rw [if_neg (by rw [e]; exact hq), ih, if_neg hq, if_neg hq]
  ·by_cases hx : p x.1 = true
   ·rw [if_pos hx, zm, ih, if_neg h, zm, if_neg h]; split <;> simp
   ·rw [if_neg hx, ih, zm, if_neg h]; split <;> simp
theorem QR (x : E) (q : List V) (l : List Z) : yi (l.filter (fun r => zw x r.1)) q = if zw x q then yi l q else 0 := Y5 (zw x) (fun r q h => qz x h) q l
theorem QX {M : Int} {N : Nat} {z : List Z} (h : SM M N z) (p : Z -> Bool) : SM M N (z.filter p) :=
 ⟨fun x hx => h.ok x (List.mem_filter.1 hx).1, List.Pairwise.filter _ h.up, fun x hx => h.ne x (List.mem_filter.1 hx).1, fun x hx => h.bd x (List.mem_filter.1 hx).1, by have h1 := List.length_filter_le p z; have := h.len; omega⟩
theorem YI {cols : List Int} {x : E} {z a : List Z} (h : yQ cols x z = (a, 0)) : zD cols x = 0 /\ zF cols z = 0 /\ yp a /\ zu a = 0 /\ ∀ q, yi a q = if zw x q then yi z q else 0 := by
 unfold yQ at h; split at h
 ·rename_i h1; exact absurd (Prod.mk.inj h).2 h1
 ·rename_i h1; split at h
  ·rename_i h2; exact absurd (Prod.mk.inj h).2 h2
  ·rename_i h2; have h1 : zD cols x = 0 := by simpa using h1
   have h2 : zF cols z = 0 := by simpa using h2
   obtain ⟨_, hw, _⟩ := zp h2; have sm := QX (SM.of hw) (fun r => zw x r.1); obtain ⟨e, c, s, w⟩ := SR (M := 1000000) (N := 400) sm.ok (fun q => D7 (by omega) sm.rv sm.up sm.bd q) sm.len (by omega) (by omega); rw [e] at h; have ea : xJ (z.filter (fun r => zw x r.1)) = a := (Prod.mk.inj h).1; rw [ea] at c s w; exact ⟨h1, h2, c, s.rz (by omega) (by omega), fun q => by rw [w, QR]⟩
theorem TJ {v : V} (h : RV v) : yx v = 0 \/ yx v = 1 \/ yx v = 2 := by
 obtain ⟨_, h2, _, _⟩ := h; unfold yx; split
 ·rename_i hk; have := h2 hk; omega
 ·exact .inr (.inl rfl)
theorem Cb {x y : E} {A : Option Addr} {r : List V} (hx : RV (yt r x)) (hy : RV (yt r y)) : zw (Za 4 x y A) r = (zw x r && zw y r) := by
 unfold zw; rw [zaW (by omega) (by omega), show ∀ a b d, WC 4 a b d = Rz a b from fun a b d => rfl]; unfold Rz; rcases TJ hx with a | a | a <;> rcases TJ hy with b | b | b <;> rw [a, b] <;> decide
theorem Zz {cols : List Int} {x : E} {row : List V} (ht : (zr cols x).2 = 0) (hf : jq cols row = 0) : RV (yt row x) := by
 obtain ⟨T, hok⟩ := Xz ht; have hF := (yP cols row).1 hf; exact WH row hF.rv x (by rw [hF.1]; exact WN x hok.ty)
theorem T6 : ∀ {z : List Z} {q : List V}, yi z q ≠ 0 -> ∃ x ∈ z, zd x.1 = zd q
 | [], q, h => absurd rfl h
 | x :: z, q, h => by
  by_cases hx : zd x.1 = zd q
  ·exact ⟨x, by simp, hx⟩
  ·rw [zm, if_neg hx, Int.zero_add] at h; obtain ⟨y, hy, e⟩ := T6 h; exact ⟨y, by simp [hy], e⟩
def Ns : List Int -> Int
 | [] => 0
 | x :: l => if x ≠ 0 then x else Ns l
theorem za1 {xs : List Int} {k : Nat} {x : Int} (h : xs[k]? = some x) : Ns (xs.drop k) = if x ≠ 0 then x else Ns (xs.drop (k + 1)) := by
 obtain ⟨h1, e1⟩ := List.getElem?_eq_some_iff.1 h; rw [List.drop_eq_getElem_cons h1, e1]; rfl
theorem Lg (xs : List Int) (A : Option Addr) (c : Nat) (w : World) (hlen : xs.length <= 9223372036854775807) (hx : xe w A xs) :
  Calls Tryz.prog 144 #[.slice A xs.length c] w fun en w' => en = .returned (.int .i64 (Ns xs)) /\ za w w' := by
 have Hx := Lib.hid hx; obtain ⟨R, hR⟩ : ∃ R, Ns xs = R := ⟨_, rfl⟩
 rw [hR]; have HR := Lib.hid hR; clear hx hR; go_enter Tryz.func144, Tryz.ntmps144; go_wp2
 go_loopw [8] (fun i wr => ∃ k : Nat, k <= xs.length /\ i = .int .i64 k /\ Ns (xs.drop k) = R /\ za w wr) (fun i _ => xs.length - (intOf i).toNat)
 case atStart => exact ⟨0, Nat.zero_le _, rfl, HR.out, za.refl _⟩
 case round =>
  obtain ⟨k, hk, rfl, hinv, hg⟩ := hrel; have jd := Lib.hid hinv; clear hinv
  by_cases hlt : k < xs.length
  ·obtain ⟨x, hxk⟩ : ∃ x, xs[k]? = some x := ⟨_, List.getElem?_eq_getElem hlt⟩
   obtain ⟨gx, ox, rfl, c1⟩ := (Hx.out.grow hg) k x hxk; have inv2 := (za1 hxk).symm.trans jd.out; have Inv2 := Lib.hid inv2; clear hxk inv2
   by_cases h0 : x = 0
   ·subst h0; go_wp2; go_roundw
    case rel => exact ⟨k + 1, by omega, by go_num, by have := Inv2.out; rw [if_neg (by simp)] at this; exact this, hg⟩
    case measure => simp [intOf]; omega
   ·have d0 : (x != 0) = true := by simpa using h0
    go_wp2; go_ret; exact zA (by have := Inv2.out; rw [if_pos h0] at this; exact this) hg
  ·obtain rfl : k = xs.length := by omega
   have fin : R = 0 := by have := jd.out; rw [List.drop_length] at this; exact this.symm
   go_wp2; go_ret; exact zA fin.symm hg
theorem Us (a b : Int) (g : Nat) (w : World) (t : TypeId) (hb : zb w g t #[.int .i64 a, .int .i64 b]) (R : Int) (hR : (if a ≠ 0 then a else b) = R) :
  Calls Tryz.prog 144 #[.slice (some ⟨g, 0, none⟩) 2 2] w fun en w' => en = .returned (.int .i64 R) /\ za w w' := by
 rw [<- hR]
 have h := Lg [a, b] (some ⟨g, 0, none⟩) 2 w (by simp) (fun i x hx => by
  match i, hx with
  | 0, hx => simp at hx; subst hx; exact ⟨g, 0, rfl, by rw [hb.cell]; rfl⟩
  | 1, hx => simp at hx; subst hx; exact ⟨g, 0, rfl, by rw [hb.cell]; rfl⟩)
 have e : Ns [a, b] = if a ≠ 0 then a else b := by
  unfold Ns; split
  ·rfl
  ·unfold Ns; split
   ·rfl
   ·rename_i h; simp at h; simp [Ns, h]
 rw [e] at h; exact h
theorem N3 (cols : List Int) (Ac : Option Addr) (cc : Nat) (x : E) (w : World) (hlen : cols.length <= 9223372036854775807) (hc : xe w Ac cols) (hE : EX w x) :
  Calls Tryz.prog 145 #[.slice Ac cols.length cc, x.val] w fun en w' => en = .returned (.int .i64 (zD cols x)) /\ za w w' := by
 obtain ⟨T, e, hT⟩ : ∃ T e, zr cols x = (T, e) := ⟨_, _, rfl⟩
 have ct := fun W (h : za w W) => Yt cols Ac cc x W hlen (hc.grow h) (hE.grow h)
 rw [hT] at ct; simp only at ct; have hR : zD cols x = if e = 0 /\ T ≠ 2 /\ T ≠ 1 then 9 else e := by unfold zD; rw [hT]
 rw [hR]; clear hc hE hT hR; unfold E.val at *; go_enter Tryz.func145, Tryz.ntmps145
 by_cases h0 : e = 0
 ·subst h0
  by_cases h2 : T = 2
  ·subst h2
   go_wp2_with (go_at_call 103; ((with_reducible refine (ct _ (by with_reducible repeat (first | exact za.refl _ | assumption | refine za.set ?_ (by simp <;> omega) _ | refine za.al ?_ _ | refine za.drew ?_ | refine za.drewN ?_ _ | refine za.trans ?_ (by assumption)))).mono ?_); rintro en w3 ⟨rfl, hg3⟩))
   go_ret; exact zA (by simp) ((((za.refl w).al _).trans hg3))
  ·have d2 : (T != 2) = true := by simpa using h2
   by_cases h1 : T = 1
   ·subst h1
    go_wp2_with (go_at_call 103; ((with_reducible refine (ct _ (by with_reducible repeat (first | exact za.refl _ | assumption | refine za.set ?_ (by simp <;> omega) _ | refine za.al ?_ _ | refine za.drew ?_ | refine za.drewN ?_ _ | refine za.trans ?_ (by assumption)))).mono ?_); rintro en w3 ⟨rfl, hg3⟩))
    go_ret; exact zA (by simp) ((((za.refl w).al _).trans hg3))
   ·have d1 : (T != 1) = true := by simpa using h1
    go_wp2_with (go_at_call 103; ((with_reducible refine (ct _ (by with_reducible repeat (first | exact za.refl _ | assumption | refine za.set ?_ (by simp <;> omega) _ | refine za.al ?_ _ | refine za.drew ?_ | refine za.drewN ?_ _ | refine za.trans ?_ (by assumption)))).mono ?_); rintro en w3 ⟨rfl, hg3⟩))
    go_ret; exact zA (by simp [h1, h2]) ((((za.refl w).al _).trans hg3))
 ·have d0 : (e == 0) = false := by simpa using h0
  go_wp2_with (go_at_call 103; ((with_reducible refine (ct _ (by with_reducible repeat (first | exact za.refl _ | assumption | refine za.set ?_ (by simp <;> omega) _ | refine za.al ?_ _ | refine za.drew ?_ | refine za.drewN ?_ _ | refine za.trans ?_ (by assumption)))).mono ?_); rintro en w3 ⟨rfl, hg3⟩))
  go_ret; exact zA (by simp [h0]) ((((za.refl w).al _).trans hg3))
theorem qW (cols : List Int) (Ac : Option Addr) (cc : Nat) (xs : List I) (A : Option Addr) (c : Nat) (w : World) (hlen : cols.length <= 9223372036854775807) (hc : xe w Ac cols) (h : In w ⟨A, xs, c⟩) :
  Calls Tryz.prog 76 #[.slice Ac cols.length cc, .slice A xs.length c] w fun en w' => en = .returned (.int .i64 (zF cols (xs.map zj))) /\ za w w' := by
 have hza : xF w A xs := h.z; have l1 : xs.length <= 9223372036854775807 := h.ok.1; have l2 : ∀ x ∈ xs, x.row.length <= 9223372036854775807 := h.ok.2; have Hz := Lib.hid hza; have Hc := Lib.hid hc; have L2 := Lib.hid l2; obtain ⟨R, hR⟩ : ∃ R, zF cols (xs.map zj) = R := ⟨_, rfl⟩
 rw [hR]; have HR := Lib.hid hR; obtain ⟨E, hE⟩ : ∃ E, zu (xs.map zj) = E := ⟨_, rfl⟩
 have cw := fun W (h : za w W) => Kz xs A c W l1 (Hz.out.grow h) L2.out E hE
 have HE := Lib.hid hE; clear h hza l2 hc hR hE; go_enter Tryz.func76, Tryz.ntmps76
 by_cases h8 : 8 < cols.length
 ·have d8 : decide ((8 : Int) < (cols.length : Int)) = true := decide_eq_true (by omega); go_wp2; go_ret; exact zA (by rw [<- HR.out]; unfold zF; rw [if_pos h8]) (za.refl _)
 ·have d8 : decide ((8 : Int) < (cols.length : Int)) = false := decide_eq_false (by omega)
  by_cases h0 : E = 0
  ·subst h0; have inv0 : Z9 cols ((xs.drop 0).map zj) = R := by rw [<- HR.out]; unfold zF; rw [if_neg h8, HE.out, if_neg (by simp), List.drop_zero]
   have Inv0 := Lib.hid inv0; clear inv0; go_upto_region 6 with (go_at_call 95; ((with_reducible refine (cw _ (za.refl _)).mono ?_); rintro e w2 ⟨rfl, hg2⟩)); go_wp2
   go_loopw [19] (fun i wr => ∃ k : Nat, k <= xs.length /\ i = .int .i64 k /\ Z9 cols ((xs.drop k).map zj) = R /\ za w wr) (fun i _ => xs.length - (intOf i).toNat)
   case atStart => exact ⟨0, Nat.zero_le _, rfl, Inv0.out, hg2⟩
   case round =>
    obtain ⟨k, hk, rfl, hinv, hg⟩ := hrel; have jd := Lib.hid hinv; clear hinv
    by_cases hlt : k < xs.length
    ·obtain ⟨x, hxk⟩ : ∃ x, xs[k]? = some x := ⟨_, List.getElem?_eq_getElem hlt⟩
     obtain ⟨gx, ox, rfl, c1, c2, hxv⟩ := (Hz.out.grow hg) k x hxk; have hlx := L2.out x (List.mem_of_getElem? hxk); have inv2 := (BE cols hxk).symm.trans jd.out; obtain ⟨F, hF⟩ : ∃ F, jq cols x.row = F := ⟨_, rfl⟩
     have cf := fun W (h : za wr W) => BJ cols x.row Ac x.A cc x.cap W hlen hlx (Hc.out.grow (hg.trans h)) (hxv.grow h) F hF
     rw [hF] at inv2; have Inv2 := Lib.hid inv2; clear hxk hxv inv2 hF
     by_cases hf0 : F = 0
     ·subst hf0
      go_wp2_with (go_at_call 107; ((with_reducible refine (cf _ (by with_reducible repeat (first | exact za.refl _ | assumption | refine za.set ?_ (by simp <;> omega) _ | refine za.al ?_ _ | refine za.drew ?_ | refine za.drewN ?_ _ | refine za.trans ?_ (by assumption)))).mono ?_); rintro e w3 ⟨rfl, hg3⟩))
      go_roundw
      case rel => exact ⟨k + 1, by omega, by go_num, by have := Inv2.out; rw [if_neg (by simp)] at this; exact this, (hg.al _).trans hg3⟩
      case measure => simp [intOf]; omega
     ·have df : (F != 0) = true := by simpa using hf0
      go_wp2_with (go_at_call 107; ((with_reducible refine (cf _ (by with_reducible repeat (first | exact za.refl _ | assumption | refine za.set ?_ (by simp <;> omega) _ | refine za.al ?_ _ | refine za.drew ?_ | refine za.drewN ?_ _ | refine za.trans ?_ (by assumption)))).mono ?_); rintro e w3 ⟨rfl, hg3⟩))
      go_ret; exact zA (by have := Inv2.out; rw [if_pos hf0] at this; exact this) ((hg.al _).trans hg3)
    ·obtain rfl : k = xs.length := by omega
     have fin : R = 0 := by have := jd.out; rw [List.drop_length] at this; exact this.symm
     go_wp2; go_ret; exact zA fin.symm hg
  ·have d0 : (E != 0) = true := by simpa using h0
   go_wp2_with (go_at_call 95; ((with_reducible refine (cw _ (za.refl _)).mono ?_); rintro e w2 ⟨rfl, hg2⟩))
   go_ret; exact zA (by rw [<- HR.out]; unfold zF; rw [if_neg h8, HE.out, if_pos h0]) hg2
theorem FI {a b : Int} (h : (if a ≠ 0 then a else b) = 0) : a = 0 /\ b = 0 := by
 split at h
 ·rename_i h1; exact absurd h h1
 ·rename_i h1; exact ⟨by simpa using h1, h⟩
theorem Uz (p : List V -> Bool) {xs : List I} {k : Nat} {x : I} (h : xs[k]? = some x) : (xs.take (k + 1)).filter (fun y => p y.row) = (xs.take k).filter (fun y => p y.row) ++ (if p x.row then [x] else []) := by
 obtain ⟨h1, e1⟩ := List.getElem?_eq_some_iff.1 h; rw [List.take_succ_eq_append_getElem h1, e1, List.filter_append]; congr 1
 by_cases hp : p x.row = true
 ·simp [hp]
 ·simp [hp]
theorem BD (p : List V -> Bool) (xs : List I) : (xs.filter (fun y => p y.row)).map zj = (xs.map zj).filter (fun r => p r.1) := by
 rw [List.filter_map]; rfl
theorem R3 (cols : List Int) (Ac : Option Addr) (cc : Nat) (x : E) (xs : List I) (A : Option Addr) (c : Nat) (w : World) (hlen : cols.length <= 9223372036854775807) (hc : xe w Ac cols) (hE : EX w x) (h : In w ⟨A, xs, c⟩) :
  Calls Tryz.prog 108 #[.slice Ac cols.length cc, x.val, .slice A xs.length c] w fun en w' => yu w w' en (yQ cols x (xs.map zj)) := by
 have hza : xF w A xs := h.z; have H := Lib.hid h; have Hz := Lib.hid hza; have Hc := Lib.hid hc; have HX := Lib.hid hE; have ct := fun W (hg : za w W) => N3 cols Ac cc x W hlen (Hc.out.grow hg) (HX.out.grow hg)
 have ci := fun W (hg : za w W) => qW cols Ac cc xs A c W hlen (Hc.out.grow hg) (H.out.grow hg)
 obtain ⟨CE, hCE⟩ : ∃ CE, zD cols x = CE := ⟨_, rfl⟩
 obtain ⟨IE, hIE⟩ : ∃ IE, zF cols (xs.map zj) = IE := ⟨_, rfl⟩
 rw [hCE] at ct; rw [hIE] at ci; obtain ⟨Q, hQ⟩ : ∃ Q, yQ cols x (xs.map zj) = Q := ⟨_, rfl⟩
 rw [hQ]; have fin : Q = if CE ≠ 0 then ([], CE) else if IE ≠ 0 then ([], IE) else yN ((xs.map zj).filter (fun r => zw x r.1)) := by rw [<- hQ]; unfold yQ; rw [hCE, hIE]
 have Fin := Lib.hid fin; have HCE := Lib.hid hCE; have HIE := Lib.hid hIE; obtain ⟨EI, hE2⟩ : ∃ EI, (if CE ≠ 0 then CE else IE) = EI := ⟨_, rfl⟩
 have HEE := Lib.hid hE2; clear h hza hc hE hCE hIE hQ fin hE2; have HE : ∀ W g, zb W g 27 #[.int .i64 x.kind, .int .i64 x.v.k, .int .i64 x.v.n, .string x.v.s, .int .i64 x.col, .slice x.A x.n x.cap] -> zv W g 0 x := fun W g B => ⟨B.cells rfl, B.cells rfl, B.cells rfl, B.cells rfl, B.cells rfl, B.cells rfl⟩
 unfold E.val at *; go_enter Tryz.func108, Tryz.ntmps108; go_upto_region 1 with fail
 refine zc (fun X => zb X w.heap.size 27 #[.int .i64 x.kind, .int .i64 x.v.k, .int .i64 x.v.n, .string x.v.s, .int .i64 x.col, .slice x.A x.n x.cap] /\ za w X) ⟨zb.new _ _ _, (za.refl w).al _⟩ ?_; rintro X ⟨Bx, G⟩; obtain ⟨bx, fx⟩ := Bx.rules
 go_upto_region 2 with (first
  | (go_at_call 145; ((with_reducible refine (ct _ G).mono ?_); rintro e w2 ⟨rfl, hg2⟩))
  | (go_at_call 76; ((with_reducible refine (ci _ (G.trans hg2)).mono ?_); rintro e w3 ⟨rfl, hg3⟩))
  | (go_at_call 144; ((with_reducible refine (Us CE IE _ _ _ (zb.new _ _ _) EI HEE.out).mono ?_); rintro e w4 ⟨rfl, hg4⟩)))
 have G4 := Lib.hid (((G.trans hg2).trans hg3).al (.cells #[.int .i64 CE, .int .i64 IE] 34) |>.trans hg4); have B4 := Lib.hid (Bx.grow (((hg2.trans hg3).al (.cells #[.int .i64 CE, .int .i64 IE] 34)).trans hg4))
 by_cases h0 : EI = 0
 ·subst h0; obtain ⟨hce, hie⟩ := FI HEE.out; subst hce; subst hie; have eQ : Q = yN ((xs.map zj).filter (fun r => zw x r.1)) := by rw [Fin.out]; simp
  obtain ⟨_, hwz, hfit⟩ := zp HIE.out; obtain ⟨a1, a2, a3, a4⟩ := S.facts (s := ⟨A, xs, c⟩) hwz; have a1 : xs.length <= 400 := a1; have A2 := Lib.hid (show ∀ y ∈ xs, y.row.length <= 8 from a2); have A3 := Lib.hid (show ∀ y ∈ xs, ∀ v ∈ y.row, RV v from a3); have A4 := Lib.hid (show ∀ y ∈ xs, -1000000 <= y.w /\ y.w <= 1000000 from a4); have Hfit := Lib.hid (show ∀ y ∈ xs, jq cols y.row = 0 from fun y hy => hfit (zj y) (List.mem_map_of_mem hy)); have tok := Lib.hid (jZ HCE.out).1; have EQ := Lib.hid eQ; clear eQ hwz hfit a2 a3 a4 HEE; go_upto_region 6 with fail
  clear bx fx; go_wp2
  go_loopw [9, 25] (fun t i wr => ∃ k : Nat, k <= xs.length /\ i = .int .i64 k /\ wr.ownsRow w4.heap.size 62 2 t ((xs.take k).filter (fun y => zw x y.row)).length (zt ((xs.take k).filter (fun y => zw x y.row))) /\ za w4 wr) (fun _ i _ => xs.length - (intOf i).toNat)
  case atStart => exact ⟨0, Nat.zero_le _, rfl, World.ownsRow_nil _ _ _ _, za.refl _⟩
  case round =>
   obtain ⟨k, hk, rfl, hown, hg⟩ := hrel; have Own := Lib.hid hown; clear hown
   by_cases hlt : k < xs.length
   ·obtain ⟨y, hyk⟩ : ∃ y, xs[k]? = some y := ⟨_, List.getElem?_eq_getElem hlt⟩
    have hmem := List.mem_of_getElem? hyk; obtain ⟨gx, ox, rfl, c1, c2, hyv⟩ := (Hz.out.grow (G4.out.trans hg)) k y hyk
    have hre : RE y.row.length x := by
     obtain ⟨T, hok⟩ := Xz tok.out; rw [((yP cols y.row).1 (Hfit.out y hmem)).1]; exact WN x hok.ty
    have rv := WH y.row (A3.out y hmem) x hre; have hlr : y.row.length <= 9223372036854775807 := by have := A2.out y hmem; omega
    have co := fun W (h : za wr W) => MT y.row y.A y.cap hlr (A3.out y hmem) x hre w.heap.size 0 W W (HX.out.grow (G4.out.trans (hg.trans h))) (HE W _ (B4.out.grow (hg.trans h))) (hyv.grow h) (za.refl W)
    have cv := fun W => QM (yt y.row x) (fun hk => by rcases rv.bool hk with h | h <;> omega) W
    have es := Uz (zw x) hyk; obtain ⟨b, hb⟩ : ∃ b, zw x y.row = b := ⟨_, rfl⟩
    rw [show (yx (yt y.row x) == 2) = b from hb] at cv; rw [hb] at es; have hle : ((xs.take k).filter (fun y => zw x y.row)).length <= k := by have h1 := List.length_filter_le (fun y : I => zw x y.row) (xs.take k); simp at h1; omega
    generalize yt y.row x = V9 at co cv; have Es := Lib.hid es; clear hyk hmem hre rv es hb hyv; go_upto_region 8 with fail
    refine zc (fun Z => zb Z wr.heap.size 62 #[.slice y.A y.row.length y.cap, .int .i64 y.w] /\ za wr Z) ⟨zb.new _ _ _, (za.refl wr).al _⟩ ?_; rintro Z ⟨Bz, Gz⟩; obtain ⟨bz, fz⟩ := Bz.rules; unfold V.val at co cv; cases b with
    | false =>
     go_wp2_with (first
      | (go_at_call 147; ((with_reducible refine (co _ Gz).mono ?_); rintro e w5 ⟨rfl, hg5⟩))
      | (go_at_call 146; ((with_reducible refine (cv _).mono ?_); rintro e w6 ⟨rfl, hg6⟩)))
     have G6 := Gz.trans (hg5.trans hg6); have Own6 := Lib.hid (zl Own.out G6); go_roundw
     case rel => exact ⟨k + 1, by omega, by go_num, by rw [Es.out]; simpa using Own6.out, hg.trans G6⟩
     case measure => simp [intOf]; omega
    | true =>
     go_upto_region 9 with (first
      | (go_at_call 147; ((with_reducible refine (co _ Gz).mono ?_); rintro e w5 ⟨rfl, hg5⟩))
      | (go_at_call 146; ((with_reducible refine (cv _).mono ?_); rintro e w6 ⟨rfl, hg6⟩)))
     have G6 := Gz.trans (hg5.trans hg6); have Own6 := Lib.hid (zl Own.out G6); clear bz fz; obtain ⟨bz, fz⟩ := (Bz.grow (hg5.trans hg6)).rules
     go_wp2_with (at_builtin; refine zS rfl _ _ rfl w4.heap.size _ _ _ rfl (Own6.out.alloc _) _ [I.mk y.A y.row y.cap y.w] rfl (jJ rfl (zb.new _ _ _)) (by simp; omega) (by have := (hg.trans G6).size; simp; omega) ?_; intro v7 w7 own7 gr7)
     have G7 : za w4 w7 := zY ((hg.trans G6).al _) gr7 (Own6.out.alloc _); have Own7 := Lib.hid own7; clear own7 gr7; go_roundw
     case rel => exact ⟨k + 1, by omega, by go_num, by rw [Es.out]; simpa using Own7.out, G7⟩
     case measure => simp [intOf]; omega
   ·obtain rfl : k = xs.length := by omega
    have own := Own.out; rw [List.take_length] at own
    obtain ⟨B, cap, rfl, hzf, hkf⟩ := Yh own (fun y hy => by
     have hy := (List.mem_filter.1 hy).1
     exact (Hz.out.vsl y hy).grow (G4.out.trans hg))
    have mem : ∀ y ∈ xs.filter (fun y => zw x y.row), y ∈ xs := fun y hy => (List.mem_filter.1 hy).1
    have cs := kF (xs.filter (fun y => zw x y.row)) B cap wr (by have h1 := List.length_filter_le (fun y : I => zw x y.row) xs; omega) hzf (fun y hy => by have := A2.out y (mem y hy); omega) (fun y hy => A3.out y (mem y hy)) (fun y hy => A4.out y (mem y hy)); rw [BD (zw x) xs, <- EQ.out] at cs; clear own hzf hkf mem
    go_wp2_with (go_at_call 52; ((with_reducible refine cs.mono ?_); rintro en w7 ⟨C, zs, cap2, rfl, hz3, hm3, hk3, hg3⟩; have Out := Lib.hid (And.intro hz3 (And.intro hm3 hk3)); clear hz3 hm3 hk3))
    refine bodyPost_ret (by simp [results, Tryz.results108, go_sem] <;> rfl) rfl ?_; exact ⟨C, zs, cap2, rfl, Out.out.1, Out.out.2.1, Out.out.2.2, G4.out.trans (hg.trans hg3)⟩
 ·have d0 : (EI != 0) = true := by simpa using h0
  have eQ : Q = ([], EI) := by
   rw [Fin.out]; have h := HEE.out; split at h
   ·rename_i h1; rw [if_pos h1, h]
   ·rename_i h1; rw [if_neg h1, h, if_pos h0]
  go_wp2; refine bodyPost_ret (by simp [results, Tryz.results108, go_sem] <;> rfl) rfl ?_; exact ⟨none, [], 0, by rw [eQ]; rfl, yd _ _, by rw [eQ]; rfl, yw.nil, G4.out⟩
end Go.Proofs.YtcaedcpjdmlilaaGreat

