/- Parts of a proof. No condition. -/
import Derived.Test.YtflggnopgnoeiaaGreatGK
import Derived.Test.YtflggnopgnoeiaaGreatGQ
set_option maxRecDepth 100000
set_option maxHeartbeats 8000000
set_option maxRecDepth 100000
set_option linter.unusedSimpArgs false
set_option linter.unusedVariables false
namespace Go
variable {p : Prop}
theorem ol_ (h : p := by rw [<- HR.out]; unfold zo; rw [if_neg h8, HE.out, if_pos h0]) : p := h
theorem ov_ (h : p := by have := Inv2.out; rw [if_pos hf0] at this; exact this) : p := h
theorem oE_ (h : p := by simp [results, Tryz.results165, go_sem] <;> rfl) : p := h
theorem vx_ (h : p := by rw [<- HR.out]; unfold zo; rw [if_pos h8]) : p := h
theorem uV_ (h : p := by simp [h0]) : p := h
theorem wc_ (h : p := by
 subst h0
 by_cases h2 : T = 2
 ·subst h2
  go_wp2_with (go_at_call 64; ((with_reducible refine (ct _ ze).mono ?_); rintro en w3 ⟨rfl, hg3⟩))
  go_ret; exact zk uY_ ((((za.refl w).al _).trans hg3))
 ·have d2 : (T != 2) = true := by simpa using h2
  by_cases h1 : T = 1
  ·subst h1
   go_wp2_with (go_at_call 64; ((with_reducible refine (ct _ ze).mono ?_); rintro en w3 ⟨rfl, hg3⟩))
   go_ret; exact zk uY_ ((((za.refl w).al _).trans hg3))
  ·have d1 : (T != 1) = true := by simpa using h1
   go_wp2_with (go_at_call 64; ((with_reducible refine (ct _ ze).mono ?_); rintro en w3 ⟨rfl, hg3⟩))
   go_ret; exact zk (by simp [h1, h2]) ((((za.refl w).al _).trans hg3))) : p := h
theorem wU_ (h : p := by
 have d0 : (e == 0) = false := by simpa using h0
 go_wp2_with (go_at_call 64; ((with_reducible refine (ct _ ze).mono ?_); rintro en w3 ⟨rfl, hg3⟩))
 go_ret; exact zk uV_ ((((za.refl w).al _).trans hg3))) : p := h
theorem xy_ (h : p := by
 have d8 : decide ((8 : Int) < (cols.length : Int)) = true := decide_eq_true uX_; go_wp2; go_ret; exact zk vx_ (za.refl _)) : p := h
theorem yr_ (h : p := by
 exact ⟨0, Nat.zero_le _, rfl, World.ownsRow_nil _ _ _ _, za.refl _⟩) : p := h
end Go
namespace Go.Proofs.YtflggnopgnoeiaaGreat
open Go.RowKit Go.Calm
def yD (x : E) (row : List V) : Bool := yB (yu row x) == 2
theorem UE : bare yj = yj := by decide
theorem UB (row : List V) (c : Nat) : bare ((zd row).getD c yj) = bare (row.getD c yj) := by
 rw [List.getD_eq_getElem?_getD, List.getD_eq_getElem?_getD]; unfold zd; rw [List.getElem?_map]; cases row[c]? with
 | none => rfl
 | some v => exact YJ v
theorem Yn (row : List V) : ∀ e : E, yu (zd row) e = yu row e
 | .leaf => rfl
 | .mk k v c A n cap kid => by
  have h0 := Yn row (kid 0); have h1 := Yn row (kid 1); have h2 := Yn row (kid 2); simp only [yu, h0, h1, h2, UB]
theorem L9 (x : E) (row : List V) : yD x (zd row) = yD x row := by unfold yD; rw [Yn]
theorem XG (x : E) {r q : List V} (h : zd r = zd q) : yD x r = yD x q := by rw [<- L9 x r, h, L9]
def yG (cols : List Int) (x : E) : Int := if (zD cols x).2 = 0 /\ (zD cols x).1 ≠ 2 /\ (zD cols x).1 ≠ 1 then 9 else (zD cols x).2
theorem Jv {cols : List Int} {x : E} (h : yG cols x = 0) : (zD cols x).2 = 0 /\ ((zD cols x).1 = 2 \/ (zD cols x).1 = 1) := by
 unfold yG at h; split at h
 ·simp at h
 ·rename_i h1; refine ⟨h, ?_⟩
  by_cases h2 : (zD cols x).1 = 2
  ·exact .inl h2
  ·by_cases h3 : (zD cols x).1 = 1
   ·exact .inr h3
   ·exact absurd ⟨h, h2, h3⟩ h1
def Yh (cols : List Int) : List Z -> Int
 | [] => 0
 | x :: l => if x6 cols x.1 ≠ 0 then x6 cols x.1 else Yh cols l
theorem Zr (cols : List Int) : ∀ z : List Z, Yh cols z = 0 ↔ ∀ x ∈ z, x6 cols x.1 = 0
 | [] => by simp [Yh]
 | x :: l => by
  have ih := Zr cols l; unfold Yh; simp only [List.mem_cons, forall_eq_or_imp]; split
  ·rename_i h; exact ⟨fun e => absurd e h, fun e => absurd e.1 h⟩
  ·rename_i h; have h : x6 cols x.1 = 0 := by simpa using h
   rw [ih]; exact ⟨fun e => ⟨h, e⟩, fun e => e.2⟩
theorem Py (cols : List Int) {xs : List I} {k : Nat} {x : I} (h : xs[k]? = some x) : Yh cols ((xs.drop k).map zh) = if x6 cols x.row ≠ 0 then x6 cols x.row else Yh cols ((xs.drop (k + 1)).map zh) := wb_
def zo (cols : List Int) (z : List Z) : Int := if 8 < cols.length then 5 else if zC z ≠ 0 then zC z else Yh cols z
theorem zE {cols : List Int} {z : List Z} (h : zo cols z = 0) : cols.length <= 8 /\ zC z = 0 /\ ∀ x ∈ z, x6 cols x.1 = 0 := by
 unfold zo at h; split at h
 ·simp at h
 ·split at h
  ·exact wX_
  ·rename_i h0 h1; exact ⟨by omega, by simpa using h1, (Zr cols z).1 h⟩
def xE (cols : List Int) (x : E) (z : List Z) : List Z × Int := if yG cols x ≠ 0 then ([], yG cols x) else if zo cols z ≠ 0 then ([], zo cols z) else yy (z.filter (fun r => yD x r.1))
theorem kp (p : List V -> Bool) (hp : ∀ r q, zd r = zd q -> p r = p q) (q : List V) : ∀ l : List Z, zW (l.filter (fun r => p r.1)) q = if p q then zW l q else 0
 | [] => by simp [qM]
 | x :: l => by
  have ih := kp p hp q l; rw [List.filter_cons]
  by_cases h : zd x.1 = zd q
  ·have e := hp _ _ h
   by_cases hq : p q = true
   ·rw [if_pos (by rw [e]; exact hq), zq, ih, if_pos hq, zq, if_pos hq]
   ·rw [if_neg (by rw [e]; exact hq), ih, if_neg hq, if_neg hq]
  ·by_cases hx : p x.1 = true
   ·rw [if_pos hx, zq, ih, if_neg h, zq, if_neg h]; split <;> simp
   ·rw [if_neg hx, ih, zq, if_neg h]; split <;> simp
theorem zaA (x : E) (q : List V) (l : List Z) : zW (l.filter (fun r => yD x r.1)) q = if yD x q then zW l q else 0 := kp (yD x) (fun r q h => XG x h) q l
theorem LI {M : Int} {N : Nat} {z : List Z} (h : SM M N z) (p : Z -> Bool) : SM M N (z.filter p) :=
 ⟨fun x hx => h.ok x (List.mem_filter.1 hx).1, List.Pairwise.filter _ h.up, fun x hx => h.ne x (List.mem_filter.1 hx).1, fun x hx => h.bd x (List.mem_filter.1 hx).1, by have h1 := List.length_filter_le p z; have := h.len; omega⟩
theorem LH {cols : List Int} {x : E} {z a : List Z} (h : xE cols x z = (a, 0)) : yG cols x = 0 /\ zo cols z = 0 /\ yA a /\ zC a = 0 /\ ∀ q, zW a q = if yD x q then zW z q else 0 := by
 unfold xE at h; split at h
 ·exact u8_
 ·rename_i h1; split at h
  ·exact wg_
  ·rename_i h2; have h1 : yG cols x = 0 := by simpa using h1
   have h2 : zo cols z = 0 := by simpa using h2
   obtain ⟨_, hw, _⟩ := zE h2; have sm := LI (SM.of hw) (fun r => yD x r.1); obtain ⟨e, c, s, w⟩ := Fk (M := 1000000) (N := 400) sm.ok (fun q => FN uX_ sm.rv sm.up sm.bd q) sm.len uX_ uX_; rw [e] at h; have ea : yE (z.filter (fun r => yD x r.1)) = a := (Prod.mk.inj h).1; rw [ea] at c s w; exact ⟨h1, h2, c, s.rz uX_ uX_, fun q => by rw [w, zaA]⟩
theorem JF {cols : List Int} {x : E} {row : List V} (ht : (zD cols x).2 = 0) (hf : x6 cols row = 0) : RV (yu row x) := by
 obtain ⟨T, hok⟩ := kR ht; have hF := (y7 cols row).1 hf; exact Qu row hF.rv x (by rw [hF.1]; exact QH x hok.ty)
def RT : List Int -> Int
 | [] => 0
 | x :: l => if x ≠ 0 then x else RT l
theorem zbx {xs : List Int} {k : Nat} {x : Int} (h : xs[k]? = some x) : RT (xs.drop k) = if x ≠ 0 then x else RT (xs.drop (k + 1)) := wb_
theorem Lv (xs : List Int) (A : Option Addr) (c : Nat) (w : World) (hlen : xs.length <= 9223372036854775807) (hx : yU w A xs) :
  Calls Tryz.prog 191 #[.slice A xs.length c] w fun en w' => en = .returned (.int .i64 (RT xs)) /\ za w w' := by
 have Hx := hh_ hx; obtain ⟨R, hR⟩ : ∃ R, RT xs = R := ⟨_, rfl⟩
 rw [hR]; have HR := hh_ hR; clear hx hR; go_enter Tryz.func191, Tryz.ntmps191; go_wp2
 go_loopw [8] (fun i wr => ∃ k : Nat, k <= xs.length /\ i = .int .i64 k /\ RT (xs.drop k) = R /\ za w wr) (fun i _ => xs.length - (intOf i).toNat)
 case atStart => exact ⟨0, Nat.zero_le _, rfl, HR.out, za.refl _⟩
 case round =>
  obtain ⟨k, hk, rfl, hinv, hg⟩ := hrel; have xt := hh_ hinv; clear hinv
  by_cases hlt : k < xs.length
  ·obtain ⟨x, hxk⟩ : ∃ x, xs[k]? = some x := ⟨_, qQ_ hlt⟩
   obtain ⟨gx, ox, rfl, c1⟩ := (Hx.out.grow hg) k x hxk; have inv2 := (zbx hxk).symm.trans xt.out; have Inv2 := hh_ inv2; clear hxk inv2
   by_cases h0 : x = 0
   ·subst h0; go_wp2; go_roundw
    case rel => exact ⟨k + 1, by omega, by go_num, by have := Inv2.out; rw [if_neg uY_] at this; exact this, hg⟩
    case measure => exact u1_
   ·have d0 : (x != 0) = true := by simpa using h0
    go_wp2; go_ret; exact zk (by have := Inv2.out; rw [if_pos h0] at this; exact this) hg
  ·exact wd_
theorem UO (a b : Int) (g : Nat) (w : World) (t : TypeId) (hb : zb w g t #[.int .i64 a, .int .i64 b]) (R : Int) (hR : (if a ≠ 0 then a else b) = R) :
  Calls Tryz.prog 191 #[.slice (some ⟨g, 0, none⟩) 2 2] w fun en w' => en = .returned (.int .i64 R) /\ za w w' := by
 rw [<- hR]
 have h := Lv [a, b] (some ⟨g, 0, none⟩) 2 w uY_ (fun i x hx => by
  match i, hx with
  | 0, hx => simp at hx; subst hx; exact ⟨g, 0, rfl, by rw [hb.cell]; rfl⟩
  | 1, hx => simp at hx; subst hx; exact ⟨g, 0, rfl, by rw [hb.cell]; rfl⟩)
 have e : RT [a, b] = if a ≠ 0 then a else b := by
  unfold RT; split
  ·rfl
  ·unfold RT; split
   ·rfl
   ·rename_i h; simp at h; simp [RT, h]
 rw [e] at h; exact h
theorem Pv (cols : List Int) (Ac : Option Addr) (cc : Nat) (x : E) (w : World) (hlen : cols.length <= 9223372036854775807) (hc : yU w Ac cols) (hE : EX w x) :
  Calls Tryz.prog 192 #[.slice Ac cols.length cc, x.val] w fun en w' => en = .returned (.int .i64 (yG cols x)) /\ za w w' := by
 obtain ⟨T, e, hT⟩ : ∃ T e, zD cols x = (T, e) := ⟨_, _, rfl⟩
 have ct := fun W (h : za w W) => QF cols Ac cc x W hlen (hc.grow h) (hE.grow h)
 rw [hT] at ct; simp only at ct; have hR : yG cols x = if e = 0 /\ T ≠ 2 /\ T ≠ 1 then 9 else e := by unfold yG; rw [hT]
 rw [hR]; clear hc hE hT hR; unfold E.val at *; go_enter Tryz.func192, Tryz.ntmps192
 by_cases h0 : e = 0
 ·exact wc_
 ·exact wU_
theorem jw (cols : List Int) (Ac : Option Addr) (cc : Nat) (xs : List I) (A : Option Addr) (c : Nat) (w : World) (hlen : cols.length <= 9223372036854775807) (hc : yU w Ac cols) (h : In w ⟨A, xs, c⟩) :
  Calls Tryz.prog 23 #[.slice Ac cols.length cc, .slice A xs.length c] w fun en w' => en = .returned (.int .i64 (zo cols (xs.map zh))) /\ za w w' := by
 have hza : xe w A xs := h.z; have l1 : xs.length <= 9223372036854775807 := h.ok.1; have l2 : ∀ x ∈ xs, x.row.length <= 9223372036854775807 := h.ok.2; have Hz := hh_ hza; have Hc := hh_ hc; have L2 := hh_ l2; obtain ⟨R, hR⟩ : ∃ R, zo cols (xs.map zh) = R := ⟨_, rfl⟩
 rw [hR]; have HR := hh_ hR; obtain ⟨E, hE⟩ : ∃ E, zC (xs.map zh) = E := ⟨_, rfl⟩
 have cw := fun W (h : za w W) => KM xs A c W l1 (Hz.out.grow h) L2.out E hE
 have HE := hh_ hE; clear h hza l2 hc hR hE; go_enter Tryz.func23, Tryz.ntmps23
 by_cases h8 : 8 < cols.length
 ·exact xy_
 ·have d8 : decide ((8 : Int) < (cols.length : Int)) = false := decide_eq_false uX_
  by_cases h0 : E = 0
  ·subst h0; have inv0 : Yh cols ((xs.drop 0).map zh) = R := by rw [<- HR.out]; unfold zo; rw [if_neg h8, HE.out, if_neg uY_, List.drop_zero]
   have Inv0 := hh_ inv0; clear inv0; go_upto_region 6 with (go_at_call 65; ((with_reducible refine (cw _ (za.refl _)).mono ?_); rintro e w2 ⟨rfl, hg2⟩)); go_wp2
   go_loopw [19] (fun i wr => ∃ k : Nat, k <= xs.length /\ i = .int .i64 k /\ Yh cols ((xs.drop k).map zh) = R /\ za w wr) (fun i _ => xs.length - (intOf i).toNat)
   case atStart => exact ⟨0, Nat.zero_le _, rfl, Inv0.out, hg2⟩
   case round =>
    obtain ⟨k, hk, rfl, hinv, hg⟩ := hrel; have xt := hh_ hinv; clear hinv
    by_cases hlt : k < xs.length
    ·obtain ⟨x, hxk⟩ : ∃ x, xs[k]? = some x := ⟨_, qQ_ hlt⟩
     obtain ⟨gx, ox, rfl, c1, c2, hxv⟩ := (Hz.out.grow hg) k x hxk; have hlx := L2.out x (qZ_ hxk); have inv2 := (Py cols hxk).symm.trans xt.out; obtain ⟨F, hF⟩ : ∃ F, x6 cols x.row = F := ⟨_, rfl⟩
     have cf := fun W (h : za wr W) => Dk cols x.row Ac x.A cc x.cap W hlen hlx (Hc.out.grow (hg.trans h)) (hxv.grow h) F hF
     rw [hF] at inv2; have Inv2 := hh_ inv2; clear hxk hxv inv2 hF
     by_cases hf0 : F = 0
     ·subst hf0
      go_wp2_with (go_at_call 66; ((with_reducible refine (cf _ ze).mono ?_); rintro e w3 ⟨rfl, hg3⟩))
      go_roundw
      case rel => exact ⟨k + 1, by omega, by go_num, by have := Inv2.out; rw [if_neg uY_] at this; exact this, (hg.al _).trans hg3⟩
      case measure => exact u1_
     ·have df : (F != 0) = true := by simpa using hf0
      go_wp2_with (go_at_call 66; ((with_reducible refine (cf _ ze).mono ?_); rintro e w3 ⟨rfl, hg3⟩))
      go_ret; exact zk ov_ ((hg.al _).trans hg3)
    ·exact wd_
  ·have d0 : (E != 0) = true := by simpa using h0
   go_wp2_with (go_at_call 65; ((with_reducible refine (cw _ (za.refl _)).mono ?_); rintro e w2 ⟨rfl, hg2⟩))
   go_ret; exact zk ol_ hg2
theorem Hp {a b : Int} (h : (if a ≠ 0 then a else b) = 0) : a = 0 /\ b = 0 := by
 split at h
 ·exact wX_
 ·rename_i h1; exact ⟨by simpa using h1, h⟩
theorem UY (p : List V -> Bool) {xs : List I} {k : Nat} {x : I} (h : xs[k]? = some x) : (xs.take (k + 1)).filter (fun y => p y.row) = (xs.take k).filter (fun y => p y.row) ++ (if p x.row then [x] else []) := by
 obtain ⟨h1, e1⟩ := qQ9.1 h; rw [List.take_succ_eq_append_getElem h1, e1, List.filter_append]; congr 1
 by_cases hp : p x.row = true
 ·simp [hp]
 ·simp [hp]
theorem Dg (p : List V -> Bool) (xs : List I) : (xs.filter (fun y => p y.row)).map zh = (xs.map zh).filter (fun r => p r.1) := by
 rw [List.filter_map]; rfl
theorem Sh (cols : List Int) (Ac : Option Addr) (cc : Nat) (x : E) (xs : List I) (A : Option Addr) (c : Nat) (w : World) (hlen : cols.length <= 9223372036854775807) (hc : yU w Ac cols) (hE : EX w x) (h : In w ⟨A, xs, c⟩) :
  Calls Tryz.prog 165 #[.slice Ac cols.length cc, x.val, .slice A xs.length c] w fun en w' => yr w w' en (xE cols x (xs.map zh)) := by
 have hza : xe w A xs := h.z; have H := hh_ h; have Hz := hh_ hza; have Hc := hh_ hc; have HX := hh_ hE; have ct := fun W (hg : za w W) => Pv cols Ac cc x W hlen (Hc.out.grow hg) (HX.out.grow hg)
 have ci := fun W (hg : za w W) => jw cols Ac cc xs A c W hlen (Hc.out.grow hg) (H.out.grow hg)
 obtain ⟨CE, hCE⟩ : ∃ CE, yG cols x = CE := ⟨_, rfl⟩
 obtain ⟨IE, hIE⟩ : ∃ IE, zo cols (xs.map zh) = IE := ⟨_, rfl⟩
 rw [hCE] at ct; rw [hIE] at ci; obtain ⟨Q, hQ⟩ : ∃ Q, xE cols x (xs.map zh) = Q := ⟨_, rfl⟩
 rw [hQ]; have fin : Q = if CE ≠ 0 then ([], CE) else if IE ≠ 0 then ([], IE) else yy ((xs.map zh).filter (fun r => yD x r.1)) := by rw [<- hQ]; unfold xE; rw [hCE, hIE]
 have Fin := hh_ fin; have HCE := hh_ hCE; have HIE := hh_ hIE; obtain ⟨EI, hE2⟩ : ∃ EI, (if CE ≠ 0 then CE else IE) = EI := ⟨_, rfl⟩
 have HEE := hh_ hE2; clear h hza hc hE hCE hIE hQ fin hE2; have HE : ∀ W g, zb W g 35 #[.int .i64 x.kind, .int .i64 x.v.k, .int .i64 x.v.n, .string x.v.s, .int .i64 x.col, .slice x.A x.n x.cap] -> zF W g 0 x := fun W g B => ⟨B.cells rfl, B.cells rfl, B.cells rfl, B.cells rfl, B.cells rfl, B.cells rfl⟩
 unfold E.val at *; go_enter Tryz.func165, Tryz.ntmps165; go_upto_region 1 with fail
 refine zc (fun X => zb X w.heap.size 35 #[.int .i64 x.kind, .int .i64 x.v.k, .int .i64 x.v.n, .string x.v.s, .int .i64 x.col, .slice x.A x.n x.cap] /\ za w X) ⟨zb.new _ _ _, (za.refl w).al _⟩ ?_; rintro X ⟨Bx, G⟩; obtain ⟨bx, fx⟩ := Bx.rules
 go_upto_region 2 with (first
  | (go_at_call 192; ((with_reducible refine (ct _ G).mono ?_); rintro e w2 ⟨rfl, hg2⟩))
  | (go_at_call 23; ((with_reducible refine (ci _ (G.trans hg2)).mono ?_); rintro e w3 ⟨rfl, hg3⟩))
  | (go_at_call 191; ((with_reducible refine (UO CE IE _ _ _ (zb.new _ _ _) EI HEE.out).mono ?_); rintro e w4 ⟨rfl, hg4⟩)))
 have G4 := hh_ (((G.trans hg2).trans hg3).al (.cells #[.int .i64 CE, .int .i64 IE] 26) |>.trans hg4); have B4 := hh_ (Bx.grow (((hg2.trans hg3).al (.cells #[.int .i64 CE, .int .i64 IE] 26)).trans hg4))
 by_cases h0 : EI = 0
 ·subst h0; obtain ⟨hce, hie⟩ := Hp HEE.out; subst hce; subst hie; have eQ : Q = yy ((xs.map zh).filter (fun r => yD x r.1)) := by rw [Fin.out]; simp
  obtain ⟨_, hwz, hfit⟩ := zE HIE.out; obtain ⟨a1, a2, a3, a4⟩ := S.facts (s := ⟨A, xs, c⟩) hwz; have a1 : xs.length <= 400 := a1; have A2 := hh_ (show ∀ y ∈ xs, y.row.length <= 8 from a2); have A3 := hh_ (show ∀ y ∈ xs, ∀ v ∈ y.row, RV v from a3); have A4 := hh_ (show ∀ y ∈ xs, -1000000 <= y.w /\ y.w <= 1000000 from a4); have Hfit := hh_ (show ∀ y ∈ xs, x6 cols y.row = 0 from fun y hy => hfit (zh y) (qZ9 hy)); have tok := hh_ (Jv HCE.out).1; have EQ := hh_ eQ; clear eQ hwz hfit a2 a3 a4 HEE; go_upto_region 6 with fail
  clear bx fx; go_wp2
  go_loopw [9, 25] (fun t i wr => ∃ k : Nat, k <= xs.length /\ i = .int .i64 k /\ wr.ownsRow w4.heap.size 53 2 t ((xs.take k).filter (fun y => yD x y.row)).length (zr ((xs.take k).filter (fun y => yD x y.row))) /\ za w4 wr) (fun _ i _ => xs.length - (intOf i).toNat)
  case atStart => exact yr_
  case round =>
   obtain ⟨k, hk, rfl, hown, hg⟩ := hrel; have Own := hh_ hown; clear hown
   by_cases hlt : k < xs.length
   ·obtain ⟨y, hyk⟩ : ∃ y, xs[k]? = some y := ⟨_, qQ_ hlt⟩
    have hmem := qZ_ hyk; obtain ⟨gx, ox, rfl, c1, c2, hyv⟩ := (Hz.out.grow (G4.out.trans hg)) k y hyk
    have hre : RE y.row.length x := by
     obtain ⟨T, hok⟩ := kR tok.out; rw [((y7 cols y.row).1 (Hfit.out y hmem)).1]; exact QH x hok.ty
    have rv := Qu y.row (A3.out y hmem) x hre; have hlr : y.row.length <= 9223372036854775807 := by have := A2.out y hmem; omega
    have co := fun W (h : za wr W) => Ny y.row y.A y.cap hlr (A3.out y hmem) x hre w.heap.size 0 W W (HX.out.grow (G4.out.trans (hg.trans h))) (HE W _ (B4.out.grow (hg.trans h))) (hyv.grow h) (za.refl W)
    have cv := fun W => QD (yu y.row x) (fun hk => by rcases rv.bool hk with h | h <;> omega) W
    have es := UY (yD x) hyk; obtain ⟨b, hb⟩ : ∃ b, yD x y.row = b := ⟨_, rfl⟩
    rw [show (yB (yu y.row x) == 2) = b from hb] at cv; rw [hb] at es; have hle : ((xs.take k).filter (fun y => yD x y.row)).length <= k := by have h1 := List.length_filter_le (fun y : I => yD x y.row) (xs.take k); simp at h1; omega
    generalize yu y.row x = V9 at co cv; have Es := hh_ es; clear hyk hmem hre rv es hb hyv; go_upto_region 8 with fail
    refine zc (fun Z => zb Z wr.heap.size 53 #[.slice y.A y.row.length y.cap, .int .i64 y.w] /\ za wr Z) ⟨zb.new _ _ _, (za.refl wr).al _⟩ ?_; rintro Z ⟨Bz, Gz⟩; obtain ⟨bz, fz⟩ := Bz.rules; unfold V.val at co cv; cases b with
    | false =>
     go_wp2_with (first
      | (go_at_call 67; ((with_reducible refine (co _ Gz).mono ?_); rintro e w5 ⟨rfl, hg5⟩))
      | (go_at_call 122; ((with_reducible refine (cv _).mono ?_); rintro e w6 ⟨rfl, hg6⟩)))
     have G6 := Gz.trans (hg5.trans hg6); have Own6 := hh_ (zi Own.out G6); go_roundw
     case rel => exact ⟨k + 1, by omega, by go_num, by rw [Es.out]; simpa using Own6.out, hg.trans G6⟩
     case measure => exact u1_
    | true =>
     go_upto_region 9 with (first
      | (go_at_call 67; ((with_reducible refine (co _ Gz).mono ?_); rintro e w5 ⟨rfl, hg5⟩))
      | (go_at_call 122; ((with_reducible refine (cv _).mono ?_); rintro e w6 ⟨rfl, hg6⟩)))
     have G6 := Gz.trans (hg5.trans hg6); have Own6 := hh_ (zi Own.out G6); clear bz fz; obtain ⟨bz, fz⟩ := (Bz.grow (hg5.trans hg6)).rules
     go_wp2_with (at_builtin; refine zj rfl _ _ rfl w4.heap.size _ _ _ rfl (Own6.out.alloc _) _ [I.mk y.A y.row y.cap y.w] rfl (jD rfl (zb.new _ _ _)) uN_ (by have := (hg.trans G6).size; simp; omega) ?_; intro v7 w7 own7 gr7)
     have G7 : za w4 w7 := zy ((hg.trans G6).al _) gr7 (Own6.out.alloc _); have Own7 := hh_ own7; clear own7 gr7; go_roundw
     case rel => exact ⟨k + 1, by omega, by go_num, by rw [Es.out]; simpa using Own7.out, G7⟩
     case measure => exact u1_
   ·obtain rfl : k = xs.length := by omega
    have own := Own.out; rw [List.take_length] at own
    obtain ⟨B, cap, rfl, hzf, hkf⟩ := yQ own (fun y hy => by
     have hy := (List.mem_filter.1 hy).1
     exact (Hz.out.vsl y hy).grow (G4.out.trans hg))
    have mem : ∀ y ∈ xs.filter (fun y => yD x y.row), y ∈ xs := fun y hy => (List.mem_filter.1 hy).1
    have cs := kW (xs.filter (fun y => yD x y.row)) B cap wr (by have h1 := List.length_filter_le (fun y : I => yD x y.row) xs; omega) hzf (fun y hy => by have := A2.out y (mem y hy); omega) (fun y hy => A3.out y (mem y hy)) (fun y hy => A4.out y (mem y hy)); rw [Dg (yD x) xs, <- EQ.out] at cs; clear own hzf hkf mem
    go_wp2_with (go_at_call 29; ((with_reducible refine cs.mono ?_); rintro en w7 ⟨C, zs, cap2, rfl, hz3, hm3, hk3, hg3⟩; have Out := hh_ (And.intro hz3 (And.intro hm3 hk3)); clear hz3 hm3 hk3))
    refine qX_ oE_ rfl ?_; exact ⟨C, zs, cap2, rfl, Out.out.1, Out.out.2.1, Out.out.2.2, G4.out.trans (hg.trans hg3)⟩
 ·have d0 : (EI != 0) = true := by simpa using h0
  have eQ : Q = ([], EI) := by
   rw [Fin.out]; have h := HEE.out; split at h
   ·rename_i h1; rw [if_pos h1, h]
   ·rename_i h1; rw [if_neg h1, h, if_pos h0]
  go_wp2; refine qX_ oE_ rfl ?_; exact ⟨none, [], 0, by rw [eQ]; rfl, zX _ _, by rw [eQ]; rfl, yf.nil, G4.out⟩
def nV' (n : Int) : V := ⟨3, n, ⟨#[]⟩⟩
abbrev z4 (g1 g2 : Nat) : List I := [⟨some ⟨g1, 0, none⟩, [nV' 1], 1, 2⟩, ⟨some ⟨g2, 0, none⟩, [nV' 2], 1, 1⟩]
