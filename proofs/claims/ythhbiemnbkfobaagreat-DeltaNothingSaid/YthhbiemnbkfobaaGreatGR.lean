/- Parts of a proof. No condition. -/
import Derived.Test.YthhbiemnbkfobaaGreatGK
import Derived.Test.YthhbiemnbkfobaaGreatGQ
set_option maxRecDepth 100000
set_option maxHeartbeats 8000000
set_option maxRecDepth 100000
set_option linter.unusedSimpArgs false
set_option linter.unusedVariables false
namespace Go
variable {p : Prop}
theorem ox_ (h : p := by simp [results, Tryz.results48, go_sem] <;> rfl) : p := h
theorem v2_ (h : p := by
 subst h0
 by_cases h2 : T = 2
 · subst h2
   go_wp2_with (go_at_call 79; ((with_reducible refine (ct _ zi).mono ?_); rintro en w3 ⟨rfl, hg3⟩))
   go_ret; exact zx vV_ ((((za.refl w).al _).trans hg3))
 · have d2 : (T != 2) = true := by simpa using h2
   by_cases h1 : T = 1
   · subst h1
     go_wp2_with (go_at_call 79; ((with_reducible refine (ct _ zi).mono ?_); rintro en w3 ⟨rfl, hg3⟩))
     go_ret; exact zx vV_ ((((za.refl w).al _).trans hg3))
   · have d1 : (T != 1) = true := by simpa using h1
     go_wp2_with (go_at_call 79; ((with_reducible refine (ct _ zi).mono ?_); rintro en w3 ⟨rfl, hg3⟩))
     go_ret; exact zx (by simp [h1, h2]) ((((za.refl w).al _).trans hg3))) : p := h
theorem uw_ (h : p := by
 have d0 : (e == 0) = false := by simpa using h0
 go_wp2_with (go_at_call 79; ((with_reducible refine (ct _ zi).mono ?_); rintro en w3 ⟨rfl, hg3⟩))
 go_ret; exact zx (by simp [h0]) ((((za.refl w).al _).trans hg3))) : p := h
theorem uP_ (h : p := by
 exact ⟨0, Nat.zero_le _, rfl, World.ownsRow_nil _ _ _ _, za.refl _⟩) : p := h
end Go
namespace Go.Proofs.YthhbiemnbkfobaaGreat
open Go.RowKit Go.Calm
def yu (x : E) (row : List V) : Bool := ym (yk row x) == 2
theorem Rs : bare zR = zR := by decide
theorem Ro (row : List V) (c : Nat) : bare ((zg row).getD c zR) = bare (row.getD c zR) := by
  rw [List.getD_eq_getElem?_getD, List.getD_eq_getElem?_getD]; unfold zg; rw [List.getElem?_map]; cases row[c]? with
  | none => rfl
  | some v => exact Xr v
theorem jY (row : List V) : ∀ e : E, yk (zg row) e = yk row e
  | .leaf => rfl
  | .mk k v c A n cap kid => by
    have h0 := jY row (kid 0); have h1 := jY row (kid 1); have h2 := jY row (kid 2); simp only [yk, h0, h1, h2, Ro]
theorem Jt (x : E) (row : List V) : yu x (zg row) = yu x row := by unfold yu; rw [jY]
theorem yZ (x : E) {r q : List V} (h : zg r = zg q) : yu x r = yu x q := by rw [<- Jt x r, h, Jt]
def y6 (cols : List Int) (x : E) : Int := if (zH cols x).2 = 0 /\ (zH cols x).1 ≠ 2 /\ (zH cols x).1 ≠ 1 then 9 else (zH cols x).2
theorem QB {cols : List Int} {x : E} (h : y6 cols x = 0) : (zH cols x).2 = 0 /\ ((zH cols x).1 = 2 \/ (zH cols x).1 = 1) := by
  unfold y6 at h; split at h
  · simp at h
  · rename_i h1
    refine ⟨h, ?_⟩
    by_cases h2 : (zH cols x).1 = 2
    · exact .inl h2
    · by_cases h3 : (zH cols x).1 = 1
      · exact .inr h3
      · exact absurd ⟨h, h2, h3⟩ h1
def YD (cols : List Int) : List Z -> Int
  | [] => 0
  | x :: l => if x6 cols x.1 ≠ 0 then x6 cols x.1 else YD cols l
theorem km (cols : List Int) : ∀ z : List Z, YD cols z = 0 ↔ ∀ x ∈ z, x6 cols x.1 = 0
  | [] => by simp [YD]
  | x :: l => by
    have ih := km cols l; unfold YD; simp only [List.mem_cons, forall_eq_or_imp]; split
    · rename_i h; exact ⟨fun e => absurd e h, fun e => absurd e.1 h⟩
    · rename_i h
      have h : x6 cols x.1 = 0 := by simpa using h
      rw [ih]; exact ⟨fun e => ⟨h, e⟩, fun e => e.2⟩
theorem TC (cols : List Int) {xs : List I} {k : Nat} {x : I} (h : xs[k]? = some x) : YD cols ((xs.drop k).map zp) = if x6 cols x.row ≠ 0 then x6 cols x.row else YD cols ((xs.drop (k + 1)).map zp) := v7_
def zz (cols : List Int) (z : List Z) : Int := if 8 < cols.length then 5 else if zw z ≠ 0 then zw z else YD cols z
theorem zj {cols : List Int} {z : List Z} (h : zz cols z = 0) : cols.length <= 8 /\ zw z = 0 /\ ∀ x ∈ z, x6 cols x.1 = 0 := by
  unfold zz at h; split at h
  · simp at h
  · split at h
    · exact uD_
    · rename_i h0 h1
      exact ⟨by omega, by simpa using h1, (km cols z).1 h⟩
def qB (cols : List Int) (x : E) (z : List Z) : List Z × Int := if y6 cols x ≠ 0 then ([], y6 cols x) else if zz cols z ≠ 0 then ([], zz cols z) else yF (z.filter (fun r => yu x r.1))
theorem xu (p : List V -> Bool) (hp : ∀ r q, zg r = zg q -> p r = p q) (q : List V) : ∀ l : List Z, zE (l.filter (fun r => p r.1)) q = if p q then zE l q else 0
  | [] => by simp [xn]
  | x :: l => by
    have ih := xu p hp q l; rw [List.filter_cons]
    by_cases h : zg x.1 = zg q
    · have e := hp _ _ h
      by_cases hq : p q = true
      · rw [if_pos (by rw [e]; exact hq), zl, ih, if_pos hq, zl, if_pos hq]
      · rw [if_neg (by rw [e]; exact hq), ih, if_neg hq, if_neg hq]
    · by_cases hx : p x.1 = true
      · rw [if_pos hx, zl, ih, if_neg h, zl, if_neg h]
        split <;> simp
      · rw [if_neg hx, ih, zl, if_neg h]
        split <;> simp
theorem Jc {M : Int} {N : Nat} {z : List Z} (h : SM M N z) (p : Z -> Bool) : SM M N (z.filter p) :=
  ⟨fun x hx => h.ok x (List.mem_filter.1 hx).1, List.Pairwise.filter _ h.up, fun x hx => h.ne x (List.mem_filter.1 hx).1, fun x hx => h.bd x (List.mem_filter.1 hx).1, by have h1 := List.length_filter_le p z; have := h.len; omega⟩
theorem QO {cols : List Int} {x : E} {row : List V} (ht : (zH cols x).2 = 0) (hf : x6 cols row = 0) : RV (yk row x) := by
  obtain ⟨T, hok⟩ := qD ht; have hF := (yz cols row).1 hf; exact XM row hF.rv x (by rw [hF.1]; exact Xl x hok.ty)
def MU : List Int -> Int
  | [] => 0
  | x :: l => if x ≠ 0 then x else MU l
theorem DU {xs : List Int} {k : Nat} {x : Int} (h : xs[k]? = some x) : MU (xs.drop k) = if x ≠ 0 then x else MU (xs.drop (k + 1)) := v7_
theorem W3 (xs : List Int) (A : Option Addr) (c : Nat) (w : World) (hlen : xs.length <= 9223372036854775807) (hx : xc w A xs) :
    Calls Tryz.prog 84 #[.slice A xs.length c] w fun en w' => en = .returned (.int .i64 (MU xs)) /\ za w w' := by
  have Hx := hh_ hx; obtain ⟨R, hR⟩ : ∃ R, MU xs = R := ⟨_, rfl⟩
  rw [hR]; have HR := hh_ hR; clear hx hR; go_enter Tryz.func84, Tryz.ntmps84; go_wp2
  go_loopw [8] (fun i wr => ∃ k : Nat, k <= xs.length /\ i = .int .i64 k /\ MU (xs.drop k) = R /\ za w wr) (fun i _ => xs.length - (intOf i).toNat)
  case atStart => exact ⟨0, Nat.zero_le _, rfl, HR.out, za.refl _⟩
  case round =>
    obtain ⟨k, hk, rfl, hinv, hg⟩ := hrel; have kL := hh_ hinv; clear hinv
    by_cases hlt : k < xs.length
    · obtain ⟨x, hxk⟩ : ∃ x, xs[k]? = some x := ⟨_, qQ_ hlt⟩
      obtain ⟨gx, ox, rfl, c1⟩ := (Hx.out.grow hg) k x hxk; have inv2 := (DU hxk).symm.trans kL.out; have Inv2 := hh_ inv2; clear hxk inv2
      by_cases h0 : x = 0
      · subst h0
        go_wp2; go_roundw
        case rel => exact ⟨k + 1, by omega, by go_num, by have := Inv2.out; rw [if_neg vV_] at this; exact this, hg⟩
        case measure => exact vZ_
      · have d0 : (x != 0) = true := by simpa using h0
        go_wp2; go_ret; exact zx (by have := Inv2.out; rw [if_pos h0] at this; exact this) hg
    · exact un_
theorem RF (a b : Int) (g : Nat) (w : World) (t : TypeId) (hb : zc w g t #[.int .i64 a, .int .i64 b]) (R : Int) (hR : (if a ≠ 0 then a else b) = R) :
    Calls Tryz.prog 84 #[.slice (some ⟨g, 0, none⟩) 2 2] w fun en w' => en = .returned (.int .i64 R) /\ za w w' := by
  rw [<- hR]
  have h := W3 [a, b] (some ⟨g, 0, none⟩) 2 w vV_ (fun i x hx => by
    match i, hx with
    | 0, hx => simp at hx; subst hx; exact ⟨g, 0, rfl, by rw [hb.cell]; rfl⟩
    | 1, hx => simp at hx; subst hx; exact ⟨g, 0, rfl, by rw [hb.cell]; rfl⟩)
  have e : MU [a, b] = if a ≠ 0 then a else b := by
    unfold MU; split
    · rfl
    · unfold MU; split
      · rfl
      · rename_i h; simp at h; simp [MU, h]
  rw [e] at h; exact h
theorem LO (cols : List Int) (Ac : Option Addr) (cc : Nat) (x : E) (w : World) (hlen : cols.length <= 9223372036854775807) (hc : xc w Ac cols) (hE : EX w x) :
    Calls Tryz.prog 85 #[.slice Ac cols.length cc, x.val] w fun en w' => en = .returned (.int .i64 (y6 cols x)) /\ za w w' := by
  obtain ⟨T, e, hT⟩ : ∃ T e, zH cols x = (T, e) := ⟨_, _, rfl⟩
  have ct := fun W (h : za w W) => Y0 cols Ac cc x W hlen (hc.grow h) (hE.grow h)
  rw [hT] at ct; simp only at ct; have hR : y6 cols x = if e = 0 /\ T ≠ 2 /\ T ≠ 1 then 9 else e := by unfold y6; rw [hT]
  rw [hR]; clear hc hE hT hR; unfold E.val at *; go_enter Tryz.func85, Tryz.ntmps85
  by_cases h0 : e = 0
  · exact v2_
  · exact uw_
theorem qu (cols : List Int) (Ac : Option Addr) (cc : Nat) (xs : List I) (A : Option Addr) (c : Nat) (w : World) (hlen : cols.length <= 9223372036854775807) (hc : xc w Ac cols) (h : In w ⟨A, xs, c⟩) :
    Calls Tryz.prog 30 #[.slice Ac cols.length cc, .slice A xs.length c] w fun en w' => en = .returned (.int .i64 (zz cols (xs.map zp))) /\ za w w' := by
  have hza : yI w A xs := h.z; have l1 : xs.length <= 9223372036854775807 := h.ok.1; have l2 : ∀ x ∈ xs, x.row.length <= 9223372036854775807 := h.ok.2; have Hz := hh_ hza; have Hc := hh_ hc; have L2 := hh_ l2; obtain ⟨R, hR⟩ : ∃ R, zz cols (xs.map zp) = R := ⟨_, rfl⟩
  rw [hR]; have HR := hh_ hR; obtain ⟨E, hE⟩ : ∃ E, zw (xs.map zp) = E := ⟨_, rfl⟩
  have cw := fun W (h : za w W) => Ww xs A c W l1 (Hz.out.grow h) L2.out E hE
  have HE := hh_ hE; clear h hza l2 hc hR hE; go_enter Tryz.func30, Tryz.ntmps30
  by_cases h8 : 8 < cols.length
  · have d8 : decide ((8 : Int) < (cols.length : Int)) = true := decide_eq_true vU_
    go_wp2; go_ret; exact zx (by rw [<- HR.out]; unfold zz; rw [if_pos h8]) (za.refl _)
  · have d8 : decide ((8 : Int) < (cols.length : Int)) = false := decide_eq_false vU_
    by_cases h0 : E = 0
    · subst h0
      have inv0 : YD cols ((xs.drop 0).map zp) = R := by rw [<- HR.out]; unfold zz; rw [if_neg h8, HE.out, if_neg vV_, List.drop_zero]
      have Inv0 := hh_ inv0; clear inv0; go_upto_region 6 with (go_at_call 46; ((with_reducible refine (cw _ (za.refl _)).mono ?_); rintro e w2 ⟨rfl, hg2⟩)); go_wp2
      go_loopw [19] (fun i wr => ∃ k : Nat, k <= xs.length /\ i = .int .i64 k /\ YD cols ((xs.drop k).map zp) = R /\ za w wr) (fun i _ => xs.length - (intOf i).toNat)
      case atStart => exact ⟨0, Nat.zero_le _, rfl, Inv0.out, hg2⟩
      case round =>
        obtain ⟨k, hk, rfl, hinv, hg⟩ := hrel; have kL := hh_ hinv; clear hinv
        by_cases hlt : k < xs.length
        · obtain ⟨x, hxk⟩ : ∃ x, xs[k]? = some x := ⟨_, qQ_ hlt⟩
          obtain ⟨gx, ox, rfl, c1, c2, hxv⟩ := (Hz.out.grow hg) k x hxk; have hlx := L2.out x (qZ_ hxk); have inv2 := (TC cols hxk).symm.trans kL.out; obtain ⟨F, hF⟩ : ∃ F, x6 cols x.row = F := ⟨_, rfl⟩
          have cf := fun W (h : za wr W) => TJ cols x.row Ac x.A cc x.cap W hlen hlx (Hc.out.grow (hg.trans h)) (hxv.grow h) F hF
          rw [hF] at inv2; have Inv2 := hh_ inv2; clear hxk hxv inv2 hF
          by_cases hf0 : F = 0
          · subst hf0
            go_wp2_with (go_at_call 47; ((with_reducible refine (cf _ zi).mono ?_); rintro e w3 ⟨rfl, hg3⟩))
            go_roundw
            case rel => exact ⟨k + 1, by omega, by go_num, by have := Inv2.out; rw [if_neg vV_] at this; exact this, (hg.al _).trans hg3⟩
            case measure => exact vZ_
          · have df : (F != 0) = true := by simpa using hf0
            go_wp2_with (go_at_call 47; ((with_reducible refine (cf _ zi).mono ?_); rintro e w3 ⟨rfl, hg3⟩))
            go_ret; exact zx (by have := Inv2.out; rw [if_pos hf0] at this; exact this) ((hg.al _).trans hg3)
        · exact un_
    · have d0 : (E != 0) = true := by simpa using h0
      go_wp2_with (go_at_call 46; ((with_reducible refine (cw _ (za.refl _)).mono ?_); rintro e w2 ⟨rfl, hg2⟩))
      go_ret; exact zx (by rw [<- HR.out]; unfold zz; rw [if_neg h8, HE.out, if_pos h0]) hg2
theorem V6 {a b : Int} (h : (if a ≠ 0 then a else b) = 0) : a = 0 /\ b = 0 := by
  split at h
  · exact uD_
  · rename_i h1; exact ⟨by simpa using h1, h⟩
theorem RM (p : List V -> Bool) {xs : List I} {k : Nat} {x : I} (h : xs[k]? = some x) : (xs.take (k + 1)).filter (fun y => p y.row) = (xs.take k).filter (fun y => p y.row) ++ (if p x.row then [x] else []) := by
  obtain ⟨h1, e1⟩ := qQ9.1 h; rw [List.take_succ_eq_append_getElem h1, e1, List.filter_append]; congr 1
  by_cases hp : p x.row = true
  · simp [hp]
  · simp [hp]
theorem TB (p : List V -> Bool) (xs : List I) : (xs.filter (fun y => p y.row)).map zp = (xs.map zp).filter (fun r => p r.1) := by
  rw [List.filter_map]; rfl
theorem Nr (cols : List Int) (Ac : Option Addr) (cc : Nat) (x : E) (xs : List I) (A : Option Addr) (c : Nat) (w : World) (hlen : cols.length <= 9223372036854775807) (hc : xc w Ac cols) (hE : EX w x) (h : In w ⟨A, xs, c⟩) :
    Calls Tryz.prog 48 #[.slice Ac cols.length cc, x.val, .slice A xs.length c] w fun en w' => yK w w' en (qB cols x (xs.map zp)) := by
  have hza : yI w A xs := h.z; have H := hh_ h; have Hz := hh_ hza; have Hc := hh_ hc; have HX := hh_ hE; have ct := fun W (hg : za w W) => LO cols Ac cc x W hlen (Hc.out.grow hg) (HX.out.grow hg)
  have ci := fun W (hg : za w W) => qu cols Ac cc xs A c W hlen (Hc.out.grow hg) (H.out.grow hg)
  obtain ⟨CE, hCE⟩ : ∃ CE, y6 cols x = CE := ⟨_, rfl⟩
  obtain ⟨IE, hIE⟩ : ∃ IE, zz cols (xs.map zp) = IE := ⟨_, rfl⟩
  rw [hCE] at ct; rw [hIE] at ci; obtain ⟨Q, hQ⟩ : ∃ Q, qB cols x (xs.map zp) = Q := ⟨_, rfl⟩
  rw [hQ]; have fin : Q = if CE ≠ 0 then ([], CE) else if IE ≠ 0 then ([], IE) else yF ((xs.map zp).filter (fun r => yu x r.1)) := by rw [<- hQ]; unfold qB; rw [hCE, hIE]
  have Fin := hh_ fin; have HCE := hh_ hCE; have HIE := hh_ hIE; obtain ⟨EI, hE2⟩ : ∃ EI, (if CE ≠ 0 then CE else IE) = EI := ⟨_, rfl⟩
  have HEE := hh_ hE2; clear h hza hc hE hCE hIE hQ fin hE2; have HE : ∀ W g, zc W g 27 #[.int .i64 x.kind, .int .i64 x.v.k, .int .i64 x.v.n, .string x.v.s, .int .i64 x.col, .slice x.A x.n x.cap] -> zA W g 0 x := fun W g B => ⟨B.cells rfl, B.cells rfl, B.cells rfl, B.cells rfl, B.cells rfl, B.cells rfl⟩
  unfold E.val at *; go_enter Tryz.func48, Tryz.ntmps48; go_upto_region 1 with fail
  refine zd (fun X => zc X w.heap.size 27 #[.int .i64 x.kind, .int .i64 x.v.k, .int .i64 x.v.n, .string x.v.s, .int .i64 x.col, .slice x.A x.n x.cap] /\ za w X) ⟨zc.new _ _ _, (za.refl w).al _⟩ ?_; rintro X ⟨Bx, G⟩; obtain ⟨bx, fx⟩ := Bx.rules
  go_upto_region 2 with (first
    | (go_at_call 85; ((with_reducible refine (ct _ G).mono ?_); rintro e w2 ⟨rfl, hg2⟩))
    | (go_at_call 30; ((with_reducible refine (ci _ (G.trans hg2)).mono ?_); rintro e w3 ⟨rfl, hg3⟩))
    | (go_at_call 84; ((with_reducible refine (RF CE IE _ _ _ (zc.new _ _ _) EI HEE.out).mono ?_); rintro e w4 ⟨rfl, hg4⟩)))
  have G4 := hh_ (((G.trans hg2).trans hg3).al (.cells #[.int .i64 CE, .int .i64 IE] 35) |>.trans hg4); have B4 := hh_ (Bx.grow (((hg2.trans hg3).al (.cells #[.int .i64 CE, .int .i64 IE] 35)).trans hg4))
  by_cases h0 : EI = 0
  · subst h0
    obtain ⟨hce, hie⟩ := V6 HEE.out; subst hce; subst hie; have eQ : Q = yF ((xs.map zp).filter (fun r => yu x r.1)) := by rw [Fin.out]; simp
    obtain ⟨_, hwz, hfit⟩ := zj HIE.out; obtain ⟨a1, a2, a3, a4⟩ := S.facts (s := ⟨A, xs, c⟩) hwz; have a1 : xs.length <= 400 := a1; have A2 := hh_ (show ∀ y ∈ xs, y.row.length <= 8 from a2); have A3 := hh_ (show ∀ y ∈ xs, ∀ v ∈ y.row, RV v from a3); have A4 := hh_ (show ∀ y ∈ xs, -1000000 <= y.w /\ y.w <= 1000000 from a4); have Hfit := hh_ (show ∀ y ∈ xs, x6 cols y.row = 0 from fun y hy => hfit (zp y) (qZ9 hy)); have tok := hh_ (QB HCE.out).1; have EQ := hh_ eQ; clear eQ hwz hfit a2 a3 a4 HEE; go_upto_region 6 with fail
    clear bx fx; go_wp2
    go_loopw [9, 25] (fun t i wr => ∃ k : Nat, k <= xs.length /\ i = .int .i64 k /\ wr.ownsRow w4.heap.size 54 2 t ((xs.take k).filter (fun y => yu x y.row)).length (zq ((xs.take k).filter (fun y => yu x y.row))) /\ za w4 wr) (fun _ i _ => xs.length - (intOf i).toNat)
    case atStart => exact uP_
    case round =>
      obtain ⟨k, hk, rfl, hown, hg⟩ := hrel; have Own := hh_ hown; clear hown
      by_cases hlt : k < xs.length
      · obtain ⟨y, hyk⟩ : ∃ y, xs[k]? = some y := ⟨_, qQ_ hlt⟩
        have hmem := qZ_ hyk; obtain ⟨gx, ox, rfl, c1, c2, hyv⟩ := (Hz.out.grow (G4.out.trans hg)) k y hyk
        have hre : RE y.row.length x := by
          obtain ⟨T, hok⟩ := qD tok.out; rw [((yz cols y.row).1 (Hfit.out y hmem)).1]; exact Xl x hok.ty
        have rv := XM y.row (A3.out y hmem) x hre; have hlr : y.row.length <= 9223372036854775807 := by have := A2.out y hmem; omega
        have co := fun W (h : za wr W) => Ky y.row y.A y.cap hlr (A3.out y hmem) x hre w.heap.size 0 W W (HX.out.grow (G4.out.trans (hg.trans h))) (HE W _ (B4.out.grow (hg.trans h))) (hyv.grow h) (za.refl W)
        have cv := fun W => YZ (yk y.row x) (fun hk => by rcases rv.bool hk with h | h <;> omega) W
        have es := RM (yu x) hyk; obtain ⟨b, hb⟩ : ∃ b, yu x y.row = b := ⟨_, rfl⟩
        rw [show (ym (yk y.row x) == 2) = b from hb] at cv; rw [hb] at es; have hle : ((xs.take k).filter (fun y => yu x y.row)).length <= k := by have h1 := List.length_filter_le (fun y : I => yu x y.row) (xs.take k); simp at h1; omega
        generalize yk y.row x = V9 at co cv; have Es := hh_ es; clear hyk hmem hre rv es hb hyv; go_upto_region 8 with fail
        refine zd (fun Z => zc Z wr.heap.size 54 #[.slice y.A y.row.length y.cap, .int .i64 y.w] /\ za wr Z) ⟨zc.new _ _ _, (za.refl wr).al _⟩ ?_; rintro Z ⟨Bz, Gz⟩; obtain ⟨bz, fz⟩ := Bz.rules; unfold V.val at co cv; cases b with
        | false =>
          go_wp2_with (first
            | (go_at_call 87; ((with_reducible refine (co _ Gz).mono ?_); rintro e w5 ⟨rfl, hg5⟩))
            | (go_at_call 86; ((with_reducible refine (cv _).mono ?_); rintro e w6 ⟨rfl, hg6⟩)))
          have G6 := Gz.trans (hg5.trans hg6); have Own6 := hh_ (zr Own.out G6); go_roundw
          case rel => exact ⟨k + 1, by omega, by go_num, by rw [Es.out]; simpa using Own6.out, hg.trans G6⟩
          case measure => exact vZ_
        | true =>
          go_upto_region 9 with (first
            | (go_at_call 87; ((with_reducible refine (co _ Gz).mono ?_); rintro e w5 ⟨rfl, hg5⟩))
            | (go_at_call 86; ((with_reducible refine (cv _).mono ?_); rintro e w6 ⟨rfl, hg6⟩)))
          have G6 := Gz.trans (hg5.trans hg6); have Own6 := hh_ (zr Own.out G6); clear bz fz; obtain ⟨bz, fz⟩ := (Bz.grow (hg5.trans hg6)).rules
          go_wp2_with (at_builtin; refine zZ rfl _ _ rfl w4.heap.size _ _ _ rfl (Own6.out.alloc _) _ [I.mk y.A y.row y.cap y.w] rfl (jD rfl (zc.new _ _ _)) vN_ (by have := (hg.trans G6).size; simp; omega) ?_; intro v7 w7 own7 gr7)
          have G7 : za w4 w7 := yg ((hg.trans G6).al _) gr7 (Own6.out.alloc _); have Own7 := hh_ own7; clear own7 gr7; go_roundw
          case rel => exact ⟨k + 1, by omega, by go_num, by rw [Es.out]; simpa using Own7.out, G7⟩
          case measure => exact vZ_
      · obtain rfl : k = xs.length := by omega
        have own := Own.out; rw [List.take_length] at own
        obtain ⟨B, cap, rfl, hzf, hkf⟩ := kY own (fun y hy => by
          have hy := (List.mem_filter.1 hy).1
          exact (Hz.out.vsl y hy).grow (G4.out.trans hg))
        have mem : ∀ y ∈ xs.filter (fun y => yu x y.row), y ∈ xs := fun y hy => (List.mem_filter.1 hy).1
        have cs := jF (xs.filter (fun y => yu x y.row)) B cap wr (by have h1 := List.length_filter_le (fun y : I => yu x y.row) xs; omega) hzf (fun y hy => by have := A2.out y (mem y hy); omega) (fun y hy => A3.out y (mem y hy)) (fun y hy => A4.out y (mem y hy)); rw [TB (yu x) xs, <- EQ.out] at cs; clear own hzf hkf mem
        go_wp2_with (go_at_call 20; ((with_reducible refine cs.mono ?_); rintro en w7 ⟨C, zs, cap2, rfl, hz3, hm3, hk3, hg3⟩; have Out := hh_ (And.intro hz3 (And.intro hm3 hk3)); clear hz3 hm3 hk3))
        refine qX_ ox_ rfl ?_; exact ⟨C, zs, cap2, rfl, Out.out.1, Out.out.2.1, Out.out.2.2, G4.out.trans (hg.trans hg3)⟩
  · have d0 : (EI != 0) = true := by simpa using h0
    have eQ : Q = ([], EI) := by
      rw [Fin.out]; have h := HEE.out; split at h
      · rename_i h1; rw [if_pos h1, h]
      · rename_i h1; rw [if_neg h1, h, if_pos h0]
    go_wp2; refine qX_ ox_ rfl ?_; exact ⟨none, [], 0, by rw [eQ]; rfl, zu _ _, by rw [eQ]; rfl, zN.nil, G4.out⟩
