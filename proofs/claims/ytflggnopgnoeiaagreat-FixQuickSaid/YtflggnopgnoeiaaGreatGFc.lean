/- Parts of a proof. No condition. -/
import Derived.Test.YtflggnopgnoeiaaGreatGFb
import Derived.Test.YtflggnopgnoeiaaGreatGCr
set_option maxRecDepth 100000
set_option maxHeartbeats 4000000
set_option maxRecDepth 100000
set_option linter.unusedSimpArgs false
set_option linter.unusedVariables false
namespace Go
variable {p : Prop}
theorem vN_ (h : p := by simp [results, Tryz.results16, go_sem]) : p := h
theorem wu_ (h : p := by
 intro w1 hw1 hF K hK; obtain ⟨B, cap, hv⟩ := hF _ (List.mem_cons_self ..) ⟨_, rfl, by decide⟩; subst hv; go_simp; exact hK _ _ (za.refl _) ⟨B, cap, rfl⟩) : p := h
theorem wz_ (h : p := by
 intro w1 hw1 hF K hK; go_simp
 go_at_call 17
 refine (cl _ _ _).mono ?_; rintro en w' ⟨g, rfl, h1, hg'⟩; exact ⟨_, rfl, hK _ _ hg' ⟨g, rfl, h1⟩⟩) : p := h
theorem wH_ (h : p := by
 intro w1 hw1 hF K hK; have := hw1.size; go_simp; exact hK _ _ (GM.of uX_ ((za.refl _).al _)) ⟨_, rfl, by omega, zb.new _ _ _⟩) : p := h
theorem w9_ (h : p := by
 intro w1 hw1 hF K hK; obtain ⟨B, cap, hv⟩ := hF _ (List.mem_cons_of_mem _ (List.mem_cons_self ..)) ⟨_, rfl, by decide⟩; subst hv; go_simp; exact hK _ (za.refl _)) : p := h
theorem xR_ (h : p := by
 obtain ⟨x0, y0⟩ := h.rules; go_simp; exact hK _ _ (GM.st11 (jT 0) (Nat.le_refl _) h) (Yx (jT 0) h)) : p := h
theorem yf_ (h : p := by
 obtain ⟨B, ys, cap, e, hz, m, k⟩ := h; exact ⟨B, ys, cap, e, hg.zin hz, m, k⟩) : p := h
end Go
namespace Go.Proofs.YtflggnopgnoeiaaGreat
open Go.RowKit Go.Calm
/-! rising -/
def Kt (ds : List (List Z)) : Bool := ds.all (fun z => z.all (fun r => decide (1 <= r.2)))
theorem Td {ds : List (List Z)} (h : Kt ds = true) : ∀ z ∈ ds, xh z := fun z hz y hy => by
 have := of_decide_eq_true (List.all_eq_true.1 (List.all_eq_true.1 h z hz) y hy); omega
theorem UQ (k : Int) (w : World) : Calls Tryz.prog 59 #[.int .i64 k] w fun en w' => en = .returned (.agg #[.int .i64 2, .int .i64 0, .int .i64 0, .string ⟨#[]⟩, .int .i64 k, .slice none 0 0]) /\ za w w' := by
 go_enter Tryz.func59, Tryz.ntmps59; go_wp2; refine qX_ (by simp [results, Tryz.results59, go_sem] <;> rfl) rfl ?_; exact ⟨rfl, ze⟩
theorem Rw (ds : List S) (A : Option Addr) (c : Nat) (w : World) (h : MW w A ds c) :
  Calls Tryz.prog 16 #[.slice A ds.length c] w fun en w' => en = .returned (.bool (Kt (ds.map S.z))) /\ za w w' := by
 have H := hh_ h; have hlen := h.len; obtain ⟨R, hR⟩ : ∃ R, Kt (ds.map S.z) = R := ⟨_, rfl⟩
 rw [hR]; have HR := hh_ hR; clear h hR; go_enter Tryz.func16, Tryz.ntmps16; go_wp2
 go_loopw [9] (fun i wr => ∃ k : Nat, k <= ds.length /\ i = .int .i64 k /\ (∀ s ∈ ds.take k, ∀ x ∈ s.xs, 1 <= x.w) /\ za w wr) (fun i _ => ds.length - (intOf i).toNat)
 case atStart => exact ⟨0, Nat.zero_le _, rfl, (fun s hs => by simp at hs), za.refl _⟩
 case round =>
  obtain ⟨k, hk, rfl, hinv, hg⟩ := hrel; have xt := hh_ hinv; clear hinv
  by_cases hltk : k < ds.length
  ·obtain ⟨s, hsk⟩ : ∃ s, ds[k]? = some s := ⟨_, qQ_ hltk⟩
   obtain ⟨g1, o1, rfl, c1, hz⟩ := (H.out.grow hg).s k s hsk; have hls := (H.out.each s (qZ_ hsk)).ok.1; have HZ := hh_ hz; have HSK := hh_ hsk; clear hz hsk; go_wp2
   go_loopw [15] (fun i wx => ∃ j : Nat, j <= s.xs.length /\ i = .int .i64 j /\ (∀ x ∈ s.xs.take j, 1 <= x.w) /\ za wr wx) (fun i _ => s.xs.length - (intOf i).toNat)
   case atStart => exact ⟨0, Nat.zero_le _, rfl, (fun x hx => by simp at hx), za.refl _⟩
   case round =>
    obtain ⟨j, hj, rfl, hinv2, hg2⟩ := hrel; have Inv2 := hh_ hinv2; clear hinv2
    by_cases hltj : j < s.xs.length
    ·obtain ⟨x, hxj⟩ : ∃ x, s.xs[j]? = some x := ⟨_, qQ_ hltj⟩
     obtain ⟨g2, o2, e2, d1, d1', v1⟩ := (HZ.out.grow hg2) j x hxj; rw [e2]; have l2 := za.lt d1; have HXJ := hh_ hxj; clear hxj v1
     by_cases h1 : x.w < 1
     ·have q1 : decide (x.w < 1) = true := decide_eq_true h1
      have fin : R = false := by
       rw [<- HR.out, Bool.eq_false_iff]; intro hh; have h2 := List.all_eq_true.1 hh s.z (qZ9 (qZ_ HSK.out)); have h3 := of_decide_eq_true (List.all_eq_true.1 h2 (zh x) (qZ9 (qZ_ HXJ.out))); simp only [zh] at h3; omega
      have Fin := hh_ fin; clear h1 fin; go_wp2; exact qX_ (v := .bool false) vN_ rfl ⟨by rw [Fin.out], hg.trans (hg2.trans ze)⟩
     ·have q1 : decide (x.w < 1) = false := decide_eq_false h1; have H1 := hh_ h1; clear h1; go_wp2; go_roundw
      case rel => exact ⟨j + 1, by omega, by go_num, (fun y hy => by
       obtain ⟨q1, q2⟩ := qQ9.1 HXJ.out; rw [List.take_succ_eq_append_getElem q1, q2] at hy; rcases List.mem_append.1 hy with h | h
       ·exact Inv2.out y h
       ·simp at h; subst h; have := H1.out; omega), hg2.trans ze⟩
      case measure => exact u1_
    ·obtain rfl : j = s.xs.length := by omega
     have Al := hh_ (show ∀ x ∈ s.xs, 1 <= x.w from fun x hx => Inv2.out x (by rw [List.take_length]; exact hx)); go_wp2; go_roundw
     case rel => exact ⟨k + 1, by omega, by go_num, (fun y hy => by
      obtain ⟨q1, q2⟩ := qQ9.1 HSK.out; rw [List.take_succ_eq_append_getElem q1, q2] at hy; rcases List.mem_append.1 hy with h | h
      ·exact xt.out y h
      ·simp at h; subst h; exact Al.out), hg.trans hg2⟩
     case measure => exact u1_
  ·obtain rfl : k = ds.length := by omega
   have fin : R = true := by
    rw [<- HR.out]; unfold Kt; rw [List.all_eq_true]; intro z hz; obtain ⟨s, hs, rfl⟩ := List.mem_map.1 hz; rw [List.all_eq_true]; intro r hr; obtain ⟨x, hx, rfl⟩ := List.mem_map.1 hr; exact decide_eq_true (xt.out s (by rw [List.take_length]; exact hs) x hx)
   have Fin := hh_ fin; clear fin; go_wp2; exact qX_ (v := .bool true) vN_ rfl ⟨by rw [Fin.out], hg⟩
theorem JX (a b : Int) (w : World) : Calls Tryz.prog 17 #[.int .i64 a, .int .i64 b] w fun en w' => ∃ g, en = .returned (.agg #[.slice (some ⟨g, 0, none⟩) 2 2, .int .i64 1]) /\ DV w' g [nV a, nV b] /\ za w w' := by
 go_enter Tryz.func17, Tryz.ntmps17; go_wp2; refine qX_ (v := .agg #[.slice (some ⟨w.heap.size + 1, 0, none⟩) 2 2, .int .i64 1]) (by simp [results, Tryz.results17, go_sem] <;> rfl) rfl ?_; refine ⟨_, rfl, ?_, ((za.refl w).al _).al _⟩; have e : w.heap.size + 1 = (w.alloc (.cells #[.slice (some ⟨w.heap.size + 1, 0, none⟩) 2 2, .int .i64 1] 53)).heap.size := by simp
 have h := zb.new (w.alloc (.cells #[.slice (some ⟨w.heap.size + 1, 0, none⟩) 2 2, .int .i64 1] 53)) 33 #[.int .i64 3, .int .i64 a, .string ⟨#[]⟩, .int .i64 3, .int .i64 b, .string ⟨#[]⟩]; rw [<- e] at h; exact h
abbrev jT (n : Int) : PL := .mk 1 n .leaf zbk D0 none 0 0 (fun _ => .leaf)
theorem Rf (w : World) {n : Int} (hn : x7 n) : PX w (jT n) := .mk (Nat.zero_le _) (fun i hi => absurd hi (Nat.not_lt_zero _)) (fun i hi => absurd hi (Nat.not_lt_zero _)) .leaf (fun i x h => by simp at h) (fun i x h => by simp at h) ⟨by decide, by decide⟩ ⟨⟨by decide, by decide⟩, hn⟩
theorem Km {g n c : Nat} (h : n <= c) : yf (some ⟨g, 0, none⟩) n c := ⟨h, fun e => by cases e⟩
/-! is -/
def QPv (S : PL -> Prop) (v : Value) (W : World) : Prop := ∃ r : PL, S r /\ v = r.val /\ PX W r
def QS1 (S : PL -> Prop) (v : Value) (W : World) : Prop := ∃ (r : PL) (g : Nat), S r /\ PX W r /\ v = .slice (some ⟨g, 0, none⟩) 1 1 /\ zb W g 39 (pC r)
def QS2 (S T : PL -> Prop) (v : Value) (W : World) : Prop := ∃ (r s : PL) (g : Nat), S r /\ T s /\ PX W r /\ PX W s /\ v = .slice (some ⟨g, 0, none⟩) 2 2 /\ zb W g 39 (pC2 r s)
def QAl (lo : Nat) (v : Value) (W : World) : Prop := ∃ g : Nat, v = .pointer (some ⟨g, 0, none⟩) /\ lo <= g /\ zb W g 39 #[.int .i64 0, .int .i64 0, .int .i64 0, .int .i64 0, .int .i64 0, .string ⟨#[]⟩, .int .i64 0, .slice none 0 0, .slice none 0 0, .slice none 0 0, .slice none 0 0]
def QK2 (p q : PL) (v : Value) (W : World) : Prop := ∃ g : Nat, v = .slice (some ⟨g, 0, none⟩) 2 2 /\ zb W g 39 (pC2 p q)
def QPk (k : Int) (p q : PL) (v : Value) (W : World) : Prop := ∃ g : Nat, v = (zcS k .leaf (some ⟨g, 0, none⟩) 2 p q).val /\ zb W g 39 (pC2 p q)
theorem QK2.pers (p q : PL) : xQ (QK2 p q) := fun v w w' hg ⟨g, e, hb⟩ => ⟨g, e, hb.grow hg⟩
theorem QPk.pers (k : Int) (p q : PL) : xQ (QPk k p q) := fun v w w' hg ⟨g, e, hb⟩ => ⟨g, e, hb.grow hg⟩
theorem Ye {w : World} {g h : Nat} {t u : TypeId} {cs ds : Array Value} (h1 : zb w g t cs) (h2 : zb w h u ds) (hs : cs.size ≠ ds.size) : h ≠ g := fun e => by
 subst e; unfold zb at h1 h2; rw [h1] at h2; simp at h2; exact hs (by rw [h2.1])
theorem QPv.pers (S : PL -> Prop) : xQ (QPv S) := fun v w w' hg ⟨r, h, e, hp⟩ => ⟨r, h, e, hp.grow hg⟩
theorem QS1.pers (S : PL -> Prop) : xQ (QS1 S) := fun v w w' hg ⟨r, g, h, hp, e, hb⟩ => ⟨r, g, h, hp.grow hg, e, hb.grow hg⟩
theorem QS2.pers (S T : PL -> Prop) : xQ (QS2 S T) := fun v w w' hg ⟨r, s, g, h, h2, hp, hq, e, hb⟩ => ⟨r, s, g, h, h2, hp.grow hg, hq.grow hg, e, hb.grow hg⟩
theorem QAl.pers (lo : Nat) : xQ (QAl lo) := fun v w w' hg ⟨g, e, h, hb⟩ => ⟨g, e, h, hb.grow hg⟩
section
variable {ts : List (List Int)} {data : List (List Z)} {p q r s : PL} {x : E} {a b : List Z}
end
abbrev cE (k : Int) : E := .mk 2 ⟨0, 0, ⟨#[]⟩⟩ k none 0 0 (fun _ => .leaf)
abbrev N1 (g : Nat) (i j : Int) : E := .mk 6 ⟨0, 0, ⟨#[]⟩⟩ 0 (some ⟨g, 0, none⟩) 2 2 (fun n => if n = 0 then cE i else cE j)
abbrev jG (ge gk : Nat) : PL := zcq 4 0 (N1 ge 1 2) zbk D0 gk 2 (jT 1) (jT 0)
abbrev yF (gs gj ge gk : Nat) : PL := zcg 3 0 .leaf ⟨some ⟨gs, 0, none⟩, [cE 0, cE 3], 2⟩ D0 gj 1 (jG ge gk)
abbrev FU (i j : Int) : Array Value := #[.int .i64 2, .int .i64 0, .int .i64 0, .string ⟨#[]⟩, .int .i64 i, .slice none 0 0, .int .i64 2, .int .i64 0, .int .i64 0, .string ⟨#[]⟩, .int .i64 j, .slice none 0 0]
theorem Gk (w : World) {k : Int} (hk : x7 k) : EX w (cE k) := .mk (Nat.zero_le _) (fun i hi => absurd hi (Nat.not_lt_zero _)) (fun i hi => absurd hi (Nat.not_lt_zero _)) zcr ⟨⟨by decide, by decide⟩, hk⟩
theorem R0 {w : World} {g : Nat} {i j : Int} (h : zb w g 35 (FU i j)) (n : Nat) (hn : n < 2) : zF w g (n * 6) (if n = 0 then cE i else cE j) := by
 have hc : ∀ m v, (FU i j)[m]? = some v -> w.cell? ⟨g, m, none⟩ = some v := fun m v hv => h.cells hv
 rcases Nat.lt_or_ge n 1 with h1 | h1
 ·obtain rfl : n = 0 := by omega
  exact ⟨hc 0 _ rfl, hc 1 _ rfl, hc 2 _ rfl, hc 3 _ rfl, hc 4 _ rfl, hc 5 _ rfl⟩
 ·obtain rfl : n = 1 := by omega
  exact ⟨hc 6 _ rfl, hc 7 _ rfl, hc 8 _ rfl, hc 9 _ rfl, hc 10 _ rfl, hc 11 _ rfl⟩
theorem zb0 {w : World} {g : Nat} {i j : Int} (hi : x7 i) (hj : x7 j) (h : zb w g 35 (FU i j)) : EX w (N1 g i j) := .mk uW_ (fun k hk => ⟨g, 0, rfl, by have := R0 h k hk; simpa using this⟩) (fun k hk => by
 show EX w (if k = 0 then cE i else cE j); split
 ·exact Gk w hi
 ·exact Gk w hj) zcr ⟨⟨by decide, by decide⟩, ⟨by decide, by decide⟩⟩
theorem zaX {w : World} {g : Nat} {i j : Int} (hi : x7 i) (hj : x7 j) (h : zb w g 35 (FU i j)) : WW w (some ⟨g, 0, none⟩) [cE i, cE j] := fun k x hk => by
 match k, hk with
 | 0, hk => simp at hk; subst hk; exact ⟨g, 0, rfl, by have := R0 h 0 uX_; simpa using this, Gk w hi⟩
 | 1, hk => simp at hk; subst hk; exact ⟨g, 0, rfl, by have := R0 h 1 uX_; simpa using this, Gk w hj⟩
def PCs (i j : Int) (v : Value) (W : World) : Prop := ∃ g : Nat, v = .slice (some ⟨g, 0, none⟩) 2 2 /\ zb W g 35 (FU i j)
def PCq (i j : Int) (v : Value) (W : World) : Prop := ∃ g : Nat, v = (N1 g i j).val /\ zb W g 35 (FU i j)
def PCj (v : Value) (W : World) : Prop := ∃ ge gk : Nat, v = (jG ge gk).val /\ zb W ge 35 (FU 1 2) /\ zb W gk 39 (pC2 (jT 1) (jT 0))
theorem PCs.pers (i j : Int) : xQ (PCs i j) := fun v w w' hg ⟨g, e, hb⟩ => ⟨g, e, hb.grow hg⟩
theorem PCq.pers (i j : Int) : xQ (PCq i j) := fun v w w' hg ⟨g, e, hb⟩ => ⟨g, e, hb.grow hg⟩
theorem PCj.pers : xQ PCj := fun v w w' hg ⟨g, k, e, hb, hc⟩ => ⟨g, k, e, hb.grow hg, hc.grow hg⟩
def PC3 (b : Nat) (i j : Int) (v : Value) (W : World) : Prop := ∃ g : Nat, v = .slice (some ⟨g, 0, none⟩) 2 2 /\ b < g /\ zb W g 35 (FU i j)
def PC4 (b : Nat) (p : PL) (v : Value) (W : World) : Prop := ∃ g : Nat, v = .slice (some ⟨g, 0, none⟩) 1 1 /\ b < g /\ zb W g 39 (pC p)
def PC5 (b ge gk : Nat) (v : Value) (W : World) : Prop := ∃ gs gj : Nat, v = (yF gs gj ge gk).val /\ b < gs /\ b < gj /\ zb W gs 35 (FU 0 3) /\ zb W gj 39 (pC (jG ge gk))
theorem S5 (w : World) (g : Nat) (r : PL) : Below g w (st11 w g r) := ((((((((((((Below.refl g w).setCell (Nat.le_refl _) _).setCell (Nat.le_refl _) _).setCell (Nat.le_refl _) _).setCell (Nat.le_refl _) _).setCell (Nat.le_refl _) _).setCell (Nat.le_refl _) _).setCell (Nat.le_refl _) _).setCell (Nat.le_refl _) _).setCell (Nat.le_refl _) _).setCell (Nat.le_refl _) _).setCell (Nat.le_refl _) _)
theorem GM.st11 {base b0 : Nat} {w : World} {t : TypeId} {a0 a1 a2 a3 a4 a5 a6 a7 a8 a9 a10 : Value} (r : PL) (hb : base <= b0) (h : zb w b0 t #[a0, a1, a2, a3, a4, a5, a6, a7, a8, a9, a10]) : GM base (M1 b0 (.cells (pC r) t (0, 0))) w (st11 w b0 r) := by
 refine GM.put hb uY_ (S5 w b0 r) (fun g hg => xw w b0 r hg) (Yx r h)
abbrev z11 : Array Value := #[.int .i64 0, .int .i64 0, .int .i64 0, .int .i64 0, .int .i64 0, .string ⟨#[]⟩, .int .i64 0, .slice none 0 0, .slice none 0 0, .slice none 0 0, .slice none 0 0]
theorem WG (w : World) : Calls Tryz.prog 18 #[] w fun en w' => ∃ ge gk gs gj : Nat, en = .returned (.tuple #[(jT 0).val, (yF gs gj ge gk).val]) /\ PX w' (yF gs gj ge gk) /\ za w w' := by
 have cc := fun k W => UQ k W
 go_enter Tryz.func18, Tryz.ntmps18; go_upto_region 2 with fail
 refine zc (fun X => zb X w.heap.size 39 z11 /\ zb X (w.heap.size + 1) 39 z11 /\ zb X (w.heap.size + 2) 39 (pC (jT 0)) /\ za w X) ?_ ?_
 ·exact ⟨((zb.new w _ _).al _).al _, (zb.new' _ _ _ uY_).al _, zb.new' _ _ _ uY_, (((za.refl w).al _).al _).al _⟩
 rintro X ⟨B0, B1, B2, G⟩; generalize hb0 : w.heap.size = b0 at *; have H2 := hh_ B2; apply wp_region_calm 9 uQ_ uQ_
 case h' =>
  intro Q0 hQ0; simp only [List.take_succ_cons, List.take_zero]
  repeat ((first | ((first | apply calm_p rfl | apply zu rfl rfl rfl); case h1 => (intro w1 hw1 hF K hK; obtain ⟨x2, y2⟩ := (H2.out.grow hw1).rules; go_simp; first | exact hK _ (za.refl _) | (go_at_call 59; ((with_reducible refine (cc _ _).mono ?_); rintro e w' ⟨rfl, hg⟩; exact ⟨_, rfl, hK _ hg⟩)))) | apply zw rfl rfl rfl rfl); intro K hK; go_simp; apply hK; clear hK K)
  apply calm_fp (PCs 1 2) rfl
  case h1 => exact wa_
  intro v7 K hK; go_simp; apply hK; clear hK K; apply calm_fp (PCq 1 2) rfl
  case h1 =>
   intro w1 hw1 hF K hK; obtain ⟨g, hv, h1⟩ := hF _ (List.mem_cons_self ..) ⟨_, rfl, by decide⟩; subst hv; go_simp; exact hK _ _ (za.refl _) ⟨g, rfl, h1⟩
  intro v8 K hK; go_simp; apply hK; clear hK K
  repeat ((first | ((first | apply calm_p rfl | apply zu rfl rfl rfl); case h1 => (intro w1 hw1 hF K hK; obtain ⟨x2, y2⟩ := (H2.out.grow hw1).rules; go_simp; first | exact hK _ (za.refl _))) | apply zw rfl rfl rfl rfl); intro K hK; go_simp; apply hK; clear hK K)
  apply calm_fp (QK2 (jT 1) (jT 0)) rfl
  case h1 => exact wa_
  intro v11 K hK; go_simp; apply hK; clear hK K; apply calm_fp PCj rfl
  case h1 =>
   intro w1 hw1 hF K hK; obtain ⟨gk, hv, h1⟩ := hF _ (List.mem_cons_self ..) ⟨_, rfl, by decide⟩; obtain ⟨ge, hv2, h2⟩ := hF _ (List.mem_cons_of_mem _ (List.mem_cons_self ..)) ⟨_, rfl, by decide⟩; subst hv hv2; go_simp; exact hK _ _ (za.refl _) ⟨ge, gk, rfl, h2, h1⟩
  intro v12 K hK; go_simp; apply hK; clear hK K; apply calm_fp (QAl (b0 + 3)) rfl
  case h1 =>
   intro w1 hw1 hF K hK; go_simp; have := hw1.size; have := H2.out.lt; exact hK _ _ ((za.refl _).al _) ⟨_, rfl, by omega, zb.new _ _ _⟩
  intro v3 K hK; go_simp; apply hK; clear hK K; refine calm_nil ?_; intro w1 hw1 hF; apply hQ0; clear hQ0; simp only [List.drop_succ_cons, List.drop_zero]; obtain ⟨g3, hv3, hl3, h3⟩ := hF _ (List.mem_cons_self ..); obtain ⟨ge, gk, hv12, h12a, h12b⟩ := hF _ (List.mem_cons_of_mem _ (List.mem_cons_self ..)); subst hv3 hv12; clear hF; have H3 := hh_ h3; have GX := G.trans hw1; obtain ⟨x3, y3⟩ := h3.rules; go_wp2; have ne1 : ge ≠ g3 := fun e => by subst e; exact absurd (xk h12a h3) uW_
  have ne2 := Ye h12b h3 uY_; refine zc (fun Y => zb Y b0 39 z11 /\ zb Y (b0 + 1) 39 z11 /\ zb Y (b0 + 2) 39 (pC (jT 0)) /\ zb Y g3 39 (pC (jG ge gk)) /\ zb Y ge 35 (FU 1 2) /\ zb Y gk 39 (pC2 (jT 1) (jT 0)) /\ za w Y) ⟨(xw w1 g3 (jG ge gk) uX_).trans (B0.grow hw1), (xw w1 g3 (jG ge gk) uX_).trans (B1.grow hw1), (xw w1 g3 (jG ge gk) uX_).trans (B2.grow hw1), Yx (jG ge gk) h3, (xw w1 g3 (jG ge gk) ne1).trans h12a, (xw w1 g3 (jG ge gk) (Ne.symm ne2)).trans h12b, Wd GX uX_ (jG ge gk)⟩ ?_; clear h3 h12a h12b H3 GX x3 y3 ne1 ne2 hw1 B0 B1 B2 H2 G; rintro Y ⟨B0, B1, B2, B3, B4, B5, G⟩; have H0 := hh_ B0; have H1 := hh_ B1; have H2 := hh_ B2; have H3 := hh_ B3; have n4 : ge ≠ b0 := fun e => by subst e; exact absurd (xk B4 B0) uW_
  have n5 := Ye B5 B0 uY_; have n6 : ge ≠ b0 + 1 := fun e => by subst e; exact absurd (xk B4 B1) uW_
  have n7 := Ye B5 B1 uY_; have H4 := hh_ (And.intro B4 B5); have lY := B2.lt; clear B0 B1 B2 B3 B4 B5; apply CalmR.wp_region_calm (GM.isR (base := b0) (M1.abs b0 (.cells (pC (jT 0)) 39 (0, 0)))) 8 uQ_ uQ_
  case h' =>
   intro Q0 hQ0; simp only [List.take_succ_cons, List.take_zero]
   repeat ((apply CalmR.calm_p rfl; case h1 => (intro w1 hw1 hF K hK; obtain ⟨x2, y2⟩ := (hw1.other H2.out uX_).rules; go_simp; first | exact hK _ (GM.refl _) | (go_at_call 59; ((with_reducible refine (cc _ _).mono ?_); rintro e w' ⟨rfl, hg⟩; exact ⟨_, rfl, hK _ (GM.of (by have := hw1.size; omega) hg)⟩)))); intro K hK; go_simp; apply hK; clear hK K)
   apply CalmR.calm_fp (PC3 (b0 + 2) 0 3) rfl
   case h1 => exact wH_
   intro v16 K hK; go_simp; apply hK; clear hK K
   repeat ((apply CalmR.calm_p rfl; case h1 => (intro w1 hw1 hF K hK; obtain ⟨x2, y2⟩ := (hw1.other H3.out uX_).rules; go_simp; exact hK _ (GM.refl _))); intro K hK; go_simp; apply hK; clear hK K)
   apply CalmR.calm_fp (PC4 (b0 + 2) (jG ge gk)) rfl
   case h1 => exact wH_
   intro v18 K hK; go_simp; apply hK; clear hK K; apply CalmR.calm_fp (PC5 (b0 + 2) ge gk) rfl
   case h1 =>
    intro w1 hw1 hF K hK; obtain ⟨gj, hv, hl1, h1⟩ := hF _ (List.mem_cons_self ..) ⟨_, rfl, by decide⟩; obtain ⟨gs, hv2, hl2, h2⟩ := hF _ (List.mem_cons_of_mem _ (List.mem_cons_self ..)) ⟨_, rfl, by decide⟩; subst hv hv2; go_simp; exact hK _ _ (GM.refl _) ⟨gs, gj, rfl, hl2, hl1, h2, h1⟩
   intro v19 K hK; go_simp; apply hK; clear hK K; apply CalmR.calm_fp (fun _ W => zb W b0 39 (pC (jT 0))) rfl
   case h1 =>
    intro w1 hw1 hF K hK; rcases hw1.or H0.out with h | h
    ·exact xR_
    ·exact xR_
   intro v99 K hK; go_simp; apply hK; clear hK K; refine CalmR.calm_nil ?_; intro w1 hw1 hF; apply hQ0; clear hQ0; simp only [List.drop_succ_cons, List.drop_zero]; have hf0 := hF _ (List.mem_cons_self ..); obtain ⟨gs, gj, hv, hl1, hl2, h1, h2⟩ := hF _ (List.mem_cons_of_mem _ (List.mem_cons_self ..)); subst hv; clear hF; have b1 := hw1.other H1.out uX_; have b4 := hw1.other H4.out.1 n4; have b5 := hw1.other H4.out.2 (Ne.symm n5); have z0 : zb (st11 w1 (b0 + 1) (yF gs gj ge gk)) b0 39 (pC (jT 0)) := (xw w1 (b0 + 1) _ uX_).trans hf0; have z1 := Yx (yF gs gj ge gk) b1; have z2 := (xw w1 (b0 + 1) (yF gs gj ge gk) (fun e => by subst e; exact absurd (xk h1 b1) uW_)).trans h1; have z3 := (xw w1 (b0 + 1) (yF gs gj ge gk) uX_).trans h2; have z4 := (xw w1 (b0 + 1) (yF gs gj ge gk) n6).trans b4; have z5 := (xw w1 (b0 + 1) (yF gs gj ge gk) (Ne.symm n7)).trans b5; have z6 : za w (st11 w1 (b0 + 1) (yF gs gj ge gk)) := Wd (GM.grow G uX_ hw1) uX_ _; have ZZ := hh_ (And.intro z2 (And.intro z3 (And.intro z4 (And.intro z5 z6)))); obtain ⟨xb, yb⟩ := b1.rules; obtain ⟨xa, ya⟩ := z0.rules; obtain ⟨xc, yc⟩ := z1.rules; clear hf0 h1 h2 b1 b4 b5 z0 z1 z2 z3 z4 z5 z6 H0 H1 H2 H3 H4 n4 n5 n6 n7 hl1 hl2; go_wp2; refine qX_ (v := .tuple #[(jT 0).val, (yF gs gj ge gk).val]) (by simp [results, Tryz.results18, go_sem, xa, xc] <;> rfl) rfl ?_; obtain ⟨q2, q3, q4, q5, q6⟩ := ZZ.out; refine ⟨ge, gk, gs, gj, rfl, ?_, q6⟩; exact zbE 1 q3 ⟨.leaf, zaX ⟨by decide, by decide⟩ ⟨by decide, by decide⟩ q2, fun i x h => by simp at h, ⟨by show 2 <= _; decide, by decide⟩, ⟨by decide, by decide⟩, ⟨by decide, by decide⟩⟩ (zbF 2 q5 ⟨zb0 ⟨by decide, by decide⟩ ⟨by decide, by decide⟩ q4, fun i x h => by simp at h, fun i x h => by simp at h, by decide, ⟨by decide, by decide⟩, ⟨by decide, by decide⟩⟩ (Rf _ ⟨by decide, by decide⟩) (Rf _ ⟨by decide, by decide⟩))
  case hp' => exact ⟨fun v w w' hg ⟨g, e, hn, hb⟩ => ⟨g, e, hn, hg.other hb uX_⟩, fun v w w' hg ⟨g, e, hn, hb⟩ => ⟨g, e, hn, hg.other hb uX_⟩, fun v w w' hg ⟨g, k, e, hn, hn2, hb, hc⟩ => ⟨g, k, e, hn, hn2, hg.other hb uX_, hg.other hc uX_⟩, fun v w w' hg h => hg.fin h, trivial⟩
 case hp' => exact ⟨PCs.pers _ _, PCq.pers _ _, QK2.pers _ _, PCj.pers, QAl.pers _, trivial⟩
theorem Ux (gs gj ge gk : Nat) : Zs [[3, 3]] (jT 0) (yF gs gj ge gk) [[([nV 1, nV 2], 1), ([nV 2, nV 3], 1)]] = ([([nV 1, nV 2], 1), ([nV 1, nV 3], 1), ([nV 2, nV 3], 1)], 2, 0) := by kernel_rfl
abbrev lk1 (g : Nat) : I := ⟨some ⟨g, 0, none⟩, [nV 1, nV 2], 2, 1⟩
abbrev lk2 (g : Nat) : I := ⟨some ⟨g, 0, none⟩, [nV 2, nV 3], 2, 1⟩
def A6 (v : Value) (W : World) : Prop := ∃ gt gi : Nat, v = .slice (some ⟨gt, 0, none⟩) 1 1 /\ zb W gt 22 #[.slice (some ⟨gi, 0, none⟩) 2 2] /\ zb W gi 3 #[.int .i64 3, .int .i64 3]
def A7 (v : Value) (W : World) : Prop := ∃ gi : Nat, v = .slice (some ⟨gi, 0, none⟩) 2 2 /\ zb W gi 3 #[.int .i64 3, .int .i64 3]
def A8 (row : List V) (v : Value) (W : World) : Prop := ∃ g : Nat, v = .agg #[.slice (some ⟨g, 0, none⟩) 2 2, .int .i64 1] /\ DV W g row
def A9 (v : Value) (W : World) : Prop := ∃ gz g1 g2 : Nat, v = .slice (some ⟨gz, 0, none⟩) 2 2 /\ DB W gz [lk1 g1, lk2 g2] /\ DV W g1 [nV 1, nV 2] /\ DV W g2 [nV 2, nV 3]
def A5 (v : Value) (W : World) : Prop := ∃ gs gz g1 g2 : Nat, v = .slice (some ⟨gs, 0, none⟩) 1 1 /\ zb W gs 25 #[.slice (some ⟨gz, 0, none⟩) 2 2] /\ DB W gz [lk1 g1, lk2 g2] /\ DV W g1 [nV 1, nV 2] /\ DV W g2 [nV 2, nV 3]
def A3 (v : Value) (_ : World) : Prop := ∃ (B : Option Addr) (cap : Nat), v = .tuple #[.slice B 3 cap, .int .i64 2, .int .i64 0]
def A4 (v : Value) (_ : World) : Prop := ∃ (B : Option Addr) (cap : Nat), v = .slice B 3 cap
theorem A6.pers : xQ A6 := fun v w w' hg ⟨a, b, e, h1, h2⟩ => ⟨a, b, e, h1.grow hg, h2.grow hg⟩
theorem A7.pers : xQ A7 := fun v w w' hg ⟨a, e, h1⟩ => ⟨a, e, h1.grow hg⟩
theorem A8.pers (row : List V) : xQ (A8 row) := fun v w w' hg ⟨a, e, h1⟩ => ⟨a, e, zb.grow h1 hg⟩
theorem A9.pers : xQ A9 := fun v w w' hg ⟨a, b, c, e, h1, h2, h3⟩ => ⟨a, b, c, e, h1.grow hg, zb.grow h2 hg, zb.grow h3 hg⟩
theorem A5.pers : xQ A5 := fun v w w' hg ⟨a, b, c, d, e, h0, h1, h2, h3⟩ => ⟨a, b, c, d, e, h0.grow hg, h1.grow hg, zb.grow h2 hg, zb.grow h3 hg⟩
theorem A3.pers : xQ A3 := fun v w w' hg h => h
theorem A4.pers : xQ A4 := fun v w w' hg h => h
theorem Gy {gt gi gs gz g1 g2 ps pj pe pk : Nat} {W : World} (h1 : zb W gt 22 #[.slice (some ⟨gi, 0, none⟩) 2 2]) (h2 : zb W gi 3 #[.int .i64 3, .int .i64 3]) (h3 : zb W gs 25 #[.slice (some ⟨gz, 0, none⟩) 2 2]) (h4 : DB W gz [lk1 g1, lk2 g2]) (h5 : DV W g1 [nV 1, nV 2]) (h6 : DV W g2 [nV 2, nV 3]) (hp : PX W (yF ps pj pe pk)) :
  Calls Tryz.prog 10 #[.slice (some ⟨gt, 0, none⟩) 1 1, (jT 0).val, (yF ps pj pe pk).val, .slice (some ⟨gs, 0, none⟩) 1 1] W fun en w' => (∃ (B : Option Addr) (cap : Nat), en = .returned (.tuple #[.slice B 3 cap, .int .i64 2, .int .i64 0])) /\ za W w' := by
 have hzi : xe W (some ⟨gz, 0, none⟩) [lk1 g1, lk2 g2] := zbS h4 (fun x hx => by
  rcases List.mem_cons.1 hx with rfl | hx
  ·exact h5.vsl
  ·simp at hx; subst hx; exact h6.vsl)
 have hin : In W ⟨some ⟨gz, 0, none⟩, [lk1 g1, lk2 g2], 2⟩ := ⟨hzi, Km uY_, by show (2 : Nat) <= _; decide, fun x hx => by
  rcases List.mem_cons.1 hx with rfl | hx
  ·simp
  ·simp at hx; subst hx; simp⟩
 have h := Nf [⟨some ⟨gi, 0, none⟩, [3, 3], 2⟩] (some ⟨gt, 0, none⟩) 1 (jT 0) (yF ps pj pe pk) [⟨some ⟨gz, 0, none⟩, [lk1 g1, lk2 g2], 2⟩] (some ⟨gs, 0, none⟩) 1 W (show 1 <= zp by decide) (fun t ht => by simp at ht; subst ht; show 2 <= zp; decide) (fun i s hs => by
  match i, hs with
  | 0, hs =>
   simp at hs; subst hs
   exact ⟨gt, 0, rfl, h1.cells rfl, fun i x hx => by
    match i, hx with
    | 0, hx => simp at hx; subst hx; exact ⟨gi, 0, rfl, h2.cells rfl⟩
    | 1, hx => simp at hx; subst hx; exact ⟨gi, 0, rfl, h2.cells rfl⟩⟩) (Rf W ⟨by decide, by decide⟩) hp
  ⟨fun i s hs' => by
   match i, hs' with
   | 0, hs' => simp at hs'; subst hs'; exact ⟨gs, 0, rfl, h3.cells rfl, hzi⟩, fun s hs' => by simp at hs'; subst hs'; exact hin, Km uY_, by simp⟩
 have e : Zs (zg [⟨some ⟨gi, 0, none⟩, [3, 3], 2⟩]) (jT 0) (yF ps pj pe pk) ([⟨some ⟨gz, 0, none⟩, [lk1 g1, lk2 g2], 2⟩].map S.z) = _ := Ux ps pj pe pk; rw [e] at h; refine h.mono ?_; rintro en w' ⟨B, ys, cap, rfl, _, hm, _, hg⟩; have hl : ys.length = 3 := by have := congrArg List.length hm; simpa using this
 rw [hl]; exact ⟨⟨B, cap, rfl⟩, hg⟩
theorem Gd (w : World) : Calls Tryz.prog 12 #[] w fun en w' => en = .returned (.bool true) /\ za w w' := by
 have cl := fun a b W => JX a b W
 have cp := WG w; go_enter Tryz.func12, Tryz.ntmps12; go_upto_region 2 with (go_at_call 18; ((with_reducible refine cp.mono ?_); rintro en w1 ⟨ge, gk, gs, gj, rfl, hp, hg⟩)); refine zc (fun X => zb X w1.heap.size 39 (pC (jT 0)) /\ zb X (w1.heap.size + 1) 39 (pC (yF gs gj ge gk)) /\ PX X (yF gs gj ge gk) /\ za w X) ?_ ?_
 ·exact ⟨(zb.new w1 _ _).al _, zb.new' _ _ _ uY_, hp.grow (((za.refl w1).al _).al _), (hg.al _).al _⟩
 rintro X ⟨B0, B1, P, G⟩; have H0 := hh_ B0; have H1 := hh_ B1; have HP := hh_ P; clear B0 B1 P hp; apply wp_region_calm 16 uQ_ uQ_
 case h' =>
  intro Q0 hQ0; simp only [List.take_succ_cons, List.take_zero]; apply calm_fp A7 rfl
  case h1 => exact wa_
  intro v11 K hK; go_simp; apply hK; clear hK K; apply calm_fp A6 rfl
  case h1 =>
   intro w1 hw1 hF K hK; obtain ⟨gi, hv, h1⟩ := hF _ (List.mem_cons_self ..) ⟨_, rfl, by decide⟩; subst hv; go_simp; exact hK _ _ ((za.refl _).al _) ⟨_, gi, rfl, zb.new _ _ _, h1.al _⟩
  intro v12 K hK; go_simp; apply hK; clear hK K
  repeat ((first | ((first | apply calm_p rfl | apply zu rfl rfl rfl); case h1 => (intro w1 hw1 hF K hK; obtain ⟨x0, y0⟩ := (H0.out.grow hw1).rules; obtain ⟨x1, y1⟩ := (H1.out.grow hw1).rules; go_simp; first | exact hK _ (za.refl _))) | apply zw rfl rfl rfl rfl); intro K hK; go_simp; apply hK; clear hK K)
  apply calm_fp (A8 [nV 1, nV 2]) rfl
  case h1 => exact wz_
  intro v15 K hK; go_simp; apply hK; clear hK K; apply calm_fp (A8 [nV 2, nV 3]) rfl
  case h1 => exact wz_
  intro v16 K hK; go_simp; apply hK; clear hK K; apply calm_fp A9 rfl
  case h1 =>
   intro w1 hw1 hF K hK; obtain ⟨g2, hv, h2⟩ := hF _ (List.mem_cons_self ..) ⟨_, rfl, by decide⟩; obtain ⟨g1, hv1, h1⟩ := hF _ (List.mem_cons_of_mem _ (List.mem_cons_self ..)) ⟨_, rfl, by decide⟩; subst hv hv1; go_simp; exact hK _ _ ((za.refl _).al _) ⟨_, g1, g2, rfl, zb.new _ _ _, zb.al h1 _, zb.al h2 _⟩
  intro v17 K hK; go_simp; apply hK; clear hK K; apply calm_fp A5 rfl
  case h1 =>
   intro w1 hw1 hF K hK; obtain ⟨gz, g1, g2, hv, hz, h1, h2⟩ := hF _ (List.mem_cons_self ..) ⟨_, rfl, by decide⟩; subst hv; go_simp; exact hK _ _ ((za.refl _).al _) ⟨_, gz, g1, g2, rfl, zb.new _ _ _, zb.al hz _, zb.al h1 _, zb.al h2 _⟩
  intro v18 K hK; go_simp; apply hK; clear hK K; apply calm_fp A3 rfl
  case h1 =>
   intro w1 hw1 hF K hK; obtain ⟨gs, gz, g1, g2, hv, hs, hz, h1, h2⟩ := hF _ (List.mem_cons_self ..) ⟨_, rfl, by decide⟩; obtain ⟨gt, gi, hv2, ht, hi⟩ := hF _ (List.mem_cons_of_mem _ (List.mem_cons_of_mem _ (List.mem_cons_of_mem _ (List.mem_cons_of_mem _ (List.mem_cons_self ..))))) ⟨_, rfl, by decide⟩; subst hv hv2; go_simp
   go_at_call 10
   refine (Gy ht hi hs hz h1 h2 (HP.out.grow hw1)).mono ?_; rintro en w' ⟨⟨B, cap, rfl⟩, hg'⟩; exact ⟨_, rfl, hK _ _ hg' ⟨B, cap, rfl⟩⟩
  intro v19 K hK; go_simp; apply hK; clear hK K; apply calm_fp A3 rfl
  case h1 => exact wu_
  intro v10 K hK; go_simp; apply hK; clear hK K; apply calm_fp A4 rfl
  case h1 => exact wu_
  intro v20 K hK; go_simp; apply hK; clear hK K; apply calm_p rfl
  case h1 => exact w9_
  intro K hK; go_simp; apply hK; clear hK K; apply calm_p rfl
  case h1 => exact w9_
  intro K hK; go_simp; apply hK; clear hK K; apply calm_fp A4 rfl
  case h1 => exact wu_
  intro v3 K hK; go_simp; apply hK; clear hK K
  repeat ((first | ((first | apply calm_p rfl | apply zu rfl rfl rfl); case h1 => (intro w1 hw1 hF K hK; go_simp; first | exact hK _ (za.refl _))) | apply zw rfl rfl rfl rfl); intro K hK; go_simp; apply hK; clear hK K)
  refine calm_nil ?_; intro w1 hw1 hF; apply hQ0; clear hQ0; simp only [List.drop_succ_cons, List.drop_zero]; obtain ⟨B, cap, hv⟩ := hF _ (List.mem_cons_self ..); subst hv; clear hF; go_wp2; refine qX_ (by simp [results, Tryz.results12, go_sem] <;> rfl) rfl ?_; exact ⟨rfl, G.trans hw1⟩
 case hp' => exact ⟨A7.pers, A6.pers, A8.pers _, A8.pers _, A9.pers, A5.pers, A3.pers, A3.pers, A4.pers, A4.pers, trivial⟩
theorem za4 {ts : List (List Int)} {p q : PL} {data : List (List Z)} {z : List Z} {m : Int} (h : Zs ts p q data = (z, m, 0)) : D1 z := by
 obtain ⟨_, f, g, _, h2, h3⟩ := Dl h; obtain ⟨_, hz, _⟩ := L7 50 1 g (jb h2).1 h3; exact hz
def fTZ (c z : Value) (t : TypeId) : Value := if t = 22 then c else z
theorem LG (c z : Value) : fTZ c z 22 = c := by unfold fTZ; rw [if_pos rfl]
def E0w (t : TypeId) (base : Nat) (v : Value) (W : World) : Prop := ∃ g : Nat, v = .slice (some ⟨g, 0, none⟩) 0 0 /\ base <= g /\ zb W g t #[]
def Cd (t : TypeId) (y v : Value) (W : World) : Prop := ∃ g : Nat, v = .slice (some ⟨g, 0, none⟩) 1 1 /\ zb W g t #[y]
section
variable {base n : Nat} {f : TypeId -> Value} {w w' : World}
theorem E0w.keep {t : TypeId} {v : Value} (h : E0w t base v w) (hg : GM base (RO n f) w w') : E0w t base v w' := by
 obtain ⟨g, e, hl, hb⟩ := h; obtain ⟨o', h1, h2⟩ := hg.blk g _ hb; rcases h2 with rfl | ⟨t2, cs2, ds, e1, rfl, k1, k2, k3, k4, k5⟩
 ·exact ⟨g, e, hl, h1⟩
 ·simp only [Obj.cells.injEq] at e1; obtain ⟨e2, rfl, _⟩ := e1; obtain rfl : cs2 = [] := by have := congrArg Array.toList e2; simpa using this.symm
  obtain rfl : ds = [] := List.length_eq_zero_iff.1 k3; exact ⟨g, e, hl, h1⟩
theorem Cd.keep {t : TypeId} {v : Value} (h : Cd t (f t) v w) (hg : GM base (RO n f) w w') : Cd t (f t) v w' := by
 obtain ⟨g, e, hb⟩ := h; exact ⟨g, e, hg.one hb⟩
theorem GT.keep {r : List Z × Int} {v : Value} (h : GT r v w) (hg : GM base (RO n f) w w') : GT r v w' := yf_
theorem GS.keep {r : List Z × Int} {v : Value} (h : GS r v w) (hg : GM base (RO n f) w w') : GS r v w' := yf_
end
theorem Fg {ts : List (L2 Int)} {At : Option Addr} {W : World} (h : WO W At ts) (nt : Nat) : (∃ c, Value.slice At ts.length nt = .slice none 0 c /\ ts.map vL = []) \/ ∃ ad c, Value.slice At ts.length nt = .slice (some ad) (ts.map vL).length c /\ ∀ (j : Nat) u, (ts.map vL)[j]? = some u -> W.cell? (ad.add j) = some u := by
 cases At with
 | none =>
  have : ts = [] := by
   match ts, h with
   | [], _ => rfl
   | t :: ts, h => exact absurd (h 0 t rfl) (by rintro ⟨_, _, e, _⟩; cases e)
  subst this; exact .inl ⟨nt, rfl, rfl⟩
 | some ad =>
  refine .inr ⟨ad, nt, by simp, fun j u hj => ?_⟩; rw [List.getElem?_map, Option.map_eq_some_iff] at hj; obtain ⟨s, hs, rfl⟩ := hj; obtain ⟨g, o, e, c, _⟩ := h j s hs; cases e; rw [zQ]; exact c
theorem zbH {t : TypeId} {α : Type} {base : Nat} {L : List α} {F : α -> Value} {g : Nat} {cs : List Value} {W : World} (hB : zb W g t cs.toArray) (hc : ∀ i, i < (L.map F).length -> cs[i]? = (L.map F)[i]?) {i : Nat} {s : α} (hs : L[i]? = some s) : W.cell? ⟨g, 0 + i, none⟩ = some (F s) := by
 have hi : i < (L.map F).length := by have := (qQ9.1 hs).1; simpa using this
 rw [Nat.zero_add, hB.cell, List.getElem?_toArray, hc i hi, List.getElem?_map, hs]; rfl
