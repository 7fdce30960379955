/- Parts of a proof. No condition. -/
import Derived.Test.YtflggnopgnoeiaaGreatGQb
set_option maxRecDepth 100000
set_option maxHeartbeats 8000000
set_option maxRecDepth 100000
set_option linter.unusedSimpArgs false
set_option linter.unusedVariables false
namespace Go
variable {p : Prop}
theorem o6_ (h : p := by simp [results, Tryz.results44, go_sem] <;> rfl) : p := h
theorem o7_ (h : p := by simp [results, Tryz.results40, go_sem] <;> rfl) : p := h
theorem o8_ (h : p := by simp [results, Tryz.results43, go_sem] <;> rfl) : p := h
theorem o9_ (h : p := by simp [results, Tryz.results10, go_sem] <;> rfl) : p := h
theorem vL_ (h : p := by simp [results, Tryz.results92, go_sem]) : p := h
theorem vM_ (h : p := by simp [results, Tryz.results99, go_sem]) : p := h
theorem v0_ (h : p := by rw [O4.out.2.1]; exact HSM.out h0) : p := h
theorem ug_ (h : p := by have := HL.out; omega) : p := h
theorem uu_ (h : p := by simp [H2.out.1]) : p := h
theorem uv_ (h : p := by simp [H2.out.2]) : p := h
theorem uK_ (h : p := by simp [H0.out]) : p := h
theorem uL_ (h : p := by simp [H2.out]) : p := h
theorem wi_ (h : p := by
 subst h; unfold xp at hW; split at hW
 ·rename_i h1; exact absurd hW h1
 ·rename_i h1; split at hW
  ·rename_i h2; exact absurd hW h2
  ·split at hW
   ·simp at hW
   ·split at hW
    ·simp at hW
    ·have h8 : ts.length <= 8 := by
      have h3 : (zn (zg ts) p).2 = 0 := by simpa using h1
      unfold zn at h3; split at h3
      ·simp at h3
      ·rename_i h4; simp at h4; omega
     unfold yO at hW; split at hW
     ·simp at hW
     ·rename_i h5; simp at h5; omega) : p := h
theorem wL_ (h : p := by
 rw [<- HR.out]; have h1 := xt.out; have h2 := HL.out; rw [List.take_length, h2, List.take_length] at h1; exact decide_eq_true h1) : p := h
theorem xp_ (h : p := by
 subst h; have h3 : (zn (zg ts) p).2 = 0 := by rw [hC]
 unfold zn at h3; split at h3
 ·simp at h3
 ·rename_i h4; simp at h4; omega) : p := h
theorem xu_ (h : p := by
 rw [<- hal] at ht; rcases List.mem_append.1 ht with h | h
 ·exact HL.out t h
 ·simp at h; subst h; rw [hcx]; unfold zp; omega) : p := h
theorem xL_ (h : p := by
 rename_i h1; exact absurd (congrArg (fun x => x.2.2) h) h1) : p := h
theorem xM_ (h : p := by
 rename_i h2; exact absurd (congrArg (fun x => x.2.2) h) h2) : p := h
theorem xU_ (h : p := by
 exact ⟨k + 1, by omega, by go_num, Tk.out.2 HXY.out, by first | exact hg.drew | exact hg.drewN _⟩) : p := h
theorem y0_ (h : p := by
 have dxy : (x != y) = false := by simpa using hxy
 have HXY := hh_ hxy; clear hxy; go_wp2
 go_quiet (fail)
 go_wp2; go_roundw
 case rel => exact xU_
 case measure => exact u1_) : p := h
end Go
namespace Go.Proofs.YtflggnopgnoeiaaGreat
open Go.RowKit Go.Calm
def xp (ts : List (List Int)) (p q : PL) (data : List (List Z)) : Int :=
 if (zn ts p).2 ≠ 0 then (zn ts p).2
 else if (zn (ts ++ [(zn ts p).1]) q).2 ≠ 0 then (zn (ts ++ [(zn ts p).1]) q).2
 else if (zn ts p).1.length ≠ (zn (ts ++ [(zn ts p).1]) q).1.length then 8
 else if (zn ts p).1 ≠ (zn (ts ++ [(zn ts p).1]) q).1 then 9
 else yO ts data
def xd (all : List (List Int)) (q : PL) (data : List (List Z)) (rows : List Z) : List Z × Int :=
 if (xl all q (data ++ [rows])).2 ≠ 0 then ([], (xl all q (data ++ [rows])).2) else ye yM (xl all q (data ++ [rows])).1
def yN (a b : List Z) : List Z × Int := if (xf a b 1).2 ≠ 0 then ([], (xf a b 1).2) else ye yM (xf a b 1).1
def XV (a b : List Z) : Bool := decide (a.map (fun x => zd x.1) = b.map (fun x => zd x.1))
def K8 (all : List (List Int)) (q : PL) (data : List (List Z)) : Nat -> Int -> List Z -> List Z × Int × Int
 | 0, _, _ => ([], 0, 10)
 | r + 1, n, rows =>
  if (xd all q data rows).2 ≠ 0 then ([], 0, (xd all q data rows).2)
  else if (yN rows (xd all q data rows).1).2 ≠ 0 then ([], 0, (yN rows (xd all q data rows).1).2)
  else if XV (yN rows (xd all q data rows).1).1 rows = true then (rows, n, 0)
  else K8 all q data r (n + 1) (yN rows (xd all q data rows).1).1
def Zs (ts : List (List Int)) (p q : PL) (data : List (List Z)) : List Z × Int × Int :=
 if xp ts p q data ≠ 0 then ([], 0, xp ts p q data)
 else if (xl ts p data).2 ≠ 0 then ([], 0, (xl ts p data).2)
 else if (ye yM (xl ts p data).1).2 ≠ 0 then ([], 0, (ye yM (xl ts p data).1).2)
 else K8 (ts ++ [(zn ts p).1]) q data 50 1 (ye yM (xl ts p data).1).1
structure D1 (z : List Z) : Prop where
 c : yA z
 w : zC z = 0
 o : ∀ u, zW z u = 0 \/ zW z u = 1
theorem D1.one {z : List Z} (h : D1 z) {y : Z} (hy : y ∈ z) : y.2 = 1 := by
 have h1 := xj h.c y hy; have h2 := h.c.w y hy; rcases h.o y.1 with e | e
 ·rw [h1] at e; exact absurd e h2
 ·rw [<- h1]; exact e
theorem C9 (n : Int) : yM n = 0 \/ yM n = 1 := by unfold yM; split <;> simp
theorem jb {z d : List Z} (h : ye yM z = (d, 0)) : D1 d /\ ∀ u, zW d u = yM (zW z u) := by
 obtain ⟨s, e, c, sm, hw⟩ := QN (SM.of (YP h)) uX_ uX_ uX_; rw [h] at e; obtain rfl := (Prod.mk.inj e).1; exact ⟨⟨c, sm.rz uX_ uX_, fun u => by rw [hw]; exact C9 _⟩, hw⟩
theorem YQ {a b s : List Z} (h : yN a b = (s, 0)) : D1 s /\ ∀ u, zW s u = yM (zW a u + zW b u) := by
 unfold yN at h; split at h
 ·exact u8_
 ·rename_i h1; obtain ⟨t, ht⟩ : ∃ t, xf a b 1 = (t, 0) := ⟨(xf a b 1).1, Prod.ext rfl uB_⟩
  rw [ht] at h; obtain ⟨hd, hw⟩ := jb h; obtain ⟨_, _, _, _, h5⟩ := YM ht; exact ⟨hd, fun u => by rw [hw, h5]; congr 1; omega⟩
theorem NJ : ∀ {a b : List Z}, D1 a -> D1 b -> XV a b = true -> a = b := by
 intro a b ha hb h; have h1 : a.map (fun x => zd x.1) = b.map (fun x => zd x.1) := of_decide_eq_true h
 have key : ∀ (z : List Z), (∀ y ∈ z, zd y.1 = y.1) -> (∀ y ∈ z, y.2 = 1) -> z = (z.map (fun x => zd x.1)).map (fun r => (r, 1)) := fun z hz h1 => by
  rw [List.map_map]
  conv => lhs; rw [<- List.map_id z]
  refine List.map_congr_left (fun y hy => ?_); show y = (zd y.1, 1); rw [hz y hy]; exact Prod.ext rfl (h1 y hy)
 rw [key a (fun y hy => ha.c.bare y hy) (fun y hy => ha.one hy), key b (fun y hy => hb.c.bare y hy) (fun y hy => hb.one hy), h1]
theorem Qo {all : List (List Int)} {q : PL} {data : List (List Z)} {rows d : List Z} (h : xd all q data rows = (d, 0)) : ∃ s, xl all q (data ++ [rows]) = (s, 0) /\ ye yM s = (d, 0) := by
 unfold xd at h; split at h
 ·exact u8_
 ·rename_i h1; exact ⟨_, Prod.ext rfl uB_, h⟩
theorem L7 {all : List (List Int)} {q : PL} {data : List (List Z)} : ∀ (r : Nat) (n : Int) (rows : List Z) {z : List Z} {m : Int}, D1 rows -> K8 all q data r n rows = (z, m, 0) ->
  ∃ d, D1 z /\ xd all q data z = (d, 0) /\ yN z d = (z, 0) /\ ∀ u, zW rows u <= zW z u
 | 0, n, rows, z, m, _, h => by simp [K8] at h
 | r + 1, n, rows, z, m, hd, h => by
  unfold K8 at h; split at h
  ·exact xL_
  ·rename_i h1; split at h
   ·exact xM_
   ·rename_i h2; have en : xd all q data rows = ((xd all q data rows).1, 0) := Prod.ext rfl uB_; have ee : yN rows (xd all q data rows).1 = ((yN rows (xd all q data rows).1).1, 0) := Prod.ext rfl uE_; obtain ⟨hs, hw⟩ := YQ ee; split at h
    ·rename_i h3; have e := NJ hs hd h3; obtain rfl : rows = z := congrArg (fun x => x.1) h; exact ⟨_, hd, en, by rw [ee, e], fun u => Int.le_refl _⟩
    ·obtain ⟨d, h4, h5, h6, h7⟩ := L7 r (n + 1) _ hs h; refine ⟨d, h4, h5, h6, fun u => Int.le_trans ?_ (h7 u)⟩; rw [hw]; obtain ⟨s, _, hn⟩ := Qo en; have h8 := (jb hn).1.o u; rcases hd.o u with e | e <;> rcases h8 with e' | e' <;> rw [e, e'] <;> decide
theorem Dl {ts : List (List Int)} {p q : PL} {data : List (List Z)} {z : List Z} {m : Int} (h : Zs ts p q data = (z, m, 0)) : xp ts p q data = 0 /\ ∃ f g, xl ts p data = (f, 0) /\ ye yM f = (g, 0) /\ K8 (ts ++ [(zn ts p).1]) q data 50 1 g = (z, m, 0) := by
 unfold Zs at h; split at h
 ·exact xL_
 ·rename_i h1; split at h
  ·exact xM_
  ·rename_i h2; split at h
   ·rename_i h3; exact absurd (congrArg (fun x => x.2.2) h) h3
   ·rename_i h3; exact ⟨by simpa using h1, _, _, Prod.ext rfl uE_, Prod.ext rfl (by simpa using h3), h⟩
theorem Gv : ElT 40 25 1 24 (.slice none 0 0) := ⟨Tryz.underlying40, by
 obtain ⟨ti, h1, h2, h3, h4⟩ := JQ
 exact ⟨ti, h1, h2, h3, h4⟩, rfl, by decide⟩
theorem TA : ElT 31 22 1 24 (.slice none 0 0) := ⟨kh.hu, kh.hi, rfl, by decide⟩
theorem Ko {w : World} {A : Option Addr} {vs : List Value} {n c : Nat} (hn : vs.length = n) (h1 : ∀ u ∈ vs, u.oneCell' = true) (h : ∀ (i : Nat) u, vs[i]? = some u -> ∃ g o, A = some ⟨g, o, none⟩ /\ w.cell? ⟨g, o + i, none⟩ = some u) : Ch w 1 (.slice A n c) n vs := by
 refine ⟨by omega, h1, ?_⟩; cases A with
 | none =>
  left
  have h0 : n = 0 := by
   cases vs with
   | nil => simpa using hn.symm
   | cons u vs => obtain ⟨g, o, e, _⟩ := h 0 u rfl; cases e
  subst h0; exact ⟨c, rfl, rfl⟩
 | some ad =>
  right; refine ⟨ad, c, rfl, fun j u hj => ?_⟩; obtain ⟨g, o, e, hc⟩ := h j u hj; cases e; rw [zQ]; exact hc
theorem zbM {w : World} {A : Option Addr} {ts : List (L2 Int)} {c : Nat} (h : WO w A ts) : Ch w 1 (.slice A ts.length c) ts.length (ts.map vL) := Ko uY_ (fun u hu => by obtain ⟨s, _, rfl⟩ := List.mem_map.1 hu; rfl) (fun i u hi => by
 rw [List.getElem?_map, Option.map_eq_some_iff] at hi; obtain ⟨s, hs, rfl⟩ := hi; obtain ⟨g, o, e, c1, _⟩ := h i s hs
 exact ⟨g, o, e, c1⟩)
theorem zbL {w : World} {A : Option Addr} {ds : List S} {c : Nat} (h : BS w A ds) : Ch w 1 (.slice A ds.length c) ds.length (qf ds) := Ko (by simp [qf]) (fun u hu => by obtain ⟨s, _, rfl⟩ := List.mem_map.1 hu; rfl) (fun i u hi => by
 unfold qf at hi; rw [List.getElem?_map, Option.map_eq_some_iff] at hi; obtain ⟨s, hs, rfl⟩ := hi; obtain ⟨g, o, e, c1, _⟩ := h i s hs
 exact ⟨g, o, e, c1⟩)
theorem R4 (ts : List (L2 Int)) (A : Option Addr) (c : Nat) (w : World) (hl : ts.length <= 10000) (hv : WO w A ts) :
  Calls Tryz.prog 91 #[.slice A ts.length c] w fun en w' => ∃ v : Value, en = .returned v /\ w'.ownsRow w.heap.size 22 1 v ts.length (ts.map vL) /\ za w w' := by
 have HV := hh_ hv; clear hv; have eqn := fun W (B : Option Addr) n c => Lib.run_eql_slice_nil W 31 22 B n c 0 0 Tryz.underlying31
 go_enter Tryz.func91, Tryz.ntmps91; cases A with
 | none =>
  have e : ts = [] := by
   cases ts with
   | nil => rfl
   | cons t l => obtain ⟨g, o, e, _⟩ := HV.out 0 t rfl; cases e
  subst e; go_wp2; go_ret; exact ⟨_, rfl, World.ownsRow_nil _ _ _ _, za.refl _⟩
 | some ad =>
  have hsrc := hh_ (zbM (c := c) (BO.grow HV.out ((za.refl w).al (.cells #[] 22)))); have Own := hh_ (Kb 22 1 w)
  go_wp2_with (at_builtin; refine jk TA rfl _ _ rfl w.heap.size _ _ _ rfl Own.out _ ts.length _ rfl hsrc.out uh_ uX_ uY_ ?_; intro v7 w7 own7 gr7; obtain ⟨g7, cap7, rfl⟩ : ∃ (B : Option Addr) (cap7 : Nat), v7 = .slice B (0 + ts.length) cap7 := ob_)
  have G7 : za w w7 := za.own ((za.refl w).al _) gr7 (fun i hi => by
   rcases Nat.lt_or_ge i w.heap.size with h | h
   ·exact yE_
   ·exact h)
  have Own7 := hh_ own7; clear own7 gr7; go_ret; exact ⟨_, rfl, by simpa using Own7.out, G7⟩
theorem R3 (ds : List S) (A : Option Addr) (c : Nat) (w : World) (hl : ds.length <= 10000) (hv : BS w A ds) :
  Calls Tryz.prog 97 #[.slice A ds.length c] w fun en w' => ∃ v : Value, en = .returned v /\ w'.ownsRow w.heap.size 25 1 v ds.length (qf ds) /\ za w w' := by
 have HV := hh_ hv; clear hv; have eqn := fun W (B : Option Addr) n c => Lib.run_eql_slice_nil W 40 25 B n c 0 0 Tryz.underlying40
 go_enter Tryz.func97, Tryz.ntmps97; cases A with
 | none =>
  have e : ds = [] := by
   cases ds with
   | nil => rfl
   | cons t l => obtain ⟨g, o, e, _⟩ := HV.out 0 t rfl; cases e
  subst e; go_wp2; go_ret; exact ⟨_, rfl, World.ownsRow_nil _ _ _ _, za.refl _⟩
 | some ad =>
  have hsrc := hh_ (zbL (c := c) (HV.out.grow ((za.refl w).al (.cells #[] 25)))); have Own := hh_ (Kb 25 1 w)
  go_wp2_with (at_builtin; refine jk Gv rfl _ _ rfl w.heap.size _ _ _ rfl Own.out _ ds.length _ rfl hsrc.out uh_ uX_ uY_ ?_; intro v7 w7 own7 gr7; obtain ⟨g7, cap7, rfl⟩ : ∃ (B : Option Addr) (cap7 : Nat), v7 = .slice B (0 + ds.length) cap7 := ob_)
  have G7 : za w w7 := za.own ((za.refl w).al _) gr7 (fun i hi => by
   rcases Nat.lt_or_ge i w.heap.size with h | h
   ·exact yE_
   ·exact h)
  have Own7 := hh_ own7; clear own7 gr7; go_ret; exact ⟨_, rfl, by simpa using Own7.out, G7⟩
/-! slices.Equal -/
theorem QB {xs ys : List Int} {k : Nat} {x y : Int} (hx : xs[k]? = some x) (hy : ys[k]? = some y) : xs.take k = ys.take k -> (xs.take (k + 1) = ys.take (k + 1) ↔ x = y) := by
 intro h; obtain ⟨h1, e1⟩ := qQ9.1 hx; obtain ⟨h2, e2⟩ := qQ9.1 hy; rw [List.take_succ_eq_append_getElem h1, List.take_succ_eq_append_getElem h2, e1, e2, h]; simp
theorem UW (xs ys : List Int) (A B : Option Addr) (c d : Nat) (w : World) (hlx : xs.length <= 9223372036854775807) (hly : ys.length <= 9223372036854775807) (hx : yU w A xs) (hy : yU w B ys) :
  Calls Tryz.prog 92 #[.slice A xs.length c, .slice B ys.length d] w fun en w' => en = .returned (.bool (decide (xs = ys))) /\ za w w' := by
 have HX := hh_ hx; have HY := hh_ hy; obtain ⟨R, hR⟩ : ∃ R, decide (xs = ys) = R := ⟨_, rfl⟩
 rw [hR]; have HR := hh_ hR; clear hx hy hR; go_enter Tryz.func92, Tryz.ntmps92
 by_cases hl : xs.length = ys.length
 ·have dl : ((xs.length : Int) != (ys.length : Int)) = false := by simp; omega
  have HL := hh_ hl; clear hl; go_wp2
  go_loopw [13] (fun i wr => ∃ k : Nat, k <= xs.length /\ i = .int .i64 k /\ xs.take k = ys.take k /\ za w wr) (fun i _ => xs.length - (intOf i).toNat)
  case atStart => exact w8_
  case round =>
   obtain ⟨k, hk, rfl, hinv, hg⟩ := hrel; have xt := hh_ hinv; clear hinv
   by_cases hltk : k < xs.length
   ·obtain ⟨x, hxk⟩ : ∃ x, xs[k]? = some x := ⟨_, qQ_ hltk⟩
    obtain ⟨y, hyk⟩ : ∃ y, ys[k]? = some y := ⟨_, qQ_ ug_⟩
    obtain ⟨g1, o1, rfl, c1⟩ := (HX.out.grow hg) k x hxk; obtain ⟨g2, o2, rfl, c2⟩ := (HY.out.grow hg) k y hyk; have hk2 : k < ys.length := by have := HL.out; omega
    have Tk := hh_ (QB hxk hyk xt.out); clear hxk hyk
    by_cases hxy : x = y
    ·exact y0_
    ·have dxy : (x != y) = true := by simpa using hxy
     have fin : R = false := by rw [<- HR.out]; exact decide_eq_false (fun e => hxy (Tk.out.1 (by rw [e])))
     have Fin := hh_ fin; clear hxy fin; go_wp2
     go_quiet (fail)
     go_wp2; exact qX_ (v := .bool false) vL_ rfl ⟨by rw [Fin.out], by first | exact hg.drew | exact hg.drewN _⟩
   ·obtain rfl : k = xs.length := by omega
    have fin : R = true := wL_
    have Fin := hh_ fin; clear fin; go_wp2; exact qX_ (v := .bool true) vL_ rfl ⟨by rw [Fin.out], hg⟩
 ·have dl : ((xs.length : Int) != (ys.length : Int)) = true := by simp; omega
  have fin : R = false := by rw [<- HR.out]; exact decide_eq_false (fun e => hl (by rw [e]))
  have Fin := hh_ fin; clear hl fin; go_wp2; exact qX_ (v := .bool false) vL_ rfl ⟨by rw [Fin.out], za.refl _⟩
/-! fix.either -/
theorem JA (a b : S) (w : World) (ha : In w a) (hb : In w b) :
  Calls Tryz.prog 44 #[.slice a.A a.xs.length a.cap, .slice b.A b.xs.length b.cap] w fun en w' => yr w w' en (yN a.z b.z) := by
 obtain ⟨s, e, hS⟩ : ∃ s e, xf a.z b.z 1 = (s, e) := ⟨_, _, rfl⟩
 have c1 := fun W (h : za w W) => Tp a b W (ha.grow h) (hb.grow h)
 unfold yr at c1; rw [hS] at c1; simp only at c1; obtain ⟨R, hR⟩ : ∃ R, yN a.z b.z = R := ⟨_, rfl⟩
 rw [hR]; have fin : R = if e ≠ 0 then ([], e) else ye yM s := by rw [<- hR]; unfold yN; rw [hS]
 have Fin0 := hh_ fin
 have hsm : e = 0 -> ZJ s := fun h => by
  subst h; have := Cz a.z b.z 1; rw [hS] at this; exact this
 have HSM := hh_ hsm; have C1 := hh_ c1; clear c1 hS hR fin hsm ha hb; go_enter Tryz.func44, Tryz.ntmps44; go_upto_region 2 with (go_at_call 98; ((with_reducible refine (C1.out _ (za.refl _)).mono ?_); rintro en w2 ⟨B, ys, cap9, rfl, hz, hm, hk, hg2⟩))
 by_cases h0 : e = 0
 ·have d0 : (e != 0) = false := by simp [h0]
  have hin : In w2 ⟨B, ys, cap9⟩ := In.sml hz hk (by rw [hm]; exact HSM.out h0); have fin : ye yM (S.z ⟨B, ys, cap9⟩) = R := by rw [Fin0.out, if_neg uV_]; show ye yM (ys.map zh) = _; rw [hm]
  have cd := W5 ⟨B, ys, cap9⟩ w2 hin; rw [fin] at cd; unfold yr at cd; have CD := hh_ cd; clear hz hm hk hin fin cd h0
  go_wp2_with (go_at_call 42; ((with_reducible refine CD.out.mono ?_); rintro en w3 ⟨B3, ys3, cap3, rfl, hz3, hm3, hk3, hg3⟩; have Out := hh_ (And.intro hz3 (And.intro hm3 hk3)); clear hz3 hm3 hk3))
  refine qX_ o6_ rfl ?_; exact ⟨B3, ys3, cap3, rfl, Out.out.1, Out.out.2.1, Out.out.2.2, hg2.trans hg3⟩
 ·have d0 : (e != 0) = true := by simpa using h0
  have fin : R = ([], e) := by rw [Fin0.out, if_pos h0]
  have Fin := hh_ fin; clear fin hz hm hk; go_wp2; refine qX_ o6_ rfl ?_; exact ⟨none, [], 0, by rw [Fin.out]; rfl, zX _ _, by rw [Fin.out]; rfl, yf.nil, hg2⟩
/-! fix.same -/
theorem Be (y z : I) (w : World) (hly : y.row.length <= 9223372036854775807) (hlz : z.row.length <= 9223372036854775807) (hy : xi w y.A y.row) (hz : xi w z.A z.row) (ry : ∀ v ∈ y.row, RV v) (rz : ∀ v ∈ z.row, RV v) :
  Calls Tryz.prog 100 #[y.val, z.val] w fun en w' => en = .returned (.bool (decide (zd y.row = zd z.row))) /\ za w w' := by
 have hr : (zv x4 y.row z.row == 0) = decide (zd y.row = zd z.row) := by
  rw [yg y.row z.row ry rz]; have h := yR y.row z.row ry rz; unfold zK at h
  by_cases e : zd y.row = zd z.row
  ·rw [decide_eq_true e, beq_iff_eq]; exact h.2 e
  ·rw [decide_eq_false e, beq_eq_false_iff_ne]; exact fun h2 => e (h.1 h2)
 have cv := fun W (h : za w W) => qY y.row z.row y.A z.A y.cap z.cap W hly hlz (hy.grow h) (hz.grow h)
 obtain ⟨k, hk⟩ : ∃ k, zv x4 y.row z.row = k := ⟨_, rfl⟩
 rw [hk] at hr; simp only [hk] at cv; have HR := hh_ hr; have CV := hh_ cv; unfold I.val; clear hr cv hk hy hz ry rz; go_enter Tryz.func100, Tryz.ntmps100; go_upto_region 1 with fail
 refine zc (fun X => zb X w.heap.size 53 #[.slice y.A y.row.length y.cap, .int .i64 y.w] /\ zb X (w.heap.size + 1) 53 #[.slice z.A z.row.length z.cap, .int .i64 z.w] /\ za w X) ⟨(zb.new w _ _).al _, zb.new' _ _ _ uY_, ze⟩ ?_; rintro X ⟨BX, BY, G⟩; obtain ⟨b1, f1⟩ := BX.rules; obtain ⟨b2, f2⟩ := BY.rules; have l1 := BX.lt; have l2 := BY.lt; generalize w.heap.size + 1 = gy at *; generalize w.heap.size = gx at *
 go_wp2_with (go_at_call 27; ((with_reducible refine (CV.out _ G).mono ?_); rintro en w2 ⟨rfl, hg2⟩))
 exact qX_ (v := .bool (k == 0)) (by simp [results, Tryz.results100, go_sem]) rfl ⟨by rw [HR.out], G.trans hg2⟩
theorem Lb {xs ys : List I} {k : Nat} {x y : I} (hx : xs[k]? = some x) (hy : ys[k]? = some y) (h : (xs.take k).map (fun x => zd x.row) = (ys.take k).map (fun x => zd x.row)) : ((xs.take (k + 1)).map (fun x => zd x.row) = (ys.take (k + 1)).map (fun x => zd x.row) ↔ zd x.row = zd y.row) := by
 obtain ⟨h1, e1⟩ := qQ9.1 hx; obtain ⟨h2, e2⟩ := qQ9.1 hy; rw [List.take_succ_eq_append_getElem h1, List.take_succ_eq_append_getElem h2, e1, e2, List.map_append, List.map_append, h]; simp
theorem E4 (a b : S) : XV a.z b.z = decide (a.xs.map (fun x => zd x.row) = b.xs.map (fun x => zd x.row)) := by
 unfold XV S.z; rw [List.map_map, List.map_map]; rfl
theorem Sg (a b : S) (w : World) (ha : In w a) (hb : In w b) (ra : ∀ x ∈ a.xs, ∀ v ∈ x.row, RV v) (rb : ∀ x ∈ b.xs, ∀ v ∈ x.row, RV v) :
  Calls Tryz.prog 99 #[.slice a.A a.xs.length a.cap, .slice b.A b.xs.length b.cap, .func (.func 100) #[] #[]] w fun en w' => en = .returned (.bool (XV a.z b.z)) /\ za w w' := by
 rw [E4]; have HA := hh_ ha; have HB := hh_ hb; have RA := hh_ ra; have RB := hh_ rb; have hla := ha.ok.1; have hlb := hb.ok.1; obtain ⟨R, hR⟩ : ∃ R, decide (a.xs.map (fun x => zd x.row) = b.xs.map (fun x => zd x.row)) = R := ⟨_, rfl⟩
 rw [hR]; have HR := hh_ hR; clear ha hb ra rb hR; go_enter Tryz.func99, Tryz.ntmps99
 by_cases hl : a.xs.length = b.xs.length
 ·have dl : ((a.xs.length : Int) != (b.xs.length : Int)) = false := by simp; omega
  have HL := hh_ hl; clear hl; go_wp2
  go_loopw [17] (fun i wr => ∃ k : Nat, k <= a.xs.length /\ i = .int .i64 k /\ (a.xs.take k).map (fun x => zd x.row) = (b.xs.take k).map (fun x => zd x.row) /\ za w wr) (fun i _ => a.xs.length - (intOf i).toNat)
  case atStart => exact w8_
  case round =>
   obtain ⟨k, hk, rfl, hinv, hg⟩ := hrel; have xt := hh_ hinv; clear hinv
   by_cases hltk : k < a.xs.length
   ·obtain ⟨x, hxk⟩ : ∃ x, a.xs[k]? = some x := ⟨_, qQ_ hltk⟩
    obtain ⟨y, hyk⟩ : ∃ y, b.xs[k]? = some y := ⟨_, qQ_ ug_⟩
    obtain ⟨g1, o1, e1, c1, c1', v1⟩ := (HA.out.z.grow hg) k x hxk; obtain ⟨g2, o2, e2, c2, c2', v2⟩ := (HB.out.z.grow hg) k y hyk; rw [e1, e2]; have l1 : g1 < wr.heap.size := za.lt c1; have l2 : g2 < wr.heap.size := za.lt c2; have hk2 : k < b.xs.length := by have := HL.out; omega
    have Tk := hh_ (Lb hxk hyk xt.out); have cs := fun W (h : za wr W) => Be x y W (HA.out.ok.2 x (qZ_ hxk)) (HB.out.ok.2 y (qZ_ hyk)) (v1.grow h) (v2.grow h) (RA.out x (qZ_ hxk)) (RB.out y (qZ_ hyk))
    unfold I.val at cs; obtain ⟨bb, hbb⟩ : ∃ bb, decide (zd x.row = zd y.row) = bb := ⟨_, rfl⟩
    rw [hbb] at cs; have CS := hh_ cs; have HBB := hh_ hbb; clear hxk hyk cs hbb v1 v2; cases bb with
    | true =>
     go_wp2_with (go_at_call 100; ((with_reducible refine (CS.out _ ze).mono ?_); rintro e w6 ⟨rfl, hg6⟩))
     go_roundw
     case rel => exact ⟨k + 1, by omega, by go_num, Tk.out.2 (of_decide_eq_true HBB.out), hg.trans (za.trans ze hg6)⟩
     case measure => exact u1_
    | false =>
     have fin : R = false := by rw [<- HR.out]; exact decide_eq_false (fun e => of_decide_eq_false HBB.out (Tk.out.1 (by rw [List.map_take, List.map_take, e])))
     have Fin := hh_ fin; clear fin
     go_wp2_with (go_at_call 100; ((with_reducible refine (CS.out _ ze).mono ?_); rintro e w6 ⟨rfl, hg6⟩))
     exact qX_ (v := .bool false) vM_ rfl ⟨by rw [Fin.out], hg.trans (za.trans ze hg6)⟩
   ·obtain rfl : k = a.xs.length := by omega
    have fin : R = true := wL_
    have Fin := hh_ fin; clear fin; go_wp2; exact qX_ (v := .bool true) vM_ rfl ⟨by rw [Fin.out], hg⟩
 ·have dl : ((a.xs.length : Int) != (b.xs.length : Int)) = true := by simp; omega
  have fin : R = false := by rw [<- HR.out]; exact decide_eq_false (fun e => hl (by simpa using congrArg List.length e))
  have Fin := hh_ fin; clear hl fin; go_wp2; exact qX_ (v := .bool false) vM_ rfl ⟨by rw [Fin.out], za.refl _⟩
theorem U7 (a b : S) (w : World) (ha : In w a) (hb : In w b) (ra : ∀ x ∈ a.xs, ∀ v ∈ x.row, RV v) (rb : ∀ x ∈ b.xs, ∀ v ∈ x.row, RV v) :
  Calls Tryz.prog 45 #[.slice a.A a.xs.length a.cap, .slice b.A b.xs.length b.cap] w fun en w' => en = .returned (.bool (XV a.z b.z)) /\ za w w' := by
 have ce := Sg a b w ha hb ra rb; obtain ⟨R, hR⟩ : ∃ R, XV a.z b.z = R := ⟨_, rfl⟩
 rw [hR] at ce ⊢; have CE := hh_ ce; clear ce hR ha hb ra rb; go_enter Tryz.func45, Tryz.ntmps45
 go_wp2_with (go_at_call 99; ((with_reducible refine CE.out.mono ?_); rintro e w6 ⟨rfl, hg6⟩))
 exact qX_ (v := .bool R) (by simp [results, Tryz.results45, go_sem]) rfl ⟨rfl, hg6⟩
def WrR (w w' : World) (en : Ending) (ts : List (L2 Int)) (C : List Int) (e : Int) : Prop := ∃ v : Value, en = .returned (.tuple #[v, .int .i64 e]) /\ (e = 0 -> ∃ (B : Option Addr) (cap : Nat) (c : L2 Int), v = .slice B (ts ++ [c]).length cap /\ WO w' B (ts ++ [c]) /\ c.xs = C /\ C.length <= 8) /\ za w w'
theorem JK (ts : List (L2 Int)) (At : Option Addr) (nt : Nat) (p q : PL) (ds : List S) (Ad : Option Addr) (nd : Nat) (w : World) (hlt : ts.length <= zp) (hl : ∀ t ∈ ts, t.xs.length <= zp) (hts : WO w At ts) (hp : PX w p) (hq : PX w q) (hds : MW w Ad ds nd) :
  Calls Tryz.prog 40 #[.slice At ts.length nt, p.val, q.val, .slice Ad ds.length nd] w fun en w' => WrR w w' en ts (zn (zg ts) p).1 (xp (zg ts) p q (ds.map S.z)) := by
 have HTS := hh_ hts; have HQ := hh_ hq; have HDS := hh_ hds; have HL := hh_ (And.intro hlt hl); obtain ⟨C, ce, hC⟩ : ∃ C e, zn (zg ts) p = (C, e) := ⟨_, _, rfl⟩
 obtain ⟨D, de, hD⟩ : ∃ D e, zn (zg ts ++ [C]) q = (D, e) := ⟨_, _, rfl⟩
 obtain ⟨E, hE⟩ : ∃ E, yO (zg ts) (ds.map S.z) = E := ⟨_, rfl⟩
 obtain ⟨R, hR⟩ : ∃ R, xp (zg ts) p q (ds.map S.z) = R := ⟨_, rfl⟩
 have fin : R = if ce ≠ 0 then ce else if de ≠ 0 then de else if C.length ≠ D.length then 8 else if C ≠ D then 9 else E := by
  rw [<- hR]; unfold xp; rw [hC]; simp only; rw [hD, hE]
 have Fin := hh_ fin; have hC8 : C.length <= 8 := by have := ju (zg ts) p; rw [hC] at this; exact this
 have hD8 : D.length <= 8 := by have := ju (zg ts ++ [C]) q; rw [hD] at this; exact this
 have ht8 : ce = 0 -> ts.length <= 8 := fun h => xp_
 have HT8 := hh_ ht8; have HC8 := hh_ hC8; have HD8 := hh_ hD8; have c1 := fun W (h : za w W) => Y8 ts At nt p W hlt hl (hts.grow h) (hp.grow h)
 have c2 := fun W (h : za w W) => Mq ts At nt ds Ad nd W hlt hl (hts.grow h) (hds.grow h)
 rw [hC, hR]; rw [hC] at c1; simp only [hE] at c2; unfold X0 at c1; simp only at c1 ⊢; unfold PL.val at c1 ⊢; have HD := hh_ hD; have C1 := hh_ c1; have C2 := hh_ c2; clear c1 c2 hts hp hq hds hlt hl hC hD hE hR fin ht8 hC8 hD8; go_enter Tryz.func40, Tryz.ntmps40; go_upto_region 1 with fail
 refine zc (fun X => zb X w.heap.size 39 (pC p) /\ zb X (w.heap.size + 1) 39 (pC q) /\ za w X) ⟨(zb.new w _ _).al _, zb.new' _ _ _ uY_, ze⟩ ?_; rintro X ⟨BX0, BY0, G⟩; have BX := hh_ BX0; have BY := hh_ BY0; obtain ⟨bx, fx⟩ := BX0.rules; have lx := BX0.lt; clear BX0 BY0; generalize w.heap.size + 1 = gy at *; generalize w.heap.size = gx at *; go_upto_region 2 with (go_at_call 90; ((refine (C1.out _ G).mono ?_); rintro en w3 ⟨B3, n3, rfl, hi3, hn3, hg3⟩)); have I3 := hh_ hi3; clear hi3 hn3 bx fx lx; have G3 := G.trans hg3
 by_cases h1 : ce = 0
 ·subst h1; have HL8 := hh_ (HT8.out rfl); clear HT8; have ccl := R4 ts At nt w3 (by have := HL8.out; omega) (HTS.out.grow G3); have CCL := hh_ ccl
  have hsrc : ∀ W : World, Ch (W.alloc (.cells #[.slice B3 C.length n3] 22)) 1 (.slice (some ⟨W.heap.size, 0, none⟩) 1 1) 1 [.slice B3 C.length n3] := fun W => Ko rfl (fun u hu => by simp at hu; subst hu; rfl) (fun i u hi => by
   match i, hi with
   | 0, hi => simp at hi; subst hi; exact ⟨_, 0, rfl, (zb.new W 22 #[.slice B3 C.length n3]).cells rfl⟩)
  have HSRC := hh_ hsrc; have h63 : ts.length + 1 <= maxLen := by unfold maxLen; have := HL8.out; omega
  have hB24 : (ts.length + 1) * 24 <= 140737488355328 := by have := HL8.out; omega
  have H63 := hh_ h63; have HB24 := hh_ hB24; clear h63 hB24; clear hsrc; clear ccl
  go_upto_region 5 with (first
   | (go_at_call 91; ((with_reducible refine CCL.out.mono ?_); rintro en w4 ⟨v4, rfl, own4, hg4⟩; have Own4 := hh_ (zi own4 ((za.refl w4).al (.cells #[.slice B3 C.length n3] 22))); clear own4))
   | (at_builtin; refine jk TA rfl _ _ rfl w3.heap.size _ _ _ rfl Own4.out _ 1 [.slice B3 C.length n3] rfl (HSRC.out w4) H63.out HB24.out (Nat.le_trans hg4.size uY_) ?_; intro v5 w5 own5 gb5))
  have G5 : za w3 w5 := za.own (hg4.al _) gb5 (fun i hi => (Own4.out.lt i hi).1)
  have hsl : ∀ s ∈ ts ++ [(⟨B3, C, n3⟩ : L2 Int)], yU w5 s.A s.xs := fun s hs => by
   rcases List.mem_append.1 hs with h | h
   ·obtain ⟨i, h1, h2⟩ := List.mem_iff_getElem.1 h; obtain ⟨g, o, _, _, h3⟩ := (HTS.out.grow (G3.trans G5)) i s ve_; exact h3
   ·simp at h; subst h; exact I3.out.grow G5
  have own6 : w5.ownsRow w3.heap.size 22 1 v5 (ts.length + 1) ((ts ++ [(⟨B3, C, n3⟩ : L2 Int)]).map (fun s => .slice s.A s.xs.length s.cap)) := by simpa using own5
  obtain ⟨al, hal⟩ : ∃ al : List (L2 Int), ts ++ [(⟨B3, C, n3⟩ : L2 Int)] = al := ⟨_, rfl⟩
  rw [hal] at own6 hsl; obtain ⟨B5, cap5, rfl, tl5⟩ := H7 (P := yU) own6 hsl; have hal8 : al.length <= 140737488355328 := by rw [<- hal]; simp; have := HL8.out; omega
  have HAL := hh_ hal; have T5 := hh_ tl5; have e5 : zg al = zg ts ++ [C] := by rw [<- hal]; simp [zg]
  have c3 := Y8 al B5 cap5 q w5 hal8 (fun t ht => by
   rw [<- hal] at ht; rcases List.mem_append.1 ht with h | h
   ·exact HL.out.2 t h
   ·simp at h; subst h; show C.length <= 140737488355328; have := HC8.out; omega) tl5 (HQ.out.grow (G3.trans G5))
  rw [e5, HD.out] at c3; unfold X0 at c3; unfold PL.val at c3; simp only at c3; have C3 := hh_ c3; clear own5 own6 gb5 hsl tl5 e5 c3 hg4 hal8 hal; obtain ⟨by', fy⟩ := (BY.out.grow (hg3.trans G5)).rules; have ly := (BY.out.grow (hg3.trans G5)).lt; go_upto_region 6 with (go_at_call 90; ((refine C3.out.mono ?_); rintro en w6 ⟨B6, n6, rfl, hi6, hn6, hg6⟩)); have I6 := hh_ hi6; clear hi6 hn6 by' fy ly; have G6 := G3.trans (G5.trans hg6)
  by_cases h2 : de = 0
  ·have d2 : (de != 0) = false := by simp [h2]
   by_cases h3 : C.length = D.length
   ·have d3 : ((C.length : Int) != (D.length : Int)) = false := by simp; omega
    have ce := UW C D B3 B6 n3 n6 w6 (by have := HC8.out; omega) (by have := HD8.out; omega) (I3.out.grow (G5.trans hg6)) I6.out; obtain ⟨bb, hbb⟩ : ∃ bb, decide (C = D) = bb := ⟨_, rfl⟩
    rw [hbb] at ce; have CE := hh_ ce; have HBB := hh_ hbb; have H2 := hh_ (And.intro h2 h3); clear ce hbb h2 h3; cases bb with
    | true =>
     have hCD : C = D := of_decide_eq_true HBB.out; have fin : R = E := by rw [Fin.out, if_neg uY_, if_neg uu_, if_neg uv_, if_neg (by simp [hCD])]
     have Fin2 := hh_ fin; clear hCD fin
     go_wp2_with (first
      | (go_at_call 92; ((with_reducible refine CE.out.mono ?_); rintro en w7 ⟨rfl, hg7⟩))
      | (go_at_call 93; ((with_reducible refine (C2.out _ (G6.trans hg7)).mono ?_); rintro en w8 ⟨rfl, hg8⟩)))
     refine qX_ o7_ rfl ?_; exact ⟨_, by rw [Fin2.out], fun _ => ⟨B5, cap5, ⟨B3, C, n3⟩, by rw [HAL.out], by rw [HAL.out]; exact BO.grow T5.out (hg6.trans (hg7.trans hg8)), rfl, HC8.out⟩, G6.trans (hg7.trans hg8)⟩
    | false =>
     have hCD : C ≠ D := of_decide_eq_false HBB.out; have fin : R = 9 := by rw [Fin.out, if_neg uY_, if_neg uu_, if_neg uv_, if_pos hCD]
     have Fin2 := hh_ fin; clear hCD fin
     go_wp2_with (go_at_call 92; ((with_reducible refine CE.out.mono ?_); rintro en w7 ⟨rfl, hg7⟩))
     refine qX_ o7_ rfl ?_; exact ⟨_, by rw [Fin2.out], fun h => by rw [Fin2.out] at h; exact absurd h uW_, G6.trans hg7⟩
   ·have d3 : ((C.length : Int) != (D.length : Int)) = true := by simp; omega
    have fin : R = 8 := by rw [Fin.out, if_neg uY_, if_neg uT_, if_pos h3]
    have Fin2 := hh_ fin; clear h2 h3 fin; go_wp2; refine qX_ o7_ rfl ?_; exact ⟨_, by rw [Fin2.out], fun h => by rw [Fin2.out] at h; exact absurd h uW_, G6⟩
  ·have d2 : (de != 0) = true := by simpa using h2
   have fin : R = de := by rw [Fin.out, if_neg uY_, if_pos h2]
   have Fin2 := hh_ (And.intro fin h2); clear h2 fin; go_wp2; refine qX_ o7_ rfl ?_; exact ⟨_, by rw [Fin2.out.1], fun h => by rw [Fin2.out.1] at h; exact absurd h Fin2.out.2, G6⟩
 ·have d1 : (ce != 0) = true := by simpa using h1
  have fin : R = ce := by rw [Fin.out, if_pos h1]
  have Fin2 := hh_ (And.intro fin h1); clear h1 fin; go_wp2; refine qX_ o7_ rfl ?_; exact ⟨_, by rw [Fin2.out.1], fun h => by rw [Fin2.out.1] at h; exact absurd h Fin2.out.2, G3⟩
theorem Xq {ops : Array Oper} {w : World} {o : Oper} {a : Act} {K : Act -> World -> Prop} {Q : Exit -> Act -> World -> Prop} {E : Prop} (hgd : o.guard = none) (s x : Operand)
  (ho : o.op = .call { callee := .builtin .append, args := #[s, x], argTypes := #[40, 40] })
  (base : Nat) (v : Value) (n : Nat) (ss : List S) (hs : a.eval s = v) (hown : w.ownsRow base 25 1 v n (qf ss)) (g : Nat) (y : S) (hx : a.eval x = .slice (some ⟨g, 0, none⟩) 1 1) (hb : zb w g 25 #[.slice y.A y.xs.length y.cap]) (h63 : n + 1 <= maxLen) (hB : (n + 1) * 24 <= 140737488355328) (hbase : base <= w.heap.size)
  (h : ∀ v' w', w'.ownsRow base 25 1 v' (n + 1) (qf (ss ++ [y])) -> w.grownBy w' v.ownBlock -> K (a.put o.dst v') w') :
  if Region.wanted o (yielded ops a.tmps) = true then Oper.wp Tryz.prog o a w K Q else E := by
 have hw : Region.wanted o (yielded ops a.tmps) = true := by simp [Region.wanted, hgd]
 rw [if_pos hw]; obtain ⟨ti, hti, hz0, hz1, hz2⟩ := JQ
 refine wp_append_own w s x _ ho base 25 ti (.slice none 0 0) 1 24 Tryz.underlying40 hti hz0 hz1 hz2 rfl uW_ v n (qf ss) hs hown ⟨g, 0, none⟩ 1 1 [y.v'] hx rfl (fun j u hj => by
  match j, hj with
  | 0, hj => simp at hj; subst hj; rw [zQ]; exact hb.cells rfl) (fun u hu => by simp at hu; subst hu; rfl) h63 hB hbase ?_
 intro v' w' h1 h2 _; exact h v' w' (by rw [Qg]; exact h1) h2
theorem LZ (al : List (L2 Int)) (Aa : Option Addr) (na : Nat) (q : PL) (ds : List S) (Ad : Option Addr) (nd : Nat) (s : S) (w : World) (hla : al.length <= zp) (hl : ∀ t ∈ al, t.xs.length <= zp) (hta : WO w Aa al) (hq : PX w q) (hds : MW w Ad ds nd) (hs : In w s) (hd8 : ds.length <= 10000) :
  Calls Tryz.prog 43 #[.slice Aa al.length na, q.val, .slice Ad ds.length nd, .slice s.A s.xs.length s.cap] w fun en w' => kq w w' en (xd (zg al) q (ds.map S.z) s.z) := by
 obtain ⟨dl, hdl⟩ : ∃ dl : List S, ds ++ [s] = dl := ⟨_, rfl⟩
 obtain ⟨a1, e1, hE1⟩ : ∃ a e, xl (zg al) q (ds.map S.z ++ [s.z]) = (a, e) := ⟨_, _, rfl⟩
 obtain ⟨R, hR⟩ : ∃ R, xd (zg al) q (ds.map S.z) s.z = R := ⟨_, rfl⟩
 have fin : R = if e1 ≠ 0 then ([], e1) else ye yM a1 := by rw [<- hR]; unfold xd; rw [hE1]
 have Fin0 := hh_ fin; have hsm : e1 = 0 -> ZJ a1 := fun h => by subst h; exact ke (Qd hE1)
 have HSM := hh_ hsm
 have ce := fun (W : World) (h : za w W) (v : Value) (own : W.ownsRow w.heap.size 25 1 v (ds.length + 1) (qf (ds ++ [s]))) => (show ∃ (B : Option Addr) (cap : Nat), v = .slice B dl.length cap /\ Calls Tryz.prog 41 #[.slice Aa al.length na, q.val, .slice B dl.length cap] W (fun en w' => yr W w' en (a1, e1)) from by
  obtain ⟨B, cap, e, ins⟩ := H6 own (fun x hx => by
   rcases List.mem_append.1 hx with h1 | h1
   ·exact (hds.each x h1).grow h
   ·simp at h1; subst h1; exact hs.grow h) uX_
  rw [hdl] at e ins; refine ⟨B, cap, e, ?_⟩; have h2 := Q2 al Aa na q dl B cap W hla hl (BO.grow hta h) (hq.grow h) ins; have e2 : dl.map S.z = ds.map S.z ++ [s.z] := by rw [<- hdl]; simp
  rw [e2, hE1] at h2
  exact h2)
 have ccl := fun W (h : za w W) => R3 ds Ad nd W hd8 (hds.s.grow h)
 have h63 : ds.length + 1 <= maxLen := by unfold maxLen; omega
 have hB24 : (ds.length + 1) * 24 <= 140737488355328 := by omega
 unfold yr at ce; unfold PL.val at ce ⊢; rw [hR]; have CE := hh_ ce; have CCL := hh_ ccl; have H63 := hh_ h63; have HB24 := hh_ hB24; clear ce ccl h63 hB24 hdl hE1 hR fin hsm hla hl hta hq hds hs hd8; go_enter Tryz.func43, Tryz.ntmps43; go_upto_region 1 with fail
 refine zc (fun X => zb X w.heap.size 39 (pC q) /\ za w X) ⟨zb.new w _ _, (za.refl w).al _⟩ ?_; rintro X ⟨BX0, G⟩; have BX := hh_ BX0; obtain ⟨bx, fx⟩ := BX0.rules; have lx := BX0.lt; clear BX0; have ccx := fun (W : World) (h : za X W) => (CCL.out W (G.trans h)).mono (fun en w' (hh : ∃ v : Value, en = .returned v /\ w'.ownsRow W.heap.size 25 1 v ds.length (qf ds) /\ za W w') => (show ∃ v : Value, en = .returned v /\ w'.ownsRow X.heap.size 25 1 v ds.length (qf ds) /\ za W w' from hh.elim (fun v h3 => ⟨v, h3.1, Yo h3.2.1 h.size, h3.2.2⟩)))
 have CCX := hh_ ccx; clear ccx
 go_cut [10, 11] (fun z e wx => ∃ (B : Option Addr) (ys : List I) (cap : Nat), z = .slice B ys.length cap /\ e = .int .i64 e1 /\ xe wx B ys /\ ys.map zh = a1 /\ yf B ys.length cap /\ za w wx)
 case first =>
  go_region_law (first
   | (go_simp; go_at_call 97; ((with_reducible refine (CCX.out _ ze).mono ?_); rintro en w4 ⟨v4, rfl, own4, hg4⟩; have GX4 : za X w4 := za.trans ze hg4; have Own4 := hh_ own4; obtain ⟨b4, f4⟩ := (BX.out.grow GX4).rules; have l4 := (BX.out.grow GX4).lt; clear own4))
   | (refine Xq rfl _ _ rfl X.heap.size _ _ _ rfl (zi Own4.out ((za.refl w4).al _)) _ s rfl (zb.new w4 _ _) H63.out HB24.out (Nat.le_trans GX4.size uY_) ?_; intro v5 w5 own5 gb5; have G5 : za X w5 := za.own (GX4.al _) gb5 (fun i hi => (Own4.out.lt i hi).1); obtain ⟨b5, f5⟩ := (BX.out.grow G5).rules; obtain ⟨B5, cap5, rfl, cev⟩ := CE.out w5 (G.trans G5) v5 (Yo own5 G.size); have CEV := hh_ cev; clear cev own5 gb5)
   | (refine Xq rfl _ _ rfl X.heap.size _ _ _ rfl Own4.out _ s rfl ((zb.new X.drew _ _).grow hg4) H63.out HB24.out GX4.size ?_; intro v5 w5 own5 gb5; have G5 : za X w5 := za.own GX4 gb5 (fun i hi => (Own4.out.lt i hi).1); obtain ⟨b5, f5⟩ := (BX.out.grow G5).rules; obtain ⟨B5, cap5, rfl, cev⟩ := CE.out w5 (G.trans G5) v5 (Yo own5 G.size); have CEV := hh_ cev; clear cev own5 gb5)
   | (go_simp; go_at_call 41; ((refine CEV.out.mono ?_); rintro en w6 ⟨B6, ys6, cap6, rfl, hz6, hm6, hk6, hg6⟩; have O6 := hh_ (And.intro hz6 (And.intro hm6 hk6)); clear hz6 hm6 hk6)))
  all_goals (
   go_wp2_with fail
   go_meet
   exact ⟨B6, ys6, cap6, rfl, rfl, O6.out.1, O6.out.2.1, O6.out.2.2, G.trans (G5.trans (za.trans hg6 ze))⟩)
 case rest =>
 obtain ⟨B6, ys6, cap6, rfl, rfl, hz6, hm6, hk6, G6⟩ := hcut; rename World => w7
 by_cases h0 : e1 = 0
 ·have d0 : (e1 != 0) = false := by simp [h0]
  have hin : In w7 ⟨B6, ys6, cap6⟩ := In.sml hz6 hk6 (by rw [hm6]; exact HSM.out h0); have fin : ye yM (S.z ⟨B6, ys6, cap6⟩) = R := by rw [Fin0.out, if_neg uV_]; show ye yM (ys6.map zh) = _; rw [hm6]
  have cd := Tw ⟨B6, ys6, cap6⟩ w7 hin; rw [fin] at cd; unfold kq at cd; have CD := hh_ cd; clear hz6 hm6 hk6 hin fin cd h0
  go_wp2_with (go_at_call 42; ((with_reducible refine CD.out.mono ?_); rintro en w8 ⟨B3, ys3, cap3, rfl, own3, dv3, hm3, hg3⟩; have Out := hh_ (And.intro own3 (And.intro dv3 hm3)); clear own3 dv3 hm3))
  refine qX_ o8_ rfl ?_; exact ⟨B3, ys3, cap3, rfl, Yo Out.out.1 G6.size, Out.out.2.1, Out.out.2.2, G6.trans hg3⟩
 ·have d0 : (e1 != 0) = true := by simpa using h0
  have fin : R = ([], e1) := by rw [Fin0.out, if_pos h0]
  have Fin := hh_ fin; clear fin hz6 hm6 hk6; go_wp2; refine qX_ o8_ rfl ?_; exact ⟨none, [], 0, by rw [Fin.out]; rfl, World.ownsRow_nil _ _ _ _, fun y hy => by simp at hy, by rw [Fin.out]; rfl, G6⟩
theorem U6 (al : List (L2 Int)) (Aa : Option Addr) (na : Nat) (q : PL) (ds : List S) (Ad : Option Addr) (nd : Nat) (s : S) (w : World) (hla : al.length <= zp) (hl : ∀ t ∈ al, t.xs.length <= zp) (hta : WO w Aa al) (hq : PX w q) (hds : MW w Ad ds nd) (hs : In w s) (hd8 : ds.length <= 10000) :
  Calls Tryz.prog 43 #[.slice Aa al.length na, q.val, .slice Ad ds.length nd, .slice s.A s.xs.length s.cap] w fun en w' => yr w w' en (xd (zg al) q (ds.map S.z) s.z) := (LZ al Aa na q ds Ad nd s w hla hl hta hq hds hs hd8).mono fun _ _ h => h.gives
theorem D1.sml {z : List Z} (h : D1 z) : ZJ z := ke ⟨h.c, h.w⟩
theorem D1.inn {z : List Z} (h : D1 z) {w : World} {B : Option Addr} {ys : List I} {cap : Nat} (hz : xe w B ys) (hm : ys.map zh = z) (hk : yf B ys.length cap) : In w ⟨B, ys, cap⟩ := In.sml hz hk (by rw [hm]; exact h.sml)
theorem D1.rows {s : S} (h : D1 s.z) : ∀ x ∈ s.xs, ∀ v ∈ x.row, RV v := fun x hx => h.c.rv (zh x) (qZ9 hx)
def MU (w w' : World) (en : Ending) (R : List Z × Int × Int) : Prop := ∃ (B : Option Addr) (ys : List I) (cap : Nat), en = .returned (.tuple #[.slice B ys.length cap, .int .i64 R.2.1, .int .i64 R.2.2]) /\ xe w' B ys /\ ys.map zh = R.1 /\ yf B ys.length cap /\ za w w'
theorem MU.bad {w w' : World} {e : Int} (hg : za w w') : MU w w' (.returned (.tuple #[.slice none 0 0, .int .i64 0, .int .i64 e])) ([], 0, e) := ⟨none, [], 0, rfl, zX _ _, rfl, yf.nil, hg⟩
theorem Nf (ts : List (L2 Int)) (At : Option Addr) (nt : Nat) (p q : PL) (ds : List S) (Ad : Option Addr) (nd : Nat) (w : World) (hlt : ts.length <= zp) (hl : ∀ t ∈ ts, t.xs.length <= zp) (hts : WO w At ts) (hp : PX w p) (hq : PX w q) (hds : MW w Ad ds nd) :
  Calls Tryz.prog 10 #[.slice At ts.length nt, p.val, q.val, .slice Ad ds.length nd] w fun en w' => MU w w' en (Zs (zg ts) p q (ds.map S.z)) := by
 have HQ := hh_ hq; have HDS := hh_ hds; have HL := hh_ hl; obtain ⟨WE, hW⟩ : ∃ e, xp (zg ts) p q (ds.map S.z) = e := ⟨_, rfl⟩
 obtain ⟨a1, e1, hE1⟩ : ∃ a e, xl (zg ts) p (ds.map S.z) = (a, e) := ⟨_, _, rfl⟩
 obtain ⟨g1, x1, hG1⟩ : ∃ a e, ye yM a1 = (a, e) := ⟨_, _, rfl⟩
 obtain ⟨C, hC⟩ : ∃ C, (zn (zg ts) p).1 = C := ⟨_, rfl⟩
 obtain ⟨R, hR⟩ : ∃ R, Zs (zg ts) p q (ds.map S.z) = R := ⟨_, rfl⟩
 have fin : R = if WE ≠ 0 then ([], 0, WE) else if e1 ≠ 0 then ([], 0, e1) else if x1 ≠ 0 then ([], 0, x1) else K8 (zg ts ++ [C]) q (ds.map S.z) 50 1 g1 := by
  rw [<- hR]; unfold Zs; rw [hW, hE1]; simp only; rw [hG1, hC]
 have Fin := hh_ fin
 have hd8 : WE = 0 -> ds.length <= 10000 /\ ts.length <= 8 := fun h => wi_
 have HD8 := hh_ hd8; have hsm : e1 = 0 -> ZJ a1 := fun h => by subst h; exact ke (Qd hE1)
 have HSM := hh_ hsm; have hg1 : x1 = 0 -> D1 g1 := fun h => by subst h; exact (jb hG1).1
 have HG1 := hh_ hg1; have c1 := fun W (h : za w W) => JK ts At nt p q ds Ad nd W hlt hl (hts.grow h) (hp.grow h) (hq.grow h) (hds.grow h)
 have c2 := fun W (h : za w W) => Q2 ts At nt p ds Ad nd W hlt hl (hts.grow h) (hp.grow h) (hds.grow h)
 rw [hW, hC] at c1; rw [hE1] at c2; rw [hR]; unfold WrR at c1; unfold yr at c2; simp only at c2; unfold PL.val at c1 c2 ⊢; have C1 := hh_ c1; have C2 := hh_ c2; have HG := hh_ hG1; clear c1 c2 hts hp hq hds hlt hl hW hE1 hG1 hC hR fin hd8 hsm hg1; go_enter Tryz.func10, Tryz.ntmps10; go_upto_region 1 with fail
 refine zc (fun X => zb X w.heap.size 39 (pC p) /\ zb X (w.heap.size + 1) 39 (pC q) /\ za w X) ⟨(zb.new w _ _).al _, zb.new' _ _ _ uY_, ze⟩ ?_; rintro X ⟨BX0, BY0, G⟩; have BX := hh_ BX0; have BY := hh_ BY0; obtain ⟨bx, fx⟩ := BX0.rules; obtain ⟨by', fy⟩ := BY0.rules; have lx := BX0.lt; have ly := BY0.lt; clear BX0 BY0; generalize w.heap.size + 1 = gy at *; generalize w.heap.size = gx at *; go_upto_region 2 with (go_at_call 40; ((refine (C1.out _ G).mono ?_); rintro en w3 ⟨v3, rfl, hv3, hg3⟩)); have HV3 := hh_ hv3; clear hv3 bx fx lx by' fy ly; have G3 := G.trans hg3
 by_cases hw0 : WE = 0
 ·have dw : (WE != 0) = false := by simp [hw0]
  obtain ⟨B3, n3, c, rfl, htl, hcx, hC8⟩ := HV3.out hw0; obtain ⟨al, hal⟩ : ∃ al : List (L2 Int), ts ++ [c] = al := ⟨_, rfl⟩
  rw [hal] at htl ⊢; have hd8 := HD8.out hw0; have hal8 : al.length <= zp := by rw [<- hal]; unfold zp; simp; omega
  have hall : ∀ t ∈ al, t.xs.length <= zp := fun t ht => xu_
  have eal : zg al = zg ts ++ [C] := by rw [<- hal]; simp [zg, hcx]
  have cn := fun (s : S) W (h : za w3 W) (hs : In W s) => U6 al B3 n3 q ds Ad nd s W hal8 hall (BO.grow htl h) (HQ.out.grow (G3.trans h)) (HDS.out.grow (G3.trans h)) hs hd8.1
  have fin : R = if e1 ≠ 0 then ([], 0, e1) else if x1 ≠ 0 then ([], 0, x1) else K8 (zg al) q (ds.map S.z) 50 1 g1 := by rw [Fin.out, if_neg (by simp [hw0]), eal]
  have Fin2 := hh_ fin; unfold yr at cn; unfold PL.val at cn; have CN := hh_ cn; clear cn fin eal hall hal8 hd8 hal htl hcx hC8 HV3 hw0; obtain ⟨bx, fx⟩ := (BX.out.grow hg3).rules; have lx := (BX.out.grow hg3).lt; go_upto_region 5 with (go_at_call 41; ((refine (C2.out _ G3).mono ?_); rintro en w4 ⟨B4, ys4, cap4, rfl, hz4, hm4, hk4, hg4⟩)); clear bx fx lx; have G4 := hg3.trans hg4; have O4 := hh_ (And.intro hz4 (And.intro hm4 hk4)); clear hz4 hm4 hk4; go_upto_if 36 with fail
  go_cut [12, 13] (fun e z wx => ∃ (er : Int) (s : S), e = .int .i64 er /\ z = .slice s.A s.xs.length s.cap /\ (er = 0 -> In wx s /\ D1 s.z /\ K8 (zg al) q (ds.map S.z) 50 1 s.z = R) /\ (er ≠ 0 -> R = ([], 0, er)) /\ za w3 wx)
  case first =>
   by_cases h0 : e1 = 0
   ·have d0 : (e1 == 0) = true := by simp [h0]
    have hin : In w4 ⟨B4, ys4, cap4⟩ := In.sml O4.out.1 O4.out.2.2 v0_; have cd := W5 ⟨B4, ys4, cap4⟩ w4 hin; rw [show S.z ⟨B4, ys4, cap4⟩ = a1 from O4.out.2.1, HG.out] at cd; unfold yr at cd; have CD := hh_ cd; have H0 := hh_ h0; clear hin cd h0
    go_wp2_with (go_at_call 42; ((with_reducible refine CD.out.mono ?_); rintro en w5 ⟨B5, ys5, cap5, rfl, hz5, hm5, hk5, hg5⟩; have O5 := hh_ (And.intro hz5 (And.intro hm5 hk5)); clear hz5 hm5 hk5))
    go_meet; refine ⟨x1, ⟨B5, ys5, cap5⟩, rfl, rfl, fun hx => ?_, fun hx => ?_, hg4.trans hg5⟩
    ·have hd := HG1.out hx; refine ⟨hd.inn O5.out.1 O5.out.2.1 O5.out.2.2, ?_, ?_⟩
     ·show D1 (ys5.map zh); rw [O5.out.2.1]; exact hd
     ·show K8 _ _ _ _ _ (ys5.map zh) = R; rw [O5.out.2.1, Fin2.out, if_neg uK_, if_neg uR_]
    ·rw [Fin2.out, if_neg uK_, if_pos hx]
   ·have d0 : (e1 == 0) = false := by simpa using h0
    have H0 := hh_ h0; clear h0; go_wp2; go_meet; exact ⟨e1, ⟨B4, ys4, cap4⟩, rfl, rfl, fun h2 => absurd h2 H0.out, fun _ => by rw [Fin2.out, if_pos H0.out], hg4⟩
  case rest =>
  obtain ⟨er, s0, rfl, rfl, hi0, hb0, g5⟩ := hcut; rename World => w5
  have I0 := hh_ hi0; have B0 := hh_ hb0; clear hi0 hb0; go_wp2
  go_loopw [12, 13, 14] (fun e z i wr => ∃ (er : Int) (s : S) (r : Nat), e = .int .i64 er /\ z = .slice s.A s.xs.length s.cap /\ i = .int .i64 (51 - (r : Int)) /\ r <= 50 /\ (er = 0 -> In wr s /\ D1 s.z /\ K8 (zg al) q (ds.map S.z) r (51 - (r : Int)) s.z = R) /\ (er ≠ 0 -> R = ([], 0, er)) /\ za w3 wr) (fun _ _ i _ => (51 - intOf i).toNat)
  case atStart => exact ⟨er, s0, 50, rfl, rfl, rfl, Nat.le_refl _, I0.out, B0.out, g5⟩
  case round =>
   obtain ⟨er, s, r, rfl, rfl, rfl, hr, hi, hb, hg⟩ := hrel; have HI := hh_ hi; have HB := hh_ hb; clear hi hb
   by_cases h0 : er = 0
   ·obtain ⟨hin, hd, hgo⟩ := HI.out h0; subst h0; cases r with
    | zero =>
     have fin : R = ([], 0, 10) := by rw [<- hgo]; rfl
     have Fin3 := hh_ fin; clear fin hgo hin hd; go_wp2; refine qX_ o9_ rfl ?_; rw [Fin3.out]; exact MU.bad (G3.trans hg)
    | succ r =>
     obtain ⟨n, hn⟩ : ∃ n : Int, 51 - (((r + 1 : Nat)) : Int) = n := ⟨_, rfl⟩
     rw [hn] at hgo ⊢; have hn2 : n = 50 - (r : Int) := by rw [<- hn]; omega
     have hn3 : n <= 50 /\ 0 <= n := by omega
     have dn : decide (n <= 50) = true := decide_eq_true hn3.1; have Hn := hh_ (And.intro hn2 hn3); have HWP := hh_ (show wrap64 (n + 1) = n + 1 by unfold wrap64; omega); obtain ⟨d2, e2, hN⟩ : ∃ d e, xd (zg al) q (ds.map S.z) s.z = (d, e) := ⟨_, _, rfl⟩
     obtain ⟨s3, e3, hS⟩ : ∃ d e, yN s.z d2 = (d, e) := ⟨_, _, rfl⟩
     have eR : R = if e2 ≠ 0 then ([], 0, e2) else if e3 ≠ 0 then ([], 0, e3) else if XV s3 s.z = true then (s.z, n, 0) else K8 (zg al) q (ds.map S.z) r (n + 1) s3 := by
      rw [<- hgo]
      conv => lhs; unfold K8
      rw [hN]; simp only; rw [hS]
     have hd2 : e2 = 0 -> D1 d2 := fun h => by subst h; obtain ⟨_, _, h5⟩ := Qo hN; exact (jb h5).1
     have hd3 : e3 = 0 -> D1 s3 := fun h => by subst h; exact (YQ hS).1
     have cn := CN.out s wr hg hin; rw [hN] at cn; simp only at cn; have CN2 := hh_ cn; have ER := hh_ eR; have HD2 := hh_ hd2; have HD3 := hh_ hd3; have HS := hh_ hS; have HIN := hh_ (And.intro hin hd); obtain ⟨by', fy⟩ := (BY.out.grow (hg3.trans hg)).rules; have ly := (BY.out.grow (hg3.trans hg)).lt; clear hn hn2 hn3 hgo hN hS eR hd2 hd3 cn hin hd
     by_cases h2 : e2 = 0
     ·have q2 : (e2 != 0) = false := by simp [h2]
      have D2 := HD2.out h2; have H2 := hh_ h2; clear h2; go_upto_region 13 with (go_at_call 43; ((refine CN2.out.mono ?_); rintro en w6 ⟨B6, ys6, cap6, rfl, hz6, hm6, hk6, hg6⟩)); have in6 := D2.inn hz6 hm6 hk6; have ce := JA s ⟨B6, ys6, cap6⟩ w6 (HIN.out.1.grow hg6) in6; rw [show S.z ⟨B6, ys6, cap6⟩ = d2 from hm6, HS.out] at ce; unfold yr at ce; simp only at ce; have CE := hh_ ce; clear ce in6 hz6 hm6 hk6 by' fy ly D2
      by_cases h3 : e3 = 0
      ·have q3 : (e3 != 0) = false := by simp [h3]
       have D3 := HD3.out h3; have H3 := hh_ h3; clear h3; go_upto_region 15 with (go_at_call 44; ((with_reducible refine CE.out.mono ?_); rintro en w7 ⟨B7, ys7, cap7, rfl, hz7, hm7, hk7, hg7⟩)); have in7 := D3.inn hz7 hm7 hk7; have d7 : D1 (S.z ⟨B7, ys7, cap7⟩) := by show D1 (ys7.map zh); rw [hm7]; exact D3
       have cs := U7 ⟨B7, ys7, cap7⟩ s w7 in7 (HIN.out.1.grow (hg6.trans hg7)) d7.rows HIN.out.2.rows; obtain ⟨bb, hbb⟩ : ∃ bb, XV s3 s.z = bb := ⟨_, rfl⟩
       rw [show S.z ⟨B7, ys7, cap7⟩ = s3 from hm7, hbb] at cs; have CS := hh_ cs; have I7 := hh_ (And.intro in7 (And.intro d7 hm7)); have HBB := hh_ hbb; clear cs in7 d7 hz7 hm7 hk7 hbb D3; cases bb with
       | true =>
        have fin : R = (s.z, n, 0) := by rw [ER.out, if_neg uL_, if_neg (by simp [H3.out]), if_pos HBB.out]
        have Fin3 := hh_ fin; clear fin
        go_wp2_with (go_at_call 45; ((with_reducible refine CS.out.mono ?_); rintro en w8 ⟨rfl, hg8⟩))
        refine qX_ o9_ rfl ?_; rw [Fin3.out]; exact ⟨s.A, s.xs, s.cap, rfl, HIN.out.1.z.grow (hg6.trans (hg7.trans hg8)), rfl, HIN.out.1.sl, G3.trans (hg.trans (hg6.trans (hg7.trans hg8)))⟩
       | false =>
        have fin : K8 (zg al) q (ds.map S.z) r (n + 1) s3 = R := by rw [ER.out, if_neg uL_, if_neg (by simp [H3.out]), if_neg (by rw [HBB.out]; simp)]
        have Fin3 := hh_ fin; clear fin
        go_wp2_with (go_at_call 45; ((with_reducible refine CS.out.mono ?_); rintro en w8 ⟨rfl, hg8⟩))
        go_roundw
        case rel => exact ⟨0, ⟨B7, ys7, cap7⟩, r, by rw [H3.out], rfl, by have := Hn.out; congr 1; exact HWP.out.trans uX_, by omega, fun _ => ⟨I7.out.1.grow hg8, I7.out.2.1, by
         have e : S.z ⟨B7, ys7, cap7⟩ = s3 := I7.out.2.2; rw [e, <- Fin3.out]; congr 1; have := Hn.out
         omega⟩, fun h => absurd rfl h, hg.trans (hg6.trans (hg7.trans hg8))⟩
        case measure => have := Hn.out; have e := HWP.out; simp [intOf, e]; omega
      ·have q3 : (e3 != 0) = true := by simpa using h3
       have q4 : (e3 == 0) = false := by simpa using h3
       have fin : R = ([], 0, e3) := by rw [ER.out, if_neg uL_, if_pos h3]
       have Fin3 := hh_ fin; clear h3 fin
       go_wp2_with (go_at_call 44; ((with_reducible refine CE.out.mono ?_); rintro en w7 ⟨B7, ys7, cap7, rfl, hz7, hm7, hk7, hg7⟩; clear hz7 hm7 hk7))
       refine qX_ o9_ rfl ?_; rw [Fin3.out]; exact MU.bad (G3.trans (hg.trans (hg6.trans hg7)))
     ·have q2 : (e2 != 0) = true := by simpa using h2
      have q4 : (e2 == 0) = false := by simpa using h2
      have fin : R = ([], 0, e2) := by rw [ER.out, if_pos h2]
      have Fin3 := hh_ fin; clear h2 fin
      go_wp2_with (go_at_call 43; ((refine CN2.out.mono ?_); rintro en w6 ⟨B6, ys6, cap6, rfl, hz6, hm6, hk6, hg6⟩; clear hz6 hm6 hk6))
      refine qX_ o9_ rfl ?_; rw [Fin3.out]; exact MU.bad (G3.trans (hg.trans hg6))
   ·have d0 : (er == 0) = false := by simpa using h0
    have fin := HB.out h0; have Fin3 := hh_ fin; clear h0 fin; go_wp2; refine qX_ o9_ rfl ?_; rw [Fin3.out]; exact MU.bad (G3.trans hg)
 ·have dw : (WE != 0) = true := by simpa using hw0
  have fin : R = ([], 0, WE) := by rw [Fin.out, if_pos hw0]
  have Fin2 := hh_ fin; clear fin; go_wp2; refine qX_ o9_ rfl ?_; rw [Fin2.out]; exact MU.bad G3
