/-
 Joined texts of this claim: Fm, Fm2. What each proves its own head says; no condition beside those that each theorem names.
-/
import Derived.Test.YtcaedcpjdmlilaaGreatGFa
import Derived.Test.YtcaedcpjdmlilaaGreatGS
import Derived.Test.YtcaedcpjdmlilaaGreatGQa
namespace Go.Proofs.YtcaedcpjdmlilaaGreat
open Go.RowKit Go.Calm
set_option linter.unusedSimpArgs false
set_option linter.unusedVariables false
def Zl (z : List Z) : Prop := ∀ y ∈ z, 0 < y.2
def Eg (a b : List Z) : Prop := ∀ u, 0 < yi a u -> 0 < yi b u
def MM (a b : List Z) : Prop := Zl a /\ Zl b /\ Eg a b
theorem y7 {f : List V -> Int} (hf : ∀ r, 0 <= f r) : ∀ {z : List Z}, Zl z -> 0 <= yR f z /\ (0 < yR f z -> ∃ y ∈ z, 0 < f y.1) /\ ((∃ y ∈ z, 0 < f y.1) -> 0 < yR f z)
 | [], _ => ⟨Int.le_refl _, fun h => absurd h (by simp [yR]), fun ⟨y, hy, _⟩ => by simp at hy⟩
 | x :: z, h => by
  obtain ⟨h1, h2, h3⟩ := y7 hf (fun y hy => h y (List.mem_cons_of_mem _ hy) : Zl z); have hx := h x (List.mem_cons_self ..); have h0 : 0 <= x.2 * f x.1 := Int.mul_nonneg (by omega) (hf _); refine ⟨by simp only [yR]; omega, fun h4 => ?_, fun ⟨y, hy, hp⟩ => ?_⟩
  ·simp only [yR] at h4; rcases Int.lt_or_le 0 (yR f z) with h5 | h5
   ·obtain ⟨y, hy, hp⟩ := h2 h5; exact ⟨y, List.mem_cons_of_mem _ hy, hp⟩
   ·refine ⟨x, List.mem_cons_self .., ?_⟩; rcases Int.lt_or_le 0 (f x.1) with h6 | h6
    ·exact h6
    ·have h7 : f x.1 = 0 := by have := hf x.1; omega
     rw [h7] at h4; simp at h4; omega
  ·simp only [yR]; rcases List.mem_cons.1 hy with rfl | hy
   ·have := Int.mul_pos hx hp; omega
   ·have := h3 ⟨y, hy, hp⟩; omega
theorem Nc (u r : List V) : 0 <= Wb u r := by unfold Wb; split <;> decide
theorem qp {z : List Z} (h : Zl z) (u : List V) : 0 <= yi z u /\ (0 < yi z u ↔ ∃ y ∈ z, zd y.1 = zd u) := by
 rw [GO]; obtain ⟨h1, h2, h3⟩ := y7 (Nc u) h; refine ⟨h1, fun h4 => ?_, fun ⟨y, hy, e⟩ => h3 ⟨y, hy, by unfold Wb; rw [if_pos e]; decide⟩⟩; obtain ⟨y, hy, hp⟩ := h2 h4; refine ⟨y, hy, ?_⟩; unfold Wb at hp; split at hp
 ·assumption
 ·omega
theorem MM.like {a b : List Z} (h : MM a b) {y : Z} (hy : y ∈ a) : ∃ y' ∈ b, zd y'.1 = zd y.1 := (qp h.2.1 y.1).2.1 (h.2.2 y.1 ((qp h.1 y.1).2.2 ⟨y, hy, rfl⟩))
theorem M9 {s : List Z} (hc : yp s) (h : ∀ u, 0 <= yi s u) : Zl s := fun y hy => by
 have h1 := YD hc y hy; have h2 := hc.w y hy; have h3 := h y.1; omega
theorem JY {a b s t : List Z} (cs : yp s) (ct : yp t) (h1 : ∀ u, 0 <= yi s u) (h2 : ∀ u, 0 <= yi t u) (h3 : ∀ u, 0 < yi s u -> 0 < yi t u) : MM s t := ⟨M9 cs h1, M9 ct h2, h3⟩
theorem Ca (x : E) (u r : List V) : 0 <= kU x u r := by unfold kU; split; exact Nc u r; decide
theorem La {a b c d : List V} (h1 : zd a = zd b) (h2 : zd c = zd d) : zd (a ++ c) = zd (b ++ d) := by
 unfold zd at h1 h2 ⊢; rw [List.map_append, List.map_append, h1, h2]
theorem UA {c : List Int} {x : E} {a b s t : List Z} (h : MM a b) (h1 : yQ c x a = (s, 0)) (h2 : yQ c x b = (t, 0)) : MM s t := by
 obtain ⟨_, _, c1, _, w1⟩ := YI h1; obtain ⟨_, _, c2, _, w2⟩ := YI h2; refine JY (a := a) (b := b) c1 c2 (fun u => ?_) (fun u => ?_) (fun u hu => ?_)
 ·rw [w1]; split; exact (qp h.1 u).1; decide
 ·rw [w2]; split; exact (qp h.2.1 u).1; decide
 ·rw [w1] at hu; rw [w2]; split at hu
  ·rename_i hh; rw [if_pos hh]; exact h.2.2 u hu
  ·omega
theorem zaE {c : List Int} {es : List E} {a b s t : List Z} (h : MM a b) (h1 : ZF c es a = (s, 0)) (h2 : ZF c es b = (t, 0)) : MM s t := by
 obtain ⟨c1, _, w1⟩ := Tx h1; obtain ⟨c2, _, w2⟩ := Tx h2; have nn : ∀ u r, 0 <= Fl es u r := fun u r => Nc u _
 refine JY (a := a) (b := b) c1 c2 (fun u => ?_) (fun u => ?_) (fun u hu => ?_)
 ·rw [w1]; exact (y7 (nn u) h.1).1
 ·rw [w2]; exact (y7 (nn u) h.2.1).1
 ·rw [w1] at hu; rw [w2]; obtain ⟨y, hy, hp⟩ := (y7 (nn u) h.1).2.1 hu; obtain ⟨y', hy', e⟩ := h.like hy; exact (y7 (nn u) h.2.1).2.2 ⟨y', hy', by rw [U0 es u _ _ e]; exact hp⟩
theorem Fi {l r : List Int} {x : E} {a b a' b' s t : List Z} (h : MM a a') (hb : MM b b') (h1 : xT l r x a b = (s, 0)) (h2 : xT l r x a' b' = (t, 0)) : MM s t := by
 obtain ⟨_, c1, _, w1⟩ := Xw h1; obtain ⟨_, c2, _, w2⟩ := Xw h2; have nn : ∀ (u p q : List V), 0 <= kU x u (p ++ q) := fun u p q => Ca x u _
 have n1 : ∀ u p, 0 <= yR (fun q => kU x u (p ++ q)) b := fun u p => (y7 (nn u p) hb.1).1
 have n2 : ∀ u p, 0 <= yR (fun q => kU x u (p ++ q)) b' := fun u p => (y7 (nn u p) hb.2.1).1
 refine JY (a := a) (b := a') c1 c2 (fun u => ?_) (fun u => ?_) (fun u hu => ?_)
 ·rw [w1]; exact (y7 (n1 u) h.1).1
 ·rw [w2]; exact (y7 (n2 u) h.2.1).1
 ·rw [w1] at hu; rw [w2]; obtain ⟨p, hp, hp2⟩ := (y7 (n1 u) h.1).2.1 hu; obtain ⟨q, hq, hq2⟩ := (y7 (nn u p.1) hb.1).2.1 hp2; obtain ⟨p', hp', e1⟩ := h.like hp; obtain ⟨q', hq', e2⟩ := hb.like hq; refine (y7 (n2 u) h.2.1).2.2 ⟨p', hp', (y7 (nn u p'.1) hb.2.1).2.2 ⟨q', hq', ?_⟩⟩; rw [ZC x u _ _ (La e1 e2)]; exact hq2
theorem Gg {l r : List Int} {x : E} {a b a' b' s t : List Z} (h : MM a a') (hb : MM b b') (h1 : xK true l r x a b = (s, 0)) (h2 : xK true l r x a' b' = (t, 0)) : MM s t := by
 obtain ⟨e1, c1, _, w1⟩ := QE (want := true) (km h1).1; obtain ⟨e2, c2, _, w2⟩ := QE (want := true) (km h2).1; rw [h1] at e1; rw [h2] at e2; obtain rfl := (Prod.mk.inj e1).1; obtain rfl := (Prod.mk.inj e2).1; refine JY (a := a) (b := a') c1 c2 (fun u => ?_) (fun u => ?_) (fun u hu => ?_)
 ·rw [w1]; split; exact (qp h.1 u).1; decide
 ·rw [w2]; split; exact (qp h.2.1 u).1; decide
 ·rw [w1] at hu; rw [w2]; split at hu
  ·rename_i hm; have hm' : KU x b u = true := by simpa using hm
   unfold KU at hm'; rw [List.any_eq_true] at hm'; obtain ⟨q, hq, hh⟩ := hm'; rw [Bool.and_eq_true] at hh; obtain ⟨q', hq', e⟩ := hb.like hq
   have hm2 : KU x b' u = true := by
    unfold KU; rw [List.any_eq_true]; refine ⟨q', hq', ?_⟩; rw [Bool.and_eq_true, qz x (La rfl e)]; exact ⟨hh.1, decide_eq_true (hb.2.1 q' hq')⟩
   rw [if_pos (by simpa using hm2)]; exact h.2.2 u hu
  ·omega
theorem zaj {a b a' b' s t : List Z} (h : MM a a') (hb : MM b b') (h1 : yI a b 1 = (s, 0)) (h2 : yI a' b' 1 = (t, 0)) : MM s t := by
 obtain ⟨_, _, c1, _, w1⟩ := Xl h1; obtain ⟨_, _, c2, _, w2⟩ := Xl h2; have p1 := fun u => (qp h.1 u).1
 have p2 := fun u => (qp hb.1 u).1
 have p3 := fun u => (qp h.2.1 u).1
 have p4 := fun u => (qp hb.2.1 u).1
 refine JY (a := a) (b := a') c1 c2 (fun u => ?_) (fun u => ?_) (fun u hu => ?_)
 ·rw [w1]; have := p1 u; have := p2 u; omega
 ·rw [w2]; have := p3 u; have := p4 u; omega
 ·rw [w1] at hu; rw [w2]; have q3 := p3 u; have q4 := p4 u; rcases Int.lt_or_le 0 (yi a u) with h5 | h5
  ·have := h.2.2 u h5; omega
  ·have := hb.2.2 u (by omega); omega
theorem Tp {f : Int -> Int} {a a' s t : List Z} (f0 : f 0 = 0) (fb : ∀ n, -1000000 <= n -> n <= 1000000 -> -1000000 <= f n /\ f n <= 1000000) (fn : ∀ n, 0 <= f n) (fp : ∀ n, 0 < f n ↔ 0 < n) (h : Eg a a') (h1 : zP f a = (s, 0)) (h2 : zP f a' = (t, 0)) : MM s t := by
 obtain ⟨d, e1, c1, _, w1⟩ := kA (SM.of (kO h1)) f0 fb (by omega) (by omega); obtain ⟨d', e2, c2, _, w2⟩ := kA (SM.of (kO h2)) f0 fb (by omega) (by omega); rw [h1] at e1; rw [h2] at e2; obtain rfl := (Prod.mk.inj e1).1; obtain rfl := (Prod.mk.inj e2).1; refine JY (a := a) (b := a') c1 c2 (fun u => by rw [w1]; exact fn _) (fun u => by rw [w2]; exact fn _) (fun u hu => ?_); rw [w1] at hu; rw [w2]; exact (fp _).2 (h u ((fp _).1 hu))
theorem RX {a a' s t : List Z} (h : Eg a a') (h1 : zP yB a = (s, 0)) (h2 : zP yB a' = (t, 0)) : MM s t := Tp rfl (fun n _ _ => by unfold yB; split <;> omega) (fun n => by unfold yB; split <;> omega) (fun n => by unfold yB; split <;> omega) h h1 h2
theorem za8 {a a' s t : List Z} (h : Eg a a') (h1 : zP yJ a = (s, 0)) (h2 : zP yJ a' = (t, 0)) : MM s t := Tp rfl (fun n _ _ => by unfold yJ; split <;> omega) (fun n => by unfold yJ; split <;> omega) (fun n => by unfold yJ; split <;> omega) h h1 h2
def xI : PL -> Bool
 | .leaf => false
 | .mk k _ _ _ _ _ m _ kid => (k == 1 || k == 2 || k == 3 || k == 4 || k == 5 || k == 8 || k == 10 || k == 11) && (List.range m).all (fun i => xI (kid i))
def Hg (d d' : List (List Z)) : Prop := d.length = d'.length /\ ∀ i, MM (d.getD i []) (d'.getD i [])
theorem FV {ts : List (List Int)} {d d' : List (List Z)} (hd : Xi d) (hd' : Xi d') (h : Hg d d') (p : PL) : xI p = true -> (zi ts p).2 = 0 -> ∀ s t, yr ts d p = (s, 0) -> yr ts d' p = (t, 0) -> MM s t := by
 induction p with
 | leaf => intro _ h0; exact absurd rfl (y9 h0)
 | mk k n x xs ag A m cap kid ih =>
  intro hr h0 s t hs ht; unfold xI at hr; rw [Bool.and_eq_true] at hr; obtain ⟨hk, hkids⟩ := hr; obtain ⟨hm, hk0, _⟩ := xQ h0; have kd := fun i (hi : i < m) => xh h0 hi
  have kr := fun i (hi : i < m) => List.all_eq_true.1 hkids i (List.mem_range.2 hi)
  by_cases k1 : k = 1
  ·subst k1; unfold yr at hs ht; rw [if_pos rfl] at hs ht
   have ok : ∀ (e : List (List Z)), Xi e -> QC (e.getD n.toNat []) := fun e he => by
    rw [List.getD_eq_getElem?_getD]; cases hi : e[n.toNat]? with
    | none => exact fun x hx => by simp at hx
    | some z => exact (SM.of (he z (List.mem_of_getElem? hi))).ok
   obtain ⟨c1, _, w1⟩ := kG (ok d hd) hs; obtain ⟨c2, _, w2⟩ := kG (ok d' hd') ht; have hmm := h.2 n.toNat; exact JY (a := s) (b := t) c1 c2 (fun u => by rw [w1]; exact (qp hmm.1 u).1) (fun u => by rw [w2]; exact (qp hmm.2.1 u).1) (fun u hu => by rw [w2]; rw [w1] at hu; exact hmm.2.2 u hu)
  ·have hkk : k = 2 \/ k = 3 \/ k = 4 \/ k = 5 \/ k = 8 \/ k = 10 \/ k = 11 := by
    simp only [Bool.or_eq_true, beq_iff_eq] at hk; omega
   have hm2 : ((k = 2 \/ k = 3 \/ k = 10 \/ k = 11) /\ m = 1) \/ ((k = 4 \/ k = 5 \/ k = 8) /\ m = 2) := by
    unfold zo at hm
    repeat' split at hm
    all_goals omega
   rcases hm2 with ⟨hk2, rfl⟩ | ⟨hk2, rfl⟩
   ·obtain ⟨a, ha, h1⟩ := Kd k1 hs; obtain ⟨a', ha', h2⟩ := Kd k1 ht; have hh := ih 0 (kr 0 (by decide)) (kd 0 (by decide)) a a' ha ha'; rcases hk2 with rfl | rfl | rfl | rfl
    ·exact UA hh h1 h2
    ·exact zaE hh h1 h2
    ·exact za8 hh.2.2 h1 h2
    ·exact RX hh.2.2 h1 h2
   ·obtain ⟨a, b, ha, hb, h1⟩ := Ke k1 hs; obtain ⟨a', b', ha', hb', h2⟩ := Ke k1 ht; have hh := ih 0 (kr 0 (by decide)) (kd 0 (by decide)) a a' ha ha'; have hg := ih 1 (kr 1 (by decide)) (kd 1 (by decide)) b b' hb hb'; rcases hk2 with rfl | rfl | rfl
    ·exact Fi hh hg h1 h2
    ·exact Gg hh hg h1 h2
    ·exact zaj hh hg h1 h2
theorem Tt {ts : List (List Int)} {d d' : List (List Z)} (h : Hg d d') {p : PL} (hr : xI p = true) {s t : List Z} (h1 : yS ts p d = (s, 0)) (h2 : yS ts p d' = (t, 0)) : MM s t := by
 obtain ⟨a1, a2, a3⟩ := Pa h1; obtain ⟨_, b2, b3⟩ := Pa h2; exact FV (Z8 a2) (Z8 b2) h p hr a1 s t a3 b3
theorem D1.pos {z : List Z} (h : D1 z) : Zl z := fun y hy => by rw [h.one hy]; decide
theorem CH {d d' : List (List Z)} (h : Hg d d') {z z' : List Z} (hz : MM z z') : Hg (d ++ [z]) (d' ++ [z']) := by
 refine ⟨by simp [h.1], fun i => ?_⟩; rw [List.getD_eq_getElem?_getD, List.getD_eq_getElem?_getD, List.getElem?_append, List.getElem?_append]; have h1 := h.2 i; rw [List.getD_eq_getElem?_getD, List.getD_eq_getElem?_getD] at h1
 by_cases hi : i < d.length
 ·rw [if_pos hi, if_pos (by rw [<- h.1]; exact hi)]; exact h1
 ·rw [if_neg hi, if_neg (by rw [<- h.1]; exact hi), h.1]
  by_cases h0 : i - d'.length = 0
  ·rw [h0]; exact hz
  ·have e : ∀ w : List Z, [w][i - d'.length]? = none := fun w => List.getElem?_eq_none (by simp; omega)
   rw [e, e]; exact ⟨fun y hy => by simp at hy, fun y hy => by simp at hy, fun u hu => hu⟩
theorem Pp {all : List (List Int)} {q : PL} {data data' : List (List Z)} (hr : xI q = true) (hm : Hg data data') {d h : List Z} (hd : D1 d) (hn : xU all q data' d = (h, 0)) (hh : Eg h d) : ∀ (r : Nat) (n : Int) (rows : List Z) {z : List Z} {m : Int}, D1 rows -> Eg rows d -> Po all q data r n rows = (z, m, 0) -> Eg z d
 | 0, n, rows, z, m, _, _, hg => by simp [Po] at hg
 | r + 1, n, rows, z, m, h1, h2, hg => by
  unfold Po at hg; split at hg
  ·rename_i h3; exact absurd (congrArg (fun x => x.2.2) hg) h3
  ·rename_i h3; split at hg
   ·rename_i h4; exact absurd (congrArg (fun x => x.2.2) hg) h4
   ·rename_i h4; split at hg
    ·obtain rfl : rows = z := congrArg (fun x => x.1) hg; exact h2
    ·have en : xU all q data rows = ((xU all q data rows).1, 0) := Prod.ext rfl (by simpa using h3); have ee : xq rows (xU all q data rows).1 = ((xq rows (xU all q data rows).1).1, 0) := Prod.ext rfl (by simpa using h4); obtain ⟨hs, hw⟩ := YH ee; obtain ⟨s, h5, h6⟩ := QB en; obtain ⟨s', h7, h8⟩ := QB hn; have h9 := RX (Tt (CH hm ⟨h1.pos, hd.pos, h2⟩) hr h5 h7).2.2 h6 h8; refine Pp hr hm hd hn hh r (n + 1) _ hs (fun u hu => ?_) hg; rw [hw] at hu
     have hp : 0 < yi rows u + yi (xU all q data rows).1 u := by
      unfold yB at hu; split at hu
      ·assumption
      ·omega
     rcases Int.lt_or_le 0 (yi rows u) with h10 | h10
     ·exact h2 u h10
     ·exact hh u (h9.2.2 u (by omega))
theorem zct (z : List Z) {r q : List V} (h : zd r = zd q) : yi z r = yi z q := by unfold yi; rw [h]
def ZQ (a b : List Z) : Prop := ∀ r ∈ a, 1 <= yi b r.1
theorem zb7 {a b : List Z} (ha : Zl a) (h : ZQ a b) : Eg a b := fun u hu => by
 obtain ⟨y, hy, e⟩ := (qp ha u).2.1 hu; have := h y hy; rw [zct b e] at this; omega
theorem UY {a b : List Z} (ha : Zl a) (h : Eg a b) : ZQ a b := fun r hr => by
 have := h r.1 ((qp ha r.1).2.2 ⟨r, hr, rfl⟩); omega
theorem zcr {d : List (List Z)} (h : ∀ z ∈ d, Zl z) : Hg d d := ⟨rfl, fun i => by
 have hp : Zl (d.getD i []) := by
  rw [List.getD_eq_getElem?_getD]; cases hi : d[i]? with
  | none => exact fun y hy => by simp at hy
  | some z => exact h z (List.mem_of_getElem? hi)
 exact ⟨hp, hp, fun u hu => hu⟩⟩
theorem zcp {ts : List (List Int)} {p q : PL} {data : List (List Z)} {z other d f g s h : List Z} {m : Int} (hf : WU ts p q data = (z, m, 0)) (hr : xI q = true) (hp : ∀ z ∈ data, Zl z) (h1 : yS ts p data = (f, 0)) (h2 : zP yB other = (d, 0)) (h3 : yS (ts ++ [(zi ts p).1]) q (data ++ [d]) = (s, 0)) (h4 : zP yB f = (g, 0)) (h5 : zP yB s = (h, 0)) (h6 : ZQ g d) (h7 : ZQ h d) : ZQ z d := by
 obtain ⟨_, f', g', e1, e2, e3⟩ := R5 hf; rw [h1] at e1; obtain rfl := (Prod.mk.inj e1).1; rw [h4] at e2; obtain rfl := (Prod.mk.inj e2).1; have dg := (XY h4).1; have dd := (XY h2).1; have dh := (XY h5).1
 have hn : xU (ts ++ [(zi ts p).1]) q data d = (h, 0) := by
  unfold xU; rw [h3, if_neg (by simp)]; exact h5
 have hz := (YM 50 1 g dg e3).choose_spec.1; exact UY hz.pos (Pp hr (zcr hp) dd hn (zb7 dh.pos h7) 50 1 g dg (zb7 dg.pos h6) e3)
theorem Fo : ∀ {d e a : List (List Z)}, d.length = e.length -> d.length = a.length -> (∀ z ∈ d, Zl z) -> (∀ z ∈ e, Zl z) -> (∀ i, i < d.length -> yI (d.getD i []) (e.getD i []) 1 = (a.getD i [], 0)) -> Hg d a := by
 intro d e a h1 h2 hd he h; refine ⟨h2, fun i => ?_⟩
 have get : ∀ (l : List (List Z)), (∀ z ∈ l, Zl z) -> Zl (l.getD i []) := fun l hl => by
  rw [List.getD_eq_getElem?_getD]; cases hi : l[i]? with
  | none => exact fun y hy => by simp at hy
  | some z => exact hl z (List.mem_of_getElem? hi)
 by_cases hi : i < d.length
 ·obtain ⟨_, _, c, _, hw⟩ := Xl (h i hi); have p1 := fun u => (qp (get d hd) u).1
  have p2 := fun u => (qp (get e he) u).1
  refine ⟨get d hd, M9 c (fun u => by rw [hw]; have := p1 u; have := p2 u; omega), fun u hu => by rw [hw]; have := p2 u; omega⟩
 ·have e1 : d.getD i [] = [] := by rw [List.getD_eq_getElem?_getD, List.getElem?_eq_none (by omega)]; rfl
  have e2 : a.getD i [] = [] := by rw [List.getD_eq_getElem?_getD, List.getElem?_eq_none (by omega)]; rfl
  rw [e1, e2]; exact ⟨fun y hy => by simp at hy, fun y hy => by simp at hy, fun u hu => hu⟩
theorem BM {ts : List (List Int)} {p q : PL} {d a : List (List Z)} {z z' : List Z} {m m' : Int} (hm : Hg d a) (hp : xI p = true) (hq : xI q = true) (h1 : WU ts p q d = (z, m, 0)) (h2 : WU ts p q a = (z', m', 0)) : ZQ z z' := by
 obtain ⟨_, f, g, e1, e2, e3⟩ := R5 h1; obtain ⟨_, f', g', e4, e5, e6⟩ := R5 h2; have dg := (XY e2).1; have dg' := (XY e5).1; obtain ⟨h, hz', hn, he, hle⟩ := YM 50 1 g' dg' e6; have hz := (YM 50 1 g dg e3).choose_spec.1; obtain ⟨s, _, h5⟩ := QB hn; have dh := (XY h5).1
 have hh : Eg h z' := fun u hu => by
  have h6 := (YH he).2 u; have p1 := (qp hz'.pos u).1; rw [h6]; unfold yB; rw [if_pos (by omega)]; decide
 have h0 : Eg g z' := fun u hu => by
  have h7 := (RX (Tt hm hp e1 e4).2.2 e2 e5).2.2 u hu; have := hle u; omega
 exact UY hz.pos (Pp hq hm hz' hn hh 50 1 g dg h0 e3)
end Go.Proofs.YtcaedcpjdmlilaaGreat

