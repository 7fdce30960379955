/- Parts of a proof. No condition. -/
import Derived.Test.YthhbiemnbkfobaaGreatGQa
set_option maxRecDepth 100000
set_option linter.unusedSimpArgs false
set_option linter.unusedVariables false
namespace Go
variable {p : Prop}
theorem v5_ (h : p := by
 unfold xb at hy; split at hy
 · exact hp y (List.mem_filter.1 hy).1 v hv
 · split at hy
   · exact hp y (List.mem_filter.1 hy).1 v hv
   · unfold xj at hy
     rcases List.mem_append.1 hy with hy | hy
     · obtain ⟨s, hs, t, ht, rfl⟩ := x8 hy
       rcases List.mem_append.1 hv with hv | hv
       · exact hp s hs v hv
       · exact hq t ht v hv
     · obtain ⟨s, hs, rfl⟩ := List.mem_map.1 hy
       rcases List.mem_append.1 hv with hv | hv
       · exact hp s (List.mem_filter.1 hs).1 v hv
       · rw [(List.mem_replicate.1 hv).2]; exact YU) : p := h
theorem u0_ (h : p := by
 obtain ⟨x, hx, rfl⟩ := List.mem_map.1 hy
 exact zU x.1) : p := h
theorem wd_ (h : p := by
 rintro ⟨q, hq, hw⟩
 have := k.wt q; rw [e0 q hq] at this; exact ⟨q, hq, by omega⟩) : p := h
theorem wy_ (h : p := by
 obtain ⟨q, hq, e⟩ := XF h
 exact ⟨q, by simp [hq], e⟩) : p := h
end Go
namespace Go.Proofs.YthhbiemnbkfobaaGreat
open Go.RowKit Go.Calm
structure kC (a b d : List Z) : Prop where
  rv : ∀ x ∈ d, ∀ v ∈ x.1, RV v
  up : d.Pairwise (fun x y => zv x.1 y.1 < 0)
  ne : ∀ x ∈ d, x.2 ≠ 0
  wt : ∀ u, zE b u = zE a u + zE d u
theorem Xk {r : List V} : ∀ {z : List Z}, (∀ y ∈ z, zg y.1 ≠ zg r) -> zE z r = 0
  | [], _ => rfl
  | x :: z, h => by rw [zl, if_neg (h x vV_), Xk (fun y hy => h y vR_)]; rfl
theorem Wy {r : List V} {z : List Z} (h : zE z r ≠ 0) : ∃ y ∈ z, zg y.1 = zg r := by
  apply Classical.byContradiction; intro hn; exact h (Xk fun y hy e => hn ⟨y, hy, e⟩)
theorem jI : ∀ {z : List Z}, z.Pairwise (fun x y => zv x.1 y.1 < 0) -> (∀ x ∈ z, ∀ v ∈ x.1, RV v) -> ∀ y ∈ z, zE z y.1 = y.2
  | x :: z, hu, hr, y, hy => by
    have h1 := List.pairwise_cons.1 hu
    have ne : ∀ q ∈ z, zg q.1 ≠ zg x.1 := fun q hq e => by
      have h2 := h1.1 q hq; have h3 := (yq x.1 q.1 (hr x vV_) (hr q (by simp [hq]))).2 e.symm; omega
    rcases List.mem_cons.1 hy with rfl | hy
    · rw [zl, if_pos rfl, Xk ne]; omega
    · rw [zl, if_neg (fun e => ne y hy e.symm), jI h1.2 (fun q hq => hr q (by simp [hq])) y hy]; omega
section
variable {a b d o o' : List Z} {a1 b1 d1 a2 b2 d2 : List Z}
theorem kC.mem (h : kC a b d) {x : Z} (hx : x ∈ d) : ∃ y, (y ∈ a \/ y ∈ b) /\ zg y.1 = zg x.1 := by
  have h1 := jI h.up h.rv x hx; have h2 := h.ne x hx; have h3 := h.wt x.1; rw [h1] at h3
  by_cases h4 : zE a x.1 = 0
  · obtain ⟨y, hy, e⟩ := Wy (r := x.1) (z := b) vU_
    exact ⟨y, .inr hy, e⟩
  · obtain ⟨y, hy, e⟩ := Wy h4
    exact ⟨y, .inl hy, e⟩
theorem kC.sum (h : kC a b d) {f : List V -> Int} (hf : XR f) : zO f b = zO f a + zO f d := by
  have := UE hf (s := b) (a := a) (b := d) (n := 1) (fun q => by rw [h.wt]; omega); omega
theorem Xu {l : List Z} (hl : ∀ x ∈ l, ∀ v ∈ x.1, RV v) (hw : ∀ u, zE o' u = zE o u + zE l u) : kC o o' (zW l) := by
  obtain ⟨c, w⟩ := yB l hl; exact ⟨c.rv, c.up, c.w, fun u => by rw [w, hw]⟩
theorem Nb {cols : List Int} {x : E} (h : kC a b d) (h1 : qB cols x a = (o, 0)) (h2 : qB cols x b = (o', 0)) : kC o o' (d.filter (fun r => yu x r.1)) := by
  obtain ⟨_, i1, s1⟩ := kg h1; obtain ⟨_, i2, s2⟩ := kg h2; have w1 := (qm (KA (Q7 i1) (fun x hx => (List.mem_filter.1 hx).1)) s1).2.2; have w2 := (qm (KA (Q7 i2) (fun x hx => (List.mem_filter.1 hx).1)) s2).2.2; refine ⟨fun y hy => h.rv y (List.mem_filter.1 hy).1, h.up.filter _, fun y hy => h.ne y (List.mem_filter.1 hy).1, fun u => ?_⟩; rw [w1, w2, xu _ (fun r q e => yZ x e) u, xu _ (fun r q e => yZ x e) u, xu _ (fun r q e => yZ x e) u, h.wt]; split <;> simp
theorem Pz {cols : List Int} {es : List E} {z s : List Z} (h : Ze cols es z = (s, 0)) : Y7 (z.map (fun r => (yc es r.1, r.2))) /\ ∀ u, zE s u = zO (Dz es u) z := by
  unfold Ze at h; split at h
  · exact v4_
  · rename_i h1
    split at h
    · exact v8_
    · rename_i h2
      have ok := Qc (cols := cols) (es := es) (z := z) vU_ vU_; refine ⟨ok, fun u => ?_⟩; rw [(qm ok h).2.2 u]; exact Zx (fun r => yc es r) u z
theorem Vp {cols : List Int} {es : List E} (h : kC a b d) (h1 : Ze cols es a = (o, 0)) (h2 : Ze cols es b = (o', 0)) : kC o o' (zW (d.map (fun r => (yc es r.1, r.2)))) := by
  obtain ⟨k1, w1⟩ := Pz h1; obtain ⟨k2, w2⟩ := Pz h2; refine Xu (fun y hy => ?_) (fun u => ?_)
  · obtain ⟨x, hx, rfl⟩ := List.mem_map.1 hy
    obtain ⟨q, hq, e⟩ := h.mem hx; show ∀ v ∈ yc es x.1, RV v; rw [<- qz es e]; rcases hq with hq | hq
    · exact (k1 _ (qZ9 hq)).2
    · exact (k2 _ (qZ9 hq)).2
  · rw [w1, w2, h.sum (Jz es u)]
    congr 1; exact (Zx (fun r => yc es r) u d).symm
theorem Tl {l r : List Int} {x : E} (h : kC a1 b1 d1) (k : kC a2 b2 d2) (ra1 : ∀ y ∈ a1, ∀ v ∈ y.1, RV v) (ra2 : ∀ y ∈ a2, ∀ v ∈ y.1, RV v) (h1 : jU l r x a1 a2 = (o, 0)) (h2 : jU l r x b1 b2 = (o', 0)) :
    kC o o' (zW (yT x d1 a2 ++ (yT x a1 d2 ++ yT x d1 d2))) := by
  obtain ⟨_, _, _, w1⟩ := Kt h1; obtain ⟨_, _, _, w2⟩ := Kt h2
  have rv : ∀ {p q : List Z}, (∀ y ∈ p, ∀ v ∈ y.1, RV v) -> (∀ y ∈ q, ∀ v ∈ y.1, RV v) -> ∀ y ∈ yT x p q, ∀ v ∈ y.1, RV v := fun hp hq y hy v hv => by
    obtain ⟨s, hs, t, ht, rfl⟩ := x8 hy; rcases List.mem_append.1 hv with hv | hv
    · exact hp s hs v hv
    · exact hq t ht v hv
  refine Xu (fun y hy => ?_) (fun u => ?_)
  · rcases List.mem_append.1 hy with hy | hy
    · exact rv h.rv ra2 y hy
    · rcases List.mem_append.1 hy with hy | hy
      · exact rv ra1 k.rv y hy
      · exact rv h.rv k.rv y hy
  · rw [w1, w2, yf, yf, jH, jH, jH, h.sum (ZL x u b2)]
    have e : ∀ z : List Z, zO (fun p => zO (fun q => qo x u (p ++ q)) b2) z = zO (fun p => zO (fun q => qo x u (p ++ q)) a2) z + zO (fun p => zO (fun q => qo x u (p ++ q)) d2) z := fun z => by
      rw [<- Zs]; exact Yi _ _ z (fun y _ => k.sum (jB x u y.1))
    rw [e, e]; omega
theorem LA {n : Int} (h : kC a1 b1 d1) (k : kC a2 b2 d2) (h1 : yL a1 a2 n = (o, 0)) (h2 : yL b1 b2 n = (o', 0)) : kC o o' (zW (d1 ++ zP n d2)) := by
  obtain ⟨_, _, _, _, w1⟩ := Z9 h1; obtain ⟨_, _, _, _, w2⟩ := Z9 h2; refine Xu (fun y hy => ?_) (fun u => ?_)
  · rcases List.mem_append.1 hy with hy | hy
    · exact h.rv y hy
    · obtain ⟨x, hx, rfl⟩ := List.mem_map.1 hy
      exact k.rv x hx
  · rw [w1, w2, yf, xG, h.wt, k.wt, Int.mul_add]
    omega
def Ci (f : Int -> Int) (a d : List Z) : List Z := (d.map (fun r => (r.1, f (zE a r.1 + r.2) - f (zE a r.1)))).filter (fun r => decide (r.2 ≠ 0))
theorem MN (u : List V) : ∀ l : List Z, zE (l.filter (fun r => decide (r.2 ≠ 0))) u = zE l u
  | [] => rfl
  | x :: l => by
    have ih := MN u l; rw [List.filter_cons]; split
    · rw [zl, zl, ih]
    · rename_i h
      have h0 : x.2 = 0 := by simpa using h
      rw [zl, ih, h0]; split <;> omega
theorem LB {f : Int -> Int} (h : kC a b d) (w1 : ∀ u, zE o u = f (zE a u)) (w2 : ∀ u, zE o' u = f (zE b u)) : kC o o' (Ci f a d) := by
  have um : (d.map (fun r => (r.1, f (zE a r.1 + r.2) - f (zE a r.1)))).Pairwise (fun x y => zv x.1 y.1 < 0) := List.pairwise_map.2 h.up; refine ⟨fun y hy => ?_, um.filter _, fun y hy => ?_, fun u => ?_⟩
  · obtain ⟨q, hq, rfl⟩ := List.mem_map.1 (List.mem_filter.1 hy).1
    exact h.rv q hq
  · simpa using (List.mem_filter.1 hy).2
  · rw [w1, w2, h.wt]
    unfold Ci; rw [MN]; have cg : ∀ {z : List Z} {y : Z}, zg y.1 = zg u -> zE z y.1 = zE z u := fun {z y} e => by unfold zE; rw [e]
    by_cases hn : ∃ y ∈ d, zg y.1 = zg u
    · obtain ⟨y, hy, e⟩ := hn
      have h1 := jI um (fun x hx => by
        obtain ⟨q, hq, rfl⟩ := List.mem_map.1 hx
        exact h.rv q hq) _ (qZ9 (f := fun r : Z => (r.1, f (zE a r.1 + r.2) - f (zE a r.1))) hy)
      have h2 := jI h.up h.rv y hy; rw [cg (y := y) e] at h1 h2; simp only at h1; rw [h1, h2, cg e]; omega
    · have h1 : zE d u = 0 := Xk fun y hy e => hn ⟨y, hy, e⟩
      have h2 : zE (d.map (fun r => (r.1, f (zE a r.1 + r.2) - f (zE a r.1)))) u = 0 := Xk fun x hx e => by
        obtain ⟨q, hq, rfl⟩ := List.mem_map.1 hx; exact hn ⟨q, hq, e⟩
      rw [h1, h2]; simp
end
theorem Uk {a b d : List Z} {F G : List V -> Int} {T : List V -> Bool} (hF : XR F) (hG : XR G) (hT : ∀ r q, zg r = zg q -> T r = T q) (h : kC a b d) (h1 : ∀ r, T r = false -> zE d r = 0) (h2 : ∀ r, T r = false -> F r = G r) :
    zO F b - zO G a = zO F (b.filter (fun x => T x.1)) - zO G (a.filter (fun x => T x.1)) := by
  have e1 := XD F (fun x => T x.1) b; have e2 := XD G (fun x => T x.1) a; have e3 : zO F (b.filter (fun x => !T x.1)) = zO G (b.filter (fun x => !T x.1)) := Yi _ _ _ fun x hx => h2 x.1 (by simpa using (List.mem_filter.1 hx).2)
  have e4 : zO G (b.filter (fun x => !T x.1)) = zO G (a.filter (fun x => !T x.1)) := Yh hG fun q => by
    rw [xu (fun r => !T r) (fun r q e => by rw [hT r q e]) q, xu (fun r => !T r) (fun r q e => by rw [hT r q e]) q]
    by_cases ht : T q = true
    · simp [ht]
    · have ht : T q = false := by simpa using ht
      have := h.wt q; rw [h1 q ht] at this; simp [ht]; omega
  omega
theorem Qd {x : E} {b : List Z} (hu : b.Pairwise (fun x y => zv x.1 y.1 < 0)) (hr : ∀ y ∈ b, ∀ v ∈ y.1, RV v) (r : List V) : kJ x b r = true ↔ ∃ q, yu x (r ++ q) = true /\ 0 < zE b q := by
  unfold kJ; rw [List.any_eq_true]
  constructor
  · rintro ⟨y, hy, e⟩
    rw [Bool.and_eq_true] at e; refine ⟨y.1, e.1, ?_⟩; rw [jI hu hr y hy]; exact of_decide_eq_true e.2
  · rintro ⟨q, hq, hw⟩
    obtain ⟨y, hy, e⟩ := Wy (r := q) (z := b) vU_; refine ⟨y, hy, ?_⟩; have h1 := jI hu hr y hy; have h2 : zE b y.1 = zE b q := by unfold zE; rw [e]
    rw [Bool.and_eq_true, decide_eq_true_iff]; exact ⟨by rw [yZ x (show zg (r ++ y.1) = zg (r ++ q) by rw [yr, yr, e])]; exact hq, by omega⟩
def XI (x : E) (d1 d2 : List Z) (r : List V) : Bool := decide (zE d1 r ≠ 0) || d2.any (fun q => yu x (r ++ q.1))
theorem SU (x : E) (d1 d2 : List Z) {r q : List V} (h : zg r = zg q) : XI x d1 d2 r = XI x d1 d2 q := by
  unfold XI; have e1 : zE d1 r = zE d1 q := by unfold zE; rw [h]
  rw [e1]; congr 1; congr 1; funext p; exact yZ x vL_
section
variable {x : E} {a1 b1 d1 a2 b2 d2 : List Z}
theorem Ee {r : List V} (h : XI x d1 d2 r = false) : zE d1 r = 0 := by
  unfold XI at h; rw [Bool.or_eq_false_iff] at h; have := of_decide_eq_false h.1; omega
theorem UN {r : List V} (h : XI x d1 d2 r = false) {q : Z} (hq : q ∈ d2) : yu x (r ++ q.1) = false := by
  unfold XI at h; rw [Bool.or_eq_false_iff] at h; have := h.2; rw [List.any_eq_false] at this; simpa using this q hq
theorem BW (k : kC a2 b2 d2) (ua : a2.Pairwise (fun x y => zv x.1 y.1 < 0)) (ra : ∀ y ∈ a2, ∀ v ∈ y.1, RV v) (ub : b2.Pairwise (fun x y => zv x.1 y.1 < 0)) (rb : ∀ y ∈ b2, ∀ v ∈ y.1, RV v) {r : List V} (h : XI x d1 d2 r = false) : kJ x b2 r = kJ x a2 r := by
  have e0 : ∀ q, yu x (r ++ q) = true -> zE d2 q = 0 := fun q hq => Xk fun y hy e => by
    have h1 := UN h hy; rw [yZ x (show zg (r ++ y.1) = zg (r ++ q) by rw [yr, yr, e]), hq] at h1; cases h1
  rw [Bool.eq_iff_iff, Qd ub rb, Qd ua ra]
  constructor
  · exact wd_
  · exact wd_
theorem UL (k : kC a2 b2 d2) (u : List V) {r : List V} (h : XI x d1 d2 r = false) : zO (fun q => qo x u (r ++ q)) b2 = zO (fun q => qo x u (r ++ q)) a2 := by
  rw [k.sum (jB x u r)]
  have e : zO (fun q => qo x u (r ++ q)) d2 = zO (fun _ => 0) d2 := Yi _ _ d2 fun y hy => by
    unfold qo; rw [if_neg (by rw [UN h hy]; simp)]
  rw [e, SR]; omega
end
def xb (k : Int) (n : Nat) (x : E) (a b : List Z) : List Z := if k = 5 then a.filter (fun p => qh x b p == true) else if k = 6 then a.filter (fun p => qh x b p == false) else xj n x a b
def JR (k : Int) (n : Nat) (x : E) (b : List Z) (u r : List V) : Int :=
  if k = 5 then (if kJ x b r == true then kw u r else 0) else if k = 6 then (if kJ x b r == false then kw u r else 0)
  else zO (fun q => qo x u (r ++ q)) b + (if kJ x b r == false then kw u (r ++ List.replicate n zR) else 0)
theorem KU (f : List V -> Int) (p : List V -> Bool) : ∀ l : List Z, zO (fun r => if p r = true then f r else 0) l = zO f (l.filter (fun x => p x.1))
  | [] => rfl
  | x :: l => by
    have ih := KU f p l; rw [zO, ih, List.filter_cons]
    by_cases h : p x.1 = true
    · rw [if_pos h, if_pos h, zO]
    · rw [if_neg h, if_neg h]; omega
theorem Yk (k : Int) (n : Nat) (x : E) (b : List Z) (u : List V) : XR (JR k n x b u) := fun r q h => by
  unfold JR; have e9 : kw u (r ++ List.replicate n zR) = kw u (q ++ List.replicate n zR) := Sr (List.replicate n zR) u r q h; rw [Q6 x b h, Zn u r q h, e9, Yi (fun p => qo x u (r ++ p)) (fun p => qo x u (q ++ p)) b (fun y _ => X7 x u _ _ vL_)]
theorem XG (k : Int) (n : Nat) (x : E) (a b : List Z) (u : List V) : zE (xb k n x a b) u = zO (JR k n x b u) a := by
  have w : ∀ want : Bool, zE (a.filter (fun p => qh x b p == want)) u = zO (fun r => if (kJ x b r == want) = true then kw u r else 0) a := fun want => by
    rw [KU (kw u) (fun r => kJ x b r == want), Cl]; rfl
  unfold xb JR; split
  · exact w true
  · split
    · exact w false
    · unfold xj
      rw [yf, jH, El, Zs, KU (fun r => kw u (r ++ List.replicate n zR)) (fun r => kJ x b r == false)]; rfl
theorem Tm {k : Int} {n : Nat} {x : E} {o o' a1 b1 d1 a2 b2 d2 : List Z} (h : kC a1 b1 d1) (kk : kC a2 b2 d2) (ua : a2.Pairwise (fun x y => zv x.1 y.1 < 0)) (ra : ∀ y ∈ a2, ∀ v ∈ y.1, RV v) (ub : b2.Pairwise (fun x y => zv x.1 y.1 < 0)) (rb : ∀ y ∈ b2, ∀ v ∈ y.1, RV v) (ra1 : ∀ y ∈ a1, ∀ v ∈ y.1, RV v) (rb1 : ∀ y ∈ b1, ∀ v ∈ y.1, RV v)
    (w1 : ∀ u, zE o u = zE (xb k n x a1 a2) u) (w2 : ∀ u, zE o' u = zE (xb k n x b1 b2) u) :
    kC o o' (zW (xb k n x (b1.filter (fun r => XI x d1 d2 r.1)) b2 ++ zP (-1) (xb k n x (a1.filter (fun r => XI x d1 d2 r.1)) a2))) := by
  have rv : ∀ {p q : List Z}, (∀ y ∈ p, ∀ v ∈ y.1, RV v) -> (∀ y ∈ q, ∀ v ∈ y.1, RV v) -> ∀ y ∈ xb k n x p q, ∀ v ∈ y.1, RV v := fun {p q} hp hq y hy v hv => v5_
  refine Xu (fun y hy => ?_) (fun u => ?_)
  · rcases List.mem_append.1 hy with hy | hy
    · exact rv (fun y hy => rb1 y (List.mem_filter.1 hy).1) rb y hy
    · obtain ⟨q, hq, rfl⟩ := List.mem_map.1 hy
      exact rv (fun y hy => ra1 y (List.mem_filter.1 hy).1) ra q hq
  · rw [w1, w2, yf, xG, XG, XG, XG, XG]
    have := Uk (T := XI x d1 d2) (Yk k n x b2 u) (Yk k n x a2 u) (fun r q e => SU x d1 d2 e) h (fun r e => Ee e) (fun r e => by
      unfold JR
      rw [BW kk ua ra ub rb e, UL kk u e])
    omega
def bZ (x : Z) : Z := (zg x.1, x.2)
theorem J6 (u : List V) : ∀ l : List Z, zE (l.map bZ) u = zE l u
  | [] => rfl
  | x :: l => by rw [List.map_cons, zl, zl, J6 u l]; unfold bZ; simp only; rw [zU]
theorem RK (z : List Z) (hr : ∀ x ∈ z, ∀ v ∈ x.1, RV v) : yo yQ z = (z.filter (fun x => decide (0 < x.2))).map bZ := by
  unfold yo
  induction z with
  | nil => rfl
  | cons x z ih =>
    rw [List.map_cons, List.filter_cons, List.filter_cons, ih (fun y hy => hr y vR_)]
    by_cases h : 0 < x.2
    · have e : yQ x.2 = x.2 := by unfold yQ; rw [if_neg vU_]
      rw [if_pos (by simp [e]; omega), if_pos vM_, List.map_cons]; unfold bZ; rw [e]
    · have e : yQ x.2 = 0 := by unfold yQ; split <;> omega
      rw [if_neg (by simp [e]), if_neg vM_]
theorem qM {a b : List V} (ha : ∀ v ∈ a, RV v) (hb : ∀ v ∈ b, RV v) (h : zv a b < 0) : zv (zg a) (zg b) < 0 := Yc (Yb ha) (jm h (jZ hb))
theorem Ts {es : List E} {a b : Z} (ha : ∀ v ∈ a.1, RV v) (hb : ∀ v ∈ b.1, RV v) (h : kI es a b <= 0) : kI es (bZ a) (bZ b) <= 0 := by
  have e1 : es.map (yk (bZ a).1) = es.map (yk a.1) := jd es a.1; have e2 : es.map (yk (bZ b).1) = es.map (yk b.1) := jd es b.1; unfold kI at h ⊢; rw [e1, e2]; split at h
  · rename_i h1; rw [if_pos h1]; exact h
  · rename_i h1
    rw [if_neg h1]; show zv (zg a.1) (zg b.1) <= 0; have h : zv a.1 b.1 <= 0 := h
    by_cases h0 : zv a.1 b.1 = 0
    · have := (yq a.1 b.1 ha hb).1 h0
      rw [this]; have := (yq (zg b.1) (zg b.1) (yy hb) (yy hb)).2 rfl; omega
    · have := qM ha hb (show zv a.1 b.1 < 0 by omega)
      omega
theorem JO {es : List E} {l : List Z} (hu : l.Pairwise (fun a b => zv a.1 b.1 < 0)) (hr : ∀ x ∈ l, ∀ v ∈ x.1, RV v) : ql es (l.map bZ) = (ql es l).map bZ := by
  have hp := xY es l; have hr2 : ∀ x ∈ ql es l, ∀ v ∈ x.1, RV v := fun x hx => hr x (hp.mem_iff.1 hx)
  refine (Wj (m := (ql es l).map bZ) ?_ (hp.map bZ) ?_).symm
  · rw [List.pairwise_map]
    exact List.Pairwise.imp_of_mem (fun ha hb h => qM (hr _ ha) (hr _ hb) h) hu
  · rw [List.pairwise_map]
    exact List.Pairwise.imp_of_mem (fun ha hb h => Ts (hr2 _ ha) (hr2 _ hb) h) (Mw es l)
theorem kz : ∀ (n : Int) (l : List Z), yV n (l.map bZ) = (yV n l).map bZ
  | _, [] => rfl
  | n, x :: l => by
    rw [List.map_cons]; unfold yV; have e : (bZ x).2 = x.2 := rfl; rw [e]; split
    · rw [List.map_cons, kz]
      split <;> rfl
    · exact kz n l
def xx (es : List E) (n : Int) (z : List Z) : List Z := yV n (ql es (z.filter (fun x => decide (0 < x.2))))
theorem UY {es : List E} {n : Int} {z : List Z} (hu : z.Pairwise (fun a b => zv a.1 b.1 < 0)) (hr : ∀ x ∈ z, ∀ v ∈ x.1, RV v) (u : List V) : zE (yV n (ql es (yo yQ z))) u = zE (xx es n z) u := by
  rw [RK z hr, JO (hu.filter _) (fun x hx => hr x (List.mem_filter.1 hx).1), kz, J6]; rfl
theorem XF {y : Z} : ∀ {l : List Z} {n : Int}, y ∈ yV n l -> ∃ x ∈ l, x.1 = y.1
  | [], n, h => by simp [yV] at h
  | x :: l, n, h => by
    unfold yV at h; split at h
    · rcases List.mem_cons.1 h with rfl | h
      · exact ⟨x, by simp, rfl⟩
      · exact wy_
    · exact wy_
theorem YC {es : List E} {n : Int} {z : List Z} (hr : ∀ x ∈ z, ∀ v ∈ x.1, RV v) : ∀ y ∈ xx es n z, ∀ v ∈ y.1, RV v := fun y hy v hv => by
  obtain ⟨x, hx, e⟩ := XF hy; exact hr x (List.mem_filter.1 ((xY es _).mem_iff.1 hx)).1 v (by rw [e]; exact hv)
theorem UQ {cols : List Int} {es : List E} {k : Int} {z o : List Z} (h : kA cols es k z = (o, 0)) : (∀ u, zE o u = zE (xx es k z) u) /\ z.Pairwise (fun a b => zv a.1 b.1 < 0) /\ ∀ x ∈ z, ∀ v ∈ x.1, RV v := by
  unfold kA at h; split at h
  · exact v4_
  · split at h
    · simp at h
    · split at h
      · exact v8_
      · rename_i h2
        have sm := SM.of (zj (show zz cols z = 0 by omega)).2.1; refine ⟨fun u => ?_, sm.up, sm.rv⟩; rw [<- UY sm.up sm.rv]
        have okr : ∀ y ∈ yV k (ql es (yo yQ z)), y.1.length <= 8 /\ ∀ v ∈ y.1, RV v := fun y hy => by
          obtain ⟨x, hx, e⟩ := XF hy; have hm := (xY es (yo yQ z)).mem_iff.1 hx; rw [<- e]; exact YN sm.ok yQ x hm
        exact (qm okr h).2.2 u
theorem Vq {cols cols' : List Int} {es : List E} {k : Int} {a b o o' : List Z} (h1 : kA cols es k a = (o, 0)) (h2 : kA cols' es k b = (o', 0)) : kC o o' (zW (xx es k b ++ zP (-1) (xx es k a))) := by
  obtain ⟨w1, _, r1⟩ := UQ h1; obtain ⟨w2, _, r2⟩ := UQ h2; refine Xu (fun y hy => ?_) (fun u => ?_)
  · rcases List.mem_append.1 hy with hy | hy
    · exact YC r2 y hy
    · obtain ⟨q, hq, rfl⟩ := List.mem_map.1 hy
      exact YC r1 q hq
  · rw [w1, w2, yf, xG]
    omega
theorem Qs (a : Ag) (l : List Z) : jJ a (l.map bZ) = jJ a l := by
  have e : yx a (l.map bZ) = yx a l := Qt vV_ (fun i r q h1 h2 => by
    rw [List.getElem?_map, h2] at h1; simp only [Option.map_some, Option.some.injEq] at h1; rw [<- h1]
    exact ⟨rfl, jY q.1 a.x⟩) EB
  unfold jJ; rw [e]
theorem BH {es : List E} {a b : List Z} {q : List V} (ua : a.Pairwise (fun x y => zv x.1 y.1 < 0)) (ra : ∀ y ∈ a, ∀ v ∈ y.1, RV v) (ub : b.Pairwise (fun x y => zv x.1 y.1 < 0)) (rb : ∀ y ∈ b, ∀ v ∈ y.1, RV v) (h : ∀ u, yc es u = q -> zE b u = zE a u) : (yE es b q).map bZ = (yE es a q).map bZ := by
  have can : ∀ {z : List Z}, z.Pairwise (fun x y => zv x.1 y.1 < 0) -> (∀ y ∈ z, ∀ v ∈ y.1, RV v) -> yJ ((yE es z q).map bZ) /\ ∀ u, zE ((yE es z q).map bZ) u = if yc es u = q /\ 0 < zE z u then zE z u else 0 := fun {z} hu hr => by
    have sub : ∀ y ∈ yE es z q, y ∈ z /\ 0 < y.2 /\ yc es y.1 = q := fun y hy => by
      obtain ⟨h1, h2⟩ := List.mem_filter.1 hy; obtain ⟨h3, h4⟩ := List.mem_filter.1 h1; exact ⟨h3, of_decide_eq_true h4, of_decide_eq_true h2⟩
    have up : (yE es z q).Pairwise (fun x y => zv x.1 y.1 < 0) := (hu.filter _).filter _; have rv : ∀ y ∈ yE es z q, ∀ v ∈ y.1, RV v := fun y hy => hr y (sub y hy).1
    refine ⟨⟨?_, fun y hy => ?_, fun y hy => ?_, fun y hy => ?_⟩, fun u => ?_⟩
    · rw [List.pairwise_map]
      exact List.Pairwise.imp_of_mem (fun ha hb h => qM (rv _ ha) (rv _ hb) h) up
    · obtain ⟨x, hx, rfl⟩ := List.mem_map.1 hy
      exact yy (rv x hx)
    · exact u0_
    · obtain ⟨x, hx, rfl⟩ := List.mem_map.1 hy
      have := (sub x hx).2.1; show x.2 ≠ 0; omega
    · rw [J6]
      by_cases hn : ∃ y ∈ yE es z q, zg y.1 = zg u
      · obtain ⟨y, hy, e⟩ := hn
        obtain ⟨h1, h2, h3⟩ := sub y hy; have e1 := jI up rv y hy; have e2 := jI hu hr y h1; have c1 : ∀ l : List Z, zE l u = zE l y.1 := fun l => by unfold zE; rw [e]
        rw [c1, c1, e1, e2, if_pos ⟨by rw [<- qz es e]; exact h3, h2⟩]
      · rw [Xk fun y hy e => hn ⟨y, hy, e⟩]
        split
        · rename_i hh
          obtain ⟨y, hy, e⟩ := Wy (r := u) (z := z) vU_; have e2 := jI hu hr y hy; have c1 : zE z u = zE z y.1 := by unfold zE; rw [e]
          exact absurd ⟨y, List.mem_filter.2 ⟨List.mem_filter.2 ⟨hy, decide_eq_true vU_⟩, decide_eq_true (by rw [qz es e]; exact hh.1)⟩, e⟩ hn
        · rfl
  obtain ⟨ca, wa⟩ := can ua ra; obtain ⟨cb, wb⟩ := can ub rb; refine x4 _ _ cb ca fun u _ => ?_
  rw [wb, wa]
  by_cases hq : yc es u = q
  · rw [h u hq]
  · rw [if_neg (fun e => hq e.1), if_neg (fun e => hq e.1)]
def qx (es : List E) (d : List Z) (q : List V) : Bool := d.any (fun y => decide (yc es y.1 = q))
section
variable {es : List E} {ag : List Ag} {a b d : List Z}
theorem KZ {q : List V} (h : qx es d q = false) {u : List V} (hu : yc es u = q) : zE d u = 0 := Xk fun y hy e => by
  unfold qx at h; rw [List.any_eq_false] at h; exact h y hy (decide_eq_true (by rw [qz es e]; exact hu))
theorem Sz (z : List Z) {q : List V} (h : qx es d q = true) : yE es (z.filter (fun r => qx es d (yc es r.1))) q = yE es z q := by
  unfold yE pg; rw [List.filter_filter, List.filter_filter, List.filter_filter]; refine List.filter_congr fun r _ => ?_
  by_cases e : yc es r.1 = q
  · rw [e, h]; simp
  · simp [e]
theorem R4 (z : List Z) (he : es.length ≠ 0) : (z0 es (z.filter (fun r => qx es d (yc es r.1)))).Perm ((z0 es z).filter (qx es d)) := by
  refine (List.perm_ext_iff_of_nodup (xJ _ _) ((xJ _ _).filter _)).2 fun q => ?_
  rw [List.mem_filter, xW, xW]
  constructor
  · rintro (⟨h, _⟩ | ⟨r, hr, e⟩)
    · exact absurd h he
    · obtain ⟨h1, h2⟩ := kZ.1 hr
      obtain ⟨h3, h4⟩ := List.mem_filter.1 h1; exact ⟨.inr ⟨r, kZ.2 ⟨h3, h2⟩, e⟩, by rw [<- e]; exact h4⟩
  · rintro ⟨⟨h, _⟩ | ⟨r, hr, e⟩, ht⟩
    · exact absurd h he
    · obtain ⟨h1, h2⟩ := kZ.1 hr
      exact .inr ⟨r, kZ.2 ⟨List.mem_filter.2 ⟨h1, by rw [e]; exact ht⟩, h2⟩, e⟩
theorem K3 (z : List Z) (u : List V) : zE (jk es ag z) u = zE (((z0 es z).filter (qx es d)).map (xk es ag z)) u + zE (((z0 es z).filter (fun q => !qx es d q)).map (xk es ag z)) u := by
  unfold jk; rw [<- yf, <- List.map_append]; exact j8 ((List.filter_append_perm _ _).symm.map _) u
theorem Uu (ua : a.Pairwise (fun x y => zv x.1 y.1 < 0)) (ra : ∀ y ∈ a, ∀ v ∈ y.1, RV v) (ub : b.Pairwise (fun x y => zv x.1 y.1 < 0)) (rb : ∀ y ∈ b, ∀ v ∈ y.1, RV v) (h : kC a b d) {q : List V} (hq : qx es d q = false) : xk es ag b q = xk es ag a q := by
  have e := BH (es := es) (q := q) ua ra ub rb (fun u hu => by have := h.wt u; rw [KZ hq hu] at this; omega); unfold xk; rw [show ag.map (fun x => jJ x (yE es b q)) = ag.map (fun x => jJ x (yE es a q)) from List.map_congr_left fun x _ => by rw [<- Qs x (yE es b q), e, Qs]]
theorem JL (ua : a.Pairwise (fun x y => zv x.1 y.1 < 0)) (ra : ∀ y ∈ a, ∀ v ∈ y.1, RV v) (ub : b.Pairwise (fun x y => zv x.1 y.1 < 0)) (rb : ∀ y ∈ b, ∀ v ∈ y.1, RV v) (h : kC a b d) (u : List V) :
    zE (((z0 es b).filter (fun q => !qx es d q)).map (xk es ag b)) u = zE (((z0 es a).filter (fun q => !qx es d q)).map (xk es ag a)) u := by
  have e1 : ((z0 es b).filter (fun q => !qx es d q)).map (xk es ag b) = ((z0 es b).filter (fun q => !qx es d q)).map (xk es ag a) := List.map_congr_left fun q hq => Uu ua ra ub rb h (by simpa using (List.mem_filter.1 hq).2)
  rw [e1]; refine j8 (((List.perm_ext_iff_of_nodup ((xJ _ _).filter _) ((xJ _ _).filter _)).2 fun q => ?_).map _) u
  have mv : ∀ {p r : List Z}, p.Pairwise (fun x y => zv x.1 y.1 < 0) -> (∀ y ∈ p, ∀ v ∈ y.1, RV v) -> r.Pairwise (fun x y => zv x.1 y.1 < 0) -> (∀ y ∈ r, ∀ v ∈ y.1, RV v) -> (∀ u, yc es u = q -> zE p u = zE r u) -> q ∈ z0 es p -> q ∈ z0 es r := fun {p r} up rp ur rr hw hq => by
    rw [xW] at hq ⊢; rcases hq with hq | ⟨y, hy, e⟩
    · exact .inl hq
    · obtain ⟨h1, h2⟩ := kZ.1 hy
      have h3 := jI up rp y h1; have h4 := hw y.1 e; obtain ⟨y', hy', e'⟩ := Wy (r := y.1) (z := r) vU_; have h5 := jI ur rr y' hy'; have c1 : zE r y.1 = zE r y'.1 := by unfold zE; rw [e']
      exact .inr ⟨y', kZ.2 ⟨hy', by omega⟩, by rw [qz es e']; exact e⟩
  rw [List.mem_filter, List.mem_filter]
  constructor
  · rintro ⟨h1, h2⟩
    have ht : qx es d q = false := by simpa using h2
    exact ⟨mv ub rb ua ra (fun u hu => by have := h.wt u; rw [KZ ht hu] at this; omega) h1, h2⟩
  · rintro ⟨h1, h2⟩
    have ht : qx es d q = false := by simpa using h2
    exact ⟨mv ua ra ub rb (fun u hu => by have := h.wt u; rw [KZ ht hu] at this; omega) h1, h2⟩
theorem VK (ua : a.Pairwise (fun x y => zv x.1 y.1 < 0)) (ra : ∀ y ∈ a, ∀ v ∈ y.1, RV v) (ub : b.Pairwise (fun x y => zv x.1 y.1 < 0)) (rb : ∀ y ∈ b, ∀ v ∈ y.1, RV v) (h : kC a b d) (u : List V) :
    zE (jk es ag b) u - zE (jk es ag a) u = zE (jk es ag (b.filter (fun r => qx es d (yc es r.1)))) u - zE (jk es ag (a.filter (fun r => qx es d (yc es r.1)))) u := by
  by_cases he : es.length = 0
  · have hv : ∀ r, yc es r = [] := fun r => by unfold yc; rw [List.length_eq_zero_iff.1 he]; rfl
    by_cases hd : d = []
    · have hf : ∀ z : List Z, z.filter (fun r => qx es d (yc es r.1)) = [] := fun z => List.filter_eq_nil_iff.2 fun r _ => by rw [hd]; simp [qx]
      rw [hf, hf]; have e := K3 (es := es) (ag := ag) (d := d) b u; have e2 := K3 (es := es) (ag := ag) (d := d) a u; have e3 := JL (es := es) (ag := ag) ua ra ub rb h u; have e4 : ∀ l : List (List V), l.filter (qx es d) = [] := fun l => List.filter_eq_nil_iff.2 fun q _ => by rw [hd]; simp [qx]
      rw [e4] at e e2; simp only [List.map_nil, xn] at e e2; omega
    · obtain ⟨y, d', rfl⟩ := List.exists_cons_of_ne_nil hd
      have hf : ∀ z : List Z, z.filter (fun r => qx es (y :: d') (yc es r.1)) = z := fun z => List.filter_eq_self.2 fun r _ => by rw [hv]; unfold qx; rw [List.any_cons, hv]; simp
      rw [hf, hf]
  · have t : ∀ z : List Z, zE (jk es ag (z.filter (fun r => qx es d (yc es r.1)))) u = zE (((z0 es z).filter (qx es d)).map (xk es ag z)) u := fun z => by
      unfold jk; rw [j8 ((R4 z he).map _) u]; congr 1; refine List.map_congr_left fun q hq => ?_
      have ht := (List.mem_filter.1 hq).2; unfold xk; rw [Sz z ht]
    rw [t, t, K3 (d := d) b u, K3 (d := d) a u, JL ua ra ub rb h u]; omega
end
def Rv (k n : Int) (x : E) (xs : List E) (ag : List Ag) (nr : Nat) (a1 a2 d1 d2 : List Z) : List Z :=
  if k = 2 then d1.filter (fun r => yu x r.1)
  else if k = 3 then zW (d1.map (fun r => (yc xs r.1, r.2)))
  else if k = 4 then zW (yT x d1 a2 ++ (yT x a1 d2 ++ yT x d1 d2))
  else if k = 8 then zW (d1 ++ d2)
  else if k = 9 then zW (d1 ++ zP (-1) d2)
  else if k = 10 then Ci yQ a1 d1
  else if k = 11 then Ci YB a1 d1
  else if k = 12 then zW (jk xs ag ((zW (a1 ++ d1)).filter (fun r => qx xs d1 (yc xs r.1))) ++ zP (-1) (jk xs ag (a1.filter (fun r => qx xs d1 (yc xs r.1)))))
  else if k = 13 then zW (xx xs n (zW (a1 ++ d1)) ++ zP (-1) (xx xs n a1))
  else zW (xb k nr x ((zW (a1 ++ d1)).filter (fun r => XI x d1 d2 r.1)) (zW (a2 ++ d2)) ++ zP (-1) (xb k nr x (a1.filter (fun r => XI x d1 d2 r.1)) a2))
theorem kC.now {a b d : List Z} (h : kC a b d) (ra : ∀ y ∈ a, ∀ v ∈ y.1, RV v) (hb : yJ b) : zW (a ++ d) = b := by
  obtain ⟨c, w⟩ := yB (a ++ d) (fun y hy => by
    rcases List.mem_append.1 hy with hy | hy
    · exact ra y hy
    · exact h.rv y hy)
  exact x4 _ _ c hb fun u _ => by rw [w, yf, h.wt]
theorem VA {o o' p q : List Z} {d1 d2 : List Z} (h1 : ∀ u, zE o' u - zE o u = zE p u - zE q u) (hp : ∀ y ∈ p, ∀ v ∈ y.1, RV v) (hq : ∀ y ∈ q, ∀ v ∈ y.1, RV v) : kC o o' (zW (p ++ zP (-1) q)) := by
  refine Xu (fun y hy => ?_) (fun u => ?_)
  · rcases List.mem_append.1 hy with hy | hy
    · exact hp y hy
    · obtain ⟨t, ht, rfl⟩ := List.mem_map.1 hy
      exact hq t ht
  · have := h1 u
    rw [yf, xG]; omega
theorem NE {cols : List Int} {es : List E} {ag : List Ag} {z s : List Z} (h : QW cols es ag z = (s, 0)) : (∀ u, zE s u = zE (jk es ag z) u) /\ xe cols es ag z := by
  obtain ⟨g, hs⟩ := ND h; have r := g.rows (l := z0 es z) (fun q hq => hq); refine ⟨fun u => ?_, g⟩; rw [hs]; exact (yB (jk es ag z) (fun x hx => (r.1 x hx).2)).2 u
theorem Q1 {cols : List Int} {z : List Z} (h : zz cols z = 0) (T : Z -> Bool) : zz cols (z.filter T) = 0 := by
  obtain ⟨h1, h2, h3⟩ := zj h; have sm := Jc (SM.of h2) T; have w := sm.rz vU_ vU_; unfold zz; rw [if_neg vU_, if_neg (by rw [w]; simp), km]; exact fun x hx => h3 x (List.mem_filter.1 hx).1
theorem xe.sub {cols : List Int} {es : List E} {ag : List Ag} {z : List Z} (g : xe cols es ag z) (T : Z -> Bool) : ∀ y ∈ jk es ag (z.filter T), ∀ v ∈ y.1, RV v := by
  have g2 : xe cols es ag (z.filter T) := ⟨g.n, g.es, g.ag, Q1 g.z T⟩
  exact fun y hy => ((g2.rows (l := z0 es (z.filter T)) (fun q hq => hq)).1 y hy).2
theorem Qh {want : Bool} {l r : List Int} {x : E} {a b o : List Z} (h : xA want l r x a b = (o, 0)) : ∀ u, zE o u = zE (a.filter (fun p => qh x b p == want)) u := by
  by_cases h0 : xQ l r x a b = 0
  · obtain ⟨e, _, _, w⟩ := PE (want := want) h0
    rw [e] at h; obtain rfl := (Prod.mk.inj h).1; exact fun u => by rw [w, Rh]
  · rw [Mp h0] at h
    exact absurd (Prod.mk.inj h).2 h0
theorem Py {l r : List Int} {x : E} {a b o : List Z} (h : jV l r x a b = (o, 0)) : ∀ u, zE o u = zE (xj r.length x a b) u := by
  unfold jV at h; split at h
  · exact v4_
  · rename_i h1
    exact (qm (JE (show xQ l r x a b = 0 by simpa using h1)) h).2.2
theorem Qa {f : Int -> Int} {z o : List Z} (h : yO f z = (o, 0)) (f0 : f 0 = 0) (fb : ∀ n, -1000000 <= n -> n <= 1000000 -> -1000000 <= f n /\ f n <= 1000000) : ∀ u, zE o u = f (zE z u) := by
  obtain ⟨s, e, _, _, w⟩ := Kk (SM.of (Jb h)) f0 fb vU_ vU_; rw [h] at e; obtain rfl := (Prod.mk.inj e).1; exact w
theorem Pq {k n : Int} {x : E} {xs : List E} {ag : List Ag} {cs : List (List Int)} {a1 a2 b1 b2 d1 d2 o o' : List Z} (hk : 2 <= k /\ k <= 13) (h : kC a1 b1 d1) (kk : kC a2 b2 d2) (wa1 : zw a1 = 0) (wa2 : zw a2 = 0) (rb1 : qq b1) (rb2 : qq b2)
    (h1 : xy k n x xs ag cs [a1, a2] = (o, 0)) (h2 : xy k n x xs ag cs [b1, b2] = (o', 0)) : kC o o' (Rv k n x xs ag (cs.getD 1 []).length a1 a2 d1 d2) := by
  have s1 := SM.of wa1; have s2 := SM.of wa2; have t1 := SM.of rb1.2; have t2 := SM.of rb2.2; have e1 := h.now s1.rv rb1.1; have e2 := kk.now s2.rv rb2.1; unfold xy at h1 h2; simp only [List.getD_cons_zero, List.getD_cons_succ] at h1 h2; unfold Rv; rw [e1, e2]
  by_cases k2 : k = 2
  · rw [if_pos k2] at h1 h2 ⊢
    exact Nb h h1 h2
  rw [if_neg k2] at h1 h2 ⊢
  by_cases k3 : k = 3
  · rw [if_pos k3] at h1 h2 ⊢
    exact Vp h h1 h2
  rw [if_neg k3] at h1 h2 ⊢
  by_cases k4 : k = 4
  · rw [if_pos k4] at h1 h2 ⊢
    exact Tl h kk s1.rv s2.rv h1 h2
  rw [if_neg k4] at h1 h2 ⊢
  have part : ∀ (w1 : ∀ u, zE o u = zE (xb k (cs.getD 1 []).length x a1 a2) u) (w2 : ∀ u, zE o' u = zE (xb k (cs.getD 1 []).length x b1 b2) u), kC o o' (zW (xb k (cs.getD 1 []).length x (b1.filter (fun r => XI x d1 d2 r.1)) b2 ++ zP (-1) (xb k (cs.getD 1 []).length x (a1.filter (fun r => XI x d1 d2 r.1)) a2))) :=
    fun w1 w2 => Tm h kk s2.up s2.rv t2.up t2.rv s1.rv t1.rv w1 w2
  by_cases k5 : k = 5
  · rw [if_pos k5] at h1 h2
    rw [if_neg vU_, if_neg vU_, if_neg vU_, if_neg vU_, if_neg vU_, if_neg vU_]; exact part (fun u => by rw [Qh h1]; unfold xb; rw [if_pos k5]) (fun u => by rw [Qh h2]; unfold xb; rw [if_pos k5])
  rw [if_neg k5] at h1 h2
  by_cases k6 : k = 6
  · rw [if_pos k6] at h1 h2
    rw [if_neg vU_, if_neg vU_, if_neg vU_, if_neg vU_, if_neg vU_, if_neg vU_]; exact part (fun u => by rw [Qh h1]; unfold xb; rw [if_neg k5, if_pos k6]) (fun u => by rw [Qh h2]; unfold xb; rw [if_neg k5, if_pos k6])
  rw [if_neg k6] at h1 h2
  by_cases k7 : k = 7
  · rw [if_pos k7] at h1 h2
    rw [if_neg vU_, if_neg vU_, if_neg vU_, if_neg vU_, if_neg vU_, if_neg vU_]; exact part (fun u => by rw [Py h1]; unfold xb; rw [if_neg k5, if_neg k6]) (fun u => by rw [Py h2]; unfold xb; rw [if_neg k5, if_neg k6])
  rw [if_neg k7] at h1 h2
  by_cases k8 : k = 8
  · rw [if_pos k8] at h1 h2 ⊢
    have := LA h kk h1 h2
    rwa [show zP 1 d2 = d2 from by unfold zP; simp] at this
  rw [if_neg k8] at h1 h2 ⊢
  by_cases k9 : k = 9
  · rw [if_pos k9] at h1 h2 ⊢
    exact LA h kk h1 h2
  rw [if_neg k9] at h1 h2 ⊢
  by_cases k10 : k = 10
  · rw [if_pos k10] at h1 h2 ⊢
    exact LB h (Qa h1 rfl (fun n h1 h2 => by unfold yQ; split <;> omega)) (Qa h2 rfl (fun n h1 h2 => by unfold yQ; split <;> omega))
  rw [if_neg k10] at h1 h2 ⊢
  by_cases k11 : k = 11
  · rw [if_pos k11] at h1 h2 ⊢
    exact LB h (Qa h1 rfl (fun n h1 h2 => by unfold YB; split <;> omega)) (Qa h2 rfl (fun n h1 h2 => by unfold YB; split <;> omega))
  rw [if_neg k11] at h1 h2 ⊢
  by_cases k12 : k = 12
  · rw [if_pos k12] at h1 h2 ⊢
    obtain ⟨w1, g1⟩ := NE h1; obtain ⟨w2, g2⟩ := NE h2; exact VA (d1 := []) (d2 := []) (fun u => by rw [w1, w2]; exact VK s1.up s1.rv t1.up t1.rv h u) (g2.sub _) (g1.sub _)
  rw [if_neg k12] at h1 h2 ⊢; rw [if_pos vU_]; exact Vq h1 h2
theorem Xf {L M : List Z} (hl : ∀ y ∈ L, ∀ v ∈ y.1, RV v) (hm : ∀ y ∈ M, ∀ v ∈ y.1, RV v) (h : ∀ u, zE L u = zE M u) : yF L = yF M := by
  unfold yF; rw [Wg hl hm h]
structure qG (c : List Int) (r o : List Z) : Prop where
  ri : zz c r = 0
  oi : zz c o = 0
  rt : qq o
  wt : ∀ u, zE o u = zE r u
section
variable {c c1 c2 : List Int} {r o r1 o1 r2 o2 : List Z}
theorem qG.rv (h : qG c r o) : ∀ y ∈ r, ∀ v ∈ y.1, RV v := (SM.of (zj h.ri).2.1).rv
theorem qG.up (h : qG c r o) : r.Pairwise (fun x y => zv x.1 y.1 < 0) := (SM.of (zj h.ri).2.1).up
theorem qG.ne (h : qG c r o) : ∀ y ∈ r, y.2 ≠ 0 := (SM.of (zj h.ri).2.1).ne
theorem qG.sum (h : qG c r o) {f : List V -> Int} (hf : XR f) : zO f r = zO f o := (Yh hf fun q => h.wt q).symm
theorem qG.bare (h : qG c r o) : o = r.map bZ := by
  refine x4 _ _ h.rt.1 ⟨?_, fun y hy => ?_, fun y hy => ?_, fun y hy => ?_⟩ fun u _ => by rw [J6, h.wt]
  · rw [List.pairwise_map]
    exact List.Pairwise.imp_of_mem (fun ha hb e => qM (h.rv _ ha) (h.rv _ hb) e) h.up
  · obtain ⟨x, hx, rfl⟩ := List.mem_map.1 hy
    exact yy (h.rv x hx)
  · exact u0_
  · obtain ⟨x, hx, rfl⟩ := List.mem_map.1 hy
    exact h.ne x hx
theorem qG.met (h : qG c r o) (x : E) (p : List V) : kJ x r p = kJ x o p := by
  have t := SM.of h.rt.2; rw [Bool.eq_iff_iff, Qd h.up h.rv, Qd t.up t.rv]; exact ⟨fun ⟨q, hq, hw⟩ => ⟨q, hq, by rw [h.wt]; exact hw⟩, fun ⟨q, hq, hw⟩ => ⟨q, hq, by rw [<- h.wt]; exact hw⟩⟩
theorem qG.told (h1 : qG c1 r1 o1) (h2 : qG c2 r2 o2) (k : Int) (n : Nat) (x : E) (u : List V) : zE (xb k n x r1 r2) u = zE (xb k n x o1 o2) u := by
  rw [XG, XG, h1.sum (Yk k n x r2 u)]; congr 1; funext p; unfold JR; rw [h2.met, h2.sum (jB x u p)]
theorem P4 {k : Int} {n : Nat} {x : E} {p q : List Z} (hp : ∀ y ∈ p, ∀ v ∈ y.1, RV v) (hq : ∀ y ∈ q, ∀ v ∈ y.1, RV v) : ∀ y ∈ xb k n x p q, ∀ v ∈ y.1, RV v := fun y hy v hv => v5_
theorem CU (n : Nat) (x : E) (a b : List Z) : xb 5 n x a b = a.filter (fun p => qh x b p == true) := if_pos rfl
theorem CX (n : Nat) (x : E) (a b : List Z) : xb 6 n x a b = a.filter (fun p => qh x b p == false) := (if_neg vT_).trans (if_pos rfl)
theorem CY (n : Nat) (x : E) (a b : List Z) : xb 7 n x a b = xj n x a b := (if_neg vT_).trans (if_neg vT_)
theorem Qm (h1 : qG c1 r1 o1) (h2 : qG c2 r2 o2) (x : E) : xQ c1 c2 x r1 r2 = xQ c1 c2 x o1 o2 := by
  unfold xQ; rw [h1.ri, h1.oi, h2.ri, h2.oi]
theorem Qf {k n : Int} {x : E} {xs : List E} {ag : List Ag} {cs : List (List Int)} (h1 : qG (cs.getD 0 []) r1 o1) (h2 : qG (cs.getD 1 []) r2 o2) : xy k n x xs ag cs [r1, r2] = xy k n x xs ag cs [o1, o2] := by
  have t1 := SM.of h1.rt.2; have t2 := SM.of h2.rt.2; have f1 : ∀ (L M : List Z), (∀ y ∈ L, y ∈ r1) -> (∀ y ∈ M, y ∈ o1) -> (∀ y ∈ L, ∀ v ∈ y.1, RV v) /\ (∀ y ∈ M, ∀ v ∈ y.1, RV v) := fun L M a b => ⟨fun y hy => h1.rv y (a y hy), fun y hy => t1.rv y (b y hy)⟩
  unfold xy; simp only [List.getD_cons_zero, List.getD_cons_succ]
  by_cases k2 : k = 2
  · rw [if_pos k2, if_pos k2]
    unfold qB; rw [h1.ri, h1.oi]; obtain ⟨p, q⟩ := f1 (r1.filter (fun r => yu x r.1)) (o1.filter (fun r => yu x r.1)) (fun y hy => (List.mem_filter.1 hy).1) (fun y hy => (List.mem_filter.1 hy).1); rw [Xf p q fun u => by rw [xu _ (fun r q e => yZ x e) u, xu _ (fun r q e => yZ x e) u, h1.wt]]
  rw [if_neg k2, if_neg k2]
  by_cases k3 : k = 3
  · rw [if_pos k3, if_pos k3]
    unfold Ze; rw [h1.ri, h1.oi]
    by_cases ht : (zC (cs.getD 0 []) xs).2 = 0
    · have p := Qc (z := r1) ht h1.ri
      have q := Qc (z := o1) ht h1.oi; rw [Xf (fun y hy => (p y hy).2) (fun y hy => (q y hy).2) fun u => (Zx (fun r => yc xs r) u r1).trans ((h1.sum (Jz xs u)).trans (Zx (fun r => yc xs r) u o1).symm)]
    · rw [if_pos ht, if_pos ht]
  rw [if_neg k3, if_neg k3]; have rv2 := h2.rv
  by_cases k4 : k = 4
  · rw [if_pos k4, if_pos k4]
    unfold jU; rw [Qm h1 h2]; split
    · rfl
    · refine Xf ?_ ?_ fun u => ?_
      · intro y hy v hv
        obtain ⟨s, hs, t, ht, rfl⟩ := x8 hy; rcases List.mem_append.1 hv with hv | hv
        · exact h1.rv s hs v hv
        · exact h2.rv t ht v hv
      · intro y hy v hv
        obtain ⟨s, hs, t, ht, rfl⟩ := x8 hy; rcases List.mem_append.1 hv with hv | hv
        · exact t1.rv s hs v hv
        · exact t2.rv t ht v hv
      · rw [jH, jH, h1.sum (ZL x u r2)]
        exact Yi _ _ o1 fun y _ => h2.sum (jB x u y.1)
  rw [if_neg k4, if_neg k4]; have td := fun (k : Int) => Xf (P4 (k := k) (n := (cs.getD 1 []).length) (x := x) h1.rv h2.rv) (P4 (k := k) (n := (cs.getD 1 []).length) (x := x) t1.rv t2.rv) (h1.told h2 k (cs.getD 1 []).length x)
  by_cases k5 : k = 5
  · rw [if_pos k5, if_pos k5]
    unfold xA; rw [Qm h1 h2]; have := td 5; rw [CU, CU] at this; rw [this]
  rw [if_neg k5, if_neg k5]
  by_cases k6 : k = 6
  · rw [if_pos k6, if_pos k6]
    unfold xA; rw [Qm h1 h2]; have := td 6; rw [CX, CX] at this; rw [this]
  rw [if_neg k6, if_neg k6]
  by_cases k7 : k = 7
  · rw [if_pos k7, if_pos k7]
    unfold jV; rw [Qm h1 h2]; have := td 7; rw [CY, CY] at this; rw [this]
  rw [if_neg k7, if_neg k7]
  have bw : ∀ t : Int, yL r1 r2 t = yL o1 o2 t := fun t => by
    unfold yL; rw [(zj h1.ri).2.1, (zj h2.ri).2.1, h1.rt.2, h2.rt.2]
    have sc : ∀ {z : List Z}, (∀ y ∈ z, ∀ v ∈ y.1, RV v) -> ∀ y ∈ zP t z, ∀ v ∈ y.1, RV v := fun hz y hy => by
      obtain ⟨q, hq, rfl⟩ := List.mem_map.1 hy; exact hz q hq
    rw [Xf (L := r1 ++ zP t r2) (M := o1 ++ zP t o2) (fun y hy => by
      rcases List.mem_append.1 hy with hy | hy
      · exact h1.rv y hy
      · exact sc h2.rv y hy) (fun y hy => by
      rcases List.mem_append.1 hy with hy | hy
      · exact t1.rv y hy
      · exact sc t2.rv y hy) fun u => by rw [yf, yf, xG, xG, h1.wt, h2.wt]]
  by_cases k8 : k = 8
  · rw [if_pos k8, if_pos k8, bw]
  rw [if_neg k8, if_neg k8]
  by_cases k9 : k = 9
  · rw [if_pos k9, if_pos k9, bw]
  rw [if_neg k9, if_neg k9]
  have el : ∀ f : Int -> Int, yo f r1 = yo f o1 := fun f => by
    rw [h1.bare]; unfold yo; rw [List.map_map]; congr 1; refine List.map_congr_left fun y _ => ?_
    show (zg y.1, f y.2) = (zg (zg y.1), f y.2); rw [zU]
  have ew : ∀ f : Int -> Int, yO f r1 = yO f o1 := fun f => by
    unfold yO; rw [(zj h1.ri).2.1, h1.rt.2, el]
  by_cases k10 : k = 10
  · rw [if_pos k10, if_pos k10, ew]
  rw [if_neg k10, if_neg k10]
  by_cases k11 : k = 11
  · rw [if_pos k11, if_pos k11, ew]
  rw [if_neg k11, if_neg k11]
  by_cases k12 : k = 12
  · rw [if_pos k12, if_pos k12]
    have hd : z0 xs r1 = z0 xs o1 := by
      rw [h1.bare]; unfold z0 Q4 pg; rw [List.filter_map, List.map_map]; congr 1; exact (List.map_congr_left fun y _ => (jd xs y.1)).symm
    have rw9 : ∀ q, xk xs ag r1 q = xk xs ag o1 q := fun q => by
      have e : yE xs o1 q = (yE xs r1 q).map bZ := by
        rw [h1.bare]; unfold yE pg; rw [List.filter_map, List.filter_map]; congr 1; refine List.filter_congr fun y _ => ?_
        show decide (yc xs (zg y.1) = q) = _; rw [jd]
      unfold xk; rw [e]; congr 2; exact List.map_congr_left fun a _ => (Qs a _).symm
    have gl : jk xs ag r1 = jk xs ag o1 := by
      unfold jk; rw [hd]; exact List.map_congr_left fun q _ => rw9 q
    unfold QW; rw [h1.ri, h1.oi]; show _ = _
    first
      | rw [gl]
      | (unfold jk at gl; rw [gl])
  rw [if_neg k12, if_neg k12]; unfold kA; rw [h1.ri, h1.oi, el]
end
def yD (ts : List (List Int)) (data more : List (List Z)) : PL -> List Z × List Z × Int
  | .leaf => ([], [], 0)
  | .mk k n x xs ag _ m _ kid =>
    if k = 1 then (data.getD n.toNat [], more.getD n.toNat [], 0)
    else if m = 1 then
      if (yD ts data more (kid 0)).2.2 ≠ 0 then ([], [], (yD ts data more (kid 0)).2.2)
      else if (xy k n x xs.l ag.l [(zt ts (kid 0)).1] [(yD ts data more (kid 0)).1]).2 ≠ 0 then ([], [], (xy k n x xs.l ag.l [(zt ts (kid 0)).1] [(yD ts data more (kid 0)).1]).2)
      else ((xy k n x xs.l ag.l [(zt ts (kid 0)).1] [(yD ts data more (kid 0)).1]).1, Rv k n x xs.l ag.l 0 (yD ts data more (kid 0)).1 [] (yD ts data more (kid 0)).2.1 [], 0)
    else
      if (yD ts data more (kid 0)).2.2 ≠ 0 then ([], [], (yD ts data more (kid 0)).2.2)
      else if (yD ts data more (kid 1)).2.2 ≠ 0 then ([], [], (yD ts data more (kid 1)).2.2)
      else if (xy k n x xs.l ag.l [(zt ts (kid 0)).1, (zt ts (kid 1)).1] [(yD ts data more (kid 0)).1, (yD ts data more (kid 1)).1]).2 ≠ 0 then ([], [], (xy k n x xs.l ag.l [(zt ts (kid 0)).1, (zt ts (kid 1)).1] [(yD ts data more (kid 0)).1, (yD ts data more (kid 1)).1]).2)
      else ((xy k n x xs.l ag.l [(zt ts (kid 0)).1, (zt ts (kid 1)).1] [(yD ts data more (kid 0)).1, (yD ts data more (kid 1)).1]).1, Rv k n x xs.l ag.l (zt ts (kid 1)).1.length (yD ts data more (kid 0)).1 (yD ts data more (kid 1)).1 (yD ts data more (kid 0)).2.1 (yD ts data more (kid 1)).2.1, 0)
theorem Cv {c : List Int} {z : List Z} (h8 : c.length <= 8) (hf : qE c z) (hw : zw z = 0) : zz c z = 0 := by
  unfold zz; rw [if_neg vU_, if_neg (by rw [hw]; simp), km]; exact fun x hx => (yz _ _).2 (hf x hx)
theorem W7 : ∀ (ts : List (List Int)) (data : List (List Z)), data.length = ts.length -> xw ts data = 0 -> ∀ i, i < ts.length -> zz (ts.getD i []) (data.getD i []) = 0
  | [], _, _, _, i, hi => absurd hi (Nat.not_lt_zero _)
  | _ :: _, [], h, _, _, _ => by simp at h
  | c :: cs, z :: zs, h, h0, i, hi => by
    unfold xw at h0; split at h0
    · exact u6_
    · rename_i h1
      cases i with
      | zero => exact (show zz c z = 0 by simpa using h1)
      | succ i => exact W7 cs zs vM_ h0 i (by simpa using hi)
theorem QC {ts : List (List Int)} {data : List (List Z)} (h : yM ts data = 0) : ∀ i, i < ts.length -> zz (ts.getD i []) (data.getD i []) = 0 := by
  unfold yM at h; split at h
  · simp at h
  · rename_i h1; exact W7 ts data vG_ h
theorem VC : kC [] [] [] := ⟨fun x hx => by simp at hx, List.Pairwise.nil, fun x hx => by simp at hx, fun u => by rw [xn]; omega⟩
theorem JM : qq [] := ⟨jO, rfl⟩
theorem PH : qG [] [] [] := ⟨rfl, rfl, JM, fun _ => rfl⟩
section
variable {ts : List (List Int)} {data more now : List (List Z)}
theorem Bm {p : PL} (hc : (zt ts p).2 = 0) (hd : yM ts data = 0) {s : List Z} (h : yp ts data p = (s, 0)) : qG (zt ts p).1 s s := by
  have r := qw (kf hd) p (yY hc) h; have i := Cv (XW ts p) (Uo hd p hc s h) r.2; exact ⟨i, i, r, fun _ => rfl⟩
theorem VW (hd : yM ts data = 0) (hm : yM ts more = 0) (hn : yM ts now = 0) (hw : ∀ i, i < ts.length -> ∀ u, zE (now.getD i []) u = zE (data.getD i []) u + zE (more.getD i []) u) (p : PL) :
    (zt ts p).2 = 0 -> ∀ o o', yp ts data p = (o, 0) -> yp ts now p = (o', 0) -> ∃ r d, yD ts data more p = (r, d, 0) /\ qG (zt ts p).1 r o /\ kC r o' d := by
  induction p with
  | leaf => intro h; exact absurd rfl (yY h)
  | mk k n x xs ag A m cap kid ih =>
    intro h o o' ho ho'; have raw := Bm h hd ho; have right' := qw (kf hn) _ (yY h) ho'; obtain ⟨hmk, hk0, hc⟩ := xV h; have kd := fun i (hi : i < m) => y9 h hi
    by_cases k1 : k = 1
    · subst k1
      unfold yt at hc; rw [if_pos rfl] at hc; split at hc
      · exact uG_
      · rename_i hlt
        have hi : n.toNat < ts.length := by omega
        have ei := QC hd _ hi; have em := QC hm _ hi; have en := QC hn _ hi; have ec := (Prod.mk.inj hc).1; unfold yp at ho ho'; rw [if_pos rfl] at ho ho'; have w1 := (qm (Q7 ei) ho).2.2; have w2 := (qm (Q7 en) ho').2.2; have sm := SM.of (zj em).2.1; refine ⟨data.getD n.toNat [], more.getD n.toNat [], ?_, ⟨by rw [<- ec]; exact ei, raw.oi, raw.rt, w1⟩, ⟨sm.rv, sm.up, sm.ne, fun u => by rw [w2, hw _ hi]⟩⟩; unfold yD; rw [if_pos rfl]
    · have kk : (ye k = 1 \/ ye k = 2) /\ 2 <= k /\ k <= 13 := by
        unfold ye at hk0 ⊢
        repeat' split at hk0
        all_goals first | omega | (repeat' split) <;> omega
      rcases kk.1 with h1 | h2
      · obtain rfl : m = 1 := by omega
        obtain ⟨a, ha, hoa⟩ := YP k1 ho; obtain ⟨b, hb, hob⟩ := YP k1 ho'; obtain ⟨r, d, e, rz, df⟩ := ih 0 (kd 0 vU_) a b ha hb
        have q1 : xy k n x xs.l ag.l [(zt ts (kid 0)).1] [r] = (o, 0) := by
          rw [<- hoa]; exact Qf (cs := [(zt ts (kid 0)).1]) (r2 := []) (o2 := []) rz PH
        refine ⟨o, Rv k n x xs.l ag.l 0 r [] d [], ?_, raw, ?_⟩
        · unfold yD
          rw [if_neg k1, if_pos rfl, e]; simp only [ne_eq, not_true_eq_false, if_false, q1]
        · exact Pq (cs := [(zt ts (kid 0)).1]) kk.2 df VC (zj rz.ri).2.1 rfl (qw (kf hn) _ (yY (kd 0 vU_)) hb) JM q1 hob
      · obtain rfl : m = 2 := by omega
        obtain ⟨a, a2, ha, ha2, hoa⟩ := YQ k1 ho; obtain ⟨b, b2, hb, hb2, hob⟩ := YQ k1 ho'; obtain ⟨r, d, e, rz, df⟩ := ih 0 (kd 0 vU_) a b ha hb; obtain ⟨r2, d2, e2, rz2, df2⟩ := ih 1 (kd 1 vU_) a2 b2 ha2 hb2
        have q1 : xy k n x xs.l ag.l [(zt ts (kid 0)).1, (zt ts (kid 1)).1] [r, r2] = (o, 0) := by
          rw [<- hoa]; exact Qf (cs := [(zt ts (kid 0)).1, (zt ts (kid 1)).1]) rz rz2
        refine ⟨o, Rv k n x xs.l ag.l (zt ts (kid 1)).1.length r r2 d d2, ?_, raw, ?_⟩
        · unfold yD
          rw [if_neg k1, if_neg vT_, e, e2]; simp only [ne_eq, not_true_eq_false, if_false, q1]
        · exact Pq (cs := [(zt ts (kid 0)).1, (zt ts (kid 1)).1]) kk.2 df df2 (zj rz.ri).2.1 (zj rz2.ri).2.1 (qw (kf hn) _ (yY (kd 0 vU_)) hb) (qw (kf hn) _ (yY (kd 1 vU_)) hb2) q1 hob
end
theorem Tw {o d : List Z} (h : kC o o d) : d = [] := by
  rcases d with _ | ⟨x, l⟩
  · rfl
  · exfalso
    have h1 := jI h.up h.rv x vV_; have h2 := h.ne x vV_; have h3 := h.wt x.1; omega
theorem QE : ∀ (ts : List (List Int)) (data : List (List Z)), data.length = ts.length -> xw ts data = 0 -> xw ts (data.map fun _ => []) = 0
  | [], [], _, _ => rfl
  | [], _ :: _, h, _ => by simp at h
  | _ :: _, [], h, _ => by simp at h
  | c :: cs, z :: zs, h, h0 => by
    unfold xw at h0; split at h0
    · exact u6_
    · rename_i h1
      have h1 : zz c z = 0 := by simpa using h1
      have e : zz c [] = 0 := Cv (zj h1).1 (fun y hy => by simp at hy) rfl; rw [List.map_cons]; unfold xw; rw [if_neg (by rw [e]; simp)]; exact QE cs zs vM_ h0
theorem W6 {ts : List (List Int)} {data : List (List Z)} (h : yM ts data = 0) : yM ts (data.map fun _ => []) = 0 := by
  unfold yM at h ⊢; split at h
  · simp at h
  · rename_i h1
    have h1 : data.length = ts.length := by simpa using h1
    rw [if_neg (by simp [h1])]; exact QE ts data h1 h
def xz : List (List Z) -> List (List Z) -> List (List Z) × Int
  | z :: zs, c :: cs => if (yL z c 1).2 ≠ 0 then ([], (yL z c 1).2) else if (xz zs cs).2 ≠ 0 then ([], (xz zs cs).2) else ((yL z c 1).1 :: (xz zs cs).1, 0)
  | _, _ => ([], 0)
def XS (data more : List (List Z)) : List (List Z) × Int := if data.length ≠ more.length then ([], 8) else xz data more
section
variable {ts : List (List Int)} {p : PL}
inductive C8 (ts : List (List Int)) (p : PL) : List (List Z) -> List Z -> List (List (List Z)) -> List (List Z) -> Prop
  | nil (data : List (List Z)) (o : List Z) : C8 ts p data o [] [o]
  | cons {data now c : List (List Z)} {o o' q : List Z} {cs : List (List (List Z))} {l : List (List Z)} (hm : yM ts c = 0) (ha : XS data c = (now, 0)) (h2 : QI ts p now = (o', 0)) (hq : yL o' o (-1) = (q, 0)) (hr : C8 ts p now o' cs l) : C8 ts p data o (c :: cs) (o :: l)
end
section
variable {ts : List (List Int)} {data data' : List (List Z)}
end
theorem Rt {z : List Z} (h : zw z = 0) : (yL z [] 1).2 = 0 := by
  have s := SM.of h
  have e : yF (z ++ zP 1 []) = (zW (z ++ zP 1 []), 0) := by
    have e1 : z ++ zP 1 [] = z := by simp [zP]
    rw [e1]; exact (UF s.ok (C7 vU_ s.rv s.up s.bd) s.len vU_ vU_).1
  unfold yL; rw [h]; show (yF (z ++ zP 1 [])).2 = 0; rw [e]
theorem Yv : ∀ (data : List (List Z)), kO data -> (xz data (data.map fun _ => [])).2 = 0
  | [], _ => rfl
  | z :: zs, h => by
    have e := Rt (h z vV_); have i := Yv zs (fun y hy => h y vR_); rw [List.map_cons]; unfold xz; rw [if_neg (by simp [e]), if_neg (by simp [i])]
theorem M5 {data : List (List Z)} (h : kO data) : (XS data (data.map fun _ => [])).2 = 0 := by
  unfold XS; rw [if_neg vV_]; exact Yv data h
section
variable {ts : List (List Int)} {data : List (List Z)}
theorem Ua (data : List (List Z)) (i : Nat) : (data.map fun _ => ([] : List Z)).getD i [] = [] := by
  rw [List.getD_eq_getElem?_getD, List.getElem?_map]; cases data[i]? <;> rfl
theorem Xz (hd : yM ts data = 0) (p : PL) (hc : (zt ts p).2 = 0) {o : List Z} (h : yp ts data p = (o, 0)) : ∃ r, yD ts data (data.map fun _ => []) p = (r, [], 0) /\ qG (zt ts p).1 r o := by
  obtain ⟨r, d, e, rz, df⟩ := VW (ts := ts) (data := data) (more := data.map fun _ => []) (now := data) hd (W6 hd) hd (fun i _ u => by rw [Ua, xn]; omega) p hc o o h h; have df2 : kC o o d := ⟨df.rv, df.up, df.ne, fun u => by have h1 := df.wt u; have h2 := rz.wt u; omega⟩
  rw [Tw df2] at e; exact ⟨r, e, rz⟩
theorem Ub {k n : Int} {x : E} {xs : jw} {ag : ju} {A : Option Addr} {cap : Nat} {kid : Nat -> PL} (hd : yM ts data = 0) (k1 : k ≠ 1) (hc : (zt ts (.mk k n x xs ag A 1 cap kid)).2 = 0) {o : List Z} (h : yp ts data (.mk k n x xs ag A 1 cap kid) = (o, 0)) :
    ∃ a r, yp ts data (kid 0) = (a, 0) /\ qG (zt ts (kid 0)).1 r a /\ yD ts data (data.map fun _ => []) (kid 0) = (r, [], 0) /\ xy k n x xs.l ag.l [(zt ts (kid 0)).1] [r] = (o, 0) := by
  obtain ⟨a, ha, hoa⟩ := YP k1 h; obtain ⟨r, e, rz⟩ := Xz hd (kid 0) (y9 hc vU_) ha; refine ⟨a, r, ha, rz, e, ?_⟩; rw [<- hoa]; exact Qf (cs := [(zt ts (kid 0)).1]) (r2 := []) (o2 := []) rz PH
theorem Uc {k n : Int} {x : E} {xs : jw} {ag : ju} {A : Option Addr} {cap : Nat} {kid : Nat -> PL} (hd : yM ts data = 0) (k1 : k ≠ 1) (hc : (zt ts (.mk k n x xs ag A 2 cap kid)).2 = 0) {o : List Z} (h : yp ts data (.mk k n x xs ag A 2 cap kid) = (o, 0)) :
    ∃ a b r s, yp ts data (kid 0) = (a, 0) /\ yp ts data (kid 1) = (b, 0) /\ qG (zt ts (kid 0)).1 r a /\ qG (zt ts (kid 1)).1 s b /\ yD ts data (data.map fun _ => []) (kid 0) = (r, [], 0) /\ yD ts data (data.map fun _ => []) (kid 1) = (s, [], 0) /\ xy k n x xs.l ag.l [(zt ts (kid 0)).1, (zt ts (kid 1)).1] [r, s] = (o, 0) := by
  obtain ⟨a, b, ha, hb, hoa⟩ := YQ k1 h; obtain ⟨r, e, rz⟩ := Xz hd (kid 0) (y9 hc vU_) ha; obtain ⟨s, e2, rz2⟩ := Xz hd (kid 1) (y9 hc vU_) hb; refine ⟨a, b, r, s, ha, hb, rz, rz2, e, e2, ?_⟩; rw [<- hoa]; exact Qf (cs := [(zt ts (kid 0)).1, (zt ts (kid 1)).1]) rz rz2
end
