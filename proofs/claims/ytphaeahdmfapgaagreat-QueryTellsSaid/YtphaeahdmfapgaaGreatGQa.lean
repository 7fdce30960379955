/- Parts of a proof. No condition. -/
import Derived.Test.YtphaeahdmfapgaaGreatGGa
import Derived.Test.YtphaeahdmfapgaaGreatGTc
import Derived.Test.YtphaeahdmfapgaaGreatGWb
set_option maxRecDepth 100000
set_option linter.unusedSimpArgs false
set_option linter.unusedVariables false
namespace Go
variable {p : Prop}
theorem yC_ (h : p := by
 unfold yc at h3; rw [if_neg q1, if_neg q2, if_pos q3] at h3; simp at h3) : p := h
theorem yH_ (h : p := by
 rename_i h2; exact ⟨by simpa using h1, by simpa using h2, h⟩) : p := h
theorem yI_ (h : p := by
 unfold xY; repeat' (first | exact qq _ | exact jH _ | apply yO)) : p := h
theorem yL_ (h : p := by
 unfold yc at h3; rw [if_neg q1, if_pos q2] at h3; simp at h3) : p := h
end Go
namespace Go.Proofs.YtphaeahdmfapgaaGreat
open Go.RowKit Go.Calm
def XA (k n : Int) (x : E) (xs : List E) (ag : List Ag) (cs : List (List Int)) (zs : List (List Z)) : List Z × Int :=
 if k = 2 then x7 (cs.getD 0 []) x (zs.getD 0 [])
 else if k = 3 then QO (cs.getD 0 []) xs (zs.getD 0 [])
 else if k = 4 then XO (cs.getD 0 []) (cs.getD 1 []) x (zs.getD 0 []) (zs.getD 1 [])
 else if k = 5 then xY true (cs.getD 0 []) (cs.getD 1 []) x (zs.getD 0 []) (zs.getD 1 [])
 else if k = 6 then xY false (cs.getD 0 []) (cs.getD 1 []) x (zs.getD 0 []) (zs.getD 1 [])
 else if k = 7 then XQ (cs.getD 0 []) (cs.getD 1 []) x (zs.getD 0 []) (zs.getD 1 [])
 else if k = 8 then xE (zs.getD 0 []) (zs.getD 1 []) 1
 else if k = 9 then xE (zs.getD 0 []) (zs.getD 1 []) (-1)
 else if k = 10 then yA xh (zs.getD 0 [])
 else if k = 11 then yA Xz (zs.getD 0 [])
 else if k = 12 then QN (cs.getD 0 []) xs ag (zs.getD 0 [])
 else Qn (cs.getD 0 []) xs n (zs.getD 0 [])
def qN (f : Nat -> List Z × Int) : Nat -> Nat -> List (List Z) -> Int × List (List Z)
 | 0, _, zs => (0, zs)
 | r + 1, i, zs => if (f i).2 = 0 then qN f r (i + 1) (zs ++ [(f i).1]) else ((f i).2, zs)
def yH (ts : List (List Int)) (data : List (List Z)) : PL -> List Z × Int
 | .leaf => ([], 0)
 | .mk k n x xs ag _ m _ kid =>
  if k = 1 then yZ (data.getD n.toNat [])
  else
   let r := qN (fun i => yH ts data (kid i)) m 0 []
   if r.1 ≠ 0 then ([], r.1) else XA k n x xs.l ag.l ((List.range m).map (fun i => (yn ts (kid i)).1)) r.2
def jt : List (List Int) -> List (List Z) -> Int
 | c :: cs, z :: zs => if zO c z ≠ 0 then zO c z else jt cs zs
 | _, _ => 0
def jg (ts : List (List Int)) (data : List (List Z)) : Int := if data.length ≠ ts.length then 8 else jt ts data
def Xv (ts : List (List Int)) (p : PL) (data : List (List Z)) : List Z × Int :=
 if (yn ts p).2 ≠ 0 then ([], (yn ts p).2) else if jg ts data ≠ 0 then ([], jg ts data) else yH ts data p
theorem N0 {cols : List Int} {x : E} {z s : List Z} (h : x7 cols x z = (s, 0)) : yQ cols x = 0 /\ zO cols z = 0 /\ yZ (z.filter (fun r => yi x r.1)) = (s, 0) := by
 unfold x7 at h; split at h
 ·exact wO_
 ·rename_i h1; split at h
  ·exact xe_
  ·exact yH_
theorem CU {a b : List Z} (hb : ZG b) (h : ∀ x ∈ a, x ∈ b) : ZG a := fun x hx => hb x (h x hx)
theorem EV {cols : List Int} {z : List Z} (h : zO cols z = 0) : ZG z := (SM.of (zt h).2.1).ok
def kh (z : List Z) : Prop := xi z /\ zD z = 0
theorem We {f : Int -> Int} {z s : List Z} (h : yA f z = (s, 0)) (f0 : f 0 = 0) (fb : ∀ n, -1000000 <= n -> n <= 1000000 -> -1000000 <= f n /\ f n <= 1000000) : kh s := by
 have hw := Sf h; obtain ⟨d, e, c, sm, _⟩ := Rk (SM.of hw) f0 fb u4_ u4_; rw [e] at h; obtain rfl := (Prod.mk.inj h).1; exact ⟨c, sm.rz u4_ u4_⟩
theorem Sn {cols : List Int} {es : List E} {aggs : List Ag} {z s : List Z} (h : QN cols es aggs z = (s, 0)) : zO cols z = 0 /\ kh s := by
 obtain ⟨g, hs⟩ := Eg h; have r := g.rows (l := ym es z) (fun q hq => hq); have hw := (zt g.z).2.1; have hl := YO es z (SM.of hw).len; have e := Np r.2 (by rw [List.length_map]; exact hl); have e2 : yZ ((ym es z).map (jY es aggs z)) = (s, 0) := by rw [e, hs]; rfl
 obtain ⟨c, w, _⟩ := YY r.1 e2; exact ⟨g.z, c, w⟩
theorem TC {cols : List Int} {es : List E} {k : Int} {z s : List Z} (h : Qn cols es k z = (s, 0)) : zO cols z = 0 /\ kh s := by
 unfold Qn at h; split at h
 ·exact wO_
 ·split at h
  ·simp at h
  ·split at h
   ·exact xe_
   ·rename_i h2; have h2 : zO cols z = 0 := by simpa using h2
    have smz := SM.of (zt h2).2.1
    have src : ∀ x ∈ yI es (yz xh z), ZG [x] /\ 0 < x.2 := fun x hx => by
     have hm := (yL es (yz xh z)).mem_iff.1 hx; obtain ⟨⟨r, hr, e⟩, hne⟩ := qR hm; rw [e] at hne; simp only [xh] at hne; refine ⟨fun y hy => by rw [List.mem_singleton.1 hy]; exact Wx smz.ok xh x hm, ?_⟩; split at hne
     ·exact absurd rfl hne
     ·rename_i hh; rw [e]; simp only [xh, if_neg hh]; omega
    have ok : ZG (yJ k (yI es (yz xh z))) := fun y hy => by
     obtain ⟨x, hx, e, _⟩ := jI (fun x hx => (src x hx).2) hy; rw [<- e]; exact (src x hx).1 x u5_
    obtain ⟨c, w, _⟩ := YY ok h; exact ⟨h2, c, w⟩
theorem WN {want : Bool} {l r : List Int} {x : E} {a b s : List Z} (h : xY want l r x a b = (s, 0)) : x5 l r x a b = 0 /\ kh s := by
 by_cases h0 : x5 l r x a b = 0
 ·obtain ⟨e, c, w, _⟩ := C7 (want := want) h0; rw [h] at e; rw [(Prod.mk.inj e).1]; exact ⟨h0, c, w⟩
 ·rw [Vb h0] at h; exact absurd (Prod.mk.inj h).2 h0
theorem Pj {l r : List Int} {x : E} {a b s : List Z} (h : XQ l r x a b = (s, 0)) : x5 l r x a b = 0 /\ kh s := by
 unfold XQ at h; split at h
 ·exact wO_
 ·rename_i h1; have h1 : x5 l r x a b = 0 := by simpa using h1
  obtain ⟨c, w, _⟩ := YY (Kk h1) h; exact ⟨h1, c, w⟩
theorem Sv {cols : List Int} {es : List E} {z s : List Z} (h : QO cols es z = (s, 0)) : zO cols z = 0 /\ kh s := by
 unfold QO at h; split at h
 ·exact wO_
 ·rename_i h1; split at h
  ·exact xe_
  ·rename_i h2; have h1 : (zE cols es).2 = 0 := by simpa using h1
   have h2 : zO cols z = 0 := by simpa using h2
   obtain ⟨c, w, _⟩ := YY (CG h1 h2) h; exact ⟨h2, c, w⟩
theorem SF {k n : Int} {x : E} {xs : List E} {ag : List Ag} {cs : List (List Int)} {zs : List (List Z)} {s : List Z} (h : XA k n x xs ag cs zs = (s, 0)) : kh s := by
 unfold XA at h; split at h
 ·obtain ⟨_, h2, h3⟩ := N0 h; obtain ⟨c, w, _⟩ := YY (CU (EV h2) (fun x hx => (List.mem_filter.1 hx).1)) h3; exact ⟨c, w⟩
 ·split at h
  ·exact (Sv h).2
  ·split at h
   ·obtain ⟨_, c, w, _⟩ := CB h; exact ⟨c, w⟩
   ·split at h
    ·exact (WN h).2
    ·split at h
     ·exact (WN h).2
     ·split at h
      ·exact (Pj h).2
      ·split at h
       ·obtain ⟨_, _, c, w, _⟩ := Rb h; exact ⟨c, w⟩
       ·split at h
        ·obtain ⟨_, _, c, w, _⟩ := Rb h; exact ⟨c, w⟩
        ·split at h
         ·exact We h rfl (fun n h1 h2 => by unfold xh; split <;> omega)
         ·split at h
          ·exact We h rfl (fun n h1 h2 => by unfold Xz; split <;> omega)
          ·split at h
           ·exact (Sn h).2
           ·exact (TC h).2
def kg (data : List (List Z)) : Prop := ∀ z ∈ data, zD z = 0
theorem JM : ∀ (ts : List (List Int)) (data : List (List Z)), data.length = ts.length -> jt ts data = 0 -> kg data
 | [], [], _, _ => fun z hz => by simp at hz
 | [], _ :: _, h, _ => by simp at h
 | _ :: _, [], h, _ => by simp at h
 | c :: cs, z :: zs, h, h0 => by
  unfold jt at h0; split at h0
  ·rename_i h1; exact absurd h0 h1
  ·rename_i h1; have h1 : zO c z = 0 := by simpa using h1
   have ih := JM cs zs uT_ h0; intro y hy; rcases List.mem_cons.1 hy with rfl | hy
   ·exact (zt h1).2.1
   ·exact ih y hy
theorem Lb {ts : List (List Int)} {data : List (List Z)} (h : jg ts data = 0) : kg data := by
 unfold jg at h; split at h
 ·simp at h
 ·rename_i h1; exact JM ts data uM_ h
theorem jU {ts : List (List Int)} {data : List (List Z)} (hd : kg data) (p : PL) {s : List Z} (hp : p ≠ .leaf) (h : yH ts data p = (s, 0)) : kh s := by
 cases p with
 | leaf => exact absurd rfl hp
 | mk k n x xs ag A m cap kid =>
  unfold yH at h; split at h
  ·have ok : ZG (data.getD n.toNat []) := by
    rw [List.getD_eq_getElem?_getD]; cases hi : data[n.toNat]? with
    | none => exact fun x hx => by simp at hx
    | some z => exact (SM.of (hd z (qZ_ hi))).ok
   obtain ⟨c, w, _⟩ := YY ok h; exact ⟨c, w⟩
  ·simp only at h; split at h
   ·exact wO_
   ·exact SF h
theorem QB {α : Type} {f g : Nat -> Int -> α × Int × Int} (hf : ∀ i m m', m' <= m -> (f i m).2.1 = 0 -> (g i m').2.1 = 0 /\ (g i m').2.2 - m' = (f i m).2.2 - m) : ∀ (r i : Nat) (m m' : Int) (l l' : List α), m' <= m -> (yf f r i m l).1 = 0 -> (yf g r i m' l').1 = 0 /\ (yf g r i m' l').2.1 - m' = (yf f r i m l).2.1 - m
 | 0, i, m, m', l, l', h, _ => ⟨rfl, by simp only [yf]; omega⟩
 | r + 1, i, m, m', l, l', h, h0 => by
  unfold yf at h0 ⊢; split at h0
  ·rename_i h1; obtain ⟨h2, h3⟩ := hf i m m' h h1; rw [if_pos h1, if_pos h2]; obtain ⟨h4, h5⟩ := QB hf r (i + 1) (f i m).2.2 (g i m').2.2 (l ++ [(f i m).1]) (l' ++ [(g i m').1]) u4_ h0; exact ⟨h4, by omega⟩
  ·rename_i h1; exact absurd h0 h1
theorem Sd {ts : List (List Int)} (p : PL) : ∀ (d m d' m' : Int), d' <= d -> m' <= m -> (yc ts p d m).2.1 = 0 -> (yc ts p d' m').2.1 = 0 /\ (yc ts p d' m').2.2 - m' = (yc ts p d m).2.2 - m := by
 induction p with
 | leaf => intro d m d' m' _ _ h; unfold yc at h; split at h <;> simp at h
 | mk k n x xs ag A mm cap kid ih =>
  intro d m d' m' hd hm h
  by_cases h1 : 60 < m + 1 \/ 15 < d
  ·unfold yc at h; rw [if_pos h1] at h; simp at h
  ·by_cases h2 : zY k < 0
   ·unfold yc at h; rw [if_neg h1, if_pos h2] at h; simp at h
   ·by_cases h3 : (mm : Int) = zY k
    ·rw [x6 ts k n x xs ag A mm cap kid d m h1 u4_ h3] at h ⊢; rw [x6 ts k n x xs ag A mm cap kid d' m' u4_ u4_ h3]; unfold qo at h ⊢; split at h
     ·rename_i h0; exact absurd h h0
     ·rename_i h0; have h0 : (yf (fun i m' => yc ts (kid i) (d + 1) m') mm 0 (m + 1) []).1 = 0 := by simpa using h0
      obtain ⟨g0, g1⟩ := QB (f := fun i m' => yc ts (kid i) (d + 1) m') (g := fun i m' => yc ts (kid i) (d' + 1) m') (fun i a b hab h9 => ih i (d + 1) a (d' + 1) b u4_ hab h9) mm 0 (m + 1) (m' + 1) [] [] u4_ h0; have e1 := XP (g := fun i => QL ts (kid i)) (fun i m' h => (Zd (kid i) (d + 1) m' h).1) mm 0 (m + 1) [] h0; have e2 := XP (g := fun i => QL ts (kid i)) (fun i m' h => (Zd (kid i) (d' + 1) m' h).1) mm 0 (m' + 1) [] g0; rw [if_neg (by simp [g0]), if_neg (by simp [h0])]; rw [e1] at h; rw [e2]; exact ⟨h, by simp only; omega⟩
    ·unfold yc at h; rw [if_neg h1, if_neg h2, if_pos h3] at h; simp at h
theorem QA {α : Type} {f : Nat -> Int -> α × Int × Int} : ∀ (r j : Nat) (m : Int) (l : List α), (∀ i a, a <= (f i a).2.2 \/ (f i a).2.1 ≠ 0) -> (yf f r j m l).1 = 0 -> ∀ i, j <= i -> i < j + r -> ∃ a, m <= a /\ (f i a).2.1 = 0
 | 0, j, m, l, _, _, i, h1, h2 => by omega
 | r + 1, j, m, l, hf, hz, i, h1, h2 => by
  unfold yf at hz; split at hz
  ·rename_i h5
   by_cases hij : i = j
   ·subst hij; exact ⟨m, Int.le_refl _, h5⟩
   ·obtain ⟨a, ha, h6⟩ := QA r (j + 1) (f j m).2.2 _ hf hz i u4_ u4_; rcases hf j m with h7 | h7
    ·exact ⟨a, by omega, h6⟩
    ·exact absurd h5 h7
  ·rename_i h5; exact absurd hz h5
theorem Cl {ts : List (List Int)} (p : PL) (d m : Int) : m <= (yc ts p d m).2.2 \/ (yc ts p d m).2.1 ≠ 0 := by
 by_cases h : m <= 60
 ·exact .inl (K5 ts p d m h).1
 ·right; cases p with
  | leaf => unfold yc; rw [if_pos u4_]; simp
  | mk k n x xs ag A mm cap kid => unfold yc; rw [if_pos u4_]; simp
theorem kE {ts : List (List Int)} {k n : Int} {x : E} {xs : km} {ag : kf} {A : Option Addr} {m cap : Nat} {kid : Nat -> PL} (h : (yn ts (.mk k n x xs ag A m cap kid)).2 = 0) {i : Nat} (hi : i < m) : (yn ts (kid i)).2 = 0 := by
 unfold yn at h; split at h
 ·simp at h
 ·rename_i h8; split at h
  ·exact xi_
  ·rename_i h1; split at h
   ·rename_i h3; exact absurd h h3
   ·rename_i h3; have h3 : (yc ts (.mk k n x xs ag A m cap kid) 1 0).2.1 = 0 := by simpa using h3
    have hk : (yc ts (kid i) 1 0).2.1 = 0 := by
     by_cases q1 : 60 < (0 : Int) + 1 \/ 15 < (1 : Int)
     ·omega
     ·by_cases q2 : zY k < 0
      ·exact yL_
      ·by_cases q3 : (m : Int) = zY k
       ·rw [x6 ts k n x xs ag A m cap kid 1 0 q1 u4_ q3] at h3; unfold qo at h3; split at h3
        ·rename_i h0; exact absurd h3 h0
        ·rename_i h0; obtain ⟨a, ha, hz⟩ := QA m 0 (0 + 1) [] (fun i a => Cl (ts := ts) (kid i) (1 + 1) a) uI_ i (Nat.zero_le _) u4_; exact (Sd (kid i) (1 + 1) a 1 0 u4_ u4_ hz).1
       ·exact yC_
    unfold yn; rw [if_neg h8, if_neg h1, if_neg (by simp [hk])]
theorem Xd {ts : List (List Int)} {k n : Int} {x : E} {xs : km} {ag : kf} {A : Option Addr} {m cap : Nat} {kid : Nat -> PL} (h : (yn ts (.mk k n x xs ag A m cap kid)).2 = 0) :
  (m : Int) = zY k /\ 0 <= zY k /\ zQ ts k n x xs.l ag.l ((List.range m).map (fun i => (yn ts (kid i)).1)) = ((yn ts (.mk k n x xs ag A m cap kid)).1, 0) := by
 have hk := fun (i : Nat) (hi : i < m) => (JI (kE h hi)).1
 have hh := h; have hc := (JI h).1; unfold yn at h; split at h
 ·simp at h
 ·split at h
  ·exact xi_
  ·split at h
   ·rename_i h3; exact absurd h h3
   ·rename_i h3; have h3 : (yc ts (.mk k n x xs ag A m cap kid) 1 0).2.1 = 0 := by simpa using h3
    by_cases q1 : 60 < (0 : Int) + 1 \/ 15 < (1 : Int)
    ·omega
    ·by_cases q2 : zY k < 0
     ·exact yL_
     ·by_cases q3 : (m : Int) = zY k
      ·refine ⟨q3, by omega, ?_⟩; rw [x6 ts k n x xs ag A m cap kid 1 0 q1 u4_ q3] at h3; unfold qo at h3; split at h3
       ·rename_i h0; exact absurd h3 h0
       ·rename_i h0; have e1 := XP (g := fun i => QL ts (kid i)) (fun i m' h => (Zd (kid i) (1 + 1) m' h).1) m 0 (0 + 1) [] uI_; simp only [List.nil_append, Nat.zero_add] at e1; rw [e1] at h3; have e2 : (List.range m).map (fun i => (yn ts (kid i)).1) = (List.range m).map (fun i => QL ts (kid i)) := List.map_congr_left (fun i hi => hk i (List.mem_range.1 hi)); rw [hc, e2, D8]; exact Prod.ext rfl h3
      ·exact yC_
section
variable {ts : List (List Int)} {data : List (List Z)}
theorem FD {p : PL} {s : List Z} (h : Xv ts p data = (s, 0)) : (yn ts p).2 = 0 /\ jg ts data = 0 /\ yH ts data p = (s, 0) := by
 unfold Xv at h; split at h
 ·exact wO_
 ·rename_i h1; split at h
  ·exact xe_
  ·exact yH_
theorem qz {p : PL} (h : (yn ts p).2 = 0) : p ≠ .leaf := fun e => by
 subst e; unfold yn at h; split at h
 ·simp at h
 ·split at h
  ·rename_i h2; exact h2 h
  ·split at h
   ·rename_i h3; exact h3 h
   ·rename_i h3; apply h3; unfold yc; simp
theorem Um {p : PL} {s : List Z} (h : Xv ts p data = (s, 0)) : kh s := by
 obtain ⟨h1, h2, h3⟩ := FD h; exact jU (Lb h2) p (qz h1) h3
variable {p q : PL} {s t : List Z} {A B C D : Option Addr} {c1 c2 c3 c4 : Nat}
end
def ZJ (r : List Z × Int) : Prop := r.2 ≠ 0 -> r.1 = []
theorem yO {c : Prop} [Decidable c] {e : Int} {b : List Z × Int} (h : ZJ b) : ZJ (if c then ([], e) else b) := by
 split
 ·exact fun _ => rfl
 ·exact h
theorem jH (l : List Z) : ZJ (l, 0) := fun h => absurd rfl h
theorem UX (e : Int) : ZJ ([], e) := fun _ => rfl
theorem UV (z : List Z) : ZJ (qj z) := by
 unfold qj; exact yO (yO (jH _))
theorem qq (z : List Z) : ZJ (yZ z) := UV _
theorem MW (c : List Int) (x : E) (z : List Z) : ZJ (x7 c x z) := by
 unfold x7; exact yO (yO (qq _))
theorem UW (c : List Int) (es : List E) (z : List Z) : ZJ (QO c es z) := by
 unfold QO; exact yO (yO (qq _))
theorem Ke (a b : List Z) (t : Int) : ZJ (xE a b t) := by
 unfold xE; exact yO (yO (qq _))
theorem Kf (f : Int -> Int) (z : List Z) : ZJ (yA f z) := by
 unfold yA; exact yO (jH _)
theorem UY (k n : Int) (x : E) (xs : List E) (ag : List Ag) (cs : List (List Int)) (zs : List (List Z)) : ZJ (XA k n x xs ag cs zs) := by
 unfold XA; split
 ·exact MW _ _ _
 split
 ·exact UW _ _ _
 split
 ·unfold XO; exact yO (qq _)
 split
 ·exact yI_
 split
 ·exact yI_
 split
 ·unfold XQ; exact yO (qq _)
 split
 ·exact Ke _ _ _
 split
 ·exact Ke _ _ _
 split
 ·exact Kf _ _
 split
 ·exact Kf _ _
 split
 ·unfold QN; repeat' (first | exact qq _ | exact jH _ | apply yO)
 ·unfold Qn; repeat' (first | exact qq _ | exact jH _ | apply yO)
theorem Kg (ts : List (List Int)) (data : List (List Z)) (p : PL) : ZJ (yH ts data p) := by
 cases p with
 | leaf => exact UX _
 | mk k n x xs ag A m cap kid =>
  unfold yH; split
  ·exact qq _
  ·exact yO (UY _ _ _ _ _ _ _)
theorem Sx (ts : List (List Int)) (p : PL) (data : List (List Z)) : ZJ (Xv ts p data) := by
 unfold Xv; exact yO (yO (Kg _ _ _))
theorem jQ (ts : List (List Int)) (p : PL) : (yn ts p).1.length <= 8 := by
 unfold yn; split
 ·simp
 ·split
  ·simp
  ·rename_i h1; split
   ·simp
   ·rename_i h2; exact XG (fun t ht => (Yx uM_ t ht).1) p 1 0 uQ_
