/-
 Joined texts of this claim: Qp, Qm, Qa, Qt, Qe. What each proves its own head says; no condition beside those that each theorem names.
-/
import Derived.Test.YtcaedcpjdmlilaaGreatGWa
import Derived.Test.YtcaedcpjdmlilaaGreatGVc
import Derived.Test.YtcaedcpjdmlilaaGreatGGa
import Derived.Test.YtcaedcpjdmlilaaGreatGTc
import Derived.Test.YtcaedcpjdmlilaaGreatGWd0
import Derived.Test.YtcaedcpjdmlilaaGreatGI
namespace Go.Proofs.YtcaedcpjdmlilaaGreat
open Go.RowKit Go.Calm
set_option linter.unusedSimpArgs false
set_option linter.unusedVariables false
def kY (k n : Int) (x : E) (xs : List E) (ag : List Ag) (cs : List (List Int)) (zs : List (List Z)) : List Z × Int :=
 if k = 2 then yQ (cs.getD 0 []) x (zs.getD 0 [])
 else if k = 3 then ZF (cs.getD 0 []) xs (zs.getD 0 [])
 else if k = 4 then xT (cs.getD 0 []) (cs.getD 1 []) x (zs.getD 0 []) (zs.getD 1 [])
 else if k = 5 then xK true (cs.getD 0 []) (cs.getD 1 []) x (zs.getD 0 []) (zs.getD 1 [])
 else if k = 6 then xK false (cs.getD 0 []) (cs.getD 1 []) x (zs.getD 0 []) (zs.getD 1 [])
 else if k = 7 then Yb (cs.getD 0 []) (cs.getD 1 []) x (zs.getD 0 []) (zs.getD 1 [])
 else if k = 8 then yI (zs.getD 0 []) (zs.getD 1 []) 1
 else if k = 9 then yI (zs.getD 0 []) (zs.getD 1 []) (-1)
 else if k = 10 then zP yJ (zs.getD 0 [])
 else if k = 11 then zP yB (zs.getD 0 [])
 else if k = 12 then WV (cs.getD 0 []) xs ag (zs.getD 0 [])
 else W2 (cs.getD 0 []) xs n (zs.getD 0 [])
def yj (f : Nat -> List Z × Int) : Nat -> Nat -> List (List Z) -> Int × List (List Z)
 | 0, _, zs => (0, zs)
 | r + 1, i, zs => if (f i).2 = 0 then yj f r (i + 1) (zs ++ [(f i).1]) else ((f i).2, zs)
def yr (ts : List (List Int)) (data : List (List Z)) : PL -> List Z × Int
 | .leaf => ([], 0)
 | .mk k n x xs ag _ m _ kid =>
  if k = 1 then yN (data.getD n.toNat [])
  else
   let r := yj (fun i => yr ts data (kid i)) m 0 []
   if r.1 ≠ 0 then ([], r.1) else kY k n x xs.l ag.l ((List.range m).map (fun i => (zi ts (kid i)).1)) r.2
def jA : List (List Int) -> List (List Z) -> Int
 | c :: cs, z :: zs => if zF c z ≠ 0 then zF c z else jA cs zs
 | _, _ => 0
def qD (ts : List (List Int)) (data : List (List Z)) : Int := if data.length ≠ ts.length then 8 else jA ts data
def yS (ts : List (List Int)) (p : PL) (data : List (List Z)) : List Z × Int :=
 if (zi ts p).2 ≠ 0 then ([], (zi ts p).2) else if qD ts data ≠ 0 then ([], qD ts data) else yr ts data p
theorem JE {cols : List Int} {x : E} {z s : List Z} (h : yQ cols x z = (s, 0)) : zD cols x = 0 /\ zF cols z = 0 /\ yN (z.filter (fun r => zw x r.1)) = (s, 0) := by
 unfold yQ at h; split at h
 ·rename_i h1; exact absurd (Prod.mk.inj h).2 h1
 ·rename_i h1; split at h
  ·rename_i h2; exact absurd (Prod.mk.inj h).2 h2
  ·rename_i h2; exact ⟨by simpa using h1, by simpa using h2, h⟩
theorem FH {a b : List Z} (hb : QC b) (h : ∀ x ∈ a, x ∈ b) : QC a := fun x hx => hb x (h x hx)
theorem zaX {cols : List Int} {z : List Z} (h : zF cols z = 0) : QC z := (SM.of (zp h).2.1).ok
def yv (z : List Z) : Prop := yp z /\ zu z = 0
theorem Zx {f : Int -> Int} {z s : List Z} (h : zP f z = (s, 0)) (f0 : f 0 = 0) (fb : ∀ n, -1000000 <= n -> n <= 1000000 -> -1000000 <= f n /\ f n <= 1000000) : yv s := by
 have hw := kO h; obtain ⟨d, e, c, sm, _⟩ := kA (SM.of hw) f0 fb (by omega) (by omega); rw [e] at h; obtain rfl := (Prod.mk.inj h).1; exact ⟨c, sm.rz (by omega) (by omega)⟩
theorem UN {cols : List Int} {es : List E} {aggs : List Ag} {z s : List Z} (h : WV cols es aggs z = (s, 0)) : zF cols z = 0 /\ yv s := by
 obtain ⟨g, hs⟩ := BU h; have r := g.rows (l := xd es z) (fun q hq => hq); have hw := (zp g.z).2.1; have hl := ZB es z (SM.of hw).len; have e := P9 r.2 (by rw [List.length_map]; exact hl); have e2 : yN ((xd es z).map (XS es aggs z)) = (s, 0) := by rw [e, hs]; rfl
 obtain ⟨c, w, _⟩ := kG r.1 e2; exact ⟨g.z, c, w⟩
theorem Me {cols : List Int} {es : List E} {k : Int} {z s : List Z} (h : W2 cols es k z = (s, 0)) : zF cols z = 0 /\ yv s := by
 unfold W2 at h; split at h
 ·rename_i h1; exact absurd (Prod.mk.inj h).2 h1
 ·split at h
  ·simp at h
  ·split at h
   ·rename_i h2; exact absurd (Prod.mk.inj h).2 h2
   ·rename_i h2; have h2 : zF cols z = 0 := by simpa using h2
    have smz := SM.of (zp h2).2.1
    have src : ∀ x ∈ XO es (yq yJ z), QC [x] /\ 0 < x.2 := fun x hx => by
     have hm := (XD es (yq yJ z)).mem_iff.1 hx; obtain ⟨⟨r, hr, e⟩, hne⟩ := x8 hm; rw [e] at hne; simp only [yJ] at hne; refine ⟨fun y hy => by rw [List.mem_singleton.1 hy]; exact J0 smz.ok yJ x hm, ?_⟩; split at hne
     ·exact absurd rfl hne
     ·rename_i hh; rw [e]; simp only [yJ, if_neg hh]; omega
    have ok : QC (ko k (XO es (yq yJ z))) := fun y hy => by
     obtain ⟨x, hx, e, _⟩ := YY (fun x hx => (src x hx).2) hy; rw [<- e]; exact (src x hx).1 x (by simp)
    obtain ⟨c, w, _⟩ := kG ok h; exact ⟨h2, c, w⟩
theorem km {want : Bool} {l r : List Int} {x : E} {a b s : List Z} (h : xK want l r x a b = (s, 0)) : xC l r x a b = 0 /\ yv s := by
 by_cases h0 : xC l r x a b = 0
 ·obtain ⟨e, c, w, _⟩ := QE (want := want) h0; rw [h] at e; rw [(Prod.mk.inj e).1]; exact ⟨h0, c, w⟩
 ·rw [Db h0] at h; exact absurd (Prod.mk.inj h).2 h0
theorem Sn {l r : List Int} {x : E} {a b s : List Z} (h : Yb l r x a b = (s, 0)) : xC l r x a b = 0 /\ yv s := by
 unfold Yb at h; split at h
 ·rename_i h1; exact absurd (Prod.mk.inj h).2 h1
 ·rename_i h1; have h1 : xC l r x a b = 0 := by simpa using h1
  obtain ⟨c, w, _⟩ := kG (Ve h1) h; exact ⟨h1, c, w⟩
theorem U3 {cols : List Int} {es : List E} {z s : List Z} (h : ZF cols es z = (s, 0)) : zF cols z = 0 /\ yv s := by
 unfold ZF at h; split at h
 ·rename_i h1; exact absurd (Prod.mk.inj h).2 h1
 ·rename_i h1; split at h
  ·rename_i h2; exact absurd (Prod.mk.inj h).2 h2
  ·rename_i h2; have h1 : (zy cols es).2 = 0 := by simpa using h1
   have h2 : zF cols z = 0 := by simpa using h2
   obtain ⟨c, w, _⟩ := kG (Ty h1 h2) h; exact ⟨h2, c, w⟩
theorem Vb {k n : Int} {x : E} {xs : List E} {ag : List Ag} {cs : List (List Int)} {zs : List (List Z)} {s : List Z} (h : kY k n x xs ag cs zs = (s, 0)) : yv s := by
 unfold kY at h; split at h
 ·obtain ⟨_, h2, h3⟩ := JE h; obtain ⟨c, w, _⟩ := kG (FH (zaX h2) (fun x hx => (List.mem_filter.1 hx).1)) h3; exact ⟨c, w⟩
 ·split at h
  ·exact (U3 h).2
  ·split at h
   ·obtain ⟨_, c, w, _⟩ := Xw h; exact ⟨c, w⟩
   ·split at h
    ·exact (km h).2
    ·split at h
     ·exact (km h).2
     ·split at h
      ·exact (Sn h).2
      ·split at h
       ·obtain ⟨_, _, c, w, _⟩ := Xl h; exact ⟨c, w⟩
       ·split at h
        ·obtain ⟨_, _, c, w, _⟩ := Xl h; exact ⟨c, w⟩
        ·split at h
         ·exact Zx h rfl (fun n h1 h2 => by unfold yJ; split <;> omega)
         ·split at h
          ·exact Zx h rfl (fun n h1 h2 => by unfold yB; split <;> omega)
          ·split at h
           ·exact (UN h).2
           ·exact (Me h).2
def Xi (data : List (List Z)) : Prop := ∀ z ∈ data, zu z = 0
theorem Lk : ∀ (ts : List (List Int)) (data : List (List Z)), data.length = ts.length -> jA ts data = 0 -> Xi data
 | [], [], _, _ => fun z hz => by simp at hz
 | [], _ :: _, h, _ => by simp at h
 | _ :: _, [], h, _ => by simp at h
 | c :: cs, z :: zs, h, h0 => by
  unfold jA at h0; split at h0
  ·rename_i h1; exact absurd h0 h1
  ·rename_i h1; have h1 : zF c z = 0 := by simpa using h1
   have ih := Lk cs zs (by simpa using h) h0; intro y hy; rcases List.mem_cons.1 hy with rfl | hy
   ·exact (zp h1).2.1
   ·exact ih y hy
theorem Z8 {ts : List (List Int)} {data : List (List Z)} (h : qD ts data = 0) : Xi data := by
 unfold qD at h; split at h
 ·simp at h
 ·rename_i h1; exact Lk ts data (by simpa using h1) h
theorem ZI {ts : List (List Int)} {data : List (List Z)} (hd : Xi data) (p : PL) {s : List Z} (hp : p ≠ .leaf) (h : yr ts data p = (s, 0)) : yv s := by
 cases p with
 | leaf => exact absurd rfl hp
 | mk k n x xs ag A m cap kid =>
  unfold yr at h; split at h
  ·have ok : QC (data.getD n.toNat []) := by
    rw [List.getD_eq_getElem?_getD]; cases hi : data[n.toNat]? with
    | none => exact fun x hx => by simp at hx
    | some z => exact (SM.of (hd z (List.mem_of_getElem? hi))).ok
   obtain ⟨c, w, _⟩ := kG ok h; exact ⟨c, w⟩
  ·simp only at h; split at h
   ·rename_i h1; exact absurd (Prod.mk.inj h).2 h1
   ·exact Vb h
theorem WB {α : Type} {f g : Nat -> Int -> α × Int × Int} (hf : ∀ i m m', m' <= m -> (f i m).2.1 = 0 -> (g i m').2.1 = 0 /\ (g i m').2.2 - m' = (f i m).2.2 - m) : ∀ (r i : Nat) (m m' : Int) (l l' : List α), m' <= m -> (zE f r i m l).1 = 0 -> (zE g r i m' l').1 = 0 /\ (zE g r i m' l').2.1 - m' = (zE f r i m l).2.1 - m
 | 0, i, m, m', l, l', h, _ => ⟨rfl, by simp only [zE]; omega⟩
 | r + 1, i, m, m', l, l', h, h0 => by
  unfold zE at h0 ⊢; split at h0
  ·rename_i h1; obtain ⟨h2, h3⟩ := hf i m m' h h1; rw [if_pos h1, if_pos h2]; obtain ⟨h4, h5⟩ := WB hf r (i + 1) (f i m).2.2 (g i m').2.2 (l ++ [(f i m).1]) (l' ++ [(g i m').1]) (by omega) h0; exact ⟨h4, by omega⟩
  ·rename_i h1; exact absurd h0 h1
theorem Uu {ts : List (List Int)} (p : PL) : ∀ (d m d' m' : Int), d' <= d -> m' <= m -> (zN ts p d m).2.1 = 0 -> (zN ts p d' m').2.1 = 0 /\ (zN ts p d' m').2.2 - m' = (zN ts p d m).2.2 - m := by
 induction p with
 | leaf => intro d m d' m' _ _ h; unfold zN at h; split at h <;> simp at h
 | mk k n x xs ag A mm cap kid ih =>
  intro d m d' m' hd hm h
  by_cases h1 : 60 < m + 1 \/ 15 < d
  ·unfold zN at h; rw [if_pos h1] at h; simp at h
  ·by_cases h2 : zo k < 0
   ·unfold zN at h; rw [if_neg h1, if_pos h2] at h; simp at h
   ·by_cases h3 : (mm : Int) = zo k
    ·rw [xf ts k n x xs ag A mm cap kid d m h1 (by omega) h3] at h ⊢; rw [xf ts k n x xs ag A mm cap kid d' m' (by omega) (by omega) h3]; unfold jm at h ⊢; split at h
     ·rename_i h0; exact absurd h h0
     ·rename_i h0; have h0 : (zE (fun i m' => zN ts (kid i) (d + 1) m') mm 0 (m + 1) []).1 = 0 := by simpa using h0
      obtain ⟨g0, g1⟩ := WB (f := fun i m' => zN ts (kid i) (d + 1) m') (g := fun i m' => zN ts (kid i) (d' + 1) m') (fun i a b hab h9 => ih i (d + 1) a (d' + 1) b (by omega) hab h9) mm 0 (m + 1) (m' + 1) [] [] (by omega) h0; have e1 := kf (g := fun i => zR ts (kid i)) (fun i m' h => (kN (kid i) (d + 1) m' h).1) mm 0 (m + 1) [] h0; have e2 := kf (g := fun i => zR ts (kid i)) (fun i m' h => (kN (kid i) (d' + 1) m' h).1) mm 0 (m' + 1) [] g0; rw [if_neg (by simp [g0]), if_neg (by simp [h0])]; rw [e1] at h; rw [e2]; exact ⟨h, by simp only; omega⟩
    ·unfold zN at h; rw [if_neg h1, if_neg h2, if_pos h3] at h; simp at h
theorem WA {α : Type} {f : Nat -> Int -> α × Int × Int} : ∀ (r j : Nat) (m : Int) (l : List α), (∀ i a, a <= (f i a).2.2 \/ (f i a).2.1 ≠ 0) -> (zE f r j m l).1 = 0 -> ∀ i, j <= i -> i < j + r -> ∃ a, m <= a /\ (f i a).2.1 = 0
 | 0, j, m, l, _, _, i, h1, h2 => by omega
 | r + 1, j, m, l, hf, hz, i, h1, h2 => by
  unfold zE at hz; split at hz
  ·rename_i h5
   by_cases hij : i = j
   ·subst hij; exact ⟨m, Int.le_refl _, h5⟩
   ·obtain ⟨a, ha, h6⟩ := WA r (j + 1) (f j m).2.2 _ hf hz i (by omega) (by omega); rcases hf j m with h7 | h7
    ·exact ⟨a, by omega, h6⟩
    ·exact absurd h5 h7
  ·rename_i h5; exact absurd hz h5
theorem EP {ts : List (List Int)} (p : PL) (d m : Int) : m <= (zN ts p d m).2.2 \/ (zN ts p d m).2.1 ≠ 0 := by
 by_cases h : m <= 60
 ·exact .inl (Tl ts p d m h).1
 ·right; cases p with
  | leaf => unfold zN; rw [if_pos (by omega)]; simp
  | mk k n x xs ag A mm cap kid => unfold zN; rw [if_pos (by omega)]; simp
theorem xh {ts : List (List Int)} {k n : Int} {x : E} {xs : jj} {ag : jh} {A : Option Addr} {m cap : Nat} {kid : Nat -> PL} (h : (zi ts (.mk k n x xs ag A m cap kid)).2 = 0) {i : Nat} (hi : i < m) : (zi ts (kid i)).2 = 0 := by
 unfold zi at h; split at h
 ·simp at h
 ·rename_i h8; split at h
  ·rename_i h1; exact absurd h h1
  ·rename_i h1; split at h
   ·rename_i h3; exact absurd h h3
   ·rename_i h3; have h3 : (zN ts (.mk k n x xs ag A m cap kid) 1 0).2.1 = 0 := by simpa using h3
    have hk : (zN ts (kid i) 1 0).2.1 = 0 := by
     by_cases q1 : 60 < (0 : Int) + 1 \/ 15 < (1 : Int)
     ·omega
     ·by_cases q2 : zo k < 0
      ·unfold zN at h3; rw [if_neg q1, if_pos q2] at h3; simp at h3
      ·by_cases q3 : (m : Int) = zo k
       ·rw [xf ts k n x xs ag A m cap kid 1 0 q1 (by omega) q3] at h3; unfold jm at h3; split at h3
        ·rename_i h0; exact absurd h3 h0
        ·rename_i h0; obtain ⟨a, ha, hz⟩ := WA m 0 (0 + 1) [] (fun i a => EP (ts := ts) (kid i) (1 + 1) a) (by simpa using h0) i (Nat.zero_le _) (by omega); exact (Uu (kid i) (1 + 1) a 1 0 (by omega) (by omega) hz).1
       ·unfold zN at h3; rw [if_neg q1, if_neg q2, if_pos q3] at h3; simp at h3
    unfold zi; rw [if_neg h8, if_neg h1, if_neg (by simp [hk])]
theorem xQ {ts : List (List Int)} {k n : Int} {x : E} {xs : jj} {ag : jh} {A : Option Addr} {m cap : Nat} {kid : Nat -> PL} (h : (zi ts (.mk k n x xs ag A m cap kid)).2 = 0) :
  (m : Int) = zo k /\ 0 <= zo k /\ zT ts k n x xs.l ag.l ((List.range m).map (fun i => (zi ts (kid i)).1)) = ((zi ts (.mk k n x xs ag A m cap kid)).1, 0) := by
 have hk := fun (i : Nat) (hi : i < m) => (ye (xh h hi)).1
 have hh := h; have hc := (ye h).1; unfold zi at h; split at h
 ·simp at h
 ·split at h
  ·rename_i h1; exact absurd h h1
  ·split at h
   ·rename_i h3; exact absurd h h3
   ·rename_i h3; have h3 : (zN ts (.mk k n x xs ag A m cap kid) 1 0).2.1 = 0 := by simpa using h3
    by_cases q1 : 60 < (0 : Int) + 1 \/ 15 < (1 : Int)
    ·omega
    ·by_cases q2 : zo k < 0
     ·unfold zN at h3; rw [if_neg q1, if_pos q2] at h3; simp at h3
     ·by_cases q3 : (m : Int) = zo k
      ·refine ⟨q3, by omega, ?_⟩; rw [xf ts k n x xs ag A m cap kid 1 0 q1 (by omega) q3] at h3; unfold jm at h3; split at h3
       ·rename_i h0; exact absurd h3 h0
       ·rename_i h0; have e1 := kf (g := fun i => zR ts (kid i)) (fun i m' h => (kN (kid i) (1 + 1) m' h).1) m 0 (0 + 1) [] (by simpa using h0); simp only [List.nil_append, Nat.zero_add] at e1; rw [e1] at h3; have e2 : (List.range m).map (fun i => (zi ts (kid i)).1) = (List.range m).map (fun i => zR ts (kid i)) := List.map_congr_left (fun i hi => hk i (List.mem_range.1 hi)); rw [hc, e2, qo]; exact Prod.ext rfl h3
      ·unfold zN at h3; rw [if_neg q1, if_neg q2, if_pos q3] at h3; simp at h3
section
variable {ts : List (List Int)} {data : List (List Z)}
theorem Ke {k n : Int} {x : E} {xs : jj} {ag : jh} {A : Option Addr} {cap : Nat} {kid : Nat -> PL} {s : List Z} (hk : k ≠ 1) (h : yr ts data (.mk k n x xs ag A 2 cap kid) = (s, 0)) :
  ∃ a b, yr ts data (kid 0) = (a, 0) /\ yr ts data (kid 1) = (b, 0) /\ kY k n x xs.l ag.l [(zi ts (kid 0)).1, (zi ts (kid 1)).1] [a, b] = (s, 0) := by
 unfold yr at h; rw [if_neg hk] at h; obtain ⟨a, e, ha⟩ : ∃ a e, yr ts data (kid 0) = (a, e) := ⟨_, _, rfl⟩
 obtain ⟨b, f, hb⟩ : ∃ a e, yr ts data (kid 1) = (a, e) := ⟨_, _, rfl⟩
 by_cases he : e = 0
 ·subst he
  by_cases hf : f = 0
  ·subst hf; have e1 : yj (fun i => yr ts data (kid i)) 2 0 [] = (0, [a, b]) := by simp [yj, ha, hb]
   simp only [e1, ne_eq, not_true_eq_false, if_false] at h; exact ⟨a, b, ha, hb, h⟩
  ·have e1 : yj (fun i => yr ts data (kid i)) 2 0 [] = (f, [a]) := by simp [yj, ha, hb, hf]
   simp only [e1, ne_eq, hf, not_false_eq_true, if_true] at h; exact absurd (Prod.mk.inj h).2 hf
 ·have e1 : yj (fun i => yr ts data (kid i)) 2 0 [] = (e, []) := by simp [yj, ha, he]
  simp only [e1, ne_eq, he, not_false_eq_true, if_true] at h; exact absurd (Prod.mk.inj h).2 he
theorem Kd {k n : Int} {x : E} {xs : jj} {ag : jh} {A : Option Addr} {cap : Nat} {kid : Nat -> PL} {s : List Z} (hk : k ≠ 1) (h : yr ts data (.mk k n x xs ag A 1 cap kid) = (s, 0)) :
  ∃ a, yr ts data (kid 0) = (a, 0) /\ kY k n x xs.l ag.l [(zi ts (kid 0)).1] [a] = (s, 0) := by
 unfold yr at h; rw [if_neg hk] at h; obtain ⟨a, e, ha⟩ : ∃ a e, yr ts data (kid 0) = (a, e) := ⟨_, _, rfl⟩
 by_cases he : e = 0
 ·subst he; have e1 : yj (fun i => yr ts data (kid i)) 1 0 [] = (0, [a]) := by simp [yj, ha]
  simp only [e1, ne_eq, not_true_eq_false, if_false] at h; exact ⟨a, ha, h⟩
 ·have e1 : yj (fun i => yr ts data (kid i)) 1 0 [] = (e, []) := by simp [yj, ha, he]
  simp only [e1, ne_eq, he, not_false_eq_true, if_true] at h; exact absurd (Prod.mk.inj h).2 he
theorem Pa {p : PL} {s : List Z} (h : yS ts p data = (s, 0)) : (zi ts p).2 = 0 /\ qD ts data = 0 /\ yr ts data p = (s, 0) := by
 unfold yS at h; split at h
 ·rename_i h1; exact absurd (Prod.mk.inj h).2 h1
 ·rename_i h1; split at h
  ·rename_i h2; exact absurd (Prod.mk.inj h).2 h2
  ·rename_i h2; exact ⟨by simpa using h1, by simpa using h2, h⟩
theorem y9 {p : PL} (h : (zi ts p).2 = 0) : p ≠ .leaf := fun e => by
 subst e; unfold zi at h; split at h
 ·simp at h
 ·split at h
  ·rename_i h2; exact h2 h
  ·split at h
   ·rename_i h3; exact h3 h
   ·rename_i h3; apply h3; unfold zN; simp
theorem JB {p : PL} {s : List Z} (h : yS ts p data = (s, 0)) : yv s := by
 obtain ⟨h1, h2, h3⟩ := Pa h; exact ZI (Z8 h2) p (y9 h1) h3
variable {p q : PL} {s t : List Z} {A B C D : Option Addr} {c1 c2 c3 c4 : Nat}
end
theorem kB {f g : Nat -> List Z × Int} : ∀ (r i : Nat) (zs : List (List Z)), (∀ j, i <= j -> j < i + r -> f j = g j) -> yj f r i zs = yj g r i zs
 | 0, i, zs, _ => rfl
 | r + 1, i, zs, h => by
  unfold yj; rw [h i (Nat.le_refl _) (by omega)]; split
  ·exact kB r (i + 1) _ (fun j h1 h2 => h j (by omega) (by omega))
  ·rfl
end Go.Proofs.YtcaedcpjdmlilaaGreat

namespace Go.Proofs.YtcaedcpjdmlilaaGreat
open Go.RowKit Go.Calm
set_option linter.unusedSimpArgs false
set_option linter.unusedVariables false
def qx (c : List Int) (z : List Z) : Prop := ∀ y ∈ z, kq c y.1
theorem JH {c : List Int} {r : List V} (h : kq c r) : kq c (zd r) := by
 refine ⟨by simp [zd, h.1], fun i v hv => ?_⟩; simp only [zd, List.getElem?_map, Option.map_eq_some_iff] at hv; obtain ⟨u, hu, rfl⟩ := hv; have := h.2 i u hu; exact ⟨Jf this.1, by rw [Zr]; exact this.2⟩
theorem jF {c : List Int} {z : List Z} (h : zF c z = 0) : qx c z := fun y hy => (yP _ _).1 ((zp h).2.2 y hy)
theorem Qc {c : List Int} {a b : List Z} (hb : qx c b) (h : ∀ x ∈ a, x ∈ b) : qx c a := fun y hy => hb y (h y hy)
theorem JG {c : List Int} {l : List Z} (h : qx c l) : qx c (xJ l) := fun y hy => by
 obtain ⟨x, hx, e⟩ := PW hy; rw [e]; exact JH (h x hx)
theorem qK {c : List Int} {l s : List Z} (h : qx c l) (e : yN l = (s, 0)) : qx c s := by
 unfold yN at e; rcases Xr (xJ l) with ⟨e1, _, _⟩ | ⟨q, hq, e1⟩
 ·rw [e1] at e; rw [<- (Prod.mk.inj e).1]; exact JG h
 ·rw [e1] at e; exact absurd (Prod.mk.inj e).2 hq
theorem Lp {c : List Int} {f : Int -> Int} {z s : List Z} (h : qx c z) (e : zP f z = (s, 0)) : qx c s := by
 unfold zP at e; split at e
 ·rename_i h1; exact absurd (Prod.mk.inj e).2 h1
 ·rw [<- (Prod.mk.inj e).1]; intro y hy; obtain ⟨⟨x, hx, e2⟩, _⟩ := x8 hy; rw [e2]; exact JH (h x hx)
theorem Ja {l r : List Int} {a b : List V} (ha : kq l a) (hb : kq r b) : kq (l ++ r) (a ++ b) := by
 refine ⟨by rw [List.length_append, List.length_append, ha.1, hb.1], fun i v hv => ?_⟩; rcases Nat.lt_or_ge i a.length with h | h
 ·rw [List.getElem?_append_left h] at hv; have := ha.2 i v hv; refine ⟨this.1, ?_⟩; rw [List.getD_eq_getElem?_getD, List.getElem?_append_left (by rw [<- ha.1]; exact h), <- List.getD_eq_getElem?_getD]; exact this.2
 ·rw [List.getElem?_append_right h] at hv; have := hb.2 _ v hv; refine ⟨this.1, ?_⟩; rw [List.getD_eq_getElem?_getD, List.getElem?_append_right (by rw [<- ha.1]; exact h), <- ha.1, <- List.getD_eq_getElem?_getD]; exact this.2
theorem UD (r : List Int) : kq r (List.replicate r.length yf) := by
 refine ⟨by simp, fun i v hv => ?_⟩; have := List.mem_of_getElem? hv; rw [(List.mem_replicate.1 this).2]; exact ⟨qg, .inl rfl⟩
theorem Lq {l r : List Int} {x : E} {a b : List Z} (ha : qx l a) (hb : qx r b) : qx (l ++ r) (yK x a b) := fun y hy => by
 unfold yK at hy; obtain ⟨p, hp, hy⟩ := List.mem_flatMap.1 hy; unfold xV at hy; obtain ⟨q, hq, rfl⟩ := List.mem_map.1 hy; exact Ja (ha p hp) (hb q (List.mem_filter.1 hq).1)
theorem R4 {l r : List Int} {x : E} {a b : List Z} (ha : qx l a) (hb : qx r b) : qx (l ++ r) (qY r.length x a b) := fun y hy => by
 unfold qY at hy; rcases List.mem_append.1 hy with hy | hy
 ·exact Lq ha hb y hy
 ·obtain ⟨p, hp, rfl⟩ := List.mem_map.1 hy; exact Ja (ha p (List.mem_filter.1 hp).1) (UD r)
theorem BI {cols : List Int} {row : List V} (hf : kq cols row) {e : E} (h : (zr cols e).2 = 0) : RV (yt row e) /\ ((yt row e).k = 1 \/ (yt row e).k = (zr cols e).1) := by
 have h1 := (xE cols e (zr cols e).1).1 (by rw [<- h]); refine ⟨WH row hf.rv e ?_, zbT hf e h1.2.2.1⟩; have := WN e h1.2.2.1; rw [hf.1]; exact this
theorem Tu {cols : List Int} {row : List V} (hf : kq cols row) {es : List E} (h : (zy cols es).2 = 0) {g : V -> V} (hg : ∀ v, RV v -> RV (g v) /\ (g v).k = v.k) : kq (zy cols es).1 (es.map (fun e => g (yt row e))) := by
 obtain ⟨h1, h2⟩ := xm h; have e : zy cols es = (es.map (fun x => (zr cols x).1), 0) := by unfold zy; rw [if_neg (by omega), XF cols es h2]
 rw [e]; refine ⟨by simp, fun i v hv => ?_⟩; simp only [List.getElem?_map, Option.map_eq_some_iff] at hv; obtain ⟨y, hy, rfl⟩ := hv; obtain ⟨r1, r2⟩ := BI hf (h2 y (List.mem_of_getElem? hy)); obtain ⟨g1, g2⟩ := hg _ r1; refine ⟨g1, ?_⟩; rw [g2, List.getD_eq_getElem?_getD, List.getElem?_map, hy]; exact r2
theorem PY {a b c : List Int} (h : xB a b = (c, 0)) {r : List V} : (kq a r -> kq c r) /\ (kq b r -> kq c r) := by
 unfold xB at h; split at h
 ·exact absurd (Prod.mk.inj h).2 (by decide)
 ·rename_i hl; have hl : a.length = b.length := by simpa using hl
  split at h
  ·rename_i hall; have hc : c = (a.zip b).map (fun p => qe p.1 p.2) := (Prod.mk.inj h).1.symm
   have key : ∀ (i : Nat) (v : V), i < a.length -> (v.k = a.getD i 0 \/ v.k = b.getD i 0 \/ v.k = 1) -> v.k = 1 \/ v.k = c.getD i 0 := fun i v hi hv => by
    obtain ⟨x, hx⟩ : ∃ x, a[i]? = some x := ⟨_, List.getElem?_eq_getElem hi⟩
    obtain ⟨y, hy⟩ : ∃ y, b[i]? = some y := ⟨_, List.getElem?_eq_getElem (by omega)⟩
    have hz : (a.zip b)[i]? = some (x, y) := by rw [List.getElem?_zip_eq_some]; exact ⟨hx, hy⟩
    have h1 := List.all_eq_true.1 hall (x, y) (List.mem_of_getElem? hz); rw [List.getD_eq_getElem?_getD, hx, List.getD_eq_getElem?_getD, hy] at hv; rw [hc, List.getD_eq_getElem?_getD, List.getElem?_map, hz]; simp only [Option.map_some, Option.getD_some] at hv ⊢; unfold yy at h1; simp only [Bool.or_eq_true, decide_eq_true_eq] at h1; unfold qe; split
    ·omega
    ·split <;> omega
   have hlc : c.length = a.length := by rw [hc]; simp; omega
   constructor
   ·intro hf; refine ⟨by rw [hf.1, hlc], fun i v hv => ?_⟩; obtain ⟨q1, q2⟩ := hf.2 i v hv; have hi : i < a.length := by have := (List.getElem?_eq_some_iff.1 hv).1; have := hf.1; omega
    exact ⟨q1, key i v hi (by rcases q2 with q2 | q2; exact .inr (.inr q2); exact .inl q2)⟩
   ·intro hf; refine ⟨by rw [hf.1, hlc, hl], fun i v hv => ?_⟩; obtain ⟨q1, q2⟩ := hf.2 i v hv; have hi : i < a.length := by have := (List.getElem?_eq_some_iff.1 hv).1; have := hf.1; omega
    exact ⟨q1, key i v hi (by rcases q2 with q2 | q2; exact .inr (.inr q2); exact .inr (.inl q2))⟩
  ·exact absurd (Prod.mk.inj h).2 (by decide)
theorem Ew {cols : List Int} {a : Ag} {l : List Z} (ht : Jq cols a = 0) (hf : ∀ r ∈ l, kq cols r.1) : (XV a l).k = 1 \/ (XV a l).k = XU cols a := by
 have hlo : 3 < a.k -> ((yC a l).lo.k = 1 \/ (yC a l).lo.k = (zr cols a.x).1) /\ ((yC a l).hi.k = 1 \/ (yC a l).hi.k = (zr cols a.x).1) := fun hk => by
  have hty : (zr cols a.x).2 = 0 := by
   unfold Jq at ht; split at ht
   ·simp at ht
   ·split at ht
    ·omega
    ·split at ht
     ·rename_i h3; exact absurd ht h3
     ·rename_i h3; simpa using h3
  revert hf
  refine P4 (P := fun l => (∀ r ∈ l, kq cols r.1) -> ((yC a l).lo.k = 1 \/ (yC a l).lo.k = (zr cols a.x).1) /\ ((yC a l).hi.k = 1 \/ (yC a l).hi.k = (zr cols a.x).1)) (fun _ => ⟨.inl rfl, .inl rfl⟩) (fun l r ih h => ?_) l; obtain ⟨i1, i2⟩ := ih (fun q hq => h q (by simp [hq])); have hv := (BI (h r (by simp)) hty).2; rw [QU]; unfold qT; rw [if_neg (by omega)]; split
  ·exact ⟨i1, i2⟩
  ·refine ⟨?_, ?_⟩
   ·simp only; split
    ·exact hv
    ·exact i1
   ·simp only; split
    ·exact hv
    ·exact i2
 have hty : XU cols a = if a.k <= 3 then 3 else (zr cols a.x).1 := rfl
 rw [hty]; unfold XV; split
 ·rw [if_pos (by omega)]; exact Sj _
 ·split
  ·exact .inl rfl
  ·split
   ·rw [if_pos (by omega)]; exact Sj _
   ·split
    ·rw [if_neg (by omega)]; exact (hlo (by omega)).1
    ·by_cases h5 : 3 < a.k
     ·rw [if_neg (by omega)]; exact (hlo h5).2
     ·exfalso; omega
theorem Lm {c c0 c1 : List Int} {a b s : List Z} {t : Int} (hs : xB c0 c1 = (c, 0)) (ha : qx c0 a) (hb : qx c1 b) (h : yI a b t = (s, 0)) : qx c s := by
 unfold yI at h; split at h
 ·rename_i h1; exact absurd (Prod.mk.inj h).2 h1
 ·split at h
  ·rename_i h1; exact absurd (Prod.mk.inj h).2 h1
  ·refine qK (fun y hy => ?_) h; rcases List.mem_append.1 hy with hy | hy
   ·exact (PY hs).1 (ha y hy)
   ·unfold xl at hy; obtain ⟨x, hx, rfl⟩ := List.mem_map.1 hy; exact (PY hs).2 (hb x hx)
theorem BF {cols c : List Int} {es : List E} {aggs : List Ag} {z s : List Z} {n : Int} (hc : xi 12 n es aggs cols = (c, 0)) (h : WV cols es aggs z = (s, 0)) : qx c s := by
 obtain ⟨g, hs⟩ := BU h; have hz := jF g.z
 have ec : c = (zy cols es).1 ++ aggs.map (XU cols) := by
  unfold xi at hc; rw [if_neg (by have := g.n; omega), if_neg (by rw [g.es]; simp)] at hc; simp [g.ag] at hc; exact hc.symm
 rw [hs]; refine JG (fun y hy => ?_); unfold Se at hy; obtain ⟨q, hq, rfl⟩ := List.mem_map.1 hy; rw [ec]; unfold XS; refine Ja ?_ ⟨by simp, fun i v hv => ?_⟩
 ·rcases (Xu es z q).1 hq with ⟨h0, rfl⟩ | ⟨r, hr, rfl⟩
  ·have e0 : es = [] := List.length_eq_zero_iff.1 h0; subst e0; exact ⟨rfl, fun i v hv => by simp at hv⟩
  ·exact Tu (hz r (za7.1 hr).1) g.es (g := fun v => v) (fun v hv => ⟨hv, rfl⟩)
 ·simp only [List.getElem?_map, Option.map_eq_some_iff] at hv; obtain ⟨a, ha, rfl⟩ := hv; have hm := List.mem_of_getElem? ha; have sub : ∀ r ∈ Yj es z q, r ∈ z := Wc; refine ⟨VS (g.agg hm sub), ?_⟩; rw [List.getD_eq_getElem?_getD, List.getElem?_map, ha]; exact Ew (kI g.ag a hm) (fun r hr => hz r (sub r hr))
theorem BH {cols : List Int} {es : List E} {k : Int} {z s : List Z} (h : W2 cols es k z = (s, 0)) : qx cols s := by
 have hz := jF (Me h).1; unfold W2 at h; split at h
 ·rename_i h1; exact absurd (Prod.mk.inj h).2 h1
 ·split at h
  ·simp at h
  ·split at h
   ·rename_i h2; exact absurd (Prod.mk.inj h).2 h2
   ·have src : ∀ x ∈ XO es (yq yJ z), kq cols x.1 /\ 0 < x.2 := fun x hx => by
     have hm := (XD es (yq yJ z)).mem_iff.1 hx; obtain ⟨⟨r, hr, e⟩, hne⟩ := x8 hm; rw [e] at hne; simp only [yJ] at hne; rw [e]; refine ⟨JH (hz r hr), ?_⟩; split at hne
     ·exact absurd rfl hne
     ·rename_i hh; simp only [yJ, if_neg hh]; omega
    refine qK (fun y hy => ?_) h; obtain ⟨x, hx, e, _⟩ := YY (fun x hx => (src x hx).2) hy; rw [<- e]; exact (src x hx).1
theorem TA {ts : List (List Int)} {k n : Int} {x : E} {xs : List E} {ag : List Ag} {cs : List (List Int)} {zs : List (List Z)} {c : List Int} {s : List Z} (hk : 2 <= k /\ k <= 13) (hc : zT ts k n x xs ag cs = (c, 0)) (h0 : qx (cs.getD 0 []) (zs.getD 0 [])) (h1 : qx (cs.getD 1 []) (zs.getD 1 [])) (h : kY k n x xs ag cs zs = (s, 0)) : qx c s := by
 obtain ⟨c0, e0⟩ : ∃ c0, cs.getD 0 [] = c0 := ⟨_, rfl⟩
 obtain ⟨c1, e1⟩ : ∃ c1, cs.getD 1 [] = c1 := ⟨_, rfl⟩
 obtain ⟨a, ea⟩ : ∃ a, zs.getD 0 [] = a := ⟨_, rfl⟩
 obtain ⟨b, eb⟩ : ∃ b, zs.getD 1 [] = b := ⟨_, rfl⟩
 unfold kY at h; unfold zT at hc; rw [e0, e1] at h hc; rw [ea, eb] at h; rw [e0, ea] at h0; rw [e1, eb] at h1; clear e0 e1 ea eb; have kk : k = 2 \/ k = 3 \/ k = 4 \/ k = 5 \/ k = 6 \/ k = 7 \/ k = 8 \/ k = 9 \/ k = 10 \/ k = 11 \/ k = 12 \/ k = 13 := by omega
 rcases kk with rfl | rfl | rfl | rfl | rfl | rfl | rfl | rfl | rfl | rfl | rfl | rfl
 ·have h : yQ c0 x a = (s, 0) := h; have hc : (c0, zD c0 x) = (c, 0) := hc; rw [<- (Prod.mk.inj hc).1]; exact qK (Qc h0 (fun y hy => (List.mem_filter.1 hy).1)) (JE h).2.2
 ·have h : ZF c0 xs a = (s, 0) := h; have hc : zy c0 xs = (c, 0) := hc; have ht : (zy c0 xs).2 = 0 := by rw [hc]
  have ec : c = (zy c0 xs).1 := by rw [hc]
  unfold ZF at h; rw [if_neg (by simp [ht])] at h; split at h
  ·rename_i h2; exact absurd (Prod.mk.inj h).2 h2
  ·refine qK (fun y hy => ?_) h; obtain ⟨r, hr, rfl⟩ := List.mem_map.1 hy; rw [ec]; exact Tu (h0 r hr) ht (g := fun v => v) (fun v hv => ⟨hv, rfl⟩)
 ·have h : xT c0 c1 x a b = (s, 0) := h; have hc : (if 8 < (c0 ++ c1).length then (([], 5) : List Int × Int) else (c0 ++ c1, zD (c0 ++ c1) x)) = (c, 0) := hc; split at hc
  ·exact absurd (Prod.mk.inj hc).2 (by decide)
  ·rw [<- (Prod.mk.inj hc).1]; unfold xT at h; split at h
   ·rename_i h2; exact absurd (Prod.mk.inj h).2 h2
   ·exact qK (Lq h0 h1) h
 ·have h : xK true c0 c1 x a b = (s, 0) := h; have hc : (if 8 < (c0 ++ c1).length then (([], 5) : List Int × Int) else (c0, zD (c0 ++ c1) x)) = (c, 0) := hc; split at hc
  ·exact absurd (Prod.mk.inj hc).2 (by decide)
  ·rw [<- (Prod.mk.inj hc).1]; unfold xK at h; split at h
   ·rename_i h2; exact absurd (Prod.mk.inj h).2 h2
   ·exact qK (Qc h0 (fun y hy => (List.mem_filter.1 hy).1)) h
 ·have h : xK false c0 c1 x a b = (s, 0) := h; have hc : (if 8 < (c0 ++ c1).length then (([], 5) : List Int × Int) else (c0, zD (c0 ++ c1) x)) = (c, 0) := hc; split at hc
  ·exact absurd (Prod.mk.inj hc).2 (by decide)
  ·rw [<- (Prod.mk.inj hc).1]; unfold xK at h; split at h
   ·rename_i h2; exact absurd (Prod.mk.inj h).2 h2
   ·exact qK (Qc h0 (fun y hy => (List.mem_filter.1 hy).1)) h
 ·have h : Yb c0 c1 x a b = (s, 0) := h; have hc : (if 8 < (c0 ++ c1).length then (([], 5) : List Int × Int) else (c0 ++ c1, zD (c0 ++ c1) x)) = (c, 0) := hc; split at hc
  ·exact absurd (Prod.mk.inj hc).2 (by decide)
  ·rw [<- (Prod.mk.inj hc).1]; unfold Yb at h; split at h
   ·rename_i h2; exact absurd (Prod.mk.inj h).2 h2
   ·exact qK (R4 h0 h1) h
 ·exact Lm (show xB c0 c1 = (c, 0) from hc) h0 h1 (show yI a b 1 = (s, 0) from h)
 ·exact Lm (show xB c0 c1 = (c, 0) from hc) h0 h1 (show yI a b (-1) = (s, 0) from h)
 ·have hc : (c0, (0 : Int)) = (c, 0) := hc; rw [<- (Prod.mk.inj hc).1]; exact Lp h0 (show zP yJ a = (s, 0) from h)
 ·have hc : (c0, (0 : Int)) = (c, 0) := hc; rw [<- (Prod.mk.inj hc).1]; exact Lp h0 (show zP yB a = (s, 0) from h)
 ·exact BF (show xi 12 n xs ag c0 = (c, 0) from hc) (show WV c0 xs ag a = (s, 0) from h)
 ·have h : W2 c0 xs n a = (s, 0) := h; have hc : xi 13 n xs ag c0 = (c, 0) := hc
  have ec : c = c0 := by
   unfold xi at hc; rw [if_neg (by omega)] at hc; split at hc
   ·rename_i h2; exact absurd (Prod.mk.inj hc).2 h2
   ·rw [if_pos rfl] at hc; split at hc
    ·exact absurd (Prod.mk.inj hc).2 (by decide)
    ·exact (Prod.mk.inj hc).1.symm
  rw [ec]; exact BH h
theorem JA : ∀ (ts : List (List Int)) (data : List (List Z)), data.length = ts.length -> jA ts data = 0 -> ∀ i, i < ts.length -> qx (ts.getD i []) (data.getD i [])
 | [], _, _, _, i, hi => absurd hi (Nat.not_lt_zero _)
 | _ :: _, [], h, _, _, _ => by simp at h
 | c :: cs, z :: zs, h, h0, i, hi => by
  unfold jA at h0; split at h0
  ·rename_i h1; exact absurd h0 h1
  ·rename_i h1; cases i with
   | zero => exact jF (show zF c z = 0 by simpa using h1)
   | succ i => exact JA cs zs (by simpa using h) h0 i (by simpa using hi)
theorem Dg {ts : List (List Int)} {data : List (List Z)} (hd : qD ts data = 0) (p : PL) : (zi ts p).2 = 0 -> ∀ s, yr ts data p = (s, 0) -> qx (zi ts p).1 s := by
 have hd2 : data.length = ts.length /\ jA ts data = 0 := by
  unfold qD at hd; split at hd
  ·simp at hd
  ·rename_i h1; exact ⟨by simpa using h1, hd⟩
 induction p with
 | leaf => intro h; exact absurd rfl (y9 h)
 | mk k n x xs ag A m cap kid ih =>
  intro h s hs; obtain ⟨hm, hk0, hc⟩ := xQ h; have kd := fun i (hi : i < m) => xh h hi
  by_cases k1 : k = 1
  ·subst k1; unfold zT at hc; rw [if_pos rfl] at hc; split at hc
   ·exact absurd (Prod.mk.inj hc).2 (by decide)
   ·rename_i hn; rw [<- (Prod.mk.inj hc).1]; unfold yr at hs; rw [if_pos rfl] at hs; exact qK (JA ts data hd2.1 hd2.2 n.toNat (by omega)) hs
  ·have kk : (zo k = 1 \/ zo k = 2) /\ 2 <= k /\ k <= 13 := by
    unfold zo at hk0 ⊢
    repeat' split at hk0
    all_goals first | omega | (repeat' split) <;> omega
   rcases kk.1 with h1 | h2
   ·obtain rfl : m = 1 := by omega
    obtain ⟨a, ha, ho⟩ := Kd k1 hs; exact TA (ts := ts) (zs := [a]) kk.2 hc (ih 0 (kd 0 (by omega)) a ha) (fun y hy => by simp at hy) ho
   ·obtain rfl : m = 2 := by omega
    obtain ⟨a, b, ha, hb, ho⟩ := Ke k1 hs; exact TA (ts := ts) (zs := [a, b]) kk.2 hc (ih 0 (kd 0 (by omega)) a ha) (ih 1 (kd 1 (by omega)) b hb) ho
theorem Zw (ts : List (List Int)) (p : PL) : (zi ts p).1.length <= 8 := by
 unfold zi; split
 ·simp
 ·split
  ·simp
  ·rename_i h1; split
   ·simp
   ·rename_i h2; exact ZY (fun t ht => (YX (by simpa using h1) t ht).1) p 1 0 (by simpa using h2)
end Go.Proofs.YtcaedcpjdmlilaaGreat

