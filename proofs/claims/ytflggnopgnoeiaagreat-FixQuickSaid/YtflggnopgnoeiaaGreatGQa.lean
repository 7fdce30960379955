/- Parts of a proof. No condition. -/
import Derived.Test.YtflggnopgnoeiaaGreatGGa
import Derived.Test.YtflggnopgnoeiaaGreatGTc
import Derived.Test.YtflggnopgnoeiaaGreatGWb
set_option maxRecDepth 100000
set_option linter.unusedSimpArgs false
set_option linter.unusedVariables false
namespace Go
variable {p : Prop}
theorem xl_ (h : p := by
 exact absurd (Prod.mk.inj hc).2 uW_) : p := h
theorem xA_ (h : p := by
 rename_i h2; exact ⟨by simpa using h1, by simpa using h2, h⟩) : p := h
theorem xY_ (h : p := by
 obtain ⟨x, hx, e, _⟩ := ko (fun x hx => (src x hx).2) hy; rw [<- e]; exact (src x hx).1 x uY_) : p := h
theorem xZ_ (h : p := by
 rename_i h1; exact absurd h0 h1) : p := h
theorem yv_ (h : p := by
 unfold zU at h3; rw [if_neg q1, if_neg q2, if_pos q3] at h3; simp at h3) : p := h
theorem yx_ (h : p := by
 unfold zU at h; rw [if_neg h1, if_neg h2, if_pos h3] at h; simp at h) : p := h
theorem yG_ (h : p := by
 unfold zU at h3; rw [if_neg q1, if_pos q2] at h3; simp at h3) : p := h
theorem yH_ (h : p := by
 exact absurd (Prod.mk.inj h).2 uW_) : p := h
theorem yL_ (h : p := by
 exact jc (JD h0 (fun y hy => (List.mem_filter.1 hy).1)) h) : p := h
theorem yP_ (h : p := by
 unfold zU at h; rw [if_neg h1, if_pos h2] at h; simp at h) : p := h
theorem y2_ (h : p := by
 rename_i h1; split at h
 ·exact wg_
 ·exact xA_) : p := h
theorem y3_ (h : p := by
 rw [<- (Prod.mk.inj hc).1]; unfold qJ at h; split at h
 ·exact wg_
 ·exact yL_) : p := h
end Go
namespace Go.Proofs.YtflggnopgnoeiaaGreat
open Go.RowKit Go.Calm
def X9 (k n : Int) (x : E) (xs : List E) (ag : List Ag) (cs : List (List Int)) (zs : List (List Z)) : List Z × Int :=
 if k = 2 then xE (cs.getD 0 []) x (zs.getD 0 [])
 else if k = 3 then Xc (cs.getD 0 []) xs (zs.getD 0 [])
 else if k = 4 then qy (cs.getD 0 []) (cs.getD 1 []) x (zs.getD 0 []) (zs.getD 1 [])
 else if k = 5 then qJ true (cs.getD 0 []) (cs.getD 1 []) x (zs.getD 0 []) (zs.getD 1 [])
 else if k = 6 then qJ false (cs.getD 0 []) (cs.getD 1 []) x (zs.getD 0 []) (zs.getD 1 [])
 else if k = 7 then Qj (cs.getD 0 []) (cs.getD 1 []) x (zs.getD 0 []) (zs.getD 1 [])
 else if k = 8 then xf (zs.getD 0 []) (zs.getD 1 []) 1
 else if k = 9 then xf (zs.getD 0 []) (zs.getD 1 []) (-1)
 else if k = 10 then ye xy (zs.getD 0 [])
 else if k = 11 then ye yM (zs.getD 0 [])
 else if k = 12 then Nk (cs.getD 0 []) xs ag (zs.getD 0 [])
 else Li (cs.getD 0 []) xs n (zs.getD 0 [])
def xD (f : Nat -> List Z × Int) : Nat -> Nat -> List (List Z) -> Int × List (List Z)
 | 0, _, zs => (0, zs)
 | r + 1, i, zs => if (f i).2 = 0 then xD f r (i + 1) (zs ++ [(f i).1]) else ((f i).2, zs)
def zZ (ts : List (List Int)) (data : List (List Z)) : PL -> List Z × Int
 | .leaf => ([], 0)
 | .mk k n x xs ag _ m _ kid =>
  if k = 1 then yy (data.getD n.toNat [])
  else
   let r := xD (fun i => zZ ts data (kid i)) m 0 []
   if r.1 ≠ 0 then ([], r.1) else X9 k n x xs.l ag.l ((List.range m).map (fun i => (zn ts (kid i)).1)) r.2
def y6 : List (List Int) -> List (List Z) -> Int
 | c :: cs, z :: zs => if zo c z ≠ 0 then zo c z else y6 cs zs
 | _, _ => 0
def yO (ts : List (List Int)) (data : List (List Z)) : Int := if data.length ≠ ts.length then 8 else y6 ts data
def xl (ts : List (List Int)) (p : PL) (data : List (List Z)) : List Z × Int :=
 if (zn ts p).2 ≠ 0 then ([], (zn ts p).2) else if yO ts data ≠ 0 then ([], yO ts data) else zZ ts data p
theorem Zq {cols : List Int} {x : E} {z s : List Z} (h : xE cols x z = (s, 0)) : yG cols x = 0 /\ zo cols z = 0 /\ yy (z.filter (fun r => yD x r.1)) = (s, 0) := by
 unfold xE at h; split at h
 ·exact u8_
 ·exact y2_
theorem TP {a b : List Z} (hb : Xk b) (h : ∀ x ∈ a, x ∈ b) : Xk a := fun x hx => hb x (h x hx)
theorem D5 {cols : List Int} {z : List Z} (h : zo cols z = 0) : Xk z := (SM.of (zE h).2.1).ok
def jq (z : List Z) : Prop := yA z /\ zC z = 0
theorem Jz {f : Int -> Int} {z s : List Z} (h : ye f z = (s, 0)) (f0 : f 0 = 0) (fb : ∀ n, -1000000 <= n -> n <= 1000000 -> -1000000 <= f n /\ f n <= 1000000) : jq s := by
 have hw := YP h; obtain ⟨d, e, c, sm, _⟩ := Qb (SM.of hw) f0 fb uX_ uX_; rw [e] at h; obtain rfl := (Prod.mk.inj h).1; exact ⟨c, sm.rz uX_ uX_⟩
theorem Vf {cols : List Int} {es : List E} {aggs : List Ag} {z s : List Z} (h : Nk cols es aggs z = (s, 0)) : zo cols z = 0 /\ jq s := by
 obtain ⟨g, hs⟩ := Su h; have r := g.rows (l := xG es z) (fun q hq => hq); have hw := (zE g.z).2.1; have hl := Zw es z (SM.of hw).len; have e := Ru r.2 (by rw [List.length_map]; exact hl); have e2 : yy ((xG es z).map (Xp es aggs z)) = (s, 0) := by rw [e, hs]; rfl
 obtain ⟨c, w, _⟩ := qC r.1 e2; exact ⟨g.z, c, w⟩
theorem MH {cols : List Int} {es : List E} {k : Int} {z s : List Z} (h : Li cols es k z = (s, 0)) : zo cols z = 0 /\ jq s := by
 unfold Li at h; split at h
 ·exact u8_
 ·split at h
  ·simp at h
  ·split at h
   ·exact wg_
   ·rename_i h2; have h2 : zo cols z = 0 := by simpa using h2
    have smz := SM.of (zE h2).2.1
    have src : ∀ x ∈ XW es (yP xy z), Xk [x] /\ 0 < x.2 := fun x hx => by
     have hm := (kG es (yP xy z)).mem_iff.1 hx; obtain ⟨⟨r, hr, e⟩, hne⟩ := xX hm; rw [e] at hne; simp only [xy] at hne; refine ⟨fun y hy => by rw [List.mem_singleton.1 hy]; exact Qp smz.ok xy x hm, ?_⟩; split at hne
     ·exact absurd rfl hne
     ·rename_i hh; rw [e]; simp only [xy, if_neg hh]; omega
    have ok : Xk (kH k (XW es (yP xy z))) := fun y hy => xY_
    obtain ⟨c, w, _⟩ := qC ok h; exact ⟨h2, c, w⟩
theorem XM {want : Bool} {l r : List Int} {x : E} {a b s : List Z} (h : qJ want l r x a b = (s, 0)) : qv l r x a b = 0 /\ jq s := by
 by_cases h0 : qv l r x a b = 0
 ·obtain ⟨e, c, w, _⟩ := Qr (want := want) h0; rw [h] at e; rw [(Prod.mk.inj e).1]; exact ⟨h0, c, w⟩
 ·rw [Eo h0] at h; exact absurd (Prod.mk.inj h).2 h0
theorem SD {l r : List Int} {x : E} {a b s : List Z} (h : Qj l r x a b = (s, 0)) : qv l r x a b = 0 /\ jq s := by
 unfold Qj at h; split at h
 ·exact u8_
 ·rename_i h1; have h1 : qv l r x a b = 0 := by simpa using h1
  obtain ⟨c, w, _⟩ := qC (Mk h1) h; exact ⟨h1, c, w⟩
theorem Vo {cols : List Int} {es : List E} {z s : List Z} (h : Xc cols es z = (s, 0)) : zo cols z = 0 /\ jq s := by
 unfold Xc at h; split at h
 ·exact u8_
 ·rename_i h1; split at h
  ·exact wg_
  ·rename_i h2; have h1 : (zB cols es).2 = 0 := by simpa using h1
   have h2 : zo cols z = 0 := by simpa using h2
   obtain ⟨c, w, _⟩ := qC (YZ h1 h2) h; exact ⟨h2, c, w⟩
theorem Vy {k n : Int} {x : E} {xs : List E} {ag : List Ag} {cs : List (List Int)} {zs : List (List Z)} {s : List Z} (h : X9 k n x xs ag cs zs = (s, 0)) : jq s := by
 unfold X9 at h; split at h
 ·obtain ⟨_, h2, h3⟩ := Zq h; obtain ⟨c, w, _⟩ := qC (TP (D5 h2) (fun x hx => (List.mem_filter.1 hx).1)) h3; exact ⟨c, w⟩
 ·split at h
  ·exact (Vo h).2
  ·split at h
   ·obtain ⟨_, c, w, _⟩ := Nq h; exact ⟨c, w⟩
   ·split at h
    ·exact (XM h).2
    ·split at h
     ·exact (XM h).2
     ·split at h
      ·exact (SD h).2
      ·split at h
       ·obtain ⟨_, _, c, w, _⟩ := YM h; exact ⟨c, w⟩
       ·split at h
        ·obtain ⟨_, _, c, w, _⟩ := YM h; exact ⟨c, w⟩
        ·split at h
         ·exact Jz h rfl (fun n h1 h2 => by unfold xy; split <;> omega)
         ·split at h
          ·exact Jz h rfl (fun n h1 h2 => by unfold yM; split <;> omega)
          ·split at h
           ·exact (Vf h).2
           ·exact (MH h).2
def Zj (data : List (List Z)) : Prop := ∀ z ∈ data, zC z = 0
theorem LC : ∀ (ts : List (List Int)) (data : List (List Z)), data.length = ts.length -> y6 ts data = 0 -> Zj data
 | [], [], _, _ => fun z hz => by simp at hz
 | [], _ :: _, h, _ => by simp at h
 | _ :: _, [], h, _ => by simp at h
 | c :: cs, z :: zs, h, h0 => by
  unfold y6 at h0; split at h0
  ·exact xZ_
  ·rename_i h1; have h1 : zo c z = 0 := by simpa using h1
   have ih := LC cs zs uI_ h0; intro y hy; rcases List.mem_cons.1 hy with rfl | hy
   ·exact (zE h1).2.1
   ·exact ih y hy
theorem YN {ts : List (List Int)} {data : List (List Z)} (h : yO ts data = 0) : Zj data := by
 unfold yO at h; split at h
 ·simp at h
 ·rename_i h1; exact LC ts data uB_ h
theorem ZD {ts : List (List Int)} {data : List (List Z)} (hd : Zj data) (p : PL) {s : List Z} (hp : p ≠ .leaf) (h : zZ ts data p = (s, 0)) : jq s := by
 cases p with
 | leaf => exact absurd rfl hp
 | mk k n x xs ag A m cap kid =>
  unfold zZ at h; split at h
  ·have ok : Xk (data.getD n.toNat []) := by
    rw [List.getD_eq_getElem?_getD]; cases hi : data[n.toNat]? with
    | none => exact fun x hx => by simp at hx
    | some z => exact (SM.of (hd z (qZ_ hi))).ok
   obtain ⟨c, w, _⟩ := qC ok h; exact ⟨c, w⟩
  ·simp only at h; split at h
   ·exact u8_
   ·exact Vy h
theorem WB {α : Type} {f g : Nat -> Int -> α × Int × Int} (hf : ∀ i m m', m' <= m -> (f i m).2.1 = 0 -> (g i m').2.1 = 0 /\ (g i m').2.2 - m' = (f i m).2.2 - m) : ∀ (r i : Nat) (m m' : Int) (l l' : List α), m' <= m -> (zS f r i m l).1 = 0 -> (zS g r i m' l').1 = 0 /\ (zS g r i m' l').2.1 - m' = (zS f r i m l).2.1 - m
 | 0, i, m, m', l, l', h, _ => ⟨rfl, by simp only [zS]; omega⟩
 | r + 1, i, m, m', l, l', h, h0 => by
  unfold zS at h0 ⊢; split at h0
  ·rename_i h1; obtain ⟨h2, h3⟩ := hf i m m' h h1; rw [if_pos h1, if_pos h2]; obtain ⟨h4, h5⟩ := WB hf r (i + 1) (f i m).2.2 (g i m').2.2 (l ++ [(f i m).1]) (l' ++ [(g i m').1]) uX_ h0; exact ⟨h4, by omega⟩
  ·exact xZ_
theorem UR {ts : List (List Int)} (p : PL) : ∀ (d m d' m' : Int), d' <= d -> m' <= m -> (zU ts p d m).2.1 = 0 -> (zU ts p d' m').2.1 = 0 /\ (zU ts p d' m').2.2 - m' = (zU ts p d m).2.2 - m := by
 induction p with
 | leaf => intro d m d' m' _ _ h; unfold zU at h; split at h <;> simp at h
 | mk k n x xs ag A mm cap kid ih =>
  intro d m d' m' hd hm h
  by_cases h1 : 60 < m + 1 \/ 15 < d
  ·unfold zU at h; rw [if_pos h1] at h; simp at h
  ·by_cases h2 : zJ k < 0
   ·exact yP_
   ·by_cases h3 : (mm : Int) = zJ k
    ·rw [xW ts k n x xs ag A mm cap kid d m h1 uX_ h3] at h ⊢; rw [xW ts k n x xs ag A mm cap kid d' m' uX_ uX_ h3]; unfold qw at h ⊢; split at h
     ·rename_i h0; exact absurd h h0
     ·rename_i h0; have h0 : (zS (fun i m' => zU ts (kid i) (d + 1) m') mm 0 (m + 1) []).1 = 0 := by simpa using h0
      obtain ⟨g0, g1⟩ := WB (f := fun i m' => zU ts (kid i) (d + 1) m') (g := fun i m' => zU ts (kid i) (d' + 1) m') (fun i a b hab h9 => ih i (d + 1) a (d' + 1) b uX_ hab h9) mm 0 (m + 1) (m' + 1) [] [] uX_ h0; have e1 := Yl (g := fun i => WR ts (kid i)) (fun i m' h => (Qa (kid i) (d + 1) m' h).1) mm 0 (m + 1) [] h0; have e2 := Yl (g := fun i => WR ts (kid i)) (fun i m' h => (Qa (kid i) (d' + 1) m' h).1) mm 0 (m' + 1) [] g0; rw [if_neg (by simp [g0]), if_neg uV_]; rw [e1] at h; rw [e2]; exact ⟨h, by simp only; omega⟩
    ·exact yx_
theorem WA {α : Type} {f : Nat -> Int -> α × Int × Int} : ∀ (r j : Nat) (m : Int) (l : List α), (∀ i a, a <= (f i a).2.2 \/ (f i a).2.1 ≠ 0) -> (zS f r j m l).1 = 0 -> ∀ i, j <= i -> i < j + r -> ∃ a, m <= a /\ (f i a).2.1 = 0
 | 0, j, m, l, _, _, i, h1, h2 => by omega
 | r + 1, j, m, l, hf, hz, i, h1, h2 => by
  unfold zS at hz; split at hz
  ·rename_i h5
   by_cases hij : i = j
   ·subst hij; exact ⟨m, Int.le_refl _, h5⟩
   ·obtain ⟨a, ha, h6⟩ := WA r (j + 1) (f j m).2.2 _ hf hz i uX_ uX_; rcases hf j m with h7 | h7
    ·exact ⟨a, by omega, h6⟩
    ·exact absurd h5 h7
  ·rename_i h5; exact absurd hz h5
theorem Gr {ts : List (List Int)} (p : PL) (d m : Int) : m <= (zU ts p d m).2.2 \/ (zU ts p d m).2.1 ≠ 0 := by
 by_cases h : m <= 60
 ·exact .inl (W4 ts p d m h).1
 ·right; cases p with
  | leaf => unfold zU; rw [if_pos uX_]; simp
  | mk k n x xs ag A mm cap kid => unfold zU; rw [if_pos uX_]; simp
theorem yp {ts : List (List Int)} {k n : Int} {x : E} {xs : X5} {ag : XY} {A : Option Addr} {m cap : Nat} {kid : Nat -> PL} (h : (zn ts (.mk k n x xs ag A m cap kid)).2 = 0) {i : Nat} (hi : i < m) : (zn ts (kid i)).2 = 0 := by
 unfold zn at h; split at h
 ·simp at h
 ·rename_i h8; split at h
  ·exact wX_
  ·rename_i h1; split at h
   ·rename_i h3; exact absurd h h3
   ·rename_i h3; have h3 : (zU ts (.mk k n x xs ag A m cap kid) 1 0).2.1 = 0 := by simpa using h3
    have hk : (zU ts (kid i) 1 0).2.1 = 0 := by
     by_cases q1 : 60 < (0 : Int) + 1 \/ 15 < (1 : Int)
     ·omega
     ·by_cases q2 : zJ k < 0
      ·exact yG_
      ·by_cases q3 : (m : Int) = zJ k
       ·rw [xW ts k n x xs ag A m cap kid 1 0 q1 uX_ q3] at h3; unfold qw at h3; split at h3
        ·rename_i h0; exact absurd h3 h0
        ·rename_i h0; obtain ⟨a, ha, hz⟩ := WA m 0 (0 + 1) [] (fun i a => Gr (ts := ts) (kid i) (1 + 1) a) ux_ i (Nat.zero_le _) uX_; exact (UR (kid i) (1 + 1) a 1 0 uX_ uX_ hz).1
       ·exact yv_
    unfold zn; rw [if_neg h8, if_neg h1, if_neg (by simp [hk])]
theorem yZ {ts : List (List Int)} {k n : Int} {x : E} {xs : X5} {ag : XY} {A : Option Addr} {m cap : Nat} {kid : Nat -> PL} (h : (zn ts (.mk k n x xs ag A m cap kid)).2 = 0) :
  (m : Int) = zJ k /\ 0 <= zJ k /\ zH ts k n x xs.l ag.l ((List.range m).map (fun i => (zn ts (kid i)).1)) = ((zn ts (.mk k n x xs ag A m cap kid)).1, 0) := by
 have hk := fun (i : Nat) (hi : i < m) => (Lw (yp h hi)).1
 have hh := h; have hc := (Lw h).1; unfold zn at h; split at h
 ·simp at h
 ·split at h
  ·exact wX_
  ·split at h
   ·rename_i h3; exact absurd h h3
   ·rename_i h3; have h3 : (zU ts (.mk k n x xs ag A m cap kid) 1 0).2.1 = 0 := by simpa using h3
    by_cases q1 : 60 < (0 : Int) + 1 \/ 15 < (1 : Int)
    ·omega
    ·by_cases q2 : zJ k < 0
     ·exact yG_
     ·by_cases q3 : (m : Int) = zJ k
      ·refine ⟨q3, by omega, ?_⟩; rw [xW ts k n x xs ag A m cap kid 1 0 q1 uX_ q3] at h3; unfold qw at h3; split at h3
       ·rename_i h0; exact absurd h3 h0
       ·rename_i h0; have e1 := Yl (g := fun i => WR ts (kid i)) (fun i m' h => (Qa (kid i) (1 + 1) m' h).1) m 0 (0 + 1) [] ux_; simp only [List.nil_append, Nat.zero_add] at e1; rw [e1] at h3; have e2 : (List.range m).map (fun i => (zn ts (kid i)).1) = (List.range m).map (fun i => WR ts (kid i)) := List.map_congr_left (fun i hi => hk i (List.mem_range.1 hi)); rw [hc, e2, zaY]; exact Prod.ext rfl h3
      ·exact yv_
section
variable {ts : List (List Int)} {data : List (List Z)}
theorem Ke {k n : Int} {x : E} {xs : X5} {ag : XY} {A : Option Addr} {cap : Nat} {kid : Nat -> PL} {s : List Z} (hk : k ≠ 1) (h : zZ ts data (.mk k n x xs ag A 2 cap kid) = (s, 0)) :
  ∃ a b, zZ ts data (kid 0) = (a, 0) /\ zZ ts data (kid 1) = (b, 0) /\ X9 k n x xs.l ag.l [(zn ts (kid 0)).1, (zn ts (kid 1)).1] [a, b] = (s, 0) := by
 unfold zZ at h; rw [if_neg hk] at h; obtain ⟨a, e, ha⟩ : ∃ a e, zZ ts data (kid 0) = (a, e) := ⟨_, _, rfl⟩
 obtain ⟨b, f, hb⟩ : ∃ a e, zZ ts data (kid 1) = (a, e) := ⟨_, _, rfl⟩
 by_cases he : e = 0
 ·subst he
  by_cases hf : f = 0
  ·subst hf; have e1 : xD (fun i => zZ ts data (kid i)) 2 0 [] = (0, [a, b]) := by simp [xD, ha, hb]
   simp only [e1, ne_eq, not_true_eq_false, if_false] at h; exact ⟨a, b, ha, hb, h⟩
  ·have e1 : xD (fun i => zZ ts data (kid i)) 2 0 [] = (f, [a]) := by simp [xD, ha, hb, hf]
   simp only [e1, ne_eq, hf, not_false_eq_true, if_true] at h; exact absurd (Prod.mk.inj h).2 hf
 ·have e1 : xD (fun i => zZ ts data (kid i)) 2 0 [] = (e, []) := by simp [xD, ha, he]
  simp only [e1, ne_eq, he, not_false_eq_true, if_true] at h; exact absurd (Prod.mk.inj h).2 he
theorem Kd {k n : Int} {x : E} {xs : X5} {ag : XY} {A : Option Addr} {cap : Nat} {kid : Nat -> PL} {s : List Z} (hk : k ≠ 1) (h : zZ ts data (.mk k n x xs ag A 1 cap kid) = (s, 0)) :
  ∃ a, zZ ts data (kid 0) = (a, 0) /\ X9 k n x xs.l ag.l [(zn ts (kid 0)).1] [a] = (s, 0) := by
 unfold zZ at h; rw [if_neg hk] at h; obtain ⟨a, e, ha⟩ : ∃ a e, zZ ts data (kid 0) = (a, e) := ⟨_, _, rfl⟩
 by_cases he : e = 0
 ·subst he; have e1 : xD (fun i => zZ ts data (kid i)) 1 0 [] = (0, [a]) := by simp [xD, ha]
  simp only [e1, ne_eq, not_true_eq_false, if_false] at h; exact ⟨a, ha, h⟩
 ·have e1 : xD (fun i => zZ ts data (kid i)) 1 0 [] = (e, []) := by simp [xD, ha, he]
  simp only [e1, ne_eq, he, not_false_eq_true, if_true] at h; exact absurd (Prod.mk.inj h).2 he
theorem Df {p : PL} {s : List Z} (h : xl ts p data = (s, 0)) : (zn ts p).2 = 0 /\ yO ts data = 0 /\ zZ ts data p = (s, 0) := by
 unfold xl at h; split at h
 ·exact u8_
 ·exact y2_
theorem yY {p : PL} (h : (zn ts p).2 = 0) : p ≠ .leaf := fun e => by
 subst e; unfold zn at h; split at h
 ·simp at h
 ·split at h
  ·rename_i h2; exact h2 h
  ·split at h
   ·rename_i h3; exact h3 h
   ·rename_i h3; apply h3; unfold zU; simp
theorem Qd {p : PL} {s : List Z} (h : xl ts p data = (s, 0)) : jq s := by
 obtain ⟨h1, h2, h3⟩ := Df h; exact ZD (YN h2) p (yY h1) h3
variable {p q : PL} {s t : List Z} {A B C D : Option Addr} {c1 c2 c3 c4 : Nat}
abbrev zcS (k : Int) (x : E) (A : Option Addr) (c : Nat) (p q : PL) : PL := .mk k 0 x ⟨none, [], 0⟩ ⟨none, [], 0⟩ A 2 c (fun i => if i = 0 then p else q)
end
theorem WC {f g : Nat -> List Z × Int} : ∀ (r i : Nat) (zs : List (List Z)), (∀ j, i <= j -> j < i + r -> f j = g j) -> xD f r i zs = xD g r i zs
 | 0, i, zs, _ => rfl
 | r + 1, i, zs, h => by
  unfold xD; rw [h i (Nat.le_refl _) uX_]; split
  ·exact WC r (i + 1) _ (fun j h1 h2 => h j uX_ uX_)
  ·rfl
def jo (c : List Int) (z : List Z) : Prop := ∀ y ∈ z, jU c y.1
theorem JE {c : List Int} {r : List V} (h : jU c r) : jU c (zd r) := by
 refine ⟨by simp [zd, h.1], fun i v hv => ?_⟩; simp only [zd, List.getElem?_map, Option.map_eq_some_iff] at hv; obtain ⟨u, hu, rfl⟩ := hv; have := h.2 i u hu; exact ⟨Jd this.1, by rw [Zl]; exact this.2⟩
theorem W6 {c : List Int} {z : List Z} (h : zo c z = 0) : jo c z := fun y hy => (y7 _ _).1 ((zE h).2.2 y hy)
theorem JD {c : List Int} {a b : List Z} (hb : jo c b) (h : ∀ x ∈ a, x ∈ b) : jo c a := fun y hy => hb y (h y hy)
theorem Pz {c : List Int} {l : List Z} (h : jo c l) : jo c (yE l) := fun y hy => by
 obtain ⟨x, hx, e⟩ := kF hy; rw [e]; exact JE (h x hx)
theorem jc {c : List Int} {l s : List Z} (h : jo c l) (e : yy l = (s, 0)) : jo c s := by
 unfold yy at e; rcases XC (yE l) with ⟨e1, _, _⟩ | ⟨q, hq, e1⟩
 ·rw [e1] at e; rw [<- (Prod.mk.inj e).1]; exact Pz h
 ·rw [e1] at e; exact absurd (Prod.mk.inj e).2 hq
theorem LO {c : List Int} {f : Int -> Int} {z s : List Z} (h : jo c z) (e : ye f z = (s, 0)) : jo c s := by
 unfold ye at e; split at e
 ·rename_i h1; exact absurd (Prod.mk.inj e).2 h1
 ·rw [<- (Prod.mk.inj e).1]; intro y hy; obtain ⟨⟨x, hx, e2⟩, _⟩ := xX hy; rw [e2]; exact JE (h x hx)
theorem Nd {l r : List Int} {a b : List V} (ha : jU l a) (hb : jU r b) : jU (l ++ r) (a ++ b) := by
 refine ⟨by rw [List.length_append, List.length_append, ha.1, hb.1], fun i v hv => ?_⟩; rcases Nat.lt_or_ge i a.length with h | h
 ·rw [List.getElem?_append_left h] at hv; have := ha.2 i v hv; refine ⟨this.1, ?_⟩; rw [List.getD_eq_getElem?_getD, List.getElem?_append_left (by rw [<- ha.1]; exact h), <- List.getD_eq_getElem?_getD]; exact this.2
 ·rw [List.getElem?_append_right h] at hv; have := hb.2 _ v hv; refine ⟨this.1, ?_⟩; rw [List.getD_eq_getElem?_getD, List.getElem?_append_right (by rw [<- ha.1]; exact h), <- ha.1, <- List.getD_eq_getElem?_getD]; exact this.2
theorem U0 (r : List Int) : jU r (List.replicate r.length yj) := by
 refine ⟨by simp, fun i v hv => ?_⟩; have := qZ_ hv; rw [(List.mem_replicate.1 this).2]; exact ⟨qu, .inl rfl⟩
theorem LP {l r : List Int} {x : E} {a b : List Z} (ha : jo l a) (hb : jo r b) : jo (l ++ r) (yS x a b) := fun y hy => by
 unfold yS at hy; obtain ⟨p, hp, hy⟩ := List.mem_flatMap.1 hy; unfold qR at hy; obtain ⟨q, hq, rfl⟩ := List.mem_map.1 hy; exact Nd (ha p hp) (hb q (List.mem_filter.1 hq).1)
theorem Sj {l r : List Int} {x : E} {a b : List Z} (ha : jo l a) (hb : jo r b) : jo (l ++ r) (jf r.length x a b) := fun y hy => by
 unfold jf at hy; rcases List.mem_append.1 hy with hy | hy
 ·exact LP ha hb y hy
 ·obtain ⟨p, hp, rfl⟩ := List.mem_map.1 hy; exact Nd (ha p (List.mem_filter.1 hp).1) (U0 r)
theorem Dj {cols : List Int} {row : List V} (hf : jU cols row) {e : E} (h : (zD cols e).2 = 0) : RV (yu row e) /\ ((yu row e).k = 1 \/ (yu row e).k = (zD cols e).1) := by
 have h1 := (MN cols e (zD cols e).1).1 (by rw [<- h]); refine ⟨Qu row hf.rv e ?_, zcf hf e h1.2.2.1⟩; have := QH e h1.2.2.1; rw [hf.1]; exact this
theorem TJ {cols : List Int} {row : List V} (hf : jU cols row) {es : List E} (h : (zB cols es).2 = 0) {g : V -> V} (hg : ∀ v, RV v -> RV (g v) /\ (g v).k = v.k) : jU (zB cols es).1 (es.map (fun e => g (yu row e))) := by
 obtain ⟨h1, h2⟩ := ql h; have e : zB cols es = (es.map (fun x => (zD cols x).1), 0) := by unfold zB; rw [if_neg uX_, kI cols es h2]
 rw [e]; refine ⟨by simp, fun i v hv => ?_⟩; simp only [List.getElem?_map, Option.map_eq_some_iff] at hv; obtain ⟨y, hy, rfl⟩ := hv; obtain ⟨r1, r2⟩ := Dj hf (h2 y (qZ_ hy)); obtain ⟨g1, g2⟩ := hg _ r1; refine ⟨g1, ?_⟩; rw [g2, List.getD_eq_getElem?_getD, List.getElem?_map, hy]; exact r2
theorem Rm {a b c : List Int} (h : xK a b = (c, 0)) {r : List V} : (jU a r -> jU c r) /\ (jU b r -> jU c r) := by
 unfold xK at h; split at h
 ·exact yH_
 ·rename_i hl; have hl : a.length = b.length := by simpa using hl
  split at h
  ·rename_i hall; have hc : c = (a.zip b).map (fun p => xm p.1 p.2) := (Prod.mk.inj h).1.symm
   have key : ∀ (i : Nat) (v : V), i < a.length -> (v.k = a.getD i 0 \/ v.k = b.getD i 0 \/ v.k = 1) -> v.k = 1 \/ v.k = c.getD i 0 := fun i v hi hv => by
    obtain ⟨x, hx⟩ : ∃ x, a[i]? = some x := ⟨_, qQ_ hi⟩
    obtain ⟨y, hy⟩ : ∃ y, b[i]? = some y := ⟨_, qQ_ uX_⟩
    have hz : (a.zip b)[i]? = some (x, y) := by rw [List.getElem?_zip_eq_some]; exact ⟨hx, hy⟩
    have h1 := List.all_eq_true.1 hall (x, y) (qZ_ hz); rw [List.getD_eq_getElem?_getD, hx, List.getD_eq_getElem?_getD, hy] at hv; rw [hc, List.getD_eq_getElem?_getD, List.getElem?_map, hz]; simp only [Option.map_some, Option.getD_some] at hv ⊢; unfold yk at h1; simp only [Bool.or_eq_true, decide_eq_true_eq] at h1; unfold xm; split
    ·omega
    ·split <;> omega
   have hlc : c.length = a.length := by rw [hc]; simp; omega
   constructor
   ·intro hf; refine ⟨by rw [hf.1, hlc], fun i v hv => ?_⟩; obtain ⟨q1, q2⟩ := hf.2 i v hv; have hi : i < a.length := by have := (qQ9.1 hv).1; have := hf.1; omega
    exact ⟨q1, key i v hi (by rcases q2 with q2 | q2; exact .inr (.inr q2); exact .inl q2)⟩
   ·intro hf; refine ⟨by rw [hf.1, hlc, hl], fun i v hv => ?_⟩; obtain ⟨q1, q2⟩ := hf.2 i v hv; have hi : i < a.length := by have := (qQ9.1 hv).1; have := hf.1; omega
    exact ⟨q1, key i v hi (by rcases q2 with q2 | q2; exact .inr (.inr q2); exact .inr (.inl q2))⟩
  ·exact yH_
theorem Ga {cols : List Int} {a : Ag} {l : List Z} (ht : Jk cols a = 0) (hf : ∀ r ∈ l, jU cols r.1) : (Ze a l).k = 1 \/ (Ze a l).k = Xz cols a := by
 have hlo : 3 < a.k -> ((yT a l).lo.k = 1 \/ (yT a l).lo.k = (zD cols a.x).1) /\ ((yT a l).hi.k = 1 \/ (yT a l).hi.k = (zD cols a.x).1) := fun hk => by
  have hty : (zD cols a.x).2 = 0 := by
   unfold Jk at ht; split at ht
   ·simp at ht
   ·split at ht
    ·omega
    ·split at ht
     ·rename_i h3; exact absurd ht h3
     ·rename_i h3; simpa using h3
  revert hf
  refine Kn (P := fun l => (∀ r ∈ l, jU cols r.1) -> ((yT a l).lo.k = 1 \/ (yT a l).lo.k = (zD cols a.x).1) /\ ((yT a l).hi.k = 1 \/ (yT a l).hi.k = (zD cols a.x).1)) (fun _ => ⟨.inl rfl, .inl rfl⟩) (fun l r ih h => ?_) l; obtain ⟨i1, i2⟩ := ih (fun q hq => h q (by simp [hq])); have hv := (Dj (h r uY_) hty).2; rw [YI]; unfold kY; rw [if_neg uX_]; split
  ·exact ⟨i1, i2⟩
  ·refine ⟨?_, ?_⟩
   ·simp only; split
    ·exact hv
    ·exact i1
   ·simp only; split
    ·exact hv
    ·exact i2
 have hty : Xz cols a = if a.k <= 3 then 3 else (zD cols a.x).1 := rfl
 rw [hty]; unfold Ze; split
 ·rw [if_pos uX_]; exact SA _
 ·split
  ·exact .inl rfl
  ·split
   ·rw [if_pos uX_]; exact SA _
   ·split
    ·rw [if_neg uX_]; exact (hlo uX_).1
    ·by_cases h5 : 3 < a.k
     ·rw [if_neg uX_]; exact (hlo h5).2
     ·exfalso; omega
theorem LK {c c0 c1 : List Int} {a b s : List Z} {t : Int} (hs : xK c0 c1 = (c, 0)) (ha : jo c0 a) (hb : jo c1 b) (h : xf a b t = (s, 0)) : jo c s := by
 unfold xf at h; split at h
 ·exact u8_
 ·split at h
  ·exact u8_
  ·refine jc (fun y hy => ?_) h; rcases List.mem_append.1 hy with hy | hy
   ·exact (Rm hs).1 (ha y hy)
   ·unfold yI at hy; obtain ⟨x, hx, rfl⟩ := List.mem_map.1 hy; exact (Rm hs).2 (hb x hx)
theorem Dh {cols c : List Int} {es : List E} {aggs : List Ag} {z s : List Z} {n : Int} (hc : y8 12 n es aggs cols = (c, 0)) (h : Nk cols es aggs z = (s, 0)) : jo c s := by
 obtain ⟨g, hs⟩ := Su h; have hz := W6 g.z
 have ec : c = (zB cols es).1 ++ aggs.map (Xz cols) := by
  unfold y8 at hc; rw [if_neg (by have := g.n; omega), if_neg (by rw [g.es]; simp)] at hc; simp [g.ag] at hc; exact hc.symm
 rw [hs]; refine Pz (fun y hy => ?_); unfold Ss at hy; obtain ⟨q, hq, rfl⟩ := List.mem_map.1 hy; rw [ec]; unfold Xp; refine Nd ?_ ⟨by simp, fun i v hv => ?_⟩
 ·rcases (XF es z q).1 hq with ⟨h0, rfl⟩ | ⟨r, hr, rfl⟩
  ·have e0 : es = [] := List.length_eq_zero_iff.1 h0; subst e0; exact ⟨rfl, fun i v hv => by simp at hv⟩
  ·exact TJ (hz r (Er.1 hr).1) g.es (g := fun v => v) (fun v hv => ⟨hv, rfl⟩)
 ·simp only [List.getElem?_map, Option.map_eq_some_iff] at hv; obtain ⟨a, ha, rfl⟩ := hv; have hm := qZ_ ha; have sub : ∀ r ∈ jm es z q, r ∈ z := Y9; refine ⟨Cl (g.agg hm sub), ?_⟩; rw [List.getD_eq_getElem?_getD, List.getElem?_map, ha]; exact Ga (YG g.ag a hm) (fun r hr => hz r (sub r hr))
theorem Di {cols : List Int} {es : List E} {k : Int} {z s : List Z} (h : Li cols es k z = (s, 0)) : jo cols s := by
 have hz := W6 (MH h).1; unfold Li at h; split at h
 ·exact u8_
 ·split at h
  ·simp at h
  ·split at h
   ·exact wg_
   ·have src : ∀ x ∈ XW es (yP xy z), jU cols x.1 /\ 0 < x.2 := fun x hx => by
     have hm := (kG es (yP xy z)).mem_iff.1 hx; obtain ⟨⟨r, hr, e⟩, hne⟩ := xX hm; rw [e] at hne; simp only [xy] at hne; rw [e]; refine ⟨JE (hz r hr), ?_⟩; split at hne
     ·exact absurd rfl hne
     ·rename_i hh; simp only [xy, if_neg hh]; omega
    refine jc (fun y hy => ?_) h; obtain ⟨x, hx, e, _⟩ := ko (fun x hx => (src x hx).2) hy; rw [<- e]; exact (src x hx).1
theorem TQ {ts : List (List Int)} {k n : Int} {x : E} {xs : List E} {ag : List Ag} {cs : List (List Int)} {zs : List (List Z)} {c : List Int} {s : List Z} (hk : 2 <= k /\ k <= 13) (hc : zH ts k n x xs ag cs = (c, 0)) (h0 : jo (cs.getD 0 []) (zs.getD 0 [])) (h1 : jo (cs.getD 1 []) (zs.getD 1 [])) (h : X9 k n x xs ag cs zs = (s, 0)) : jo c s := by
 obtain ⟨c0, e0⟩ : ∃ c0, cs.getD 0 [] = c0 := ⟨_, rfl⟩
 obtain ⟨c1, e1⟩ : ∃ c1, cs.getD 1 [] = c1 := ⟨_, rfl⟩
 obtain ⟨a, ea⟩ : ∃ a, zs.getD 0 [] = a := ⟨_, rfl⟩
 obtain ⟨b, eb⟩ : ∃ b, zs.getD 1 [] = b := ⟨_, rfl⟩
 unfold X9 at h; unfold zH at hc; rw [e0, e1] at h hc; rw [ea, eb] at h; rw [e0, ea] at h0; rw [e1, eb] at h1; clear e0 e1 ea eb; have kk : k = 2 \/ k = 3 \/ k = 4 \/ k = 5 \/ k = 6 \/ k = 7 \/ k = 8 \/ k = 9 \/ k = 10 \/ k = 11 \/ k = 12 \/ k = 13 := by omega
 rcases kk with rfl | rfl | rfl | rfl | rfl | rfl | rfl | rfl | rfl | rfl | rfl | rfl
 ·have h : xE c0 x a = (s, 0) := h; have hc : (c0, yG c0 x) = (c, 0) := hc; rw [<- (Prod.mk.inj hc).1]; exact jc (JD h0 (fun y hy => (List.mem_filter.1 hy).1)) (Zq h).2.2
 ·have h : Xc c0 xs a = (s, 0) := h; have hc : zB c0 xs = (c, 0) := hc; have ht : (zB c0 xs).2 = 0 := by rw [hc]
  have ec : c = (zB c0 xs).1 := by rw [hc]
  unfold Xc at h; rw [if_neg (by simp [ht])] at h; split at h
  ·exact wg_
  ·refine jc (fun y hy => ?_) h; obtain ⟨r, hr, rfl⟩ := List.mem_map.1 hy; rw [ec]; exact TJ (h0 r hr) ht (g := fun v => v) (fun v hv => ⟨hv, rfl⟩)
 ·have h : qy c0 c1 x a b = (s, 0) := h; have hc : (if 8 < (c0 ++ c1).length then (([], 5) : List Int × Int) else (c0 ++ c1, yG (c0 ++ c1) x)) = (c, 0) := hc; split at hc
  ·exact xl_
  ·rw [<- (Prod.mk.inj hc).1]; unfold qy at h; split at h
   ·exact wg_
   ·exact jc (LP h0 h1) h
 ·have h : qJ true c0 c1 x a b = (s, 0) := h; have hc : (if 8 < (c0 ++ c1).length then (([], 5) : List Int × Int) else (c0, yG (c0 ++ c1) x)) = (c, 0) := hc; split at hc
  ·exact xl_
  ·exact y3_
 ·have h : qJ false c0 c1 x a b = (s, 0) := h; have hc : (if 8 < (c0 ++ c1).length then (([], 5) : List Int × Int) else (c0, yG (c0 ++ c1) x)) = (c, 0) := hc; split at hc
  ·exact xl_
  ·exact y3_
 ·have h : Qj c0 c1 x a b = (s, 0) := h; have hc : (if 8 < (c0 ++ c1).length then (([], 5) : List Int × Int) else (c0 ++ c1, yG (c0 ++ c1) x)) = (c, 0) := hc; split at hc
  ·exact xl_
  ·rw [<- (Prod.mk.inj hc).1]; unfold Qj at h; split at h
   ·exact wg_
   ·exact jc (Sj h0 h1) h
 ·exact LK (show xK c0 c1 = (c, 0) from hc) h0 h1 (show xf a b 1 = (s, 0) from h)
 ·exact LK (show xK c0 c1 = (c, 0) from hc) h0 h1 (show xf a b (-1) = (s, 0) from h)
 ·have hc : (c0, (0 : Int)) = (c, 0) := hc; rw [<- (Prod.mk.inj hc).1]; exact LO h0 (show ye xy a = (s, 0) from h)
 ·have hc : (c0, (0 : Int)) = (c, 0) := hc; rw [<- (Prod.mk.inj hc).1]; exact LO h0 (show ye yM a = (s, 0) from h)
 ·exact Dh (show y8 12 n xs ag c0 = (c, 0) from hc) (show Nk c0 xs ag a = (s, 0) from h)
 ·have h : Li c0 xs n a = (s, 0) := h; have hc : y8 13 n xs ag c0 = (c, 0) := hc
  have ec : c = c0 := by
   unfold y8 at hc; rw [if_neg uX_] at hc; split at hc
   ·rename_i h2; exact absurd (Prod.mk.inj hc).2 h2
   ·rw [if_pos rfl] at hc; split at hc
    ·exact xl_
    ·exact (Prod.mk.inj hc).1.symm
  rw [ec]; exact Di h
theorem Jw : ∀ (ts : List (List Int)) (data : List (List Z)), data.length = ts.length -> y6 ts data = 0 -> ∀ i, i < ts.length -> jo (ts.getD i []) (data.getD i [])
 | [], _, _, _, i, hi => absurd hi (Nat.not_lt_zero _)
 | _ :: _, [], h, _, _, _ => by simp at h
 | c :: cs, z :: zs, h, h0, i, hi => by
  unfold y6 at h0; split at h0
  ·exact xZ_
  ·rename_i h1; cases i with
   | zero => exact W6 (show zo c z = 0 by simpa using h1)
   | succ i => exact Jw cs zs uI_ h0 i (by simpa using hi)
theorem Eu {ts : List (List Int)} {data : List (List Z)} (hd : yO ts data = 0) (p : PL) : (zn ts p).2 = 0 -> ∀ s, zZ ts data p = (s, 0) -> jo (zn ts p).1 s := by
 have hd2 : data.length = ts.length /\ y6 ts data = 0 := by
  unfold yO at hd; split at hd
  ·simp at hd
  ·rename_i h1; exact ⟨by simpa using h1, hd⟩
 induction p with
 | leaf => intro h; exact absurd rfl (yY h)
 | mk k n x xs ag A m cap kid ih =>
  intro h s hs; obtain ⟨hm, hk0, hc⟩ := yZ h; have kd := fun i (hi : i < m) => yp h hi
  by_cases k1 : k = 1
  ·subst k1; unfold zH at hc; rw [if_pos rfl] at hc; split at hc
   ·exact xl_
   ·rename_i hn; rw [<- (Prod.mk.inj hc).1]; unfold zZ at hs; rw [if_pos rfl] at hs; exact jc (Jw ts data hd2.1 hd2.2 n.toNat uX_) hs
  ·have kk : (zJ k = 1 \/ zJ k = 2) /\ 2 <= k /\ k <= 13 := by
    unfold zJ at hk0 ⊢
    repeat' split at hk0
    all_goals first | omega | (repeat' split) <;> omega
   rcases kk.1 with h1 | h2
   ·obtain rfl : m = 1 := by omega
    obtain ⟨a, ha, ho⟩ := Kd k1 hs; exact TQ (ts := ts) (zs := [a]) kk.2 hc (ih 0 (kd 0 uX_) a ha) (fun y hy => by simp at hy) ho
   ·obtain rfl : m = 2 := by omega
    obtain ⟨a, b, ha, hb, ho⟩ := Ke k1 hs; exact TQ (ts := ts) (zs := [a, b]) kk.2 hc (ih 0 (kd 0 uX_) a ha) (ih 1 (kd 1 uX_) b hb) ho
theorem ju (ts : List (List Int)) (p : PL) : (zn ts p).1.length <= 8 := by
 unfold zn; split
 ·simp
 ·split
  ·simp
  ·rename_i h1; split
   ·simp
   ·rename_i h2; exact Yf (fun t ht => (Zc uB_ t ht).1) p 1 0 uE_
