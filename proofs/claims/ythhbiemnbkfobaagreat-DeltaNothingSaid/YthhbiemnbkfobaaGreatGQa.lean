/- Parts of a proof. No condition. -/
import Derived.Test.YthhbiemnbkfobaaGreatGGa
import Derived.Test.YthhbiemnbkfobaaGreatGTc
import Derived.Test.YthhbiemnbkfobaaGreatGWb
set_option maxRecDepth 100000
set_option linter.unusedSimpArgs false
set_option linter.unusedVariables false
namespace Go
variable {p : Prop}
theorem uG_ (h : p := by
 exact absurd (Prod.mk.inj hc).2 vT_) : p := h
theorem u6_ (h : p := by
 rename_i h1; exact absurd h0 h1) : p := h
theorem wr_ (h : p := by
 unfold yh at h3; rw [if_neg q1, if_neg q2, if_pos q3] at h3; simp at h3) : p := h
theorem ww_ (h : p := by
 rename_i h2; exact ⟨by simpa using h1, by simpa using h2, h⟩) : p := h
theorem wA_ (h : p := by
 unfold yh at h3; rw [if_neg q1, if_pos q2] at h3; simp at h3) : p := h
theorem wE_ (h : p := by
 exact qf (QM h0 (fun y hy => (List.mem_filter.1 hy).1)) h) : p := h
theorem wM_ (h : p := by
 rw [<- (Prod.mk.inj hc).1]
 unfold xA at h; split at h
 · exact v8_
 · exact wE_) : p := h
end Go
namespace Go.Proofs.YthhbiemnbkfobaaGreat
open Go.RowKit Go.Calm
def xy (k n : Int) (x : E) (xs : List E) (ag : List Ag) (cs : List (List Int)) (zs : List (List Z)) : List Z × Int :=
  if k = 2 then qB (cs.getD 0 []) x (zs.getD 0 [])
  else if k = 3 then Ze (cs.getD 0 []) xs (zs.getD 0 [])
  else if k = 4 then jU (cs.getD 0 []) (cs.getD 1 []) x (zs.getD 0 []) (zs.getD 1 [])
  else if k = 5 then xA true (cs.getD 0 []) (cs.getD 1 []) x (zs.getD 0 []) (zs.getD 1 [])
  else if k = 6 then xA false (cs.getD 0 []) (cs.getD 1 []) x (zs.getD 0 []) (zs.getD 1 [])
  else if k = 7 then jV (cs.getD 0 []) (cs.getD 1 []) x (zs.getD 0 []) (zs.getD 1 [])
  else if k = 8 then yL (zs.getD 0 []) (zs.getD 1 []) 1
  else if k = 9 then yL (zs.getD 0 []) (zs.getD 1 []) (-1)
  else if k = 10 then yO yQ (zs.getD 0 [])
  else if k = 11 then yO YB (zs.getD 0 [])
  else if k = 12 then QW (cs.getD 0 []) xs ag (zs.getD 0 [])
  else kA (cs.getD 0 []) xs n (zs.getD 0 [])
def xE (f : Nat -> List Z × Int) : Nat -> Nat -> List (List Z) -> Int × List (List Z)
  | 0, _, zs => (0, zs)
  | r + 1, i, zs => if (f i).2 = 0 then xE f r (i + 1) (zs ++ [(f i).1]) else ((f i).2, zs)
def yp (ts : List (List Int)) (data : List (List Z)) : PL -> List Z × Int
  | .leaf => ([], 0)
  | .mk k n x xs ag _ m _ kid =>
    if k = 1 then yF (data.getD n.toNat [])
    else
      let r := xE (fun i => yp ts data (kid i)) m 0 []
      if r.1 ≠ 0 then ([], r.1) else xy k n x xs.l ag.l ((List.range m).map (fun i => (zt ts (kid i)).1)) r.2
def xw : List (List Int) -> List (List Z) -> Int
  | c :: cs, z :: zs => if zz c z ≠ 0 then zz c z else xw cs zs
  | _, _ => 0
def yM (ts : List (List Int)) (data : List (List Z)) : Int := if data.length ≠ ts.length then 8 else xw ts data
def QI (ts : List (List Int)) (p : PL) (data : List (List Z)) : List Z × Int :=
  if (zt ts p).2 ≠ 0 then ([], (zt ts p).2) else if yM ts data ≠ 0 then ([], yM ts data) else yp ts data p
theorem kg {cols : List Int} {x : E} {z s : List Z} (h : qB cols x z = (s, 0)) : y6 cols x = 0 /\ zz cols z = 0 /\ yF (z.filter (fun r => yu x r.1)) = (s, 0) := by
  unfold qB at h; split at h
  · exact v4_
  · rename_i h1
    split at h
    · exact v8_
    · exact ww_
theorem KA {a b : List Z} (hb : Y7 b) (h : ∀ x ∈ a, x ∈ b) : Y7 a := fun x hx => hb x (h x hx)
theorem Q7 {cols : List Int} {z : List Z} (h : zz cols z = 0) : Y7 z := (SM.of (zj h).2.1).ok
def qq (z : List Z) : Prop := yJ z /\ zw z = 0
theorem QH {f : Int -> Int} {z s : List Z} (h : yO f z = (s, 0)) (f0 : f 0 = 0) (fb : ∀ n, -1000000 <= n -> n <= 1000000 -> -1000000 <= f n /\ f n <= 1000000) : qq s := by
  have hw := Jb h; obtain ⟨d, e, c, sm, _⟩ := Kk (SM.of hw) f0 fb vU_ vU_; rw [e] at h; obtain rfl := (Prod.mk.inj h).1; exact ⟨c, sm.rz vU_ vU_⟩
theorem R3 {cols : List Int} {es : List E} {aggs : List Ag} {z s : List Z} (h : QW cols es aggs z = (s, 0)) : zz cols z = 0 /\ qq s := by
  obtain ⟨g, hs⟩ := ND h; have r := g.rows (l := z0 es z) (fun q hq => hq); have hw := (zj g.z).2.1; have hl := X5 es z (SM.of hw).len; have e := MC r.2 (by rw [List.length_map]; exact hl); have e2 : yF ((z0 es z).map (xk es aggs z)) = (s, 0) := by rw [e, hs]; rfl
  obtain ⟨c, w, _⟩ := qm r.1 e2; exact ⟨g.z, c, w⟩
theorem JU {cols : List Int} {es : List E} {k : Int} {z s : List Z} (h : kA cols es k z = (s, 0)) : zz cols z = 0 /\ qq s := by
  unfold kA at h; split at h
  · exact v4_
  · split at h
    · simp at h
    · split at h
      · exact v8_
      · rename_i h2
        have h2 : zz cols z = 0 := by simpa using h2
        have smz := SM.of (zj h2).2.1
        have src : ∀ x ∈ ql es (yo yQ z), Y7 [x] /\ 0 < x.2 := fun x hx => by
          have hm := (xY es (yo yQ z)).mem_iff.1 hx; obtain ⟨⟨r, hr, e⟩, hne⟩ := xH hm; rw [e] at hne; simp only [yQ] at hne; refine ⟨fun y hy => by rw [List.mem_singleton.1 hy]; exact YN smz.ok yQ x hm, ?_⟩; split at hne
          · exact absurd rfl hne
          · rename_i hh
            rw [e]; simp only [yQ, if_neg hh]; omega
        have ok : Y7 (yV k (ql es (yo yQ z))) := fun y hy => by
          obtain ⟨x, hx, e, _⟩ := XE (fun x hx => (src x hx).2) hy; rw [<- e]; exact (src x hx).1 x vV_
        obtain ⟨c, w, _⟩ := qm ok h; exact ⟨h2, c, w⟩
theorem Wb {want : Bool} {l r : List Int} {x : E} {a b s : List Z} (h : xA want l r x a b = (s, 0)) : xQ l r x a b = 0 /\ qq s := by
  by_cases h0 : xQ l r x a b = 0
  · obtain ⟨e, c, w, _⟩ := PE (want := want) h0
    rw [h] at e; rw [(Prod.mk.inj e).1]; exact ⟨h0, c, w⟩
  · rw [Mp h0] at h
    exact absurd (Prod.mk.inj h).2 h0
theorem NO {l r : List Int} {x : E} {a b s : List Z} (h : jV l r x a b = (s, 0)) : xQ l r x a b = 0 /\ qq s := by
  unfold jV at h; split at h
  · exact v4_
  · rename_i h1
    have h1 : xQ l r x a b = 0 := by simpa using h1
    obtain ⟨c, w, _⟩ := qm (JE h1) h; exact ⟨h1, c, w⟩
theorem Sf {cols : List Int} {es : List E} {z s : List Z} (h : Ze cols es z = (s, 0)) : zz cols z = 0 /\ qq s := by
  unfold Ze at h; split at h
  · exact v4_
  · rename_i h1
    split at h
    · exact v8_
    · rename_i h2
      have h1 : (zC cols es).2 = 0 := by simpa using h1
      have h2 : zz cols z = 0 := by simpa using h2
      obtain ⟨c, w, _⟩ := qm (Qc h1 h2) h; exact ⟨h2, c, w⟩
theorem So {k n : Int} {x : E} {xs : List E} {ag : List Ag} {cs : List (List Int)} {zs : List (List Z)} {s : List Z} (h : xy k n x xs ag cs zs = (s, 0)) : qq s := by
  unfold xy at h; split at h
  · obtain ⟨_, h2, h3⟩ := kg h
    obtain ⟨c, w, _⟩ := qm (KA (Q7 h2) (fun x hx => (List.mem_filter.1 hx).1)) h3; exact ⟨c, w⟩
  · split at h
    · exact (Sf h).2
    · split at h
      · obtain ⟨_, c, w, _⟩ := Kt h; exact ⟨c, w⟩
      · split at h
        · exact (Wb h).2
        · split at h
          · exact (Wb h).2
          · split at h
            · exact (NO h).2
            · split at h
              · obtain ⟨_, _, c, w, _⟩ := Z9 h; exact ⟨c, w⟩
              · split at h
                · obtain ⟨_, _, c, w, _⟩ := Z9 h; exact ⟨c, w⟩
                · split at h
                  · exact QH h rfl (fun n h1 h2 => by unfold yQ; split <;> omega)
                  · split at h
                    · exact QH h rfl (fun n h1 h2 => by unfold YB; split <;> omega)
                    · split at h
                      · exact (R3 h).2
                      · exact (JU h).2
def kO (data : List (List Z)) : Prop := ∀ z ∈ data, zw z = 0
theorem W8 : ∀ (ts : List (List Int)) (data : List (List Z)), data.length = ts.length -> xw ts data = 0 -> kO data
  | [], [], _, _ => fun z hz => by simp at hz
  | [], _ :: _, h, _ => by simp at h
  | _ :: _, [], h, _ => by simp at h
  | c :: cs, z :: zs, h, h0 => by
    unfold xw at h0; split at h0
    · exact u6_
    · rename_i h1
      have h1 : zz c z = 0 := by simpa using h1
      have ih := W8 cs zs vM_ h0; intro y hy; rcases List.mem_cons.1 hy with rfl | hy
      · exact (zj h1).2.1
      · exact ih y hy
theorem kf {ts : List (List Int)} {data : List (List Z)} (h : yM ts data = 0) : kO data := by
  unfold yM at h; split at h
  · simp at h
  · rename_i h1; exact W8 ts data vG_ h
theorem qw {ts : List (List Int)} {data : List (List Z)} (hd : kO data) (p : PL) {s : List Z} (hp : p ≠ .leaf) (h : yp ts data p = (s, 0)) : qq s := by
  cases p with
  | leaf => exact absurd rfl hp
  | mk k n x xs ag A m cap kid =>
    unfold yp at h; split at h
    · have ok : Y7 (data.getD n.toNat []) := by
        rw [List.getD_eq_getElem?_getD]; cases hi : data[n.toNat]? with
        | none => exact fun x hx => by simp at hx
        | some z => exact (SM.of (hd z (qZ_ hi))).ok
      obtain ⟨c, w, _⟩ := qm ok h; exact ⟨c, w⟩
    · simp only at h
      split at h
      · exact v4_
      · exact So h
theorem ZJ {α : Type} {f g : Nat -> Int -> α × Int × Int} (hf : ∀ i m m', m' <= m -> (f i m).2.1 = 0 -> (g i m').2.1 = 0 /\ (g i m').2.2 - m' = (f i m).2.2 - m) : ∀ (r i : Nat) (m m' : Int) (l l' : List α), m' <= m -> (yd f r i m l).1 = 0 -> (yd g r i m' l').1 = 0 /\ (yd g r i m' l').2.1 - m' = (yd f r i m l).2.1 - m
  | 0, i, m, m', l, l', h, _ => ⟨rfl, by simp only [yd]; omega⟩
  | r + 1, i, m, m', l, l', h, h0 => by
    unfold yd at h0 ⊢; split at h0
    · rename_i h1
      obtain ⟨h2, h3⟩ := hf i m m' h h1; rw [if_pos h1, if_pos h2]; obtain ⟨h4, h5⟩ := ZJ hf r (i + 1) (f i m).2.2 (g i m').2.2 (l ++ [(f i m).1]) (l' ++ [(g i m').1]) vU_ h0; exact ⟨h4, by omega⟩
    · exact u6_
theorem RG {ts : List (List Int)} (p : PL) : ∀ (d m d' m' : Int), d' <= d -> m' <= m -> (yh ts p d m).2.1 = 0 -> (yh ts p d' m').2.1 = 0 /\ (yh ts p d' m').2.2 - m' = (yh ts p d m).2.2 - m := by
  induction p with
  | leaf => intro d m d' m' _ _ h; unfold yh at h; split at h <;> simp at h
  | mk k n x xs ag A mm cap kid ih =>
    intro d m d' m' hd hm h
    by_cases h1 : 60 < m + 1 \/ 15 < d
    · unfold yh at h; rw [if_pos h1] at h; simp at h
    · by_cases h2 : ye k < 0
      · unfold yh at h; rw [if_neg h1, if_pos h2] at h; simp at h
      · by_cases h3 : (mm : Int) = ye k
        · rw [x5 ts k n x xs ag A mm cap kid d m h1 vU_ h3] at h ⊢
          rw [x5 ts k n x xs ag A mm cap kid d' m' vU_ vU_ h3]; unfold jx at h ⊢; split at h
          · rename_i h0; exact absurd h h0
          · rename_i h0
            have h0 : (yd (fun i m' => yh ts (kid i) (d + 1) m') mm 0 (m + 1) []).1 = 0 := by simpa using h0
            obtain ⟨g0, g1⟩ := ZJ (f := fun i m' => yh ts (kid i) (d + 1) m') (g := fun i m' => yh ts (kid i) (d' + 1) m') (fun i a b hab h9 => ih i (d + 1) a (d' + 1) b vU_ hab h9) mm 0 (m + 1) (m' + 1) [] [] vU_ h0; have e1 := kV (g := fun i => ZY ts (kid i)) (fun i m' h => (YA (kid i) (d + 1) m' h).1) mm 0 (m + 1) [] h0; have e2 := kV (g := fun i => ZY ts (kid i)) (fun i m' h => (YA (kid i) (d' + 1) m' h).1) mm 0 (m' + 1) [] g0; rw [if_neg (by simp [g0]), if_neg (by simp [h0])]; rw [e1] at h; rw [e2]; exact ⟨h, by simp only; omega⟩
        · unfold yh at h; rw [if_neg h1, if_neg h2, if_pos h3] at h; simp at h
theorem ZI {α : Type} {f : Nat -> Int -> α × Int × Int} : ∀ (r j : Nat) (m : Int) (l : List α), (∀ i a, a <= (f i a).2.2 \/ (f i a).2.1 ≠ 0) -> (yd f r j m l).1 = 0 -> ∀ i, j <= i -> i < j + r -> ∃ a, m <= a /\ (f i a).2.1 = 0
  | 0, j, m, l, _, _, i, h1, h2 => by omega
  | r + 1, j, m, l, hf, hz, i, h1, h2 => by
    unfold yd at hz; split at hz
    · rename_i h5
      by_cases hij : i = j
      · subst hij; exact ⟨m, Int.le_refl _, h5⟩
      · obtain ⟨a, ha, h6⟩ := ZI r (j + 1) (f j m).2.2 _ hf hz i vU_ vU_
        rcases hf j m with h7 | h7
        · exact ⟨a, by omega, h6⟩
        · exact absurd h5 h7
    · rename_i h5; exact absurd hz h5
theorem Vy {ts : List (List Int)} (p : PL) (d m : Int) : m <= (yh ts p d m).2.2 \/ (yh ts p d m).2.1 ≠ 0 := by
  by_cases h : m <= 60
  · exact .inl (Pu ts p d m h).1
  · right
    cases p with
    | leaf => unfold yh; rw [if_pos vU_]; simp
    | mk k n x xs ag A mm cap kid => unfold yh; rw [if_pos vU_]; simp
theorem y9 {ts : List (List Int)} {k n : Int} {x : E} {xs : jw} {ag : ju} {A : Option Addr} {m cap : Nat} {kid : Nat -> PL} (h : (zt ts (.mk k n x xs ag A m cap kid)).2 = 0) {i : Nat} (hi : i < m) : (zt ts (kid i)).2 = 0 := by
  unfold zt at h; split at h
  · simp at h
  · rename_i h8
    split at h
    · exact uD_
    · rename_i h1
      split at h
      · rename_i h3; exact absurd h h3
      · rename_i h3
        have h3 : (yh ts (.mk k n x xs ag A m cap kid) 1 0).2.1 = 0 := by simpa using h3
        have hk : (yh ts (kid i) 1 0).2.1 = 0 := by
          by_cases q1 : 60 < (0 : Int) + 1 \/ 15 < (1 : Int)
          · omega
          · by_cases q2 : ye k < 0
            · exact wA_
            · by_cases q3 : (m : Int) = ye k
              · rw [x5 ts k n x xs ag A m cap kid 1 0 q1 vU_ q3] at h3
                unfold jx at h3; split at h3
                · rename_i h0; exact absurd h3 h0
                · rename_i h0
                  obtain ⟨a, ha, hz⟩ := ZI m 0 (0 + 1) [] (fun i a => Vy (ts := ts) (kid i) (1 + 1) a) vE_ i (Nat.zero_le _) vU_; exact (RG (kid i) (1 + 1) a 1 0 vU_ vU_ hz).1
              · exact wr_
        unfold zt; rw [if_neg h8, if_neg h1, if_neg (by simp [hk])]
theorem xV {ts : List (List Int)} {k n : Int} {x : E} {xs : jw} {ag : ju} {A : Option Addr} {m cap : Nat} {kid : Nat -> PL} (h : (zt ts (.mk k n x xs ag A m cap kid)).2 = 0) :
    (m : Int) = ye k /\ 0 <= ye k /\ yt ts k n x xs.l ag.l ((List.range m).map (fun i => (zt ts (kid i)).1)) = ((zt ts (.mk k n x xs ag A m cap kid)).1, 0) := by
  have hk := fun (i : Nat) (hi : i < m) => (W4 (y9 h hi)).1
  have hh := h; have hc := (W4 h).1; unfold zt at h; split at h
  · simp at h
  · split at h
    · exact uD_
    · split at h
      · rename_i h3; exact absurd h h3
      · rename_i h3
        have h3 : (yh ts (.mk k n x xs ag A m cap kid) 1 0).2.1 = 0 := by simpa using h3
        by_cases q1 : 60 < (0 : Int) + 1 \/ 15 < (1 : Int)
        · omega
        · by_cases q2 : ye k < 0
          · exact wA_
          · by_cases q3 : (m : Int) = ye k
            · refine ⟨q3, by omega, ?_⟩
              rw [x5 ts k n x xs ag A m cap kid 1 0 q1 vU_ q3] at h3; unfold jx at h3; split at h3
              · rename_i h0; exact absurd h3 h0
              · rename_i h0
                have e1 := kV (g := fun i => ZY ts (kid i)) (fun i m' h => (YA (kid i) (1 + 1) m' h).1) m 0 (0 + 1) [] vE_; simp only [List.nil_append, Nat.zero_add] at e1; rw [e1] at h3; have e2 : (List.range m).map (fun i => (zt ts (kid i)).1) = (List.range m).map (fun i => ZY ts (kid i)) := List.map_congr_left (fun i hi => hk i (List.mem_range.1 hi)); rw [hc, e2, Do]; exact Prod.ext rfl h3
            · exact wr_
section
variable {ts : List (List Int)} {data : List (List Z)}
theorem YQ {k n : Int} {x : E} {xs : jw} {ag : ju} {A : Option Addr} {cap : Nat} {kid : Nat -> PL} {s : List Z} (hk : k ≠ 1) (h : yp ts data (.mk k n x xs ag A 2 cap kid) = (s, 0)) :
    ∃ a b, yp ts data (kid 0) = (a, 0) /\ yp ts data (kid 1) = (b, 0) /\ xy k n x xs.l ag.l [(zt ts (kid 0)).1, (zt ts (kid 1)).1] [a, b] = (s, 0) := by
  unfold yp at h; rw [if_neg hk] at h; obtain ⟨a, e, ha⟩ : ∃ a e, yp ts data (kid 0) = (a, e) := ⟨_, _, rfl⟩
  obtain ⟨b, f, hb⟩ : ∃ a e, yp ts data (kid 1) = (a, e) := ⟨_, _, rfl⟩
  by_cases he : e = 0
  · subst he
    by_cases hf : f = 0
    · subst hf
      have e1 : xE (fun i => yp ts data (kid i)) 2 0 [] = (0, [a, b]) := by simp [xE, ha, hb]
      simp only [e1, ne_eq, not_true_eq_false, if_false] at h; exact ⟨a, b, ha, hb, h⟩
    · have e1 : xE (fun i => yp ts data (kid i)) 2 0 [] = (f, [a]) := by simp [xE, ha, hb, hf]
      simp only [e1, ne_eq, hf, not_false_eq_true, if_true] at h; exact absurd (Prod.mk.inj h).2 hf
  · have e1 : xE (fun i => yp ts data (kid i)) 2 0 [] = (e, []) := by simp [xE, ha, he]
    simp only [e1, ne_eq, he, not_false_eq_true, if_true] at h; exact absurd (Prod.mk.inj h).2 he
theorem YP {k n : Int} {x : E} {xs : jw} {ag : ju} {A : Option Addr} {cap : Nat} {kid : Nat -> PL} {s : List Z} (hk : k ≠ 1) (h : yp ts data (.mk k n x xs ag A 1 cap kid) = (s, 0)) :
    ∃ a, yp ts data (kid 0) = (a, 0) /\ xy k n x xs.l ag.l [(zt ts (kid 0)).1] [a] = (s, 0) := by
  unfold yp at h; rw [if_neg hk] at h; obtain ⟨a, e, ha⟩ : ∃ a e, yp ts data (kid 0) = (a, e) := ⟨_, _, rfl⟩
  by_cases he : e = 0
  · subst he
    have e1 : xE (fun i => yp ts data (kid i)) 1 0 [] = (0, [a]) := by simp [xE, ha]
    simp only [e1, ne_eq, not_true_eq_false, if_false] at h; exact ⟨a, ha, h⟩
  · have e1 : xE (fun i => yp ts data (kid i)) 1 0 [] = (e, []) := by simp [xE, ha, he]
    simp only [e1, ne_eq, he, not_false_eq_true, if_true] at h; exact absurd (Prod.mk.inj h).2 he
theorem E5 {p : PL} {s : List Z} (h : QI ts p data = (s, 0)) : (zt ts p).2 = 0 /\ yM ts data = 0 /\ yp ts data p = (s, 0) := by
  unfold QI at h; split at h
  · exact v4_
  · rename_i h1
    split at h
    · exact v8_
    · exact ww_
theorem yY {p : PL} (h : (zt ts p).2 = 0) : p ≠ .leaf := fun e => by
  subst e; unfold zt at h; split at h
  · simp at h
  · split at h
    · rename_i h2; exact h2 h
    · split at h
      · rename_i h3; exact h3 h
      · rename_i h3
        apply h3; unfold yh; simp
variable {p q : PL} {s t : List Z} {A B C D : Option Addr} {c1 c2 c3 c4 : Nat}
end
def qE (c : List Int) (z : List Z) : Prop := ∀ y ∈ z, je c y.1
theorem QN {c : List Int} {r : List V} (h : je c r) : je c (zg r) := by
  refine ⟨by simp [zg, h.1], fun i v hv => ?_⟩; simp only [zg, List.getElem?_map, Option.map_eq_some_iff] at hv; obtain ⟨u, hu, rfl⟩ := hv; have := h.2 i u hu; exact ⟨Qi this.1, by rw [XT]; exact this.2⟩
theorem Km {c : List Int} {z : List Z} (h : zz c z = 0) : qE c z := fun y hy => (yz _ _).1 ((zj h).2.2 y hy)
theorem QM {c : List Int} {a b : List Z} (hb : qE c b) (h : ∀ x ∈ a, x ∈ b) : qE c a := fun y hy => hb y (h y hy)
theorem LW {c : List Int} {l : List Z} (h : qE c l) : qE c (zW l) := fun y hy => by
  obtain ⟨x, hx, e⟩ := Xe hy; rw [e]; exact QN (h x hx)
theorem qf {c : List Int} {l s : List Z} (h : qE c l) (e : yF l = (s, 0)) : qE c s := by
  unfold yF at e; rcases XX (zW l) with ⟨e1, _, _⟩ | ⟨q, hq, e1⟩
  · rw [e1] at e
    rw [<- (Prod.mk.inj e).1]; exact LW h
  · rw [e1] at e
    exact absurd (Prod.mk.inj e).2 hq
theorem Jf {c : List Int} {f : Int -> Int} {z s : List Z} (h : qE c z) (e : yO f z = (s, 0)) : qE c s := by
  unfold yO at e; split at e
  · rename_i h1; exact absurd (Prod.mk.inj e).2 h1
  · rw [<- (Prod.mk.inj e).1]
    intro y hy; obtain ⟨⟨x, hx, e2⟩, _⟩ := xH hy; rw [e2]; exact QN (h x hx)
theorem Kn {l r : List Int} {a b : List V} (ha : je l a) (hb : je r b) : je (l ++ r) (a ++ b) := by
  refine ⟨by rw [List.length_append, List.length_append, ha.1, hb.1], fun i v hv => ?_⟩; rcases Nat.lt_or_ge i a.length with h | h
  · rw [List.getElem?_append_left h] at hv
    have := ha.2 i v hv; refine ⟨this.1, ?_⟩; rw [List.getD_eq_getElem?_getD, List.getElem?_append_left (by rw [<- ha.1]; exact h), <- List.getD_eq_getElem?_getD]; exact this.2
  · rw [List.getElem?_append_right h] at hv
    have := hb.2 _ v hv; refine ⟨this.1, ?_⟩; rw [List.getD_eq_getElem?_getD, List.getElem?_append_right (by rw [<- ha.1]; exact h), <- ha.1, <- List.getD_eq_getElem?_getD]; exact this.2
theorem RO (r : List Int) : je r (List.replicate r.length zR) := by
  refine ⟨by simp, fun i v hv => ?_⟩; have := qZ_ hv; rw [(List.mem_replicate.1 this).2]; exact ⟨xM, .inl rfl⟩
theorem Jg {l r : List Int} {x : E} {a b : List Z} (ha : qE l a) (hb : qE r b) : qE (l ++ r) (yT x a b) := fun y hy => by
  unfold yT at hy; obtain ⟨p, hp, hy⟩ := List.mem_flatMap.1 hy; unfold ku at hy; obtain ⟨q, hq, rfl⟩ := List.mem_map.1 hy; exact Kn (ha p hp) (hb q (List.mem_filter.1 hq).1)
theorem Nt {l r : List Int} {x : E} {a b : List Z} (ha : qE l a) (hb : qE r b) : qE (l ++ r) (xj r.length x a b) := fun y hy => by
  unfold xj at hy; rcases List.mem_append.1 hy with hy | hy
  · exact Jg ha hb y hy
  · obtain ⟨p, hp, rfl⟩ := List.mem_map.1 hy
    exact Kn (ha p (List.mem_filter.1 hp).1) (RO r)
theorem TI {cols : List Int} {row : List V} (hf : je cols row) {e : E} (h : (zH cols e).2 = 0) : RV (yk row e) /\ ((yk row e).k = 1 \/ (yk row e).k = (zH cols e).1) := by
  have h1 := (JZ cols e (zH cols e).1).1 (by rw [<- h]); refine ⟨XM row hf.rv e ?_, Fj hf e h1.2.2.1⟩; have := Xl e h1.2.2.1; rw [hf.1]; exact this
theorem Pv {cols : List Int} {row : List V} (hf : je cols row) {es : List E} (h : (zC cols es).2 = 0) {g : V -> V} (hg : ∀ v, RV v -> RV (g v) /\ (g v).k = v.k) : je (zC cols es).1 (es.map (fun e => g (yk row e))) := by
  obtain ⟨h1, h2⟩ := yW h; have e : zC cols es = (es.map (fun x => (zH cols x).1), 0) := by unfold zC; rw [if_neg vU_, kB cols es h2]
  rw [e]; refine ⟨by simp, fun i v hv => ?_⟩; simp only [List.getElem?_map, Option.map_eq_some_iff] at hv; obtain ⟨y, hy, rfl⟩ := hv; obtain ⟨r1, r2⟩ := TI hf (h2 y (qZ_ hy)); obtain ⟨g1, g2⟩ := hg _ r1; refine ⟨g1, ?_⟩; rw [g2, List.getD_eq_getElem?_getD, List.getElem?_map, hy]; exact r2
theorem Mu {a b c : List Int} (h : x9 a b = (c, 0)) {r : List V} : (je a r -> je c r) /\ (je b r -> je c r) := by
  unfold x9 at h; split at h
  · exact absurd (Prod.mk.inj h).2 vT_
  · rename_i hl
    have hl : a.length = b.length := by simpa using hl
    split at h
    · rename_i hall
      have hc : c = (a.zip b).map (fun p => qi p.1 p.2) := (Prod.mk.inj h).1.symm
      have key : ∀ (i : Nat) (v : V), i < a.length -> (v.k = a.getD i 0 \/ v.k = b.getD i 0 \/ v.k = 1) -> v.k = 1 \/ v.k = c.getD i 0 := fun i v hi hv => by
        obtain ⟨x, hx⟩ : ∃ x, a[i]? = some x := ⟨_, qQ_ hi⟩
        obtain ⟨y, hy⟩ : ∃ y, b[i]? = some y := ⟨_, qQ_ vU_⟩
        have hz : (a.zip b)[i]? = some (x, y) := by rw [List.getElem?_zip_eq_some]; exact ⟨hx, hy⟩
        have h1 := List.all_eq_true.1 hall (x, y) (qZ_ hz); rw [List.getD_eq_getElem?_getD, hx, List.getD_eq_getElem?_getD, hy] at hv; rw [hc, List.getD_eq_getElem?_getD, List.getElem?_map, hz]; simp only [Option.map_some, Option.getD_some] at hv ⊢; unfold yN at h1; simp only [Bool.or_eq_true, decide_eq_true_eq] at h1; unfold qi; split
        · omega
        · split <;> omega
      have hlc : c.length = a.length := by rw [hc]; simp; omega
      constructor
      · intro hf
        refine ⟨by rw [hf.1, hlc], fun i v hv => ?_⟩; obtain ⟨q1, q2⟩ := hf.2 i v hv; have hi : i < a.length := by have := (qQ9.1 hv).1; have := hf.1; omega
        exact ⟨q1, key i v hi (by rcases q2 with q2 | q2; exact .inr (.inr q2); exact .inl q2)⟩
      · intro hf
        refine ⟨by rw [hf.1, hlc, hl], fun i v hv => ?_⟩; obtain ⟨q1, q2⟩ := hf.2 i v hv; have hi : i < a.length := by have := (qQ9.1 hv).1; have := hf.1; omega
        exact ⟨q1, key i v hi (by rcases q2 with q2 | q2; exact .inr (.inr q2); exact .inr (.inl q2))⟩
    · exact absurd (Prod.mk.inj h).2 vT_
theorem Ve {cols : List Int} {a : Ag} {l : List Z} (ht : Lk cols a = 0) (hf : ∀ r ∈ l, je cols r.1) : (jJ a l).k = 1 \/ (jJ a l).k = ZX cols a := by
  have hlo : 3 < a.k -> ((yx a l).lo.k = 1 \/ (yx a l).lo.k = (zH cols a.x).1) /\ ((yx a l).hi.k = 1 \/ (yx a l).hi.k = (zH cols a.x).1) := fun hk => by
    have hty : (zH cols a.x).2 = 0 := by
      unfold Lk at ht; split at ht
      · simp at ht
      · split at ht
        · omega
        · split at ht
          · rename_i h3; exact absurd ht h3
          · rename_i h3; simpa using h3
    revert hf
    refine Wi (P := fun l => (∀ r ∈ l, je cols r.1) -> ((yx a l).lo.k = 1 \/ (yx a l).lo.k = (zH cols a.x).1) /\ ((yx a l).hi.k = 1 \/ (yx a l).hi.k = (zH cols a.x).1)) (fun _ => ⟨.inl rfl, .inl rfl⟩) (fun l r ih h => ?_) l; obtain ⟨i1, i2⟩ := ih (fun q hq => h q (by simp [hq])); have hv := (TI (h r vV_) hty).2; rw [Xq]; unfold xU; rw [if_neg vU_]; split
    · exact ⟨i1, i2⟩
    · refine ⟨?_, ?_⟩
      · simp only; split
        · exact hv
        · exact i1
      · simp only; split
        · exact hv
        · exact i2
  have hty : ZX cols a = if a.k <= 3 then 3 else (zH cols a.x).1 := rfl
  rw [hty]; unfold jJ; split
  · rw [if_pos vU_]; exact NM _
  · split
    · exact .inl rfl
    · split
      · rw [if_pos vU_]; exact NM _
      · split
        · rw [if_neg vU_]; exact (hlo vU_).1
        · by_cases h5 : 3 < a.k
          · rw [if_neg vU_]; exact (hlo h5).2
          · exfalso; omega
theorem Je {c c0 c1 : List Int} {a b s : List Z} {t : Int} (hs : x9 c0 c1 = (c, 0)) (ha : qE c0 a) (hb : qE c1 b) (h : yL a b t = (s, 0)) : qE c s := by
  unfold yL at h; split at h
  · exact v4_
  · split at h
    · exact v4_
    · refine qf (fun y hy => ?_) h
      rcases List.mem_append.1 hy with hy | hy
      · exact (Mu hs).1 (ha y hy)
      · unfold zP at hy
        obtain ⟨x, hx, rfl⟩ := List.mem_map.1 hy; exact (Mu hs).2 (hb x hx)
theorem TF {cols c : List Int} {es : List E} {aggs : List Ag} {z s : List Z} {n : Int} (hc : xq 12 n es aggs cols = (c, 0)) (h : QW cols es aggs z = (s, 0)) : qE c s := by
  obtain ⟨g, hs⟩ := ND h; have hz := Km g.z
  have ec : c = (zC cols es).1 ++ aggs.map (ZX cols) := by
    unfold xq at hc; rw [if_neg (by have := g.n; omega), if_neg (by rw [g.es]; simp)] at hc; simp [g.ag] at hc; exact hc.symm
  rw [hs]; refine LW (fun y hy => ?_); unfold jk at hy; obtain ⟨q, hq, rfl⟩ := List.mem_map.1 hy; rw [ec]; unfold xk; refine Kn ?_ ⟨by simp, fun i v hv => ?_⟩
  · rcases (xW es z q).1 hq with ⟨h0, rfl⟩ | ⟨r, hr, rfl⟩
    · have e0 : es = [] := List.length_eq_zero_iff.1 h0
      subst e0; exact ⟨rfl, fun i v hv => by simp at hv⟩
    · exact Pv (hz r (kZ.1 hr).1) g.es (g := fun v => v) (fun v hv => ⟨hv, rfl⟩)
  · simp only [List.getElem?_map, Option.map_eq_some_iff] at hv
    obtain ⟨a, ha, rfl⟩ := hv; have hm := qZ_ ha; have sub : ∀ r ∈ yE es z q, r ∈ z := XB; refine ⟨Tb (g.agg hm sub), ?_⟩; rw [List.getD_eq_getElem?_getD, List.getElem?_map, ha]; exact Ve (Xn g.ag a hm) (fun r hr => hz r (sub r hr))
theorem TH {cols : List Int} {es : List E} {k : Int} {z s : List Z} (h : kA cols es k z = (s, 0)) : qE cols s := by
  have hz := Km (JU h).1; unfold kA at h; split at h
  · exact v4_
  · split at h
    · simp at h
    · split at h
      · exact v8_
      · have src : ∀ x ∈ ql es (yo yQ z), je cols x.1 /\ 0 < x.2 := fun x hx => by
          have hm := (xY es (yo yQ z)).mem_iff.1 hx; obtain ⟨⟨r, hr, e⟩, hne⟩ := xH hm; rw [e] at hne; simp only [yQ] at hne; rw [e]; refine ⟨QN (hz r hr), ?_⟩; split at hne
          · exact absurd rfl hne
          · rename_i hh
            simp only [yQ, if_neg hh]; omega
        refine qf (fun y hy => ?_) h; obtain ⟨x, hx, e, _⟩ := XE (fun x hx => (src x hx).2) hy; rw [<- e]; exact (src x hx).1
theorem PA {ts : List (List Int)} {k n : Int} {x : E} {xs : List E} {ag : List Ag} {cs : List (List Int)} {zs : List (List Z)} {c : List Int} {s : List Z} (hk : 2 <= k /\ k <= 13) (hc : yt ts k n x xs ag cs = (c, 0)) (h0 : qE (cs.getD 0 []) (zs.getD 0 [])) (h1 : qE (cs.getD 1 []) (zs.getD 1 [])) (h : xy k n x xs ag cs zs = (s, 0)) : qE c s := by
  obtain ⟨c0, e0⟩ : ∃ c0, cs.getD 0 [] = c0 := ⟨_, rfl⟩
  obtain ⟨c1, e1⟩ : ∃ c1, cs.getD 1 [] = c1 := ⟨_, rfl⟩
  obtain ⟨a, ea⟩ : ∃ a, zs.getD 0 [] = a := ⟨_, rfl⟩
  obtain ⟨b, eb⟩ : ∃ b, zs.getD 1 [] = b := ⟨_, rfl⟩
  unfold xy at h; unfold yt at hc; rw [e0, e1] at h hc; rw [ea, eb] at h; rw [e0, ea] at h0; rw [e1, eb] at h1; clear e0 e1 ea eb; have kk : k = 2 \/ k = 3 \/ k = 4 \/ k = 5 \/ k = 6 \/ k = 7 \/ k = 8 \/ k = 9 \/ k = 10 \/ k = 11 \/ k = 12 \/ k = 13 := by omega
  rcases kk with rfl | rfl | rfl | rfl | rfl | rfl | rfl | rfl | rfl | rfl | rfl | rfl
  · have h : qB c0 x a = (s, 0) := h
    have hc : (c0, y6 c0 x) = (c, 0) := hc; rw [<- (Prod.mk.inj hc).1]; exact qf (QM h0 (fun y hy => (List.mem_filter.1 hy).1)) (kg h).2.2
  · have h : Ze c0 xs a = (s, 0) := h
    have hc : zC c0 xs = (c, 0) := hc; have ht : (zC c0 xs).2 = 0 := by rw [hc]
    have ec : c = (zC c0 xs).1 := by rw [hc]
    unfold Ze at h; rw [if_neg (by simp [ht])] at h; split at h
    · exact v8_
    · refine qf (fun y hy => ?_) h
      obtain ⟨r, hr, rfl⟩ := List.mem_map.1 hy; rw [ec]; exact Pv (h0 r hr) ht (g := fun v => v) (fun v hv => ⟨hv, rfl⟩)
  · have h : jU c0 c1 x a b = (s, 0) := h
    have hc : (if 8 < (c0 ++ c1).length then (([], 5) : List Int × Int) else (c0 ++ c1, y6 (c0 ++ c1) x)) = (c, 0) := hc; split at hc
    · exact uG_
    · rw [<- (Prod.mk.inj hc).1]
      unfold jU at h; split at h
      · exact v8_
      · exact qf (Jg h0 h1) h
  · have h : xA true c0 c1 x a b = (s, 0) := h
    have hc : (if 8 < (c0 ++ c1).length then (([], 5) : List Int × Int) else (c0, y6 (c0 ++ c1) x)) = (c, 0) := hc; split at hc
    · exact uG_
    · exact wM_
  · have h : xA false c0 c1 x a b = (s, 0) := h
    have hc : (if 8 < (c0 ++ c1).length then (([], 5) : List Int × Int) else (c0, y6 (c0 ++ c1) x)) = (c, 0) := hc; split at hc
    · exact uG_
    · exact wM_
  · have h : jV c0 c1 x a b = (s, 0) := h
    have hc : (if 8 < (c0 ++ c1).length then (([], 5) : List Int × Int) else (c0 ++ c1, y6 (c0 ++ c1) x)) = (c, 0) := hc; split at hc
    · exact uG_
    · rw [<- (Prod.mk.inj hc).1]
      unfold jV at h; split at h
      · exact v8_
      · exact qf (Nt h0 h1) h
  · exact Je (show x9 c0 c1 = (c, 0) from hc) h0 h1 (show yL a b 1 = (s, 0) from h)
  · exact Je (show x9 c0 c1 = (c, 0) from hc) h0 h1 (show yL a b (-1) = (s, 0) from h)
  · have hc : (c0, (0 : Int)) = (c, 0) := hc
    rw [<- (Prod.mk.inj hc).1]; exact Jf h0 (show yO yQ a = (s, 0) from h)
  · have hc : (c0, (0 : Int)) = (c, 0) := hc
    rw [<- (Prod.mk.inj hc).1]; exact Jf h0 (show yO YB a = (s, 0) from h)
  · exact TF (show xq 12 n xs ag c0 = (c, 0) from hc) (show QW c0 xs ag a = (s, 0) from h)
  · have h : kA c0 xs n a = (s, 0) := h
    have hc : xq 13 n xs ag c0 = (c, 0) := hc
    have ec : c = c0 := by
      unfold xq at hc; rw [if_neg vU_] at hc; split at hc
      · rename_i h2; exact absurd (Prod.mk.inj hc).2 h2
      · rw [if_pos rfl] at hc
        split at hc
        · exact uG_
        · exact (Prod.mk.inj hc).1.symm
    rw [ec]; exact TH h
theorem QD : ∀ (ts : List (List Int)) (data : List (List Z)), data.length = ts.length -> xw ts data = 0 -> ∀ i, i < ts.length -> qE (ts.getD i []) (data.getD i [])
  | [], _, _, _, i, hi => absurd hi (Nat.not_lt_zero _)
  | _ :: _, [], h, _, _, _ => by simp at h
  | c :: cs, z :: zs, h, h0, i, hi => by
    unfold xw at h0; split at h0
    · exact u6_
    · rename_i h1
      cases i with
      | zero => exact Km (show zz c z = 0 by simpa using h1)
      | succ i => exact QD cs zs vM_ h0 i (by simpa using hi)
theorem Uo {ts : List (List Int)} {data : List (List Z)} (hd : yM ts data = 0) (p : PL) : (zt ts p).2 = 0 -> ∀ s, yp ts data p = (s, 0) -> qE (zt ts p).1 s := by
  have hd2 : data.length = ts.length /\ xw ts data = 0 := by
    unfold yM at hd; split at hd
    · simp at hd
    · rename_i h1; exact ⟨by simpa using h1, hd⟩
  induction p with
  | leaf => intro h; exact absurd rfl (yY h)
  | mk k n x xs ag A m cap kid ih =>
    intro h s hs; obtain ⟨hm, hk0, hc⟩ := xV h; have kd := fun i (hi : i < m) => y9 h hi
    by_cases k1 : k = 1
    · subst k1
      unfold yt at hc; rw [if_pos rfl] at hc; split at hc
      · exact uG_
      · rename_i hn
        rw [<- (Prod.mk.inj hc).1]; unfold yp at hs; rw [if_pos rfl] at hs; exact qf (QD ts data hd2.1 hd2.2 n.toNat vU_) hs
    · have kk : (ye k = 1 \/ ye k = 2) /\ 2 <= k /\ k <= 13 := by
        unfold ye at hk0 ⊢
        repeat' split at hk0
        all_goals first | omega | (repeat' split) <;> omega
      rcases kk.1 with h1 | h2
      · obtain rfl : m = 1 := by omega
        obtain ⟨a, ha, ho⟩ := YP k1 hs; exact PA (ts := ts) (zs := [a]) kk.2 hc (ih 0 (kd 0 vU_) a ha) (fun y hy => by simp at hy) ho
      · obtain rfl : m = 2 := by omega
        obtain ⟨a, b, ha, hb, ho⟩ := YQ k1 hs; exact PA (ts := ts) (zs := [a, b]) kk.2 hc (ih 0 (kd 0 vU_) a ha) (ih 1 (kd 1 vU_) b hb) ho
theorem XW (ts : List (List Int)) (p : PL) : (zt ts p).1.length <= 8 := by
  unfold zt; split
  · simp
  · split
    · simp
    · rename_i h1
      split
      · simp
      · rename_i h2
        exact Qy (fun t ht => (Zt vG_ t ht).1) p 1 0 vK_
