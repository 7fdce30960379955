/-
 Joined texts of this claim: Qp, Qm, Qa, Qt, Qe. What each proves its own head says; no condition beside those that each theorem names.
-/
import Derived.Test.YtifpomonpneanaaGreatGWa
import Derived.Test.YtifpomonpneanaaGreatGVc
import Derived.Test.YtifpomonpneanaaGreatGGa
import Derived.Test.YtifpomonpneanaaGreatGTc
import Derived.Test.YtifpomonpneanaaGreatGWd
import Derived.Test.YtifpomonpneanaaGreatGI
namespace Go.Proofs.YtifpomonpneanaaGreat
open Go.RowKit Go.Calm
set_option linter.unusedSimpArgs false
set_option linter.unusedVariables false
def oneZ (k n : Int) (x : E) (xs : List E) (ag : List Ag) (cs : List (List Int)) (zs : List (List Z)) : List Z × Int :=
 if k = 2 then filterZ (cs.getD 0 []) x (zs.getD 0 [])
 else if k = 3 then mapZ (cs.getD 0 []) xs (zs.getD 0 [])
 else if k = 4 then joinZ (cs.getD 0 []) (cs.getD 1 []) x (zs.getD 0 []) (zs.getD 1 [])
 else if k = 5 then partZ true (cs.getD 0 []) (cs.getD 1 []) x (zs.getD 0 []) (zs.getD 1 [])
 else if k = 6 then partZ false (cs.getD 0 []) (cs.getD 1 []) x (zs.getD 0 []) (zs.getD 1 [])
 else if k = 7 then leftZ (cs.getD 0 []) (cs.getD 1 []) x (zs.getD 0 []) (zs.getD 1 [])
 else if k = 8 then bothZ (zs.getD 0 []) (zs.getD 1 []) 1
 else if k = 9 then bothZ (zs.getD 0 []) (zs.getD 1 []) (-1)
 else if k = 10 then eachZ posF (zs.getD 0 [])
 else if k = 11 then eachZ disF (zs.getD 0 [])
 else if k = 12 then grpZ (cs.getD 0 []) xs ag (zs.getD 0 [])
 else topZ (cs.getD 0 []) xs n (zs.getD 0 [])
def kidsZ (f : Nat → List Z × Int) : Nat → Nat → List (List Z) → Int × List (List Z)
 | 0, _, zs => (0, zs)
 | r + 1, i, zs => if (f i).2 = 0 then kidsZ f r (i + 1) (zs ++ [(f i).1]) else ((f i).2, zs)
def playZ (ts : List (List Int)) (data : List (List Z)) : PL → List Z × Int
 | .leaf => ([], 0)
 | .mk k n x xs ag _ m _ kid =>
  if k = 1 then sumZ (data.getD n.toNat [])
  else
   let r := kidsZ (fun i => playZ ts data (kid i)) m 0 []
   if r.1 ≠ 0 then ([], r.1) else oneZ k n x xs.l ag.l ((List.range m).map (fun i => (colsE ts (kid i)).1)) r.2
def dataGo : List (List Int) → List (List Z) → Int
 | c :: cs, z :: zs => if inputE c z ≠ 0 then inputE c z else dataGo cs zs
 | _, _ => 0
def dataE (ts : List (List Int)) (data : List (List Z)) : Int := if data.length ≠ ts.length then 8 else dataGo ts data
def evalZ (ts : List (List Int)) (p : PL) (data : List (List Z)) : List Z × Int :=
 if (colsE ts p).2 ≠ 0 then ([], (colsE ts p).2) else if dataE ts data ≠ 0 then ([], dataE ts data) else playZ ts data p
theorem filter_ok9 {cols : List Int} {x : E} {z s : List Z} (h : filterZ cols x z = (s, 0)) : condE cols x = 0 ∧ inputE cols z = 0 ∧ sumZ (z.filter (fun r => holdB x r.1)) = (s, 0) := by
 unfold filterZ at h
 split at h
 ·rename_i h1; exact absurd (Prod.mk.inj h).2 h1
 ·rename_i h1
  split at h
  ·rename_i h2; exact absurd (Prod.mk.inj h).2 h2
  ·rename_i h2; exact ⟨by simpa using h1, by simpa using h2, h⟩
theorem okR_sub {a b : List Z} (hb : okR b) (h : ∀ x ∈ a, x ∈ b) : okR a := fun x hx => hb x (h x hx)
theorem okR_in {cols : List Int} {z : List Z} (h : inputE cols z = 0) : okR z := (SM.of (inputE_zero h).2.1).ok
def RightZ (z : List Z) : Prop := Canon z ∧ wrongZ z = 0
theorem each_right {f : Int → Int} {z s : List Z} (h : eachZ f z = (s, 0)) (f0 : f 0 = 0) (fb : ∀ n, -1000000 ≤ n → n ≤ 1000000 → -1000000 ≤ f n ∧ f n ≤ 1000000) : RightZ s := by
 have hw := each_zero h
 obtain ⟨d, e, c, sm, _⟩ := each_sm (SM.of hw) f0 fb (by omega) (by omega)
 rw [e] at h
 obtain rfl := (Prod.mk.inj h).1
 exact ⟨c, sm.rz (by omega) (by omega)⟩
theorem grp_right {cols : List Int} {es : List E} {aggs : List Ag} {z s : List Z} (h : grpZ cols es aggs z = (s, 0)) : inputE cols z = 0 ∧ RightZ s := by
 obtain ⟨g, hs⟩ := grp_ok h
 have r := g.rows (l := headsK es z) (fun q hq => hq)
 have hw := (inputE_zero g.z).2.1
 have hl := headsK_len es z (SM.of hw).len
 have e := sum_fits r.2 (by rw [List.length_map]; exact hl)
 have e2 : sumZ ((headsK es z).map (rowK es aggs z)) = (s, 0) := by rw [e, hs]; rfl
 obtain ⟨c, w, _⟩ := sum_ok r.1 e2
 exact ⟨g.z, c, w⟩
theorem top_right {cols : List Int} {es : List E} {k : Int} {z s : List Z} (h : topZ cols es k z = (s, 0)) : inputE cols z = 0 ∧ RightZ s := by
 unfold topZ at h
 split at h
 ·rename_i h1; exact absurd (Prod.mk.inj h).2 h1
 ·split at h
  ·simp at h
  ·split at h
   ·rename_i h2; exact absurd (Prod.mk.inj h).2 h2
   ·rename_i h2
    have h2 : inputE cols z = 0 := by simpa using h2
    have smz := SM.of (inputE_zero h2).2.1
    have src : ∀ x ∈ sortZ es (eachL posF z), okR [x] ∧ 0 < x.2 := fun x hx => by
     have hm := (sortZ_perm es (eachL posF z)).mem_iff.1 hx
     obtain ⟨⟨r, hr, e⟩, hne⟩ := eachL_mem hm
     rw [e] at hne
     simp only [posF] at hne
     refine ⟨fun y hy => by rw [List.mem_singleton.1 hy]; exact okR_each smz.ok posF x hm, ?_⟩
     split at hne
     ·exact absurd rfl hne
     ·rename_i hh
      rw [e]
      simp only [posF, if_neg hh]
      omega
    have ok : okR (topGo k (sortZ es (eachL posF z))) := fun y hy => by
     obtain ⟨x, hx, e, _⟩ := topGo_mem (fun x hx => (src x hx).2) hy
     rw [← e]
     exact (src x hx).1 x (by simp)
    obtain ⟨c, w, _⟩ := sum_ok ok h
    exact ⟨h2, c, w⟩
theorem part_right {want : Bool} {l r : List Int} {x : E} {a b s : List Z} (h : partZ want l r x a b = (s, 0)) : twoE l r x a b = 0 ∧ RightZ s := by
 by_cases h0 : twoE l r x a b = 0
 ·obtain ⟨e, c, w, _⟩ := part_ok (want := want) h0
  rw [h] at e
  rw [(Prod.mk.inj e).1]
  exact ⟨h0, c, w⟩
 ·rw [part_bad h0] at h
  exact absurd (Prod.mk.inj h).2 h0
theorem left_right {l r : List Int} {x : E} {a b s : List Z} (h : leftZ l r x a b = (s, 0)) : twoE l r x a b = 0 ∧ RightZ s := by
 unfold leftZ at h
 split at h
 ·rename_i h1; exact absurd (Prod.mk.inj h).2 h1
 ·rename_i h1
  have h1 : twoE l r x a b = 0 := by simpa using h1
  obtain ⟨c, w, _⟩ := sum_ok (outer_okR h1) h
  exact ⟨h1, c, w⟩
theorem map_right {cols : List Int} {es : List E} {z s : List Z} (h : mapZ cols es z = (s, 0)) : inputE cols z = 0 ∧ RightZ s := by
 unfold mapZ at h
 split at h
 ·rename_i h1; exact absurd (Prod.mk.inj h).2 h1
 ·rename_i h1
  split at h
  ·rename_i h2; exact absurd (Prod.mk.inj h).2 h2
  ·rename_i h2
   have h1 : (typesE cols es).2 = 0 := by simpa using h1
   have h2 : inputE cols z = 0 := by simpa using h2
   obtain ⟨c, w, _⟩ := sum_ok (map_okR h1 h2) h
   exact ⟨h2, c, w⟩
theorem one_right {k n : Int} {x : E} {xs : List E} {ag : List Ag} {cs : List (List Int)} {zs : List (List Z)} {s : List Z} (h : oneZ k n x xs ag cs zs = (s, 0)) : RightZ s := by
 unfold oneZ at h
 split at h
 ·obtain ⟨_, h2, h3⟩ := filter_ok9 h
  obtain ⟨c, w, _⟩ := sum_ok (okR_sub (okR_in h2) (fun x hx => (List.mem_filter.1 hx).1)) h3
  exact ⟨c, w⟩
 ·split at h
  ·exact (map_right h).2
  ·split at h
   ·obtain ⟨_, c, w, _⟩ := join_ok h; exact ⟨c, w⟩
   ·split at h
    ·exact (part_right h).2
    ·split at h
     ·exact (part_right h).2
     ·split at h
      ·exact (left_right h).2
      ·split at h
       ·obtain ⟨_, _, c, w, _⟩ := both_ok h; exact ⟨c, w⟩
       ·split at h
        ·obtain ⟨_, _, c, w, _⟩ := both_ok h; exact ⟨c, w⟩
        ·split at h
         ·exact each_right h rfl (fun n h1 h2 => by unfold posF; split <;> omega)
         ·split at h
          ·exact each_right h rfl (fun n h1 h2 => by unfold disF; split <;> omega)
          ·split at h
           ·exact (grp_right h).2
           ·exact (top_right h).2
def DataOk (data : List (List Z)) : Prop := ∀ z ∈ data, wrongZ z = 0
theorem dataGo_ok : ∀ (ts : List (List Int)) (data : List (List Z)), data.length = ts.length → dataGo ts data = 0 → DataOk data
 | [], [], _, _ => fun z hz => by simp at hz
 | [], _ :: _, h, _ => by simp at h
 | _ :: _, [], h, _ => by simp at h
 | c :: cs, z :: zs, h, h0 => by
  unfold dataGo at h0
  split at h0
  ·rename_i h1; exact absurd h0 h1
  ·rename_i h1
   have h1 : inputE c z = 0 := by simpa using h1
   have ih := dataGo_ok cs zs (by simpa using h) h0
   intro y hy
   rcases List.mem_cons.1 hy with rfl | hy
   ·exact (inputE_zero h1).2.1
   ·exact ih y hy
theorem data_ok {ts : List (List Int)} {data : List (List Z)} (h : dataE ts data = 0) : DataOk data := by
 unfold dataE at h
 split at h
 ·simp at h
 ·rename_i h1; exact dataGo_ok ts data (by simpa using h1) h
theorem play_right {ts : List (List Int)} {data : List (List Z)} (hd : DataOk data) (p : PL) {s : List Z} (hp : p ≠ .leaf) (h : playZ ts data p = (s, 0)) : RightZ s := by
 cases p with
 | leaf => exact absurd rfl hp
 | mk k n x xs ag A m cap kid =>
  unfold playZ at h
  split at h
  ·have ok : okR (data.getD n.toNat []) := by
    rw [List.getD_eq_getElem?_getD]
    cases hi : data[n.toNat]? with
    | none => exact fun x hx => by simp at hx
    | some z => exact (SM.of (hd z (List.mem_of_getElem? hi))).ok
   obtain ⟨c, w, _⟩ := sum_ok ok h
   exact ⟨c, w⟩
  ·simp only at h
   split at h
   ·rename_i h1; exact absurd (Prod.mk.inj h).2 h1
   ·exact one_right h
theorem kidsGo_mono {α : Type} {f g : Nat → Int → α × Int × Int} (hf : ∀ i m m', m' ≤ m → (f i m).2.1 = 0 → (g i m').2.1 = 0 ∧ (g i m').2.2 - m' = (f i m).2.2 - m) : ∀ (r i : Nat) (m m' : Int) (l l' : List α), m' ≤ m → (kidsGo f r i m l).1 = 0 → (kidsGo g r i m' l').1 = 0 ∧ (kidsGo g r i m' l').2.1 - m' = (kidsGo f r i m l).2.1 - m
 | 0, i, m, m', l, l', h, _ => ⟨rfl, by simp only [kidsGo]; omega⟩
 | r + 1, i, m, m', l, l', h, h0 => by
  unfold kidsGo at h0 ⊢
  split at h0
  ·rename_i h1
   obtain ⟨h2, h3⟩ := hf i m m' h h1
   rw [if_pos h1, if_pos h2]
   obtain ⟨h4, h5⟩ := kidsGo_mono hf r (i + 1) (f i m).2.2 (g i m').2.2 (l ++ [(f i m).1]) (l' ++ [(g i m').1]) (by omega) h0
   exact ⟨h4, by omega⟩
  ·rename_i h1; exact absurd h0 h1
theorem colP_mono {ts : List (List Int)} (p : PL) : ∀ (d m d' m' : Int), d' ≤ d → m' ≤ m → (colP ts p d m).2.1 = 0 → (colP ts p d' m').2.1 = 0 ∧ (colP ts p d' m').2.2 - m' = (colP ts p d m).2.2 - m := by
 induction p with
 | leaf => intro d m d' m' _ _ h; unfold colP at h; split at h <;> simp at h
 | mk k n x xs ag A mm cap kid ih =>
  intro d m d' m' hd hm h
  by_cases h1 : 60 < m + 1 ∨ 15 < d
  ·unfold colP at h; rw [if_pos h1] at h; simp at h
  ·by_cases h2 : kidsP k < 0
   ·unfold colP at h; rw [if_neg h1, if_pos h2] at h; simp at h
   ·by_cases h3 : (mm : Int) = kidsP k
    ·rw [colP_kids ts k n x xs ag A mm cap kid d m h1 (by omega) h3] at h ⊢
     rw [colP_kids ts k n x xs ag A mm cap kid d' m' (by omega) (by omega) h3]
     unfold colOf at h ⊢
     split at h
     ·rename_i h0; exact absurd h h0
     ·rename_i h0
      have h0 : (kidsGo (fun i m' => colP ts (kid i) (d + 1) m') mm 0 (m + 1) []).1 = 0 := by simpa using h0
      obtain ⟨g0, g1⟩ := kidsGo_mono (f := fun i m' => colP ts (kid i) (d + 1) m') (g := fun i m' => colP ts (kid i) (d' + 1) m') (fun i a b hab h9 => ih i (d + 1) a (d' + 1) b (by omega) hab h9) mm 0 (m + 1) (m' + 1) [] [] (by omega) h0
      have e1 := kids_cls (g := fun i => clsP ts (kid i)) (fun i m' h => (colP_cls (kid i) (d + 1) m' h).1) mm 0 (m + 1) [] h0
      have e2 := kids_cls (g := fun i => clsP ts (kid i)) (fun i m' h => (colP_cls (kid i) (d' + 1) m' h).1) mm 0 (m' + 1) [] g0
      rw [if_neg (by simp [g0]), if_neg (by simp [h0])]
      rw [e1] at h
      rw [e2]
      exact ⟨h, by simp only; omega⟩
    ·unfold colP at h; rw [if_neg h1, if_neg h2, if_pos h3] at h; simp at h
theorem kidsGo_each {α : Type} {f : Nat → Int → α × Int × Int} : ∀ (r j : Nat) (m : Int) (l : List α), (∀ i a, a ≤ (f i a).2.2 ∨ (f i a).2.1 ≠ 0) → (kidsGo f r j m l).1 = 0 → ∀ i, j ≤ i → i < j + r → ∃ a, m ≤ a ∧ (f i a).2.1 = 0
 | 0, j, m, l, _, _, i, h1, h2 => by omega
 | r + 1, j, m, l, hf, hz, i, h1, h2 => by
  unfold kidsGo at hz
  split at hz
  ·rename_i h5
   by_cases hij : i = j
   ·subst hij; exact ⟨m, Int.le_refl _, h5⟩
   ·obtain ⟨a, ha, h6⟩ := kidsGo_each r (j + 1) (f j m).2.2 _ hf hz i (by omega) (by omega)
    rcases hf j m with h7 | h7
    ·exact ⟨a, by omega, h6⟩
    ·exact absurd h5 h7
  ·rename_i h5; exact absurd hz h5
theorem colP_up {ts : List (List Int)} (p : PL) (d m : Int) : m ≤ (colP ts p d m).2.2 ∨ (colP ts p d m).2.1 ≠ 0 := by
 by_cases h : m ≤ 60
 ·exact .inl (colP_bd ts p d m h).1
 ·right
  cases p with
  | leaf => unfold colP; rw [if_pos (by omega)]; simp
  | mk k n x xs ag A mm cap kid => unfold colP; rw [if_pos (by omega)]; simp
theorem colsE_kid {ts : List (List Int)} {k n : Int} {x : E} {xs : XsS} {ag : AgS} {A : Option Addr} {m cap : Nat} {kid : Nat → PL} (h : (colsE ts (.mk k n x xs ag A m cap kid)).2 = 0) {i : Nat} (hi : i < m) : (colsE ts (kid i)).2 = 0 := by
 unfold colsE at h
 split at h
 ·simp at h
 ·rename_i h8
  split at h
  ·rename_i h1; exact absurd h h1
  ·rename_i h1
   split at h
   ·rename_i h3; exact absurd h h3
   ·rename_i h3
    have h3 : (colP ts (.mk k n x xs ag A m cap kid) 1 0).2.1 = 0 := by simpa using h3
    have hk : (colP ts (kid i) 1 0).2.1 = 0 := by
     by_cases q1 : 60 < (0 : Int) + 1 ∨ 15 < (1 : Int)
     ·omega
     ·by_cases q2 : kidsP k < 0
      ·unfold colP at h3; rw [if_neg q1, if_pos q2] at h3; simp at h3
      ·by_cases q3 : (m : Int) = kidsP k
       ·rw [colP_kids ts k n x xs ag A m cap kid 1 0 q1 (by omega) q3] at h3
        unfold colOf at h3
        split at h3
        ·rename_i h0; exact absurd h3 h0
        ·rename_i h0
         obtain ⟨a, ha, hz⟩ := kidsGo_each m 0 (0 + 1) [] (fun i a => colP_up (ts := ts) (kid i) (1 + 1) a) (by simpa using h0) i (Nat.zero_le _) (by omega)
         exact (colP_mono (kid i) (1 + 1) a 1 0 (by omega) (by omega) hz).1
       ·unfold colP at h3; rw [if_neg q1, if_neg q2, if_pos q3] at h3; simp at h3
    unfold colsE
    rw [if_neg h8, if_neg h1, if_neg (by simp [hk])]
theorem colsE_node {ts : List (List Int)} {k n : Int} {x : E} {xs : XsS} {ag : AgS} {A : Option Addr} {m cap : Nat} {kid : Nat → PL} (h : (colsE ts (.mk k n x xs ag A m cap kid)).2 = 0) :
  (m : Int) = kidsP k ∧ 0 ≤ kidsP k ∧ colT ts k n x xs.l ag.l ((List.range m).map (fun i => (colsE ts (kid i)).1)) = ((colsE ts (.mk k n x xs ag A m cap kid)).1, 0) := by
 have hk := fun (i : Nat) (hi : i < m) => (colsE_cls (colsE_kid h hi)).1
 have hh := h
 have hc := (colsE_cls h).1
 unfold colsE at h
 split at h
 ·simp at h
 ·split at h
  ·rename_i h1; exact absurd h h1
  ·split at h
   ·rename_i h3; exact absurd h h3
   ·rename_i h3
    have h3 : (colP ts (.mk k n x xs ag A m cap kid) 1 0).2.1 = 0 := by simpa using h3
    by_cases q1 : 60 < (0 : Int) + 1 ∨ 15 < (1 : Int)
    ·omega
    ·by_cases q2 : kidsP k < 0
     ·unfold colP at h3; rw [if_neg q1, if_pos q2] at h3; simp at h3
     ·by_cases q3 : (m : Int) = kidsP k
      ·refine ⟨q3, by omega, ?_⟩
       rw [colP_kids ts k n x xs ag A m cap kid 1 0 q1 (by omega) q3] at h3
       unfold colOf at h3
       split at h3
       ·rename_i h0; exact absurd h3 h0
       ·rename_i h0
        have e1 := kids_cls (g := fun i => clsP ts (kid i)) (fun i m' h => (colP_cls (kid i) (1 + 1) m' h).1) m 0 (0 + 1) [] (by simpa using h0)
        simp only [List.nil_append, Nat.zero_add] at e1
        rw [e1] at h3
        have e2 : (List.range m).map (fun i => (colsE ts (kid i)).1) = (List.range m).map (fun i => clsP ts (kid i)) := List.map_congr_left (fun i hi => hk i (List.mem_range.1 hi))
        rw [hc, e2, cls_mk]
        exact Prod.ext rfl h3
      ·unfold colP at h3; rw [if_neg q1, if_neg q2, if_pos q3] at h3; simp at h3
section
variable {ts : List (List Int)} {data : List (List Z)}
theorem play_two {k n : Int} {x : E} {xs : XsS} {ag : AgS} {A : Option Addr} {cap : Nat} {kid : Nat → PL} {s : List Z} (hk : k ≠ 1) (h : playZ ts data (.mk k n x xs ag A 2 cap kid) = (s, 0)) :
  ∃ a b, playZ ts data (kid 0) = (a, 0) ∧ playZ ts data (kid 1) = (b, 0) ∧ oneZ k n x xs.l ag.l [(colsE ts (kid 0)).1, (colsE ts (kid 1)).1] [a, b] = (s, 0) := by
 unfold playZ at h
 rw [if_neg hk] at h
 obtain ⟨a, e, ha⟩ : ∃ a e, playZ ts data (kid 0) = (a, e) := ⟨_, _, rfl⟩
 obtain ⟨b, f, hb⟩ : ∃ a e, playZ ts data (kid 1) = (a, e) := ⟨_, _, rfl⟩
 by_cases he : e = 0
 ·subst he
  by_cases hf : f = 0
  ·subst hf
   have e1 : kidsZ (fun i => playZ ts data (kid i)) 2 0 [] = (0, [a, b]) := by simp [kidsZ, ha, hb]
   simp only [e1, ne_eq, not_true_eq_false, if_false] at h
   exact ⟨a, b, ha, hb, h⟩
  ·have e1 : kidsZ (fun i => playZ ts data (kid i)) 2 0 [] = (f, [a]) := by simp [kidsZ, ha, hb, hf]
   simp only [e1, ne_eq, hf, not_false_eq_true, if_true] at h
   exact absurd (Prod.mk.inj h).2 hf
 ·have e1 : kidsZ (fun i => playZ ts data (kid i)) 2 0 [] = (e, []) := by simp [kidsZ, ha, he]
  simp only [e1, ne_eq, he, not_false_eq_true, if_true] at h
  exact absurd (Prod.mk.inj h).2 he
theorem play_one {k n : Int} {x : E} {xs : XsS} {ag : AgS} {A : Option Addr} {cap : Nat} {kid : Nat → PL} {s : List Z} (hk : k ≠ 1) (h : playZ ts data (.mk k n x xs ag A 1 cap kid) = (s, 0)) :
  ∃ a, playZ ts data (kid 0) = (a, 0) ∧ oneZ k n x xs.l ag.l [(colsE ts (kid 0)).1] [a] = (s, 0) := by
 unfold playZ at h
 rw [if_neg hk] at h
 obtain ⟨a, e, ha⟩ : ∃ a e, playZ ts data (kid 0) = (a, e) := ⟨_, _, rfl⟩
 by_cases he : e = 0
 ·subst he
  have e1 : kidsZ (fun i => playZ ts data (kid i)) 1 0 [] = (0, [a]) := by simp [kidsZ, ha]
  simp only [e1, ne_eq, not_true_eq_false, if_false] at h
  exact ⟨a, ha, h⟩
 ·have e1 : kidsZ (fun i => playZ ts data (kid i)) 1 0 [] = (e, []) := by simp [kidsZ, ha, he]
  simp only [e1, ne_eq, he, not_false_eq_true, if_true] at h
  exact absurd (Prod.mk.inj h).2 he
theorem ev_ok {p : PL} {s : List Z} (h : evalZ ts p data = (s, 0)) : (colsE ts p).2 = 0 ∧ dataE ts data = 0 ∧ playZ ts data p = (s, 0) := by
 unfold evalZ at h
 split at h
 ·rename_i h1; exact absurd (Prod.mk.inj h).2 h1
 ·rename_i h1
  split at h
  ·rename_i h2; exact absurd (Prod.mk.inj h).2 h2
  ·rename_i h2; exact ⟨by simpa using h1, by simpa using h2, h⟩
theorem colsE_leaf {p : PL} (h : (colsE ts p).2 = 0) : p ≠ .leaf := fun e => by
 subst e
 unfold colsE at h
 split at h
 ·simp at h
 ·split at h
  ·rename_i h2; exact h2 h
  ·split at h
   ·rename_i h3; exact h3 h
   ·rename_i h3
    apply h3
    unfold colP
    simp
theorem ev_right {p : PL} {s : List Z} (h : evalZ ts p data = (s, 0)) : RightZ s := by
 obtain ⟨h1, h2, h3⟩ := ev_ok h
 exact play_right (data_ok h2) p (colsE_leaf h1) h3
variable {p q : PL} {s t : List Z} {A B C D : Option Addr} {c1 c2 c3 c4 : Nat}
abbrev nod1 (k : Int) (A : Option Addr) (c : Nat) (p : PL) : PL := .mk k 0 .leaf ⟨none, [], 0⟩ ⟨none, [], 0⟩ A 1 c (fun _ => p)
abbrev nod2 (k : Int) (x : E) (A : Option Addr) (c : Nat) (p q : PL) : PL := .mk k 0 x ⟨none, [], 0⟩ ⟨none, [], 0⟩ A 2 c (fun i => if i = 0 then p else q)
theorem alg_add (h1 : evalZ ts (nod2 8 .leaf A c1 p q) data = (s, 0)) (h2 : evalZ ts (nod2 8 .leaf B c2 q p) data = (t, 0)) : s = t := by
 obtain ⟨a, b, ha, hb, h3⟩ := play_two (by decide) (ev_ok h1).2.2
 obtain ⟨b', a', hb', ha', h4⟩ := play_two (by decide) (ev_ok h2).2.2
 simp only [if_pos, if_neg (show ¬ ((1 : Nat) = 0) by decide)] at ha hb ha' hb'
 rw [ha] at ha'
 rw [hb] at hb'
 obtain rfl := (Prod.mk.inj ha').1
 obtain rfl := (Prod.mk.inj hb').1
 have h3 : bothZ a b 1 = (s, 0) := h3
 have h4 : bothZ b a 1 = (t, 0) := h4
 obtain ⟨_, _, cs, _, ws⟩ := both_ok h3
 obtain ⟨_, _, ct, _, wt⟩ := both_ok h4
 exact canon_ext _ _ cs ct (fun q _ => by rw [ws, wt]; omega)
theorem alg_sub (h1 : evalZ ts (nod2 9 .leaf A c1 (nod2 8 .leaf B c2 p q) q) data = (s, 0)) (h2 : evalZ ts p data = (t, 0)) : s = t := by
 obtain ⟨u, b, hu, hb, h3⟩ := play_two (by decide) (ev_ok h1).2.2
 simp only [if_pos, if_neg (show ¬ ((1 : Nat) = 0) by decide)] at hu hb
 obtain ⟨a, b', ha, hb', h4⟩ := play_two (by decide) hu
 simp only [if_pos, if_neg (show ¬ ((1 : Nat) = 0) by decide)] at ha hb'
 rw [hb] at hb'
 obtain rfl := (Prod.mk.inj hb').1
 rw [(ev_ok h2).2.2] at ha
 obtain rfl := (Prod.mk.inj ha).1
 have h3 : bothZ u b (-1) = (s, 0) := h3
 have h4 : bothZ t b 1 = (u, 0) := h4
 obtain ⟨_, _, cs, _, ws⟩ := both_ok h3
 obtain ⟨_, _, _, _, wu⟩ := both_ok h4
 exact canon_ext _ _ cs (ev_right h2).1 (fun q _ => by rw [ws, wu]; omega)
theorem alg_once (h1 : evalZ ts (nod1 11 A c1 (nod1 11 B c2 p)) data = (s, 0)) (h2 : evalZ ts (nod1 11 C c3 p) data = (t, 0)) : s = t := by
 obtain ⟨d, hd, h3⟩ := play_one (by decide) (ev_ok h1).2.2
 obtain ⟨a, ha, h4⟩ := play_one (by decide) hd
 obtain ⟨a', ha', h5⟩ := play_one (by decide) (ev_ok h2).2.2
 rw [ha] at ha'
 obtain rfl := (Prod.mk.inj ha').1
 have h3 : eachZ disF d = (s, 0) := h3
 have h4 : eachZ disF a = (d, 0) := h4
 have h5 : eachZ disF a = (t, 0) := h5
 obtain ⟨d', p', e1, _, e3, _⟩ := once_plain (each_zero h4)
 rw [h4] at e1 h5
 obtain rfl := (Prod.mk.inj e1).1
 obtain rfl := (Prod.mk.inj h5).1
 rw [h3] at e3
 exact (Prod.mk.inj e3).1
theorem alg_pos (h1 : evalZ ts (nod1 11 A c1 (nod1 10 B c2 p)) data = (s, 0)) (h2 : evalZ ts (nod1 11 C c3 p) data = (t, 0)) : s = t := by
 obtain ⟨d, hd, h3⟩ := play_one (by decide) (ev_ok h1).2.2
 obtain ⟨a, ha, h4⟩ := play_one (by decide) hd
 obtain ⟨a', ha', h5⟩ := play_one (by decide) (ev_ok h2).2.2
 rw [ha] at ha'
 obtain rfl := (Prod.mk.inj ha').1
 have h3 : eachZ disF d = (s, 0) := h3
 have h4 : eachZ posF a = (d, 0) := h4
 have h5 : eachZ disF a = (t, 0) := h5
 obtain ⟨d', p', e1, e2, _, _, e5, _⟩ := once_plain (each_zero h4)
 rw [h4] at e2
 obtain rfl := (Prod.mk.inj e2).1
 rw [h5] at e1
 obtain rfl := (Prod.mk.inj e1).1
 rw [h3] at e5
 exact (Prod.mk.inj e5).1
theorem alg_part {x : E} (h1 : evalZ ts (nod2 8 .leaf A c1 (nod2 5 x B c2 p q) (nod2 6 x C c3 p q)) data = (s, 0)) (h2 : evalZ ts p data = (t, 0)) : s = t := by
 obtain ⟨u, v, hu, hv, h3⟩ := play_two (by decide) (ev_ok h1).2.2
 simp only [if_pos, if_neg (show ¬ ((1 : Nat) = 0) by decide)] at hu hv
 obtain ⟨a, b, ha, hb, h4⟩ := play_two (by decide) hu
 obtain ⟨a', b', ha', hb', h5⟩ := play_two (by decide) hv
 simp only [if_pos, if_neg (show ¬ ((1 : Nat) = 0) by decide)] at ha hb ha' hb'
 rw [ha] at ha'
 rw [hb] at hb'
 obtain rfl := (Prod.mk.inj ha').1
 obtain rfl := (Prod.mk.inj hb').1
 rw [(ev_ok h2).2.2] at ha
 obtain rfl := (Prod.mk.inj ha).1
 have h3 : bothZ u v 1 = (s, 0) := h3
 have h4 : partZ true (colsE ts p).1 (colsE ts q).1 x t b = (u, 0) := h4
 have h5 : partZ false (colsE ts p).1 (colsE ts q).1 x t b = (v, 0) := h5
 have e := (part_all (part_right h4).1 h4 h5).1
 rw [h3, setZ_canon (ev_right h2).1] at e
 exact (Prod.mk.inj e).1
end
def speaksP (t : Int) : PL → Bool
 | .leaf => false
 | .mk k n _ _ _ _ m _ kid => if k = 1 then decide (n = t) else (List.range m).any (fun i => speaksP t (kid i))
theorem kidsZ_congr {f g : Nat → List Z × Int} : ∀ (r i : Nat) (zs : List (List Z)), (∀ j, i ≤ j → j < i + r → f j = g j) → kidsZ f r i zs = kidsZ g r i zs
 | 0, i, zs, _ => rfl
 | r + 1, i, zs, h => by
  unfold kidsZ
  rw [h i (Nat.le_refl _) (by omega)]
  split
  ·exact kidsZ_congr r (i + 1) _ (fun j h1 h2 => h j (by omega) (by omega))
  ·rfl
def TabOk : PL → Prop
 | .leaf => True
 | .mk k n _ _ _ _ m _ kid => (k = 1 → 0 ≤ n) ∧ ∀ i, i < m → TabOk (kid i)
theorem colP_tab {ts : List (List Int)} (p : PL) : ∀ deep m, (colP ts p deep m).2.1 = 0 → TabOk p := by
 induction p with
 | leaf => intro _ _ _; exact trivial
 | mk k n x xs ag A mm cap kid ih =>
  intro deep m
  by_cases h1 : 60 < m + 1 ∨ 15 < deep
  ·unfold colP; rw [if_pos h1]; simp
  ·by_cases h2 : kidsP k < 0
   ·unfold colP; rw [if_neg h1, if_pos h2]; simp
   ·by_cases h3 : (mm : Int) = kidsP k
    ·rw [colP_kids ts k n x xs ag A mm cap kid deep m h1 (by omega) h3]
     unfold colOf
     split
     ·rename_i h0; exact fun h' => absurd h' h0
     ·rename_i h0
      intro hc
      have h0 : (kidsGo (fun i m' => colP ts (kid i) (deep + 1) m') mm 0 (m + 1) []).1 = 0 := by simpa using h0
      refine ⟨fun hk => ?_, fun i hi => ?_⟩
      ·simp only at hc
       unfold colT at hc
       rw [if_pos hk] at hc
       split at hc
       ·simp at hc
       ·omega
      ·have : ∀ (r j : Nat) (m : Int) (l : List (List Int)), (kidsGo (fun i m' => colP ts (kid i) (deep + 1) m') r j m l).1 = 0 → ∀ i, j ≤ i → i < j + r → TabOk (kid i) := fun r => by
        induction r with
        | zero => intro j m l _ i h1 h2; omega
        | succ r ihr =>
         intro j m l hz i h1 h2
         unfold kidsGo at hz
         split at hz
         ·rename_i h5
          by_cases hij : i = j
          ·subst hij; exact ih i _ _ h5
          ·exact ihr (j + 1) _ _ hz i (by omega) (by omega)
         ·rename_i h5; exact absurd hz h5
       exact this mm 0 (m + 1) [] h0 i (Nat.zero_le _) (by omega)
    ·unfold colP; rw [if_neg h1, if_neg h2, if_pos h3]; simp
theorem colsE_tab {ts : List (List Int)} {p : PL} (h : (colsE ts p).2 = 0) : TabOk p := by
 unfold colsE at h
 split at h
 ·simp at h
 ·split at h
  ·rename_i h1 h2; simp at h; omega
  ·split at h
   ·rename_i h3; simp at h; omega
   ·rename_i h3; exact colP_tab p 1 0 (by simpa using h3)
theorem play_places {ts : List (List Int)} {data : List (List Z)} {t : Nat} {z : List Z} (p : PL) : TabOk p → speaksP t p = false → playZ ts (data.set t z) p = playZ ts data p := by
 induction p with
 | leaf => intro _ _; rfl
 | mk k n x xs ag A m cap kid ih =>
  intro hT hs
  unfold speaksP at hs
  unfold playZ
  by_cases hk : k = 1
  ·rw [if_pos hk] at hs
   have hn : n ≠ t := of_decide_eq_false hs
   have h0 := hT.1 hk
   rw [if_pos hk, if_pos hk]
   have e : (data.set t z).getD n.toNat [] = data.getD n.toNat [] := by
    rw [List.getD_eq_getElem?_getD, List.getD_eq_getElem?_getD, List.getElem?_set_ne (by omega)]
   rw [e]
  ·rw [if_neg hk] at hs
   have hs' : ∀ i, i < m → speaksP t (kid i) = false := fun i hi => by
    have := List.any_eq_false.1 hs i (List.mem_range.2 hi)
    simpa using this
   rw [if_neg hk, if_neg hk, kidsZ_congr (f := fun i => playZ ts (data.set t z) (kid i)) (g := fun i => playZ ts data (kid i)) m 0 [] (fun j h1 h2 => ih j (hT.2 j (by omega)) (hs' j (by omega)))]
end Go.Proofs.YtifpomonpneanaaGreat
namespace Go.Proofs.YtifpomonpneanaaGreat
open Go.RowKit Go.Calm
set_option linter.unusedSimpArgs false
set_option linter.unusedVariables false
def FitZ (c : List Int) (z : List Z) : Prop := ∀ y ∈ z, FitR c y.1
theorem fit_bare {c : List Int} {r : List V} (h : FitR c r) : FitR c (bareR r) := by
 refine ⟨by simp [bareR, h.1], fun i v hv => ?_⟩
 simp only [bareR, List.getElem?_map, Option.map_eq_some_iff] at hv
 obtain ⟨u, hu, rfl⟩ := hv
 have := h.2 i u hu
 exact ⟨rv_bare this.1, by rw [bare_k]; exact this.2⟩
theorem fitZ_in {c : List Int} {z : List Z} (h : inputE c z = 0) : FitZ c z := fun y hy => (fits_iff _ _).1 ((inputE_zero h).2.2 y hy)
theorem fitZ_sub {c : List Int} {a b : List Z} (hb : FitZ c b) (h : ∀ x ∈ a, x ∈ b) : FitZ c a := fun y hy => hb y (h y hy)
theorem fitZ_set {c : List Int} {l : List Z} (h : FitZ c l) : FitZ c (setZ l) := fun y hy => by
 obtain ⟨x, hx, e⟩ := setZ_mem hy
 rw [e]
 exact fit_bare (h x hx)
theorem fitZ_sum {c : List Int} {l s : List Z} (h : FitZ c l) (e : sumZ l = (s, 0)) : FitZ c s := by
 unfold sumZ at e
 rcases fitZ_cases (setZ l) with ⟨e1, _, _⟩ | ⟨q, hq, e1⟩
 ·rw [e1] at e
  rw [← (Prod.mk.inj e).1]
  exact fitZ_set h
 ·rw [e1] at e
  exact absurd (Prod.mk.inj e).2 hq
theorem fitZ_each {c : List Int} {f : Int → Int} {z s : List Z} (h : FitZ c z) (e : eachZ f z = (s, 0)) : FitZ c s := by
 unfold eachZ at e
 split at e
 ·rename_i h1; exact absurd (Prod.mk.inj e).2 h1
 ·rw [← (Prod.mk.inj e).1]
  intro y hy
  obtain ⟨⟨x, hx, e2⟩, _⟩ := eachL_mem hy
  rw [e2]
  exact fit_bare (h x hx)
theorem fit_app {l r : List Int} {a b : List V} (ha : FitR l a) (hb : FitR r b) : FitR (l ++ r) (a ++ b) := by
 refine ⟨by rw [List.length_append, List.length_append, ha.1, hb.1], fun i v hv => ?_⟩
 rcases Nat.lt_or_ge i a.length with h | h
 ·rw [List.getElem?_append_left h] at hv
  have := ha.2 i v hv
  refine ⟨this.1, ?_⟩
  rw [List.getD_eq_getElem?_getD, List.getElem?_append_left (by rw [← ha.1]; exact h), ← List.getD_eq_getElem?_getD]
  exact this.2
 ·rw [List.getElem?_append_right h] at hv
  have := hb.2 _ v hv
  refine ⟨this.1, ?_⟩
  rw [List.getD_eq_getElem?_getD, List.getElem?_append_right (by rw [← ha.1]; exact h), ← ha.1, ← List.getD_eq_getElem?_getD]
  exact this.2
theorem fit_nulls (r : List Int) : FitR r (List.replicate r.length nullV') := by
 refine ⟨by simp, fun i v hv => ?_⟩
 have := List.mem_of_getElem? hv
 rw [(List.mem_replicate.1 this).2]
 exact ⟨rv_null, .inl rfl⟩
theorem fitZ_join {l r : List Int} {x : E} {a b : List Z} (ha : FitZ l a) (hb : FitZ r b) : FitZ (l ++ r) (joinL x a b) := fun y hy => by
 unfold joinL at hy
 obtain ⟨p, hp, hy⟩ := List.mem_flatMap.1 hy
 unfold pairsL at hy
 obtain ⟨q, hq, rfl⟩ := List.mem_map.1 hy
 exact fit_app (ha p hp) (hb q (List.mem_filter.1 hq).1)
theorem fitZ_outer {l r : List Int} {x : E} {a b : List Z} (ha : FitZ l a) (hb : FitZ r b) : FitZ (l ++ r) (outerL r.length x a b) := fun y hy => by
 unfold outerL at hy
 rcases List.mem_append.1 hy with hy | hy
 ·exact fitZ_join ha hb y hy
 ·obtain ⟨p, hp, rfl⟩ := List.mem_map.1 hy
  exact fit_app (ha p (List.mem_filter.1 hp).1) (fit_nulls r)
theorem fit_of {cols : List Int} {row : List V} (hf : FitR cols row) {e : E} (h : (typeE cols e).2 = 0) : RV (ofE row e) ∧ ((ofE row e).k = 1 ∨ (ofE row e).k = (typeE cols e).1) := by
 have h1 := (typeE_iff cols e (typeE cols e).1).1 (by rw [← h])
 refine ⟨rv_of row hf.rv e ?_, of_ty hf e h1.2.2.1⟩
 have := wt_re e h1.2.2.1
 rw [hf.1]; exact this
theorem fit_map {cols : List Int} {row : List V} (hf : FitR cols row) {es : List E} (h : (typesE cols es).2 = 0) {g : V → V} (hg : ∀ v, RV v → RV (g v) ∧ (g v).k = v.k) : FitR (typesE cols es).1 (es.map (fun e => g (ofE row e))) := by
 obtain ⟨h1, h2⟩ := typesE_zero h
 have e : typesE cols es = (es.map (fun x => (typeE cols x).1), 0) := by unfold typesE; rw [if_neg (by omega), typesGo_ok cols es h2]
 rw [e]
 refine ⟨by simp, fun i v hv => ?_⟩
 simp only [List.getElem?_map, Option.map_eq_some_iff] at hv
 obtain ⟨y, hy, rfl⟩ := hv
 obtain ⟨r1, r2⟩ := fit_of hf (h2 y (List.mem_of_getElem? hy))
 obtain ⟨g1, g2⟩ := hg _ r1
 refine ⟨g1, ?_⟩
 rw [g2, List.getD_eq_getElem?_getD, List.getElem?_map, hy]
 exact r2
theorem side_fit {a b c : List Int} (h : sideE a b = (c, 0)) {r : List V} : (FitR a r → FitR c r) ∧ (FitR b r → FitR c r) := by
 unfold sideE at h
 split at h
 ·exact absurd (Prod.mk.inj h).2 (by decide)
 ·rename_i hl
  have hl : a.length = b.length := by simpa using hl
  split at h
  ·rename_i hall
   have hc : c = (a.zip b).map (fun p => oneT p.1 p.2) := (Prod.mk.inj h).1.symm
   have key : ∀ (i : Nat) (v : V), i < a.length → (v.k = a.getD i 0 ∨ v.k = b.getD i 0 ∨ v.k = 1) → v.k = 1 ∨ v.k = c.getD i 0 := fun i v hi hv => by
    obtain ⟨x, hx⟩ : ∃ x, a[i]? = some x := ⟨_, List.getElem?_eq_getElem hi⟩
    obtain ⟨y, hy⟩ : ∃ y, b[i]? = some y := ⟨_, List.getElem?_eq_getElem (by omega)⟩
    have hz : (a.zip b)[i]? = some (x, y) := by rw [List.getElem?_zip_eq_some]; exact ⟨hx, hy⟩
    have h1 := List.all_eq_true.1 hall (x, y) (List.mem_of_getElem? hz)
    rw [List.getD_eq_getElem?_getD, hx, List.getD_eq_getElem?_getD, hy] at hv
    rw [hc, List.getD_eq_getElem?_getD, List.getElem?_map, hz]
    simp only [Option.map_some, Option.getD_some] at hv ⊢
    unfold oneB at h1
    simp only [Bool.or_eq_true, decide_eq_true_eq] at h1
    unfold oneT
    split
    ·omega
    ·split <;> omega
   have hlc : c.length = a.length := by rw [hc]; simp; omega
   constructor
   ·intro hf
    refine ⟨by rw [hf.1, hlc], fun i v hv => ?_⟩
    obtain ⟨q1, q2⟩ := hf.2 i v hv
    have hi : i < a.length := by have := (List.getElem?_eq_some_iff.1 hv).1; have := hf.1; omega
    exact ⟨q1, key i v hi (by rcases q2 with q2 | q2; exact .inr (.inr q2); exact .inl q2)⟩
   ·intro hf
    refine ⟨by rw [hf.1, hlc, hl], fun i v hv => ?_⟩
    obtain ⟨q1, q2⟩ := hf.2 i v hv
    have hi : i < a.length := by have := (List.getElem?_eq_some_iff.1 hv).1; have := hf.1; omega
    exact ⟨q1, key i v hi (by rcases q2 with q2 | q2; exact .inr (.inr q2); exact .inr (.inl q2))⟩
  ·exact absurd (Prod.mk.inj h).2 (by decide)
theorem agg_fit {cols : List Int} {a : Ag} {l : List Z} (ht : agT cols a = 0) (hf : ∀ r ∈ l, FitR cols r.1) : (aggV a l).k = 1 ∨ (aggV a l).k = agTy cols a := by
 have hlo : 3 < a.k → ((asOf a l).lo.k = 1 ∨ (asOf a l).lo.k = (typeE cols a.x).1) ∧ ((asOf a l).hi.k = 1 ∨ (asOf a l).hi.k = (typeE cols a.x).1) := fun hk => by
  have hty : (typeE cols a.x).2 = 0 := by
   unfold agT at ht
   split at ht
   ·simp at ht
   ·split at ht
    ·omega
    ·split at ht
     ·rename_i h3; exact absurd ht h3
     ·rename_i h3; simpa using h3
  revert hf
  refine snoc_ind (P := fun l => (∀ r ∈ l, FitR cols r.1) → ((asOf a l).lo.k = 1 ∨ (asOf a l).lo.k = (typeE cols a.x).1) ∧ ((asOf a l).hi.k = 1 ∨ (asOf a l).hi.k = (typeE cols a.x).1)) (fun _ => ⟨.inl rfl, .inl rfl⟩) (fun l r ih h => ?_) l
  obtain ⟨i1, i2⟩ := ih (fun q hq => h q (by simp [hq]))
  have hv := (fit_of (h r (by simp)) hty).2
  rw [asOf_snoc]
  unfold asStep
  rw [if_neg (by omega)]
  split
  ·exact ⟨i1, i2⟩
  ·refine ⟨?_, ?_⟩
   ·simp only; split
    ·exact hv
    ·exact i1
   ·simp only; split
    ·exact hv
    ·exact i2
 have hty : agTy cols a = if a.k ≤ 3 then 3 else (typeE cols a.x).1 := rfl
 rw [hty]
 unfold aggV
 split
 ·rw [if_pos (by omega)]; exact k_intV _
 ·split
  ·exact .inl rfl
  ·split
   ·rw [if_pos (by omega)]; exact k_intV _
   ·split
    ·rw [if_neg (by omega)]; exact (hlo (by omega)).1
    ·by_cases h5 : 3 < a.k
     ·rw [if_neg (by omega)]; exact (hlo h5).2
     ·exfalso; omega
theorem fitZ_both {c c0 c1 : List Int} {a b s : List Z} {t : Int} (hs : sideE c0 c1 = (c, 0)) (ha : FitZ c0 a) (hb : FitZ c1 b) (h : bothZ a b t = (s, 0)) : FitZ c s := by
 unfold bothZ at h
 split at h
 ·rename_i h1; exact absurd (Prod.mk.inj h).2 h1
 ·split at h
  ·rename_i h1; exact absurd (Prod.mk.inj h).2 h1
  ·refine fitZ_sum (fun y hy => ?_) h
   rcases List.mem_append.1 hy with hy | hy
   ·exact (side_fit hs).1 (ha y hy)
   ·unfold scaleZ at hy
    obtain ⟨x, hx, rfl⟩ := List.mem_map.1 hy
    exact (side_fit hs).2 (hb x hx)
theorem fitZ_grp {cols c : List Int} {es : List E} {aggs : List Ag} {z s : List Z} {n : Int} (hc : groupedE 12 n es aggs cols = (c, 0)) (h : grpZ cols es aggs z = (s, 0)) : FitZ c s := by
 obtain ⟨g, hs⟩ := grp_ok h
 have hz := fitZ_in g.z
 have ec : c = (typesE cols es).1 ++ aggs.map (agTy cols) := by
  unfold groupedE at hc
  rw [if_neg (by have := g.n; omega), if_neg (by rw [g.es]; simp)] at hc
  simp [g.ag] at hc
  exact hc.symm
 rw [hs]
 refine fitZ_set (fun y hy => ?_)
 unfold grpL at hy
 obtain ⟨q, hq, rfl⟩ := List.mem_map.1 hy
 rw [ec]
 unfold rowK
 refine fit_app ?_ ⟨by simp, fun i v hv => ?_⟩
 ·rcases (headsK_mem es z q).1 hq with ⟨h0, rfl⟩ | ⟨r, hr, rfl⟩
  ·have e0 : es = [] := List.length_eq_zero_iff.1 h0
   subst e0
   exact ⟨rfl, fun i v hv => by simp at hv⟩
  ·exact fit_map (hz r (pg_mem.1 hr).1) g.es (g := fun v => v) (fun v hv => ⟨hv, rfl⟩)
 ·simp only [List.getElem?_map, Option.map_eq_some_iff] at hv
  obtain ⟨a, ha, rfl⟩ := hv
  have hm := List.mem_of_getElem? ha
  have sub : ∀ r ∈ rowsK es z q, r ∈ z := rowsK_sub
  refine ⟨agg_rv (g.agg hm sub), ?_⟩
  rw [List.getD_eq_getElem?_getD, List.getElem?_map, ha]
  exact agg_fit (aggE_zero g.ag a hm) (fun r hr => hz r (sub r hr))
theorem fitZ_top {cols : List Int} {es : List E} {k : Int} {z s : List Z} (h : topZ cols es k z = (s, 0)) : FitZ cols s := by
 have hz := fitZ_in (top_right h).1
 unfold topZ at h
 split at h
 ·rename_i h1; exact absurd (Prod.mk.inj h).2 h1
 ·split at h
  ·simp at h
  ·split at h
   ·rename_i h2; exact absurd (Prod.mk.inj h).2 h2
   ·have src : ∀ x ∈ sortZ es (eachL posF z), FitR cols x.1 ∧ 0 < x.2 := fun x hx => by
     have hm := (sortZ_perm es (eachL posF z)).mem_iff.1 hx
     obtain ⟨⟨r, hr, e⟩, hne⟩ := eachL_mem hm
     rw [e] at hne
     simp only [posF] at hne
     rw [e]
     refine ⟨fit_bare (hz r hr), ?_⟩
     split at hne
     ·exact absurd rfl hne
     ·rename_i hh
      simp only [posF, if_neg hh]
      omega
    refine fitZ_sum (fun y hy => ?_) h
    obtain ⟨x, hx, e, _⟩ := topGo_mem (fun x hx => (src x hx).2) hy
    rw [← e]
    exact (src x hx).1
theorem one_fit {ts : List (List Int)} {k n : Int} {x : E} {xs : List E} {ag : List Ag} {cs : List (List Int)} {zs : List (List Z)} {c : List Int} {s : List Z} (hk : 2 ≤ k ∧ k ≤ 13) (hc : colT ts k n x xs ag cs = (c, 0)) (h0 : FitZ (cs.getD 0 []) (zs.getD 0 [])) (h1 : FitZ (cs.getD 1 []) (zs.getD 1 [])) (h : oneZ k n x xs ag cs zs = (s, 0)) : FitZ c s := by
 obtain ⟨c0, e0⟩ : ∃ c0, cs.getD 0 [] = c0 := ⟨_, rfl⟩
 obtain ⟨c1, e1⟩ : ∃ c1, cs.getD 1 [] = c1 := ⟨_, rfl⟩
 obtain ⟨a, ea⟩ : ∃ a, zs.getD 0 [] = a := ⟨_, rfl⟩
 obtain ⟨b, eb⟩ : ∃ b, zs.getD 1 [] = b := ⟨_, rfl⟩
 unfold oneZ at h
 unfold colT at hc
 rw [e0, e1] at h hc
 rw [ea, eb] at h
 rw [e0, ea] at h0
 rw [e1, eb] at h1
 clear e0 e1 ea eb
 have kk : k = 2 ∨ k = 3 ∨ k = 4 ∨ k = 5 ∨ k = 6 ∨ k = 7 ∨ k = 8 ∨ k = 9 ∨ k = 10 ∨ k = 11 ∨ k = 12 ∨ k = 13 := by omega
 rcases kk with rfl | rfl | rfl | rfl | rfl | rfl | rfl | rfl | rfl | rfl | rfl | rfl
 ·have h : filterZ c0 x a = (s, 0) := h
  have hc : (c0, condE c0 x) = (c, 0) := hc
  rw [← (Prod.mk.inj hc).1]
  exact fitZ_sum (fitZ_sub h0 (fun y hy => (List.mem_filter.1 hy).1)) (filter_ok9 h).2.2
 ·have h : mapZ c0 xs a = (s, 0) := h
  have hc : typesE c0 xs = (c, 0) := hc
  have ht : (typesE c0 xs).2 = 0 := by rw [hc]
  have ec : c = (typesE c0 xs).1 := by rw [hc]
  unfold mapZ at h
  rw [if_neg (by simp [ht])] at h
  split at h
  ·rename_i h2; exact absurd (Prod.mk.inj h).2 h2
  ·refine fitZ_sum (fun y hy => ?_) h
   obtain ⟨r, hr, rfl⟩ := List.mem_map.1 hy
   rw [ec]
   exact fit_map (h0 r hr) ht (g := fun v => v) (fun v hv => ⟨hv, rfl⟩)
 ·have h : joinZ c0 c1 x a b = (s, 0) := h
  have hc : (if 8 < (c0 ++ c1).length then (([], 5) : List Int × Int) else (c0 ++ c1, condE (c0 ++ c1) x)) = (c, 0) := hc
  split at hc
  ·exact absurd (Prod.mk.inj hc).2 (by decide)
  ·rw [← (Prod.mk.inj hc).1]
   unfold joinZ at h
   split at h
   ·rename_i h2; exact absurd (Prod.mk.inj h).2 h2
   ·exact fitZ_sum (fitZ_join h0 h1) h
 ·have h : partZ true c0 c1 x a b = (s, 0) := h
  have hc : (if 8 < (c0 ++ c1).length then (([], 5) : List Int × Int) else (c0, condE (c0 ++ c1) x)) = (c, 0) := hc
  split at hc
  ·exact absurd (Prod.mk.inj hc).2 (by decide)
  ·rw [← (Prod.mk.inj hc).1]
   unfold partZ at h
   split at h
   ·rename_i h2; exact absurd (Prod.mk.inj h).2 h2
   ·exact fitZ_sum (fitZ_sub h0 (fun y hy => (List.mem_filter.1 hy).1)) h
 ·have h : partZ false c0 c1 x a b = (s, 0) := h
  have hc : (if 8 < (c0 ++ c1).length then (([], 5) : List Int × Int) else (c0, condE (c0 ++ c1) x)) = (c, 0) := hc
  split at hc
  ·exact absurd (Prod.mk.inj hc).2 (by decide)
  ·rw [← (Prod.mk.inj hc).1]
   unfold partZ at h
   split at h
   ·rename_i h2; exact absurd (Prod.mk.inj h).2 h2
   ·exact fitZ_sum (fitZ_sub h0 (fun y hy => (List.mem_filter.1 hy).1)) h
 ·have h : leftZ c0 c1 x a b = (s, 0) := h
  have hc : (if 8 < (c0 ++ c1).length then (([], 5) : List Int × Int) else (c0 ++ c1, condE (c0 ++ c1) x)) = (c, 0) := hc
  split at hc
  ·exact absurd (Prod.mk.inj hc).2 (by decide)
  ·rw [← (Prod.mk.inj hc).1]
   unfold leftZ at h
   split at h
   ·rename_i h2; exact absurd (Prod.mk.inj h).2 h2
   ·exact fitZ_sum (fitZ_outer h0 h1) h
 ·exact fitZ_both (show sideE c0 c1 = (c, 0) from hc) h0 h1 (show bothZ a b 1 = (s, 0) from h)
 ·exact fitZ_both (show sideE c0 c1 = (c, 0) from hc) h0 h1 (show bothZ a b (-1) = (s, 0) from h)
 ·have hc : (c0, (0 : Int)) = (c, 0) := hc
  rw [← (Prod.mk.inj hc).1]
  exact fitZ_each h0 (show eachZ posF a = (s, 0) from h)
 ·have hc : (c0, (0 : Int)) = (c, 0) := hc
  rw [← (Prod.mk.inj hc).1]
  exact fitZ_each h0 (show eachZ disF a = (s, 0) from h)
 ·exact fitZ_grp (show groupedE 12 n xs ag c0 = (c, 0) from hc) (show grpZ c0 xs ag a = (s, 0) from h)
 ·have h : topZ c0 xs n a = (s, 0) := h
  have hc : groupedE 13 n xs ag c0 = (c, 0) := hc
  have ec : c = c0 := by
   unfold groupedE at hc
   rw [if_neg (by omega)] at hc
   split at hc
   ·rename_i h2; exact absurd (Prod.mk.inj hc).2 h2
   ·rw [if_pos rfl] at hc
    split at hc
    ·exact absurd (Prod.mk.inj hc).2 (by decide)
    ·exact (Prod.mk.inj hc).1.symm
  rw [ec]
  exact fitZ_top h
theorem dataGo_fit : ∀ (ts : List (List Int)) (data : List (List Z)), data.length = ts.length → dataGo ts data = 0 → ∀ i, i < ts.length → FitZ (ts.getD i []) (data.getD i [])
 | [], _, _, _, i, hi => absurd hi (Nat.not_lt_zero _)
 | _ :: _, [], h, _, _, _ => by simp at h
 | c :: cs, z :: zs, h, h0, i, hi => by
  unfold dataGo at h0
  split at h0
  ·rename_i h1; exact absurd h0 h1
  ·rename_i h1
   cases i with
   | zero => exact fitZ_in (show inputE c z = 0 by simpa using h1)
   | succ i => exact dataGo_fit cs zs (by simpa using h) h0 i (by simpa using hi)
theorem play_fit {ts : List (List Int)} {data : List (List Z)} (hd : dataE ts data = 0) (p : PL) : (colsE ts p).2 = 0 → ∀ s, playZ ts data p = (s, 0) → FitZ (colsE ts p).1 s := by
 have hd2 : data.length = ts.length ∧ dataGo ts data = 0 := by
  unfold dataE at hd
  split at hd
  ·simp at hd
  ·rename_i h1; exact ⟨by simpa using h1, hd⟩
 induction p with
 | leaf => intro h; exact absurd rfl (colsE_leaf h)
 | mk k n x xs ag A m cap kid ih =>
  intro h s hs
  obtain ⟨hm, hk0, hc⟩ := colsE_node h
  have kd := fun i (hi : i < m) => colsE_kid h hi
  by_cases k1 : k = 1
  ·subst k1
   unfold colT at hc
   rw [if_pos rfl] at hc
   split at hc
   ·exact absurd (Prod.mk.inj hc).2 (by decide)
   ·rename_i hn
    rw [← (Prod.mk.inj hc).1]
    unfold playZ at hs
    rw [if_pos rfl] at hs
    exact fitZ_sum (dataGo_fit ts data hd2.1 hd2.2 n.toNat (by omega)) hs
  ·have kk : (kidsP k = 1 ∨ kidsP k = 2) ∧ 2 ≤ k ∧ k ≤ 13 := by
    unfold kidsP at hk0 ⊢
    repeat' split at hk0
    all_goals first | omega | (repeat' split) <;> omega
   rcases kk.1 with h1 | h2
   ·obtain rfl : m = 1 := by omega
    obtain ⟨a, ha, ho⟩ := play_one k1 hs
    exact one_fit (ts := ts) (zs := [a]) kk.2 hc (ih 0 (kd 0 (by omega)) a ha) (fun y hy => by simp at hy) ho
   ·obtain rfl : m = 2 := by omega
    obtain ⟨a, b, ha, hb, ho⟩ := play_two k1 hs
    exact one_fit (ts := ts) (zs := [a, b]) kk.2 hc (ih 0 (kd 0 (by omega)) a ha) (ih 1 (kd 1 (by omega)) b hb) ho
def NilE (r : List Z × Int) : Prop := r.2 ≠ 0 → r.1 = []
theorem nilE_ite {c : Prop} [Decidable c] {e : Int} {b : List Z × Int} (h : NilE b) : NilE (if c then ([], e) else b) := by
 split
 ·exact fun _ => rfl
 ·exact h
theorem nilE_zero (l : List Z) : NilE (l, 0) := fun h => absurd rfl h
theorem nilE_nil (e : Int) : NilE ([], e) := fun _ => rfl
theorem nilE_fit (z : List Z) : NilE (fitZ z) := by
 unfold fitZ
 exact nilE_ite (nilE_ite (nilE_zero _))
theorem nilE_sum (z : List Z) : NilE (sumZ z) := nilE_fit _
theorem nilE_filter (c : List Int) (x : E) (z : List Z) : NilE (filterZ c x z) := by
 unfold filterZ
 exact nilE_ite (nilE_ite (nilE_sum _))
theorem nilE_map (c : List Int) (es : List E) (z : List Z) : NilE (mapZ c es z) := by
 unfold mapZ
 exact nilE_ite (nilE_ite (nilE_sum _))
theorem nilE_both (a b : List Z) (t : Int) : NilE (bothZ a b t) := by
 unfold bothZ
 exact nilE_ite (nilE_ite (nilE_sum _))
theorem nilE_each (f : Int → Int) (z : List Z) : NilE (eachZ f z) := by
 unfold eachZ
 exact nilE_ite (nilE_zero _)
theorem nilE_one (k n : Int) (x : E) (xs : List E) (ag : List Ag) (cs : List (List Int)) (zs : List (List Z)) : NilE (oneZ k n x xs ag cs zs) := by
 unfold oneZ
 split
 ·exact nilE_filter _ _ _
 split
 ·exact nilE_map _ _ _
 split
 ·unfold joinZ; exact nilE_ite (nilE_sum _)
 split
 ·unfold partZ; repeat' (first | exact nilE_sum _ | exact nilE_zero _ | apply nilE_ite)
 split
 ·unfold partZ; repeat' (first | exact nilE_sum _ | exact nilE_zero _ | apply nilE_ite)
 split
 ·unfold leftZ; exact nilE_ite (nilE_sum _)
 split
 ·exact nilE_both _ _ _
 split
 ·exact nilE_both _ _ _
 split
 ·exact nilE_each _ _
 split
 ·exact nilE_each _ _
 split
 ·unfold grpZ; repeat' (first | exact nilE_sum _ | exact nilE_zero _ | apply nilE_ite)
 ·unfold topZ; repeat' (first | exact nilE_sum _ | exact nilE_zero _ | apply nilE_ite)
theorem nilE_play (ts : List (List Int)) (data : List (List Z)) (p : PL) : NilE (playZ ts data p) := by
 cases p with
 | leaf => exact nilE_nil _
 | mk k n x xs ag A m cap kid =>
  unfold playZ
  split
  ·exact nilE_sum _
  ·exact nilE_ite (nilE_one _ _ _ _ _ _ _)
theorem nilE_eval (ts : List (List Int)) (p : PL) (data : List (List Z)) : NilE (evalZ ts p data) := by
 unfold evalZ
 exact nilE_ite (nilE_ite (nilE_play _ _ _))
theorem nilE_cols (ts : List (List Int)) (p : PL) (h : (colsE ts p).2 ≠ 0) : (colsE ts p).1 = [] := by
 unfold colsE at h ⊢
 repeat' split
 all_goals first | rfl | skip
 simp_all
theorem colsE_len8 (ts : List (List Int)) (p : PL) : (colsE ts p).1.length ≤ 8 := by
 unfold colsE
 split
 ·simp
 ·split
  ·simp
  ·rename_i h1
   split
   ·simp
   ·rename_i h2
    exact colP_len (fun t ht => (tabE_zero (by simpa using h1) t ht).1) p 1 0 (by simpa using h2)
end Go.Proofs.YtifpomonpneanaaGreat
