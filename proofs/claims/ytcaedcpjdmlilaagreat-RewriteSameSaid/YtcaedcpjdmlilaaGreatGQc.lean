/-
 Joined texts of this claim: Qs, Qu, Qv, Qw, Qx, Qy, Qz1, Qz2, Qz3, Qz4, Qz5. What each proves its own head says; no condition beside those that each theorem names.
-/
import Derived.Test.YtcaedcpjdmlilaaGreatGQa
import Derived.Test.YtcaedcpjdmlilaaGreatGWc8
import Derived.Test.YtcaedcpjdmlilaaGreatGG
import Derived.Test.YtcaedcpjdmlilaaGreatGWd0
import Derived.Test.YtcaedcpjdmlilaaGreatGWc
namespace Go.Proofs.YtcaedcpjdmlilaaGreat
open Go.RowKit Go.Calm
set_option linter.unusedSimpArgs false
set_option linter.unusedVariables false
def KI (T T' : Int) : Prop := T' = T \/ T' = 1
theorem Ye {a b a' b' : Int} (h : yy a b = true) (ha : KI a a') (hb : KI b b') : yy a' b' = true := by
 unfold yy at h ⊢; simp only [Bool.or_eq_true, decide_eq_true_eq] at h ⊢; unfold KI at ha hb; omega
theorem PE {a b a' b' : Int} (h : yy a b = true) (ha : KI a a') (hb : KI b b') : KI (qe a b) (qe a' b') := by
 unfold yy at h; simp only [Bool.or_eq_true, decide_eq_true_eq] at h; unfold KI at ha hb ⊢; unfold qe
 repeat' split
 all_goals omega
theorem FD {ts us : List Int} {c : Int} (hl : us.length = ts.length) (hn : ∀ i, i < ts.length -> KI (ts.getD i 0) (us.getD i 0)) (h : ts.all (yy · c) = true) : us.all (yy · c) = true := by
 rw [List.all_eq_true] at h ⊢; intro u hu; obtain ⟨i, hi, e⟩ := List.mem_iff_getElem.1 hu; have h1 := hn i (by omega); have h2 := h _ (List.getElem_mem (show i < ts.length by omega)); simp only [List.getD_eq_getElem?_getD, List.getElem?_eq_getElem hi, List.getElem?_eq_getElem (show i < ts.length by omega), Option.getD_some] at h1; rw [e] at h1; exact Ye h2 h1 (.inl rfl)
theorem zbo {c c0 : List Int} (hl : c0.length = c.length) (hn : ∀ i, i < c.length -> KI (c.getD i 0) (c0.getD i 0)) (e : E) : ∀ {T : Int}, wt c e T -> ∃ T', KI T T' /\ wt c0 e T' := by
 induction e with
 | leaf => intro T h; exact absurd h id
 | mk k v cc A n cap kid ih =>
  intro T h; obtain ⟨h0, h1, ts, h2, h3, h4⟩ := h; have pick : ∀ i, i < n -> ∃ u : Int, KI (ts.getD i 0) u /\ wt c0 (kid i) u := fun i hi => ih i (h3 i hi)
  obtain ⟨f, hf⟩ := Go.Deep.choose_lt pick; obtain ⟨us, hus, hul⟩ : ∃ us : List Int, us.length = n /\ ∀ i, i < n -> us.getD i 0 = f i := ⟨(List.range n).map f, by simp, fun i hi => by simp [List.getD_eq_getElem?_getD, hi]⟩
  have hu : ∀ i, i < n -> KI (ts.getD i 0) (us.getD i 0) /\ wt c0 (kid i) (us.getD i 0) := fun i hi => by rw [hul i hi]; exact hf i hi
  suffices ∃ T', KI T T' /\ Mh c0 k v cc us T' by
   obtain ⟨T', q1, q2⟩ := this; exact ⟨T', q1, h0, h1, us, hus, fun i hi => (hu i hi).2, q2⟩
  have all9 : ∀ d, ts.all (yy · d) = true -> us.all (yy · d) = true := fun d => FD (by omega) (fun i hi => (hu i (by omega)).1)
  unfold Mh at h4 ⊢; split at h4
  ·rename_i k1; simp only [if_pos k1]; exact ⟨T, .inl rfl, h4⟩
  ·rename_i k1; simp only [if_neg k1]; split at h4
   ·rename_i k2; simp only [if_pos k2]; obtain ⟨q1, q2, q3⟩ := h4; refine ⟨c0.getD cc.toNat 0, ?_, q1, by omega, rfl⟩; rw [q3]; exact hn _ (by omega)
   ·rename_i k2; simp only [if_neg k2]; split at h4
    ·rename_i k16; simp only [if_pos k16]; exact ⟨T, .inl rfl, h4⟩
    ·rename_i k16; simp only [if_neg k16]
     have hk3 : zk k = 1 \/ zk k = 2 \/ zk k = 3 := by
      have p1 : zk k <= 3 := by
       unfold zk
       repeat' split
       all_goals omega
      have p2 : zk k = 0 -> k = 1 \/ k = 2 := fun h => jP h
      omega
     have nn : ∀ i, i < n -> KI (ts.getD i 0) (us.getD i 0) := fun i hi => (hu i hi).1
     unfold zJ at h4; split at h4
     ·rename_i g1; split at h4
      ·rename_i h5; exact ⟨T, .inl rfl, by rw [<- h4]; unfold zJ; rw [if_pos g1, if_pos (all9 2 h5)]⟩
      ·simp at h4
     ·rename_i g1; split at h4
      ·rename_i g2; split at h4
       ·rename_i h6; have hk2 : zk k = 2 := Co (by omega); exact ⟨T, .inl rfl, by rw [<- h4]; unfold zJ; rw [if_neg g1, if_pos g2, if_pos (Ye h6 (nn 0 (by omega)) (nn 1 (by omega)))]⟩
       ·simp at h4
      ·rename_i g2; split at h4
       ·rename_i g3; split at h4
        ·rename_i h5; exact ⟨T, .inl rfl, by rw [<- h4]; unfold zJ; rw [if_neg g1, if_neg g2, if_pos g3, if_pos (all9 3 h5)]⟩
        ·simp at h4
       ·rename_i g3; split at h4
        ·rename_i g4; split at h4
         ·rename_i h5; exact ⟨T, .inl rfl, by rw [<- h4]; unfold zJ; rw [if_neg g1, if_neg g2, if_neg g3, if_pos g4, if_pos (all9 4 h5)]⟩
         ·simp at h4
        ·rename_i g4; split at h4
         ·rename_i h17; have hk2 : zk k = 3 := by rw [h17]; rfl
          split at h4
          ·rename_i h6; rw [Bool.and_eq_true] at h6; have p := Ye h6.1 (nn 1 (by omega)) (nn 2 (by omega))
           have e1 : us.take 1 = [us.getD 0 0] := by
            match us, hus with
            | u0 :: l, _ => simp
            | [], hus => simp at hus; omega
           have e2 : ts.take 1 = [ts.getD 0 0] := by
            match ts, h2 with
            | u0 :: l, _ => simp
            | [], h2 => simp at h2; omega
           have q0 := h6.2; rw [e2] at q0; simp only [List.all_cons, List.all_nil, Bool.and_true] at q0
           have q : (us.take 1).all (yy · 2) = true := by
            rw [e1]; simp only [List.all_cons, List.all_nil, Bool.and_true]; exact Ye q0 (nn 0 (by omega)) (.inl rfl)
           obtain ⟨rfl, _⟩ := Prod.mk.inj h4; exact ⟨_, PE h6.1 (nn 1 (by omega)) (nn 2 (by omega)), by unfold zJ; rw [if_neg g1, if_neg g2, if_neg g3, if_neg g4, if_pos h17, if_pos (by rw [Bool.and_eq_true]; exact ⟨p, q⟩)]⟩
          ·simp at h4
         ·rename_i g17; split at h4
          ·rename_i h6
           have hk2 : zk k = 2 := by
            have h9 : (4 <= k /\ k <= 15) \/ k = 18 := by
             unfold zk at h0
             repeat' split at h0
             all_goals omega
            unfold zk; rw [if_neg (by omega), if_neg (by omega), if_pos h9]
           have p := Ye h6 (nn 0 (by omega)) (nn 1 (by omega)); obtain ⟨rfl, _⟩ := Prod.mk.inj h4; exact ⟨_, PE h6 (nn 0 (by omega)) (nn 1 (by omega)), by unfold zJ; rw [if_neg g1, if_neg g2, if_neg g3, if_neg g4, if_neg g17, if_pos p]⟩
          ·simp at h4
theorem N4 (c : List Int) (x : E) : zD c x = 0 ↔ ∃ T, zr c x = (T, 0) /\ (T = 2 \/ T = 1) := by
 unfold zD; generalize zr c x = p; obtain ⟨T, e⟩ := p
 constructor
 ·intro h; simp only at h; split at h
  ·omega
  ·exact ⟨T, by rw [h], by omega⟩
 ·rintro ⟨T', h1, h2⟩; obtain ⟨rfl, rfl⟩ := Prod.mk.inj h1; simp only; rw [if_neg (by omega)]
theorem je (c : List Int) (x : E) : zD c x = 0 ↔ ∃ T, (c.length <= 16 /\ c.all qU = true /\ wt c x T /\ N6 x 1 /\ Y9 x <= 200) /\ (T = 2 \/ T = 1) := by
 rw [N4]
 constructor
 ·rintro ⟨T, h1, h2⟩; exact ⟨T, (xE c x T).1 h1, h2⟩
 ·rintro ⟨T, h1, h2⟩; exact ⟨T, (xE c x T).2 h1, h2⟩
theorem N5 {c c0 : List Int} {x : E} (hl : c0.length = c.length) (hc : c0.all qU = true) (hn : ∀ i, i < c.length -> KI (c.getD i 0) (c0.getD i 0)) (h : zD c x = 0) : zD c0 x = 0 := by
 obtain ⟨T, ⟨h1, h2, h3, h4, h5⟩, h6⟩ := (je c x).1 h; obtain ⟨T', q1, q2⟩ := zbo hl hn x h3; refine (je c0 x).2 ⟨T', ⟨by omega, hc, q2, h4, h5⟩, ?_⟩; unfold KI at q1; omega
theorem GL {c0 c1 : List Int} (e : E) : ∀ {T : Int}, zK (fun c => decide (c < (c0.length : Int))) e = true -> wt (c0 ++ c1) e T -> wt c0 e T := by
 induction e with
 | leaf => intro T _ h; exact absurd h id
 | mk k v cc A n cap kid ih =>
  intro T ha h; obtain ⟨h0, h1, ts, h2, h3, h4⟩ := h; refine ⟨h0, h1, ts, h2, fun i hi => ih i (xO ha hi) (h3 i hi), ?_⟩; unfold Mh at h4 ⊢
  by_cases k1 : k = 1
  ·rw [if_pos k1] at h4 ⊢; exact h4
  ·by_cases k2 : k = 2
   ·rw [if_neg k1, if_pos k2] at h4 ⊢; obtain ⟨q1, q2, q3⟩ := h4
    have q4 : cc < (c0.length : Int) := by
     unfold zK at ha; rw [if_pos k2] at ha; exact of_decide_eq_true (Bool.and_eq_true _ _ ▸ ha).1
    refine ⟨q1, q4, ?_⟩; rw [q3]; simp only [List.getD_eq_getElem?_getD]; rw [List.getElem?_append_left (by omega)]
   ·rw [if_neg k1, if_neg k2] at h4 ⊢; exact h4
theorem Ed {c0 c1 : List Int} (e : E) : ∀ {T : Int}, zK (fun c => decide ((c0.length : Int) <= c)) e = true -> wt (c0 ++ c1) e T -> wt c1 (qO (-(c0.length : Int)) e) T := by
 induction e with
 | leaf => intro T _ h; exact absurd h id
 | mk k v cc A n cap kid ih =>
  intro T ha h; obtain ⟨h0, h1, ts, h2, h3, h4⟩ := h; refine ⟨h0, h1, ts, h2, fun i hi => ?_, ?_⟩
  ·simp only [if_pos hi]; exact ih i (xO ha hi) (h3 i hi)
  unfold Mh at h4 ⊢
  by_cases k1 : k = 1
  ·rw [if_pos k1] at h4 ⊢; exact h4
  ·by_cases k2 : k = 2
   ·rw [if_neg k1, if_pos k2] at h4 ⊢; obtain ⟨q1, q2, q3⟩ := h4
    have q4 : (c0.length : Int) <= cc := by
     unfold zK at ha; rw [if_pos k2] at ha; exact of_decide_eq_true (Bool.and_eq_true _ _ ▸ ha).1
    rw [List.length_append] at q2; rw [if_pos k2]; refine ⟨by omega, by omega, ?_⟩; rw [q3]; simp only [List.getD_eq_getElem?_getD]; rw [List.getElem?_append_right (by omega)]; congr 2; omega
   ·rw [if_neg k1, if_neg k2] at h4 ⊢; exact h4
theorem kE {f g : Nat -> Int} : ∀ {r : Nat}, (∀ i, i < r -> f i = g i) -> xv f r = xv g r
 | 0, _ => rfl
 | r + 1, h => by
  unfold xv; rw [kE (fun i hi => h i (by omega)), h r (Nat.lt_succ_self r)]
theorem zbk (b : Int) (e : E) : Y9 (qO b e) = Y9 e := by
 induction e with
 | leaf => rfl
 | mk k v c A n cap kid ih =>
  simp only [qO, Y9]; rw [kE (f := fun i => Y9 (if i < n then qO b (kid i) else .leaf)) (g := fun i => Y9 (kid i)) (fun i hi => by simp only [if_pos hi]; exact ih i)]
theorem EZ (b : Int) (e : E) : ∀ d, N6 e d -> N6 (qO b e) d := by
 induction e with
 | leaf => intro d h; exact h
 | mk k v c A n cap kid ih =>
  intro d h; exact ⟨h.1, fun i hi => by simp only [if_pos hi]; exact ih i _ (h.2 i hi)⟩
theorem Lh {c0 c1 : List Int} {x : E} (ha : zK (fun c => decide (c < (c0.length : Int))) x = true) (h : zD (c0 ++ c1) x = 0) : zD c0 x = 0 := by
 obtain ⟨T, ⟨h1, h2, h3, h4, h5⟩, h6⟩ := (je _ x).1 h; rw [List.length_append] at h1; rw [List.all_append, Bool.and_eq_true] at h2; exact (je c0 x).2 ⟨T, ⟨by omega, h2.1, GL x ha h3, h4, h5⟩, h6⟩
theorem Jz {c0 c1 : List Int} {x : E} (ha : zK (fun c => decide ((c0.length : Int) <= c)) x = true) (h : zD (c0 ++ c1) x = 0) : zD c1 (qO (-(c0.length : Int)) x) = 0 := by
 obtain ⟨T, ⟨h1, h2, h3, h4, h5⟩, h6⟩ := (je _ x).1 h; rw [List.length_append] at h1; rw [List.all_append, Bool.and_eq_true] at h2; exact (je c1 _).2 ⟨T, ⟨by omega, h2.2, Ed x ha h3, EZ _ x _ h4, by rw [zbk]; exact h5⟩, h6⟩
theorem FF {c0 c1 : List Int} {r q : List V} (hr : r.length = c0.length) (e : E) : ∀ {T : Int}, zK (fun c => decide (c < (c0.length : Int))) e = true -> wt (c0 ++ c1) e T -> yt (r ++ q) e = yt r e := by
 induction e with
 | leaf => intro T _ h; exact absurd h id
 | mk k v cc A n cap kid ih =>
  intro T ha h; obtain ⟨h0, h1, ts, h2, h3, h4⟩ := h; unfold yt
  by_cases k1 : k = 1
  ·rw [if_pos k1, if_pos k1]
  ·by_cases k2 : k = 2
   ·unfold Mh at h4; rw [if_neg k1, if_pos k2] at h4; rw [if_neg k1, if_pos k2, if_neg k1, if_pos k2]
    have q4 : cc < (c0.length : Int) := by
     unfold zK at ha; rw [if_pos k2] at ha; exact of_decide_eq_true (Bool.and_eq_true _ _ ▸ ha).1
    simp only [List.getD_eq_getElem?_getD]; rw [List.getElem?_append_left (by omega)]
   ·rw [if_neg k1, if_neg k2, if_neg k1, if_neg k2]; have hz : zk k ≠ 0 := fun hz => by rcases jP hz with h8 | h8 <;> contradiction
    have g : ∀ i, i < n -> yt (r ++ q) (kid i) = yt r (kid i) := fun i hi => ih i (xO ha hi) (h3 i hi)
    exact J5 (by omega) (g 0 (by omega)) (fun h => g 1 (by omega)) (fun h => g 2 (by omega))
theorem CR {c0 c1 : List Int} {r q : List V} (hr : r.length = c0.length) (e : E) : ∀ {T : Int}, zK (fun c => decide ((c0.length : Int) <= c)) e = true -> wt (c0 ++ c1) e T -> yt (r ++ q) e = yt q (qO (-(c0.length : Int)) e) := by
 induction e with
 | leaf => intro T _ h; exact absurd h id
 | mk k v cc A n cap kid ih =>
  intro T ha h; obtain ⟨h0, h1, ts, h2, h3, h4⟩ := h; unfold qO yt
  by_cases k1 : k = 1
  ·rw [if_pos k1, if_pos k1]
  ·by_cases k2 : k = 2
   ·unfold Mh at h4; rw [if_neg k1, if_pos k2] at h4; rw [if_neg k1, if_pos k2, if_neg k1, if_pos k2, if_pos k2]
    have q4 : (c0.length : Int) <= cc := by
     unfold zK at ha; rw [if_pos k2] at ha; exact of_decide_eq_true (Bool.and_eq_true _ _ ▸ ha).1
    simp only [List.getD_eq_getElem?_getD]; rw [List.getElem?_append_right (by omega)]; congr 3; omega
   ·rw [if_neg k1, if_neg k2, if_neg k1, if_neg k2]; have hz : zk k ≠ 0 := fun hz => by rcases jP hz with h8 | h8 <;> contradiction
    have g : ∀ i, i < n -> yt (r ++ q) (kid i) = yt q (if i < n then qO (-(c0.length : Int)) (kid i) else .leaf) := fun i hi => by rw [if_pos hi]; exact ih i (xO ha hi) (h3 i hi)
    exact J5 (by omega) (g 0 (by omega)) (fun h => g 1 (by omega)) (fun h => g 2 (by omega))
def zO (ts : List (List Int)) (data : List (List Z)) : PL -> List Z × Int
 | .leaf => ([], 0)
 | .mk k n x xs ag _ m _ kid =>
  if k = 1 then yN (data.getD n.toNat [])
  else
   let r := yj (fun i => zO ts data (kid i)) m 0 []
   if r.1 ≠ 0 then ([], r.1) else kY k n x xs.l ag.l ((List.range m).map (fun i => zR ts (kid i))) r.2
section
variable {ts : List (List Int)} {data : List (List Z)}
theorem Kc (p : PL) : (zi ts p).2 = 0 -> zO ts data p = yr ts data p := by
 induction p with
 | leaf => intro _; rfl
 | mk k n x xs ag A m cap kid ih =>
  intro h; unfold zO yr
  by_cases hk : k = 1
  ·rw [if_pos hk, if_pos hk]
  ·rw [if_neg hk, if_neg hk]; have e1 : yj (fun i => zO ts data (kid i)) m 0 [] = yj (fun i => yr ts data (kid i)) m 0 [] := kB m 0 [] (fun j _ hj => ih j (xh h (by omega))); have e2 : (List.range m).map (fun i => zR ts (kid i)) = (List.range m).map (fun i => (zi ts (kid i)).1) := List.map_congr_left (fun i hi => ((ye (xh h (List.mem_range.1 hi))).1).symm); simp only [e1, e2]
theorem UW {f : Nat -> List Z × Int} {a : List Z} (h : f 0 = (a, 0)) : yj f 1 0 [] = (0, [a]) := by simp [yj, h]
theorem UX {f : Nat -> List Z × Int} {a b : List Z} (h : f 0 = (a, 0)) (h1 : f 1 = (b, 0)) : yj f 2 0 [] = (0, [a, b]) := by simp [yj, h, h1]
theorem LZ {k n : Int} {x : E} {xs : jj} {ag : jh} {A : Option Addr} {cap : Nat} {kid : Nat -> PL} {a : List Z} (hk : k ≠ 1) (h : zO ts data (kid 0) = (a, 0)) :
  zO ts data (.mk k n x xs ag A 1 cap kid) = kY k n x xs.l ag.l [zR ts (kid 0)] [a] := by
 unfold zO; rw [if_neg hk]; simp only [UW (f := fun i => zO ts data (kid i)) h, ne_eq, not_true_eq_false, if_false, WW]
theorem L4 {k n : Int} {x : E} {xs : jj} {ag : jh} {A : Option Addr} {cap : Nat} {kid : Nat -> PL} {a b : List Z} (hk : k ≠ 1) (h : zO ts data (kid 0) = (a, 0)) (h1 : zO ts data (kid 1) = (b, 0)) :
  zO ts data (.mk k n x xs ag A 2 cap kid) = kY k n x xs.l ag.l [zR ts (kid 0), zR ts (kid 1)] [a, b] := by
 unfold zO; rw [if_neg hk]; simp only [UX (f := fun i => zO ts data (kid i)) h h1, ne_eq, not_true_eq_false, if_false, kV]
theorem Wa {k n : Int} {x : E} {xs : List E} {ag : List Ag} {kid : Nat -> PL} {a : List Z} (hk : k ≠ 1) (h : zO ts data (kid 0) = (a, 0)) :
  zO ts data (yY k n x xs ag 1 kid) = kY k n x xs ag [zR ts (kid 0)] [a] := LZ hk h
theorem Xb {k n : Int} {x : E} {xs : List E} {ag : List Ag} {kid : Nat -> PL} {a b : List Z} (hk : k ≠ 1) (h : zO ts data (kid 0) = (a, 0)) (h1 : zO ts data (kid 1) = (b, 0)) :
  zO ts data (yY k n x xs ag 2 kid) = kY k n x xs ag [zR ts (kid 0), zR ts (kid 1)] [a, b] := L4 hk h h1
theorem LW {x : E} {p : PL} {a : List Z} (h : zO ts data p = (a, 0)) : zO ts data (xG x p) = yQ (zR ts p) x a := Wa (by decide) h
def qL (x : E) (a : List Z) : List Z := xJ (a.filter (fun r => zw x r.1))
theorem MG {x : E} {a : List Z} (ha : yv a) : yN (a.filter (fun r => zw x r.1)) = (qL x a, 0) /\ yv (qL x a) /\ ∀ q, yi (qL x a) q = if zw x q then yi a q else 0 := by
 have sm := QX (SM.of ha.2) (fun r => zw x r.1); obtain ⟨e, c, s, w⟩ := SR (M := 1000000) (N := 400) sm.ok (fun q => D7 (by omega) sm.rv sm.up sm.bd q) sm.len (by omega) (by omega); exact ⟨e, ⟨c, s.rz (by omega) (by omega)⟩, fun q => by unfold qL; rw [w, QR]⟩
theorem yz {x : E} {a : List Z} (ha : yv a) : yv (qL x a) := (MG ha).2.1
theorem qM {x : E} {a : List Z} (ha : yv a) (q : List V) : yi (qL x a) q = if zw x q then yi a q else 0 := (MG ha).2.2 q
theorem MH {c : List Int} {x : E} {a : List Z} (h : qx c a) : qx c (qL x a) := JG (Qc h (fun y hy => (List.mem_filter.1 hy).1))
theorem Qj {c : List Int} {a : List Z} (hl : c.length <= 8) (ha : yv a) (hf : qx c a) : zF c a = 0 := by
 unfold zF; rw [if_neg (by omega), if_neg (by rw [ha.2]; decide)]; exact (Zy c a).2 (fun y hy => (yP _ _).2 (hf y hy))
theorem Xp {c : List Int} {x : E} {a : List Z} (hx : zD c x = 0) (hl : c.length <= 8) (ha : yv a) (hf : qx c a) : yQ c x a = (qL x a, 0) := by
 unfold yQ; rw [if_neg (by rw [hx]; decide), if_neg (by rw [Qj hl ha hf]; decide)]; exact (MG ha).1
theorem Gu {l t : List Z} (hl : QC l) (ht : yv t) (hw : ∀ q, yi t q = yi l q) : yN l = (t, 0) := by
 unfold yN; rw [<- Jg (fun x hx => (hl x hx).2) ht.1 hw]; have sm := SM.of ht.2; exact Mz sm.len sm.bd
theorem Pk {x : E} {a b s : List Z} {n : Int} (hca : yp a) (hcb : yp b) (h : yI a b n = (s, 0)) : yI (qL x a) (qL x b) n = (qL x s, 0) := by
 obtain ⟨wa, wb, cs, ws, e⟩ := Xl h; have ra : yv a := ⟨hca, wa⟩
 have rb : yv b := ⟨hcb, wb⟩
 have rs : yv s := ⟨cs, ws⟩
 refine V0 (yz ra).2 (yz rb).2 (yz rs).1 (yz rs).2 (fun q => ?_); rw [qM ra, qM rb, qM rs, e]; split <;> omega
theorem Pm {x : E} {f : Int -> Int} {a s : List Z} (f0 : f 0 = 0) (fb : ∀ n, -1000000 <= n -> n <= 1000000 -> -1000000 <= f n /\ f n <= 1000000) (hca : yp a) (h : zP f a = (s, 0)) : zP f (qL x a) = (qL x s, 0) := by
 have ra : yv a := ⟨hca, kO h⟩
 have rs := Zx h f0 fb; obtain ⟨d, e, c, sm, w⟩ := kA (SM.of ra.2) f0 fb (by omega) (by omega); rw [h] at e; obtain rfl := (Prod.mk.inj e).1; obtain ⟨d', e', c', sm', w'⟩ := kA (SM.of (yz (x := x) ra).2) f0 fb (by omega) (by omega); rw [e']; congr 1; refine qC _ _ c' (yz rs).1 (fun q _ => ?_); rw [w', qM ra, qM rs, w]; split
 ·rfl
 ·exact f0
theorem Pn {want : Bool} {l r : List Int} {x y : E} {a b s : List Z} (hca : yp a) (h : xK want l r y a b = (s, 0)) : xK want l r y (qL x a) b = (qL x s, 0) := by
 obtain ⟨h2, rs⟩ := km h; obtain ⟨h8, hc, hia, hib⟩ := yM h2; have ra : yv a := ⟨hca, (zp hia).2.1⟩
 have hia' : zF l (qL x a) = 0 := Qj (zp hia).1 (yz ra) (MH (jF hia))
 have h2' : xC l r y (qL x a) b = 0 := by
  unfold xC at h2 ⊢; rw [if_neg (by omega)]; simp [Ns, hc, hia', hib]
 obtain ⟨e, c, w, e2⟩ := QE (want := want) h2; obtain ⟨e', c', w', e2'⟩ := QE (want := want) h2'; rw [h] at e; obtain rfl := (Prod.mk.inj e).1; rw [e']; congr 1; refine qC _ _ c' (yz rs).1 (fun q _ => ?_); rw [e2', qM ra, qM rs, e2]; split <;> split <;> rfl
end
end Go.Proofs.YtcaedcpjdmlilaaGreat

namespace Go.Proofs.YtcaedcpjdmlilaaGreat
open Go.RowKit Go.Calm
set_option linter.unusedSimpArgs false
set_option linter.unusedVariables false
theorem JR {x y : E} {b : List Z} : ∀ {a : List Z}, (∀ p ∈ a, ∀ q ∈ b, zw x (p.1 ++ q.1) = zw x p.1) -> yK y (a.filter (fun r => zw x r.1)) b = (yK y a b).filter (fun r => zw x r.1)
 | [], _ => rfl
 | p :: a, h => by
  have ih := JR (x := x) (y := y) (b := b) (a := a) (fun p' hp => h p' (List.mem_cons_of_mem _ hp)); unfold yK at ih ⊢; rw [List.flatMap_cons, List.filter_append, <- ih, List.filter_cons]
  have e : ∀ w ∈ xV y p b, zw x w.1 = zw x p.1 := fun w hw => by
   unfold xV at hw; obtain ⟨q, hq, rfl⟩ := List.mem_map.1 hw; exact h p (List.mem_cons_self ..) q (List.mem_filter.1 hq).1
  cases hp : zw x p.1 with
  | true =>
   rw [if_pos rfl, List.flatMap_cons]; congr 1; exact (List.filter_eq_self.2 (fun w hw => by rw [e w hw, hp])).symm
  | false =>
   rw [if_neg (by decide)]; have e9 : (xV y p b).filter (fun r => zw x r.1) = [] := List.filter_eq_nil_iff.2 (fun w hw => by rw [e w hw, hp]; decide); rw [e9, List.nil_append]
theorem PO {x x' y : E} {p : Z} {b : List Z} (h : ∀ q ∈ b, zw x (p.1 ++ q.1) = zw x' q.1) : xV y p (b.filter (fun r => zw x' r.1)) = (xV y p b).filter (fun r => zw x r.1) := by
 unfold xV; rw [List.filter_map, List.filter_filter, List.filter_filter]; congr 1; apply List.filter_congr; intro q hq; simp only [Function.comp]; rw [h q hq, Bool.and_comm]
theorem Wy {x x' y : E} {b : List Z} : ∀ {a : List Z}, (∀ p ∈ a, ∀ q ∈ b, zw x (p.1 ++ q.1) = zw x' q.1) -> yK y a (b.filter (fun r => zw x' r.1)) = (yK y a b).filter (fun r => zw x r.1)
 | [], _ => rfl
 | p :: a, h => by
  have ih := Wy (x := x) (x' := x') (y := y) (b := b) (a := a) (fun p' hp => h p' (List.mem_cons_of_mem _ hp)); unfold yK at ih ⊢; rw [List.flatMap_cons, List.flatMap_cons, List.filter_append, <- ih]; congr 1; exact PO (h p (List.mem_cons_self ..))
theorem LI {x y z : E} {b : List Z} : ∀ {a : List Z}, (∀ p ∈ a, ∀ q ∈ b, zw z (p.1 ++ q.1) = (zw y (p.1 ++ q.1) && zw x (p.1 ++ q.1))) -> yK z a b = (yK y a b).filter (fun r => zw x r.1)
 | [], _ => rfl
 | p :: a, h => by
  have ih := LI (x := x) (y := y) (z := z) (b := b) (a := a) (fun p' hp => h p' (List.mem_cons_of_mem _ hp)); unfold yK at ih ⊢; rw [List.flatMap_cons, List.flatMap_cons, List.filter_append, <- ih]; congr 1; unfold xV; rw [List.filter_map, List.filter_filter]; congr 1; apply List.filter_congr; intro q hq; simp only [Function.comp]; rw [h p (List.mem_cons_self ..) q hq, Bool.and_comm]
theorem JT {l r : List Int} {x y y' : E} {a b a' b' z : List Z} (h : xT l r y a b = (z, 0)) (h2 : xC l r y' a' b' = 0) (hw : ∀ u, yi (yK y' a' b') u = yi ((yK y a b).filter (fun r => zw x r.1)) u) : xT l r y' a' b' = (qL x z, 0) := by
 obtain ⟨_, cz, wz, e⟩ := Xw h; have rz : yv z := ⟨cz, wz⟩
 unfold xT; rw [if_neg (by rw [h2]; decide)]; refine Gu (JU h2) (yz rz) (fun u => ?_); rw [qM rz, hw, QR, e, XJ]
theorem SV {l r : List Int} {y : E} {a b : List Z} (h8 : l.length + r.length <= 8) (hc : zD (l ++ r) y = 0) (ha : zF l a = 0) (hb : zF r b = 0) : xC l r y a b = 0 := by
 unfold xC; rw [if_neg (by omega)]; simp [Ns, hc, ha, hb]
theorem Tv {c : List Int} {a : List Z} (h : zF c a = 0) {p : Z} (hp : p ∈ a) : p.1.length = c.length := (jF h p hp).1
theorem KQ {l r : List Int} {x y : E} {a b z : List Z} (hca : yp a) (hx : zD (l ++ r) x = 0) (hl : zK (fun c => decide (c < (l.length : Int))) x = true) (h : xT l r y a b = (z, 0)) : xT l r y (qL x a) b = (qL x z, 0) := by
 obtain ⟨h2, _⟩ := Xw h; obtain ⟨h8, hc, hia, hib⟩ := yM h2; have ra : yv a := ⟨hca, (zp hia).2.1⟩
 obtain ⟨T, ⟨_, _, hwt, _⟩, _⟩ := (je _ x).1 hx; refine JT h (SV h8 hc (Qj (zp hia).1 (yz ra) (MH (jF hia))) hib) (fun u => ?_); rw [<- JR (fun p hp q hq => by unfold zw; rw [FF (Tv hia hp) x hl hwt]), XJ, XJ]; exact Km (PJ y u b) (fun q => by rw [qM ra, QR])
theorem JM {l r : List Int} {x y : E} {a b z : List Z} (hcb : yp b) (hx : zD (l ++ r) x = 0) (hl : zK (fun c => decide ((l.length : Int) <= c)) x = true) (h : xT l r y a b = (z, 0)) : xT l r y a (qL (qO (-(l.length : Int)) x) b) = (qL x z, 0) := by
 obtain ⟨h2, _⟩ := Xw h; obtain ⟨h8, hc, hia, hib⟩ := yM h2; have rb : yv b := ⟨hcb, (zp hib).2.1⟩
 obtain ⟨T, ⟨_, _, hwt, _⟩, _⟩ := (je _ x).1 hx; refine JT h (SV h8 hc hia (Qj (zp hib).1 (yz rb) (MH (jF hib)))) (fun u => ?_); rw [<- Wy (fun p hp q hq => by unfold zw; rw [CR (Tv hia hp) x hl hwt]), XJ, XJ]; exact SQ _ _ a (fun p _ => Km (PK y u p.1) (fun q => by rw [qM rb, QR]))
theorem Z6 {c : List Int} {y x : E} (hy : zD c y = 0) (hx : zD c x = 0) (h : (zr c (yO y x)).2 = 0) : zD c (yO y x) = 0 := by
 obtain ⟨T, hT⟩ : ∃ T, zr c (yO y x) = (T, 0) := ⟨_, Prod.ext rfl h⟩
 have hw := ((xE c _ T).1 hT).2.2.1; obtain ⟨_, _, ts, _, _, h4⟩ := hw; refine (N4 c _).2 ⟨T, hT, .inl ?_⟩; unfold Mh at h4; rw [if_neg (by decide), if_neg (by decide), if_neg (by decide)] at h4; unfold zJ at h4; rw [if_pos (by decide)] at h4; split at h4
 ·exact (Prod.mk.inj h4).1.symm
 ·simp at h4
theorem LE {c : List Int} {y x : E} (hy : zD c y = 0) (hx : zD c x = 0) {r : List V} (hr : jq c r = 0) : zw (yO y x) r = (zw y r && zw x r) :=
 Cb (A := none) (Zz (jZ hy).1 hr) (Zz (jZ hx).1 hr)
theorem KO {l r : List Int} {x y : E} {a b z : List Z} (hx : zD (l ++ r) x = 0) (ht : (zr (l ++ r) (yO y x)).2 = 0) (h : xT l r y a b = (z, 0)) : xT l r (yO y x) a b = (qL x z, 0) := by
 obtain ⟨h2, _⟩ := Xw h; obtain ⟨h8, hc, hia, hib⟩ := yM h2; refine JT h (SV h8 (Z6 hc hx ht) hia hib) (fun u => ?_); rw [LI (fun p hp q hq => LE hc hx ((yP _ _).2 (Ja (jF hia p hp) (jF hib q hq))))]
theorem Fb {c : List Int} {x y : E} {a : List Z} (hy : zD c y = 0) (hx : zD c x = 0) (ha : yv a) (hf : qx c a) : qL (yO y x) a = qL x (qL y a) := by
 refine qC _ _ (yz ha).1 (yz (yz ha)).1 (fun q _ => ?_); rw [qM ha, qM (yz ha), qM ha]
 by_cases hz : yi a q = 0
 ·rw [hz]; repeat' split
  all_goals rfl
 ·obtain ⟨r, hr, e⟩ := T6 hz; have e1 := LE hy hx ((yP _ _).2 (hf r hr)); rw [qz (yO y x) e, qz y e, qz x e] at e1; rw [e1]; cases zw y q <;> cases zw x q <;> rfl
theorem DC {a b c : List Int} (h : xB a b = (c, 0)) : a.length = c.length /\ b.length = c.length /\ ∀ i, i < c.length -> KI (c.getD i 0) (a.getD i 0) /\ KI (c.getD i 0) (b.getD i 0) := by
 unfold xB at h; split at h
 ·exact absurd (Prod.mk.inj h).2 (by decide)
 ·rename_i hl; have hl : a.length = b.length := by simpa using hl
  split at h
  ·rename_i hall; have hc : c = (a.zip b).map (fun p => qe p.1 p.2) := (Prod.mk.inj h).1.symm; have hlc : c.length = a.length := by rw [hc]; simp; omega
   refine ⟨hlc.symm, by omega, fun i hi => ?_⟩; obtain ⟨x, hx⟩ : ∃ x, a[i]? = some x := ⟨_, List.getElem?_eq_getElem (by omega)⟩
   obtain ⟨y, hy⟩ : ∃ y, b[i]? = some y := ⟨_, List.getElem?_eq_getElem (by omega)⟩
   have hz : (a.zip b)[i]? = some (x, y) := by rw [List.getElem?_zip_eq_some]; exact ⟨hx, hy⟩
   have h1 := List.all_eq_true.1 hall (x, y) (List.mem_of_getElem? hz); rw [hc]; simp only [List.getD_eq_getElem?_getD, hx, hy, List.getElem?_map, hz, Option.map_some, Option.getD_some]; unfold yy at h1; simp only [Bool.or_eq_true, decide_eq_true_eq] at h1; unfold qe KI
   repeat' split
   all_goals omega
  ·exact absurd (Prod.mk.inj h).2 (by decide)
theorem NU {c c0 : List Int} (hl : c0.length = c.length) (hn : ∀ i, i < c.length -> KI (c.getD i 0) (c0.getD i 0)) (h : c.all qU = true) : c0.all qU = true := by
 rw [List.all_eq_true] at h ⊢; intro u hu; obtain ⟨i, hi, e⟩ := List.mem_iff_getElem.1 hu; have h1 := hn i (by omega); have h2 := h _ (List.getElem_mem (show i < c.length by omega)); simp only [List.getD_eq_getElem?_getD, List.getElem?_eq_getElem hi, List.getElem?_eq_getElem (show i < c.length by omega), Option.getD_some] at h1; rw [e] at h1; unfold KI at h1; unfold qU at h2 ⊢; simp only [Bool.and_eq_true, decide_eq_true_eq] at h2 ⊢; omega
theorem Li {a b c : List Int} {x : E} (h : xB a b = (c, 0)) (hx : zD c x = 0) : zD a x = 0 /\ zD b x = 0 := by
 obtain ⟨la, lb, hn⟩ := DC h; obtain ⟨T, ⟨_, hc, _⟩, _⟩ := (je c x).1 hx; exact ⟨N5 la (NU la (fun i hi => (hn i hi).1) hc) (fun i hi => (hn i hi).1) hx, N5 lb (NU lb (fun i hi => (hn i hi).2) hc) (fun i hi => (hn i hi).2) hx⟩
theorem Cw {x : E} (h : qB x = true) (r : List V) : zw x r = true := by
 cases x with
 | leaf => simp [qB, E.kind] at h
 | mk k v c A n cap kid =>
  unfold qB at h; rw [Bool.and_eq_true, Bool.and_eq_true] at h; obtain ⟨⟨h1, h2⟩, h3⟩ := h; have h1 : k = 1 := of_decide_eq_true h1; have h2 : v.k = 2 := of_decide_eq_true h2; have h3 : v.n = 1 := of_decide_eq_true h3; unfold zw yt; rw [if_pos h1]; unfold bare yx; simp [h2, h3]
theorem Fc {x : E} {a : List Z} (h : qB x = true) (ha : yv a) : qL x a = a :=
 qC _ _ (yz ha).1 ha.1 (fun q _ => by rw [qM ha, Cw h, if_pos rfl])
section
variable {ts : List (List Int)} {data : List (List Z)}
theorem yL (hd : qD ts data = 0) {p : PL} {a : List Z} (hp : (zi ts p).2 = 0) (h : zO ts data p = (a, 0)) : yv a /\ qx (zR ts p) a /\ (zR ts p).length <= 8 := by
 rw [Kc p hp] at h; have e := (ye hp).1; exact ⟨ZI (Z8 hd) p (y9 hp) h, e ▸ Dg hd p hp a h, e ▸ YF ts p⟩
theorem DK (hd : qD ts data = 0) {p : PL} {x : E} {a : List Z} (hp : (zi ts p).2 = 0) (hx : zD (zR ts p) x = 0) (h : zO ts data p = (a, 0)) : zO ts data (xG x p) = (qL x a, 0) := by
 obtain ⟨r, f, l⟩ := yL hd hp h; rw [LW h]; exact Xp hx l r f
theorem jQ {k n : Int} {x : E} {xs : jj} {ag : jh} {A : Option Addr} {cap : Nat} {kid : Nat -> PL} {s : List Z} (hk : k ≠ 1) (h : zO ts data (.mk k n x xs ag A 1 cap kid) = (s, 0)) :
  ∃ a, zO ts data (kid 0) = (a, 0) /\ kY k n x xs.l ag.l [zR ts (kid 0)] [a] = (s, 0) := by
 obtain ⟨a, e, ha⟩ : ∃ a e, zO ts data (kid 0) = (a, e) := ⟨_, _, rfl⟩
 by_cases he : e = 0
 ·subst he; rw [LZ hk ha] at h; exact ⟨a, ha, h⟩
 ·unfold zO at h; rw [if_neg hk] at h; have e1 : yj (fun i => zO ts data (kid i)) 1 0 [] = (e, []) := by simp [yj, ha, he]
  simp only [e1, ne_eq, he, not_false_eq_true, if_true] at h; exact absurd (Prod.mk.inj h).2 he
theorem Q9 {k n : Int} {x : E} {xs : jj} {ag : jh} {A : Option Addr} {cap : Nat} {kid : Nat -> PL} {s : List Z} (hk : k ≠ 1) (h : zO ts data (.mk k n x xs ag A 2 cap kid) = (s, 0)) :
  ∃ a b, zO ts data (kid 0) = (a, 0) /\ zO ts data (kid 1) = (b, 0) /\ kY k n x xs.l ag.l [zR ts (kid 0), zR ts (kid 1)] [a, b] = (s, 0) := by
 obtain ⟨a, e, ha⟩ : ∃ a e, zO ts data (kid 0) = (a, e) := ⟨_, _, rfl⟩
 obtain ⟨b, f, hb⟩ : ∃ a e, zO ts data (kid 1) = (a, e) := ⟨_, _, rfl⟩
 by_cases he : e = 0
 ·subst he
  by_cases hf : f = 0
  ·subst hf; rw [L4 hk ha hb] at h; exact ⟨a, b, ha, hb, h⟩
  ·unfold zO at h; rw [if_neg hk] at h; have e1 : yj (fun i => zO ts data (kid i)) 2 0 [] = (f, [a]) := by simp [yj, ha, hb, hf]
   simp only [e1, ne_eq, hf, not_false_eq_true, if_true] at h; exact absurd (Prod.mk.inj h).2 hf
 ·unfold zO at h; rw [if_neg hk] at h; have e1 : yj (fun i => zO ts data (kid i)) 2 0 [] = (e, []) := by simp [yj, ha, he]
  simp only [e1, ne_eq, he, not_false_eq_true, if_true] at h; exact absurd (Prod.mk.inj h).2 he
theorem F3 (hd : qD ts data = 0) (p : PL) : ∀ (x : E) (a : List Z), (zi ts p).2 = 0 -> zD (zR ts p) x = 0 -> zO ts data p = (a, 0) -> zO ts data (zn ts p x) = (qL x a, 0) := by
 induction p with
 | leaf => intro x a h; exact absurd rfl (y9 h)
 | mk k n y xs ag A m cap kid ih =>
  intro x a hp hx h; have stuck := DK hd hp hx h; obtain ⟨ra, fa, la⟩ := yL hd hp h; obtain ⟨hm, hm0, hT⟩ := xQ hp; have hkid : ∀ i, i < m -> (zi ts (kid i)).2 = 0 := fun i hi => xh hp hi
  have ecl : (List.range m).map (fun i => (zi ts (kid i)).1) = (List.range m).map (fun i => zR ts (kid i)) := List.map_congr_left (fun i hi => (ye (hkid i (List.mem_range.1 hi))).1); rw [ecl, (ye hp).1] at hT; unfold zn
  by_cases hl : qB x = true
  ·rw [if_pos hl, h, Fc hl ra]
  ·rw [if_neg hl]
   by_cases k2 : k = 2
   ·subst k2; rw [if_pos rfl]; have m1 : m = 1 := by rw [qj (.inl rfl)] at hm; omega
    subst m1; split
    ·rename_i ht; rw [(ye (hkid 0 (by omega))).1] at ht; obtain ⟨a0, h0, h1⟩ := jQ (by decide) h; have h1 : yQ (zR ts (kid 0)) y a0 = (a, 0) := h1; obtain ⟨r0, f0, l0⟩ := yL hd (hkid 0 (by omega)) h0; obtain ⟨hy, _⟩ := YI h1; rw [Xp hy l0 r0 f0] at h1; obtain rfl := (Prod.mk.inj h1).1; rw [qo, Jx, WW] at hx; have hx : zD (zR ts (kid 0)) x = 0 := hx; rw [LW h0, Xp (Z6 hy hx ht) l0 r0 f0, Fb hy hx r0 f0]
    ·exact stuck
   ·rw [if_neg k2]
    by_cases k8 : k = 8 \/ k = 9
    ·rw [if_pos k8]; have m2 : m = 2 := by rw [kc (by omega)] at hm; omega
     subst m2; obtain ⟨a0, b0, h0, h1, h2⟩ := Q9 (by omega) h; obtain ⟨r0, f0, l0⟩ := yL hd (hkid 0 (by omega)) h0; obtain ⟨r1, f1, l1⟩ := yL hd (hkid 1 (by omega)) h1; rw [kV] at hT
     have hs : xB (zR ts (kid 0)) (zR ts (kid 1)) = (zR ts (.mk k n y xs ag A 2 cap kid), 0) := by
      rcases k8 with rfl | rfl <;> exact hT
     obtain ⟨x0, x1⟩ := Li hs hx; have p0 := ih 0 x a0 (hkid 0 (by omega)) x0 h0; have p1 := ih 1 x b0 (hkid 1 (by omega)) x1 h1; rw [Xb (kid := fun i => if i = 0 then zn ts (kid 0) x else zn ts (kid 1) x) (by omega) p0 p1]; rcases k8 with rfl | rfl
     ·exact Pk (n := 1) r0.1 r1.1 h2
     ·exact Pk (n := -1) r0.1 r1.1 h2
    ·rw [if_neg k8]
     by_cases k10 : k = 10 \/ k = 11
     ·rw [if_pos k10]; have m1 : m = 1 := by rw [qj (by omega)] at hm; omega
      subst m1; obtain ⟨a0, h0, h1⟩ := jQ (by omega) h; obtain ⟨r0, f0, l0⟩ := yL hd (hkid 0 (by omega)) h0; rw [qo, Z4 k10, WW] at hx; have p0 := ih 0 x a0 (hkid 0 (by omega)) hx h0; rw [Wa (kid := fun _ => zn ts (kid 0) x) (by omega) p0]; rcases k10 with rfl | rfl
      ·exact Pm (f := yJ) (by decide) (fun n h1 h2 => by unfold yJ; split <;> omega) r0.1 h1
      ·exact Pm (f := yB) (by decide) (fun n h1 h2 => by unfold yB; split <;> omega) r0.1 h1
     ·rw [if_neg k10]
      by_cases k5 : k = 5 \/ k = 6
      ·rw [if_pos k5]; have m2 : m = 2 := by rw [kc (by omega)] at hm; omega
       subst m2; obtain ⟨a0, b0, h0, h1, h2⟩ := Q9 (by omega) h; obtain ⟨r0, f0, l0⟩ := yL hd (hkid 0 (by omega)) h0
       have ec : zR ts (.mk k n y xs ag A 2 cap kid) = zR ts (kid 0) := by
        rw [kV] at hT; unfold zT at hT; rw [if_neg (by omega), if_neg (by omega), if_neg (by omega), if_neg (by omega), if_neg (by omega), if_neg (by omega)] at hT; split at hT
        ·exact absurd (Prod.mk.inj hT).2 (by decide)
        ·exact (Prod.mk.inj hT).1.symm
       rw [ec] at hx; have p0 := ih 0 x a0 (hkid 0 (by omega)) hx h0; rw [Xb (kid := fun i => if i = 0 then zn ts (kid 0) x else kid 1) (by omega) p0 h1]; simp only [if_true, if_neg (show (1 : Nat) ≠ 0 by decide)]; rw [(qv (kid 0) x (ye (hkid 0 (by omega))).2).2]; rcases k5 with rfl | rfl
       ·exact Pn (want := true) r0.1 h2
       ·exact Pn (want := false) r0.1 h2
      ·rw [if_neg k5]
       by_cases k4 : k = 4
       ·subst k4; rw [if_pos rfl]; have m2 : m = 2 := by rw [kc (by omega)] at hm; omega
        subst m2; obtain ⟨a0, b0, h0, h1, h2⟩ := Q9 (by omega) h; have h2 : xT (zR ts (kid 0)) (zR ts (kid 1)) y a0 b0 = (a, 0) := h2; obtain ⟨r0, f0, l0⟩ := yL hd (hkid 0 (by omega)) h0; obtain ⟨r1, f1, l1⟩ := yL hd (hkid 1 (by omega)) h1; have e0 := (ye (hkid 0 (by omega))).1; have ep := (ye hp).1
        have ec : zR ts (.mk 4 n y xs ag A 2 cap kid) = zR ts (kid 0) ++ zR ts (kid 1) := by
         rw [kV] at hT; unfold zT at hT; rw [if_neg (by omega), if_neg (by omega), if_neg (by omega), if_neg (by omega), if_neg (by omega), if_neg (by omega)] at hT; split at hT
         ·exact absurd (Prod.mk.inj hT).2 (by decide)
         ·exact (Prod.mk.inj hT).1.symm
        rw [ec] at hx; rw [e0, ep, ec]; split
        ·rename_i hcl; have p0 := ih 0 x a0 (hkid 0 (by omega)) (Lh hcl hx) h0; rw [Xb (kid := fun i => if i = 0 then zn ts (kid 0) x else kid 1) (by omega) p0 h1]; simp only [if_true, if_neg (show (1 : Nat) ≠ 0 by decide)]; rw [(qv (kid 0) x (ye (hkid 0 (by omega))).2).2]; exact KQ r0.1 hx hcl h2
        ·split
         ·rename_i hcl; have p1 := ih 1 _ b0 (hkid 1 (by omega)) (Jz hcl hx) h1; rw [Xb (kid := fun i => if i = 0 then kid 0 else zn ts (kid 1) (qO (-((zR ts (kid 0)).length : Int)) x)) (by omega) h0 p1]; simp only [if_true, if_neg (show (1 : Nat) ≠ 0 by decide)]; rw [(qv (kid 1) _ (ye (hkid 1 (by omega))).2).2]; exact JM r1.1 hx hcl h2
         ·split
          ·rename_i ht; rw [Xb (by omega) h0 h1]; exact KO hx ht h2
          ·exact stuck
       ·rw [if_neg k4]; exact stuck
end
end Go.Proofs.YtcaedcpjdmlilaaGreat

namespace Go.Proofs.YtcaedcpjdmlilaaGreat
open Go.RowKit Go.Calm
set_option linter.unusedSimpArgs false
set_option linter.unusedVariables false
def jE : PL -> Int
 | .leaf => 1
 | .mk _ _ _ _ _ _ m _ kid => 1 + xv (fun i => jE (kid i)) m
def Rq : PL -> Int -> Prop
 | .leaf, d => d <= 15
 | .mk _ _ _ _ _ _ m _ kid, d => d <= 15 /\ ∀ i, i < m -> Rq (kid i) (d + 1)
def Ny (ts : List (List Int)) : PL -> Prop
 | .leaf => False
 | .mk k n x xs ag _ m _ kid => (m : Int) = zo k /\ (∀ i, i < m -> Ny ts (kid i)) /\ (zT ts k n x xs.l ag.l ((List.range m).map (fun i => zR ts (kid i)))).2 = 0
theorem Zv (k n : Int) (x : E) (xs : jj) (ag : jh) (A : Option Addr) (m cap : Nat) (kid : Nat -> PL) : jE (.mk k n x xs ag A m cap kid) = 1 + xv (fun i => jE (kid i)) m := rfl
theorem YE (p : PL) : 1 <= jE p := by
 induction p with
 | leaf => simp [jE]
 | mk k n x xs ag A m cap kid ih =>
  have := ju (f := fun i => jE (kid i)) (fun i => by have := ih i; omega) m; simp only [jE]; omega
theorem LL {α : Type} {f : Nat -> Int -> α × Int × Int} {c : Nat -> Int} {D : Nat -> Prop} (hc : ∀ i, 1 <= c i) (hf : ∀ i m, m <= 60 -> (f i m).2.1 = 0 -> D i /\ (f i m).2.2 = m + c i /\ m + c i <= 60) :
  ∀ (r i : Nat) (m : Int) (l : List α), m <= 60 -> (zE f r i m l).1 = 0 -> (∀ j, j < r -> D (i + j)) /\ (zE f r i m l).2.1 = m + xv (fun j => c (i + j)) r /\ m + xv (fun j => c (i + j)) r <= 60
 | 0, i, m, l, hm, _ => ⟨fun j hj => by omega, by simp [zE, xv], by simp [xv]; exact hm⟩
 | r + 1, i, m, l, hm, h => by
  unfold zE at h ⊢; split at h
  ·rename_i h0; rw [if_pos h0]; obtain ⟨d, e, b⟩ := hf i m hm h0; obtain ⟨q1, q2, q3⟩ := LL hc hf r (i + 1) (f i m).2.2 _ (by omega) h
   have es : xv (fun j => c (i + j)) (r + 1) = c i + xv (fun j => c (i + 1 + j)) r := by
    rw [XE]; congr 1; exact kE (fun j _ => by congr 1; omega)
   refine ⟨fun j hj => ?_, by rw [q2, es, e]; omega, by rw [es]; omega⟩; cases j with
   | zero => exact d
   | succ j => have := q1 j (by omega); rwa [show i + (j + 1) = i + 1 + j by omega]
  ·rename_i h0; exact absurd h h0
theorem LK {α : Type} {f : Nat -> Int -> α × Int × Int} {c : Nat -> Int} (hc : ∀ i, 1 <= c i) :
  ∀ (r i : Nat) (m : Int) (l : List α), (∀ j m, i <= j -> j < i + r -> m + c j <= 60 -> (f j m).2.1 = 0 /\ (f j m).2.2 = m + c j) -> m + xv (fun j => c (i + j)) r <= 60 -> (zE f r i m l).1 = 0
 | 0, i, m, l, _, _ => rfl
 | r + 1, i, m, l, hf, h => by
  have es : xv (fun j => c (i + j)) (r + 1) = c i + xv (fun j => c (i + 1 + j)) r := by
   rw [XE]; congr 1; exact kE (fun j _ => by congr 1; omega)
  have p := ju (f := fun j => c (i + 1 + j)) (fun j => by have := hc (i + 1 + j); omega) r; obtain ⟨h0, e⟩ := hf i m (Nat.le_refl _) (by omega) (by omega); unfold zE; rw [if_pos h0]; exact LK hc r (i + 1) _ _ (fun j m h1 h2 => hf j m (by omega) (by omega)) (by rw [e]; omega)
section
variable {ts : List (List Int)}
theorem Tm (p : PL) : ∀ d m, m <= 60 -> (zN ts p d m).2.1 = 0 -> (Ny ts p /\ Rq p d) /\ (zN ts p d m).2.2 = m + jE p /\ m + jE p <= 60 := by
 induction p with
 | leaf => intro deep m _ h; unfold zN at h; split at h <;> simp at h
 | mk k n x xs ag A mm cap kid ih =>
  intro deep m hm
  by_cases h1 : 60 < m + 1 \/ 15 < deep
  ·unfold zN; rw [if_pos h1]; simp
  ·by_cases h2 : zo k < 0
   ·unfold zN; rw [if_neg h1, if_pos h2]; simp
   ·by_cases h3 : (mm : Int) = zo k
    ·rw [xf ts k n x xs ag A mm cap kid deep m h1 (by omega) h3]; unfold jm; split
     ·rename_i h0; exact fun h' => absurd h' h0
     ·rename_i h0; intro hT; have h0 : (zE (fun i m' => zN ts (kid i) (deep + 1) m') mm 0 (m + 1) []).1 = 0 := by simpa using h0
      have e := kf (g := fun i => zR ts (kid i)) (fun i m' h => (kN (kid i) (deep + 1) m' h).1) mm 0 (m + 1) [] h0; obtain ⟨q1, q2, q3⟩ := LL (c := fun i => jE (kid i)) (D := fun i => Ny ts (kid i) /\ Rq (kid i) (deep + 1)) (fun i => YE _) (fun i m' hm' h => ih i (deep + 1) m' hm' h) mm 0 (m + 1) [] (by omega) h0; simp only [e, List.nil_append, Nat.zero_add] at hT q1 q2 q3 ⊢; refine ⟨⟨⟨h3, fun i hi => (q1 i hi).1, hT⟩, by omega, fun i hi => (q1 i hi).2⟩, ?_, ?_⟩
      ·rw [q2, Zv]; omega
      ·rw [Zv]; omega
    ·unfold zN; rw [if_neg h1, if_neg h2, if_pos h3]; simp
theorem EO (p : PL) : ∀ d m, Ny ts p -> Rq p d -> m + jE p <= 60 -> (zN ts p d m).2.1 = 0 := by
 induction p with
 | leaf => intro deep m h; exact absurd h id
 | mk k n x xs ag A mm cap kid ih =>
  intro deep m h hd hc; obtain ⟨h3, hk, hT⟩ := h; have hp := ju (f := fun i => jE (kid i)) (fun i => by have := YE (kid i); omega) mm; rw [Zv] at hc; have h1 : ¬ (60 < m + 1 \/ 15 < deep) := by have := hd.1; omega
  rw [xf ts k n x xs ag A mm cap kid deep m h1 (by omega) h3]
  have h0 : (zE (fun i m' => zN ts (kid i) (deep + 1) m') mm 0 (m + 1) []).1 = 0 :=
   LK (c := fun i => jE (kid i)) (fun i => YE _) mm 0 (m + 1) [] (fun j m' _ hj hm' => by
    have a := ih j (deep + 1) m' (hk j (by omega)) (hd.2 j (by omega)) hm'; have := YE (kid j)
    exact ⟨a, (Tm (kid j) (deep + 1) m' (by omega) a).2.1⟩) (by simp only [Nat.zero_add]; omega)
  have e := kf (g := fun i => zR ts (kid i)) (fun i m' h => (kN (kid i) (deep + 1) m' h).1) mm 0 (m + 1) [] h0; unfold jm; rw [if_neg (by rw [h0]; decide)]; simp only [e, List.nil_append, Nat.zero_add]; exact hT
def zbC (ts : List (List Int)) : Prop := ts.length <= 8 /\ Wi ts = 0
theorem jY (p : PL) : (zi ts p).2 = 0 ↔ zbC ts /\ Ny ts p /\ Rq p 1 /\ jE p <= 60 := by
 unfold zi zbC
 constructor
 ·intro h; split at h
  ·simp at h
  ·rename_i h1; split at h
   ·rename_i h2; exact absurd h h2
   ·rename_i h2; split at h
    ·rename_i h3; exact absurd h h3
    ·rename_i h3; obtain ⟨a, _, b⟩ := Tm p 1 0 (by omega) (by simpa using h3); exact ⟨⟨by omega, by simpa using h2⟩, a.1, a.2, by omega⟩
 ·rintro ⟨⟨h1, h2⟩, h3, h4, h5⟩; rw [if_neg (by omega), if_neg (by rw [h2]; decide), if_neg (by rw [EO p 1 0 h3 h4 (by omega)]; decide)]
end
end Go.Proofs.YtcaedcpjdmlilaaGreat

namespace Go.Proofs.YtcaedcpjdmlilaaGreat
open Go.RowKit Go.Calm
set_option linter.unusedSimpArgs false
set_option linter.unusedVariables false
def xL (p q : PL) : Prop := jE p <= jE q /\ ∀ d, Rq q d -> Rq p d
theorem xL.refl (p : PL) : xL p p := ⟨by omega, fun d h => h⟩
theorem To (p : PL) : ∀ {d d' : Int}, d' <= d -> Rq p d -> Rq p d' := by
 induction p with
 | leaf => intro d d' h h1; simp only [Rq] at h1 ⊢; omega
 | mk k n x xs ag A m cap kid ih =>
  intro d d' h h1; exact ⟨by have := h1.1; omega, fun i hi => ih i (by omega) (h1.2 i hi)⟩
theorem TR {f g : Nat -> Int} : ∀ {r : Nat}, (∀ i, i < r -> f i <= g i) -> xv f r <= xv g r
 | 0, _ => by simp [xv]
 | r + 1, h => by
  unfold xv; have := TR (f := f) (g := g) (r := r) (fun i hi => h i (by omega)); have := h r (Nat.lt_succ_self r); omega
theorem zbQ {k k' n n' : Int} {x x' : E} {xs xs' : jj} {ag ag' : jh} {A A' : Option Addr} {m cap cap' : Nat} {kid kid' : Nat -> PL} (h : ∀ i, i < m -> xL (kid i) (kid' i)) : xL (.mk k n x xs ag A m cap kid) (.mk k' n' x' xs' ag' A' m cap' kid') :=
 ⟨by rw [Zv, Zv]; have := TR (fun i hi => (h i hi).1); omega, fun d hd => ⟨hd.1, fun i hi => (h i hi).2 _ (hd.2 i hi)⟩⟩
theorem Yc {k k' n n' : Int} {x x' : E} {xs : jj} {xs' : List E} {ag : jh} {ag' : List Ag} {A : Option Addr} {m cap : Nat} {kid kid' : Nat -> PL} (h : ∀ i, i < m -> xL (kid i) (kid' i)) : xL (.mk k n x xs ag A m cap kid) (yY k' n' x' xs' ag' m kid') :=
 zbQ (fun i hi => by rw [if_pos hi]; exact h i hi)
theorem Sv (x : E) (p : PL) : xL p (xG x p) := by
 unfold xG yY; refine ⟨?_, fun d hd => ?_⟩
 ·rw [Zv]; simp only [xv]; rw [if_pos (by omega)]; omega
 ·have this : Rq p (d + 1) := hd.2 0 (by omega); exact To p (by omega) this
theorem FA {x y : E} {n : Int} {xs : jj} {ag : jh} {A : Option Addr} {cap : Nat} {kid : Nat -> PL} : xL (.mk 2 n y xs ag A 1 cap kid) (xG x (kid 0)) :=
 Yc (fun i hi => by rw [show i = 0 by omega]; exact xL.refl _)
section
variable {ts : List (List Int)}
theorem Vi (p : PL) : ∀ x, KP p -> xL p (zn ts p x) := by
 induction p with
 | leaf => intro x h; exact absurd h id
 | mk k n y xs ag A m cap kid ih =>
  intro x h; have hm := h.1; have hk := h.2; unfold zn
  by_cases hl : qB x = true
  ·rw [if_pos hl]; exact xL.refl _
  ·rw [if_neg hl]; split
   ·rename_i k2; subst k2; have m1 : m = 1 := by rw [qj (.inl rfl)] at hm; omega
    subst m1; split
    ·exact FA
    ·exact Sv _ _
   ·split
    ·rename_i k8; have m2 : m = 2 := by rw [kc (by omega)] at hm; omega
     subst m2; refine Yc (fun i hi => ?_); split
     ·rename_i h0; subst h0; exact ih 0 x (hk 0 (by omega))
     ·rename_i h0; rw [show i = 1 by omega]; exact ih 1 x (hk 1 (by omega))
    ·split
     ·rename_i k10; have m1 : m = 1 := by rw [qj (by omega)] at hm; omega
      subst m1; exact Yc (fun i hi => by rw [show i = 0 by omega]; exact ih 0 x (hk 0 (by omega)))
     ·split
      ·rename_i k5; have m2 : m = 2 := by rw [kc (by omega)] at hm; omega
       subst m2; refine Yc (fun i hi => ?_); split
       ·rename_i h0; subst h0; exact ih 0 x (hk 0 (by omega))
       ·rename_i h0; rw [show i = 1 by omega]; exact xL.refl _
      ·split
       ·rename_i k4; have m2 : m = 2 := by rw [kc (by omega)] at hm; omega
        subst m2; split
        ·refine Yc (fun i hi => ?_); split
         ·rename_i h0; subst h0; exact ih 0 x (hk 0 (by omega))
         ·rename_i h0; rw [show i = 1 by omega]; exact xL.refl _
        ·split
         ·refine Yc (fun i hi => ?_); split
          ·rename_i h0; subst h0; exact xL.refl _
          ·rename_i h0; rw [show i = 1 by omega]; exact ih 1 _ (hk 1 (by omega))
         ·split
          ·exact Yc (fun i hi => xL.refl _)
          ·exact Sv _ _
       ·exact Sv _ _
theorem DW {x : E} {p : PL} (hp : Ny ts p) (hx : zD (zR ts p) x = 0) : Ny ts (xG x p) := by
 refine ⟨by decide, fun i hi => by simp only [if_pos hi]; exact hp, ?_⟩; rw [WW]; unfold zT; rw [if_neg (by decide), if_pos rfl]; exact hx
theorem Yq {k n : Int} {x : E} {xs : List E} {ag : List Ag} {m : Nat} {kid : Nat -> PL} (hm : (m : Int) = zo k) (hk : ∀ i, i < m -> Ny ts (kid i)) (hT : (zT ts k n x xs ag ((List.range m).map (fun i => zR ts (kid i)))).2 = 0) : Ny ts (yY k n x xs ag m kid) := by
 refine ⟨hm, fun i hi => by simp only [if_pos hi]; exact hk i hi, ?_⟩; have e : (List.range m).map (fun i => zR ts (if i < m then kid i else .leaf)) = (List.range m).map (fun i => zR ts (kid i)) := List.map_congr_left (fun i hi => by rw [if_pos (List.mem_range.1 hi)]); rw [e]; exact hT
theorem Tn {k : Int} (hk : k = 8 \/ k = 9 \/ k = 10 \/ k = 11) (n n' : Int) (x x' : E) (xs xs' : List E) (ag ag' : List Ag) (cs : List (List Int)) : zT ts k n x xs ag cs = zT ts k n' x' xs' ag' cs := by
 rcases hk with rfl | rfl | rfl | rfl <;> rfl
theorem F4 (p : PL) : ∀ x, (zi ts p).2 = 0 -> zD (zR ts p) x = 0 -> Ny ts (zn ts p x) := by
 induction p with
 | leaf => intro x h; exact absurd rfl (y9 h)
 | mk k n y xs ag A m cap kid ih =>
  intro x hp hx; obtain ⟨hm, hm0, hT⟩ := xQ hp; have hkid : ∀ i, i < m -> (zi ts (kid i)).2 = 0 := fun i hi => xh hp hi
  have hty : ∀ i, i < m -> Ny ts (kid i) := fun i hi => ((jY _).1 (hkid i hi)).2.1
  have hp' : Ny ts (.mk k n y xs ag A m cap kid) := ((jY _).1 hp).2.1; have hkp : ∀ i, i < m -> KP (kid i) := fun i hi => (ye (hkid i hi)).2
  have ecl : (List.range m).map (fun i => (zi ts (kid i)).1) = (List.range m).map (fun i => zR ts (kid i)) := List.map_congr_left (fun i hi => (ye (hkid i (List.mem_range.1 hi))).1); rw [ecl, (ye hp).1] at hT; have stuck : Ny ts (xG x (.mk k n y xs ag A m cap kid)) := DW hp' hx; unfold zn
  by_cases hl : qB x = true
  ·rw [if_pos hl]; exact hp'
  ·rw [if_neg hl]
   by_cases k2 : k = 2
   ·subst k2; rw [if_pos rfl]; have m1 : m = 1 := by rw [qj (.inl rfl)] at hm; omega
    subst m1; split
    ·rename_i ht; rw [(ye (hkid 0 (by omega))).1] at ht; rw [qo, Jx, WW] at hx; have hx : zD (zR ts (kid 0)) x = 0 := hx; rw [WW] at hT; have hy : zD (zR ts (kid 0)) y = 0 := congrArg Prod.snd hT; exact DW (hty 0 (by omega)) (Z6 hy hx ht)
    ·exact stuck
   ·rw [if_neg k2]
    by_cases k8 : k = 8 \/ k = 9
    ·rw [if_pos k8]; have m2 : m = 2 := by rw [kc (by omega)] at hm; omega
     subst m2; have hT2 := hT; rw [kV] at hT
     have hs : xB (zR ts (kid 0)) (zR ts (kid 1)) = (zR ts (.mk k n y xs ag A 2 cap kid), 0) := by
      rcases k8 with rfl | rfl <;> exact hT
     obtain ⟨x0, x1⟩ := Li hs hx; refine Yq hm (fun i hi => ?_) ?_
     ·split
      ·exact ih 0 x (hkid 0 (by omega)) x0
      ·exact ih 1 x (hkid 1 (by omega)) x1
     ·rw [kV, if_pos rfl, if_neg (by decide), (qv (kid 0) x (hkp 0 (by omega))).2, (qv (kid 1) x (hkp 1 (by omega))).2, Tn (by omega) 0 n .leaf y [] xs.l [] ag.l, hT]
    ·rw [if_neg k8]
     by_cases k10 : k = 10 \/ k = 11
     ·rw [if_pos k10]; have m1 : m = 1 := by rw [qj (by omega)] at hm; omega
      subst m1; rw [qo, Z4 k10, WW] at hx; refine Yq hm (fun i hi => ih 0 x (hkid 0 (by omega)) hx) ?_; rw [WW, (qv (kid 0) x (hkp 0 (by omega))).2, Tn (by omega) 0 n .leaf y [] xs.l [] ag.l]; rw [WW] at hT; rw [hT]
     ·rw [if_neg k10]
      by_cases k5 : k = 5 \/ k = 6
      ·rw [if_pos k5]; have m2 : m = 2 := by rw [kc (by omega)] at hm; omega
       subst m2; rw [kV] at hT
       have ec : zR ts (.mk k n y xs ag A 2 cap kid) = zR ts (kid 0) := by
        unfold zT at hT; rw [if_neg (by omega), if_neg (by omega), if_neg (by omega), if_neg (by omega), if_neg (by omega), if_neg (by omega)] at hT; split at hT
        ·exact absurd (Prod.mk.inj hT).2 (by decide)
        ·exact (Prod.mk.inj hT).1.symm
       rw [ec] at hx; refine Yq hm (fun i hi => ?_) ?_
       ·split
        ·exact ih 0 x (hkid 0 (by omega)) hx
        ·rename_i h0; exact hty 1 (by omega)
       ·rw [kV, if_pos rfl, if_neg (by decide), (qv (kid 0) x (hkp 0 (by omega))).2, hT]
      ·rw [if_neg k5]
       by_cases k4 : k = 4
       ·subst k4; rw [if_pos rfl]; have m2 : m = 2 := by rw [kc (by omega)] at hm; omega
        subst m2; have e0 := (ye (hkid 0 (by omega))).1; have ep := (ye hp).1; rw [kV] at hT; have hT3 := hT
        obtain ⟨ec, h8⟩ : zR ts (.mk 4 n y xs ag A 2 cap kid) = zR ts (kid 0) ++ zR ts (kid 1) /\ zD (zR ts (kid 0) ++ zR ts (kid 1)) y = 0 := by
         unfold zT at hT3; rw [if_neg (by omega), if_neg (by omega), if_neg (by omega), if_neg (by omega), if_neg (by omega), if_neg (by omega)] at hT3; split at hT3
         ·exact absurd (Prod.mk.inj hT3).2 (by decide)
         ·exact ⟨(Prod.mk.inj hT3).1.symm, (Prod.mk.inj hT3).2⟩
        rw [ec] at hx; rw [e0, ep, ec]; split
        ·rename_i hcl; refine Yq hm (fun i hi => ?_) ?_
         ·split
          ·exact ih 0 x (hkid 0 (by omega)) (Lh hcl hx)
          ·rename_i h0; exact hty 1 (by omega)
         ·rw [kV, if_pos rfl, if_neg (by decide), (qv (kid 0) x (hkp 0 (by omega))).2, hT]
        ·split
         ·rename_i hcl; refine Yq hm (fun i hi => ?_) ?_
          ·split
           ·exact hty 0 (by omega)
           ·exact ih 1 _ (hkid 1 (by omega)) (Jz hcl hx)
          ·rw [kV, if_pos rfl, if_neg (by decide), (qv (kid 1) _ (hkp 1 (by omega))).2, hT]
         ·split
          ·rename_i ht; refine Yq hm hty ?_; rw [kV]; have ht2 := Z6 h8 hx ht; unfold zT at hT ⊢; rw [if_neg (by omega), if_neg (by omega), if_neg (by omega), if_neg (by omega), if_neg (by omega), if_neg (by omega)] at hT ⊢; split at hT
           ·exact absurd (Prod.mk.inj hT).2 (by decide)
           ·rename_i h9; rw [if_neg h9]; first | exact ht2 | (rw [if_neg (by omega)]; exact ht2)
          ·exact stuck
       ·rw [if_neg k4]; exact stuck
end
end Go.Proofs.YtcaedcpjdmlilaaGreat

namespace Go.Proofs.YtcaedcpjdmlilaaGreat
open Go.RowKit Go.Calm
set_option linter.unusedSimpArgs false
set_option linter.unusedVariables false
theorem M8 (n : Int) (h1 : -1000000 <= n) (h2 : n <= 1000000) : -1000000 <= yJ n /\ yJ n <= 1000000 := by unfold yJ; split <;> omega
theorem W6 (n : Int) (h1 : -1000000 <= n) (h2 : n <= 1000000) : -1000000 <= yB n /\ yB n <= 1000000 := by unfold yB; split <;> omega
theorem Xo {f : Int -> Int} (f0 : f 0 = 0) (fb : ∀ n, -1000000 <= n -> n <= 1000000 -> -1000000 <= f n /\ f n <= 1000000) {a s : List Z} (ha : yv a) (hs : yv s) : zP f a = (s, 0) ↔ ∀ q, yi s q = f (yi a q) := by
 obtain ⟨d, e, c, sm, w⟩ := kA (SM.of ha.2) f0 fb (by omega) (by omega); rw [e]
 constructor
 ·intro h; obtain rfl := (Prod.mk.inj h).1; exact w
 ·intro h; congr 1; exact qC _ _ c hs.1 (fun q _ => by rw [w, h])
theorem FY (n : Int) : yJ (yB n) = yB n := by
 unfold yJ yB
 repeat' split
 all_goals omega
theorem LN {f : Nat -> List Z × Int} : ∀ (r i : Nat) (l : List (List Z)), (yj f r i l).1 = 0 -> ∀ j, i <= j -> j < i + r -> (f j).2 = 0
 | 0, i, l, _, j, h1, h2 => by omega
 | r + 1, i, l, h, j, h1, h2 => by
  unfold yj at h; split at h
  ·rename_i h0
   by_cases e : j = i
   ·subst e; exact h0
   ·exact LN r (i + 1) _ h j (by omega) (by omega)
  ·rename_i h0; exact absurd h h0
section
variable {ts : List (List Int)} {data : List (List Z)}
theorem Sy {k n : Int} {x : E} {xs : jj} {ag : jh} {A : Option Addr} {m cap : Nat} {kid : Nat -> PL} {s : List Z} (hk : k ≠ 1) (h : zO ts data (.mk k n x xs ag A m cap kid) = (s, 0)) : ∀ i, i < m -> (zO ts data (kid i)).2 = 0 := by
 unfold zO at h; rw [if_neg hk] at h; simp only at h; split at h
 ·rename_i h1; exact absurd (Prod.mk.inj h).2 h1
 ·rename_i h1; have h1 : (yj (fun i => zO ts data (kid i)) m 0 []).1 = 0 := by simpa using h1
  exact fun i hi => LN m 0 [] h1 i (Nat.zero_le _) (by omega)
theorem Sz {k n : Int} {x : E} {xs : jj} {ag : jh} {A : Option Addr} {m cap : Nat} {kid kid' : Nat -> PL} (h : ∀ i, i < m -> zO ts data (kid' i) = zO ts data (kid i)) (hc : ∀ i, i < m -> zR ts (kid' i) = zR ts (kid i)) :
  zO ts data (yY k n x xs.l ag.l m kid') = zO ts data (.mk k n x xs ag A m cap kid) := by
 unfold yY zO
 by_cases hk : k = 1
 ·rw [if_pos hk, if_pos hk]
 ·rw [if_neg hk, if_neg hk]; have e1 : yj (fun i => zO ts data (if i < m then kid' i else .leaf)) m 0 [] = yj (fun i => zO ts data (kid i)) m 0 [] := kB m 0 [] (fun j _ hj => by simp only [if_pos (show j < m by omega)]; exact h j (by omega)); have e2 : (List.range m).map (fun i => zR ts (if i < m then kid' i else .leaf)) = (List.range m).map (fun i => zR ts (kid i)) := List.map_congr_left (fun i hi => by rw [if_pos (List.mem_range.1 hi)]; exact hc i (List.mem_range.1 hi)); simp only [e1, e2]
theorem EK {k n : Int} {x : E} {xs : List E} {ag : List Ag} {m : Nat} {kid : Nat -> PL} {i : Nat} (hi : i < m) : jE (kid i) + 1 <= jE (yY k n x xs ag m kid) := by
 unfold yY; rw [Zv]
 have : ∀ r, i < r -> r <= m -> jE (kid i) <= xv (fun j => jE (if j < m then kid j else .leaf)) r := fun r => by
  induction r with
  | zero => intro h; omega
  | succ r ih =>
   intro h1 h2; unfold xv; have hp := ju (f := fun j => jE (if j < m then kid j else .leaf)) (fun j => by have := YE (if j < m then kid j else .leaf); omega) r
   by_cases e : i = r
   ·subst e; simp only [if_pos hi]; omega
   ·have := ih (by omega) (by omega); have := YE (if r < m then kid r else .leaf); omega
 have := this m hi (Nat.le_refl _); omega
theorem zas {k n : Int} {x : E} {xs : List E} {ag : List Ag} {m : Nat} {kid : Nat -> PL} {i : Nat} (hi : i < m) (h : Rq (yY k n x xs ag m kid) 1) : Rq (kid i) 1 := by
 have := h.2 i hi; simp only [if_pos hi] at this; exact To _ (by omega) this
theorem FU (hd : qD ts data = 0) (p : PL) : ∀ a, (zi ts p).2 = 0 -> zO ts data p = (a, 0) -> Rq (zx ts p) 1 -> jE (zx ts p) <= 60 -> Ny ts (zx ts p) /\ zO ts data (zx ts p) = (a, 0) := by
 induction p with
 | leaf => intro a h; exact absurd rfl (y9 h)
 | mk k n y xs ag A m cap kid ih =>
  intro a hp h hdp hcn; obtain ⟨hm, hm0, hT⟩ := xQ hp; have hkid : ∀ i, i < m -> (zi ts (kid i)).2 = 0 := fun i hi => xh hp hi
  have hkp : ∀ i, i < m -> KP (kid i) := fun i hi => (ye (hkid i hi)).2
  have htb := ((jY _).1 hp).1; have ecl : (List.range m).map (fun i => (zi ts (kid i)).1) = (List.range m).map (fun i => zR ts (kid i)) := List.map_congr_left (fun i hi => (ye (hkid i (List.mem_range.1 hi))).1); rw [ecl, (ye hp).1] at hT
  have all : Rq (yY k n y xs.l ag.l m (fun i => zx ts (kid i))) 1 -> jE (yY k n y xs.l ag.l m (fun i => zx ts (kid i))) <= 60 -> Ny ts (yY k n y xs.l ag.l m (fun i => zx ts (kid i))) /\ zO ts data (yY k n y xs.l ag.l m (fun i => zx ts (kid i))) = (a, 0) := by
   intro h1 h2; have hc : ∀ i, i < m -> zR ts (zx ts (kid i)) = zR ts (kid i) := fun i hi => (Ka (kid i) (hkp i hi)).2
   have hk : k = 1 /\ m = 0 \/ ∀ i, i < m -> Ny ts (zx ts (kid i)) /\ zO ts data (zx ts (kid i)) = zO ts data (kid i) := by
    by_cases k1 : k = 1
    ·left; refine ⟨k1, ?_⟩; subst k1; have : zo 1 = 0 := by decide
     omega
    ·right; intro i hi; have hz := Sy k1 h i hi; have q := ih i (zO ts data (kid i)).1 (hkid i hi) (Prod.ext rfl hz) (zas (kid := fun i => zx ts (kid i)) hi h1) (by have := EK (k := k) (n := n) (x := y) (xs := xs.l) (ag := ag.l) (kid := fun i => zx ts (kid i)) hi; omega); exact ⟨q.1, by rw [q.2]; exact (Prod.ext rfl hz.symm)⟩
   have hk2 : ∀ i, i < m -> Ny ts (zx ts (kid i)) /\ zO ts data (zx ts (kid i)) = zO ts data (kid i) := by
    rcases hk with hk | hk
    ·intro i hi; omega
    ·exact hk
   refine ⟨Yq hm (fun i hi => (hk2 i hi).1) ?_, ?_⟩
   ·rw [List.map_congr_left (fun i hi => hc i (List.mem_range.1 hi)), hT]
   ·rw [Sz (A := A) (cap := cap) (fun i hi => (hk2 i hi).2) hc, h]
  unfold zx at hdp hcn ⊢
  by_cases k2 : k = 2
  ·subst k2; simp only [if_pos] at hdp hcn ⊢; have m1 : m = 1 := by rw [qj (.inl rfl)] at hm; omega
   subst m1; obtain ⟨a0, h0, h1⟩ := jQ (by decide) h; have h1 : yQ (zR ts (kid 0)) y a0 = (a, 0) := h1; obtain ⟨r0, f0, l0⟩ := yL hd (hkid 0 (by omega)) h0; obtain ⟨hy, _⟩ := YI h1; rw [Xp hy l0 r0 f0] at h1; obtain rfl := (Prod.mk.inj h1).1; obtain ⟨kp, ec⟩ := Ka (ts := ts) (kid 0) (hkp 0 (by omega)); obtain ⟨nc, nd⟩ := Vi (ts := ts) (zx ts (kid 0)) y kp; obtain ⟨q1, q2⟩ := ih 0 a0 (hkid 0 (by omega)) h0 (nd _ hdp) (by omega); have hr : (zi ts (zx ts (kid 0))).2 = 0 := (jY _).2 ⟨htb, q1, nd _ hdp, by omega⟩; rw [<- ec] at hy; exact ⟨F4 _ y hr hy, F3 hd _ y a0 hr hy q2⟩
  ·simp only [if_neg k2] at hdp hcn ⊢
   by_cases k10 : k = 10 \/ k = 11
   ·simp only [if_pos k10] at hdp hcn ⊢; have m1 : m = 1 := by rw [qj (by omega)] at hm; omega
    subst m1; obtain ⟨a0, h0, h1⟩ := jQ (by omega) h; obtain ⟨r0, f0, l0⟩ := yL hd (hkid 0 (by omega)) h0; have ra := (yL hd hp h).1
    by_cases c1 : (zx ts (kid 0)).k = 11 \/ (zx ts (kid 0)).k = k
    ·simp only [if_pos c1] at hdp hcn ⊢; obtain ⟨q1, q2⟩ := ih 0 a0 (hkid 0 (by omega)) h0 hdp hcn; refine ⟨q1, ?_⟩; have hr : (zi ts (zx ts (kid 0))).2 = 0 := (jY _).2 ⟨htb, q1, hdp, hcn⟩
     suffices a0 = a by rw [<- this]; exact q2
     revert q2 hr c1
     generalize zx ts (kid 0) = q; intro c1 q2 hr; cases q with
     | leaf => exact absurd rfl (y9 hr)
     | mk qk qn qy qxs qag qA qm qcap qkid =>
      have c1 : qk = 11 \/ qk = k := c1; have qm1 := (xQ hr).1; rw [qj (by omega)] at qm1; have qm1 : qm = 1 := by omega
      subst qm1; obtain ⟨a1, g0, g1⟩ := jQ (by omega) q2; obtain ⟨r1, _, _⟩ := yL hd (xh hr (show 0 < 1 by omega)) g0; refine qC _ _ r0.1 ra.1 (fun u _ => ?_); have wd : qk = 11 -> ∀ u, yi a0 u = yB (yi a1 u) := fun e => by subst e; exact (Xo (by decide) W6 r1 r0).1 g1
      have wp : qk = 10 -> ∀ u, yi a0 u = yJ (yi a1 u) := fun e => by subst e; exact (Xo (by decide) M8 r1 r0).1 g1
      rcases k10 with rfl | rfl
      ·have w1 := (Xo (by decide) M8 r0 ra).1 h1 u; rcases c1 with c1 | c1
       ·rw [w1, wd c1, FY]
       ·rw [w1, wp c1, F0]
      ·have w1 := (Xo (by decide) W6 r0 ra).1 h1 u; rw [w1, wd (by omega), EW]
    ·simp only [if_neg c1] at hdp hcn ⊢
     by_cases c2 : (zx ts (kid 0)).k = 10
     ·simp only [if_pos c2] at hdp hcn ⊢; obtain rfl : k = 11 := by omega
      obtain ⟨kp, ec⟩ := Ka (ts := ts) (kid 0) (hkp 0 (by omega)); have ih0 := ih 0 a0 (hkid 0 (by omega)) h0
      revert ih0 hdp hcn c2 kp ec
      clear c1; generalize zx ts (kid 0) = q; intro c2 hdp hcn kp ec ih0; cases q with
      | leaf => exact absurd kp id
      | mk qk qn qy qxs qag qA qm qcap qkid =>
       have c2 : qk = 10 := c2; subst c2; have qm1 := kp.1; rw [qj (by omega)] at qm1; have qm1 : qm = 1 := by omega
       subst qm1; have hdp : Rq (yY 11 0 .leaf [] [] 1 (fun _ => qkid 0)) 1 := hdp; have hcn : jE (yY 11 0 .leaf [] [] 1 (fun _ => qkid 0)) <= 60 := hcn; obtain ⟨nc, nd⟩ : xL (.mk 10 qn qy qxs qag qA 1 qcap qkid) (yY 11 0 .leaf [] [] 1 (fun _ => qkid 0)) := Yc (fun i hi => by rw [show i = 0 by omega]; exact xL.refl _); obtain ⟨q1, q2⟩ := ih0 (nd _ hdp) (by omega); have hr : (zi ts (.mk 10 qn qy qxs qag qA 1 qcap qkid)).2 = 0 := (jY _).2 ⟨htb, q1, nd _ hdp, by omega⟩; obtain ⟨a1, g0, g1⟩ := jQ (by omega) q2; obtain ⟨r1, _, _⟩ := yL hd (xh hr (show 0 < 1 by omega)) g0; refine ⟨Yq (by decide) (fun i hi => q1.2.1 0 (by omega)) ?_, ?_⟩
       ·rw [WW]; rfl
       ·show zO ts data (yY 11 0 .leaf [] [] 1 (fun _ => qkid 0)) = (a, 0); rw [Wa (kid := fun _ => qkid 0) (by omega) g0]; have w0 := (Xo (by decide) M8 r1 r0).1 g1; have w1 := (Xo (by decide) W6 r0 ra).1 h1; exact (Xo (by decide) W6 r1 ra).2 (fun u => by rw [w1, w0, EY])
     ·simp only [if_neg c2] at hdp hcn ⊢; exact all hdp hcn
   ·simp only [if_neg k10] at hdp hcn ⊢; exact all hdp hcn
end
end Go.Proofs.YtcaedcpjdmlilaaGreat

namespace Go.Proofs.YtcaedcpjdmlilaaGreat
open Go.RowKit Go.Calm
set_option linter.unusedSimpArgs false
set_option linter.unusedVariables false
theorem SF {ts : List (List Int)} {data : List (List Z)} {p : PL} {a b : List Z} (h : yS ts p data = (a, 0)) (h2 : yS ts (zx ts p) data = (b, 0)) : a = b := by
 obtain ⟨hp, hd, ha⟩ := Pa h; obtain ⟨hq, _, hb⟩ := Pa h2; obtain ⟨_, _, hdp, hcn⟩ := (jY _).1 hq; rw [<- Kc p hp] at ha; obtain ⟨_, e⟩ := FU hd p a hp ha hdp hcn; rw [Kc _ hq, hb] at e; exact (Prod.mk.inj e).1.symm
theorem CK {c : List Int} (row : List V) (e : E) : ∀ {T : Int}, wt c e T -> yt row (nE e) = yt row e := by
 induction e with
 | leaf => intro T h; exact absurd h id
 | mk k v cc A n cap kid ih =>
  intro T h; obtain ⟨h0, h1, ts, h2, h3, h4⟩ := h; rw [JZ]; unfold yt
  by_cases k1 : k = 1
  ·rw [if_pos k1, if_pos k1]
  ·by_cases k2 : k = 2
   ·rw [if_neg k1, if_pos k2, if_neg k1, if_pos k2]
   ·rw [if_neg k1, if_neg k2, if_neg k1, if_neg k2]; have hz : zk k ≠ 0 := fun hz => by rcases jP hz with h8 | h8 <;> contradiction
    have g : ∀ i, i < n -> yt row (if i < n then nE (kid i) else .leaf) = yt row (kid i) := fun i hi => by rw [if_pos hi]; exact ih i (h3 i hi)
    exact J5 (by omega) (g 0 (by omega)) (fun h => g 1 (by omega)) (fun h => g 2 (by omega))
theorem MK {c : List Int} {x : E} (h : zD c x = 0) (row : List V) : zw (nE x) row = zw x row := by
 obtain ⟨T, ⟨_, _, hwt, _⟩, _⟩ := (je _ x).1 h; unfold zw; rw [CK row x hwt]
theorem Jj {c : List Int} {es : List E} (h : (zy c es).2 = 0) (r : List V) : (es.map nE).map (yt r) = es.map (yt r) := by
 rw [List.map_map]; refine List.map_congr_left (fun e he => ?_); have h1 := (xm h).2 e he; exact CK r e ((xE c e (zr c e).1).1 (by rw [<- h1])).2.2.1
theorem UB (c : List Int) (x : E) (z : List Z) : yQ c (nE x) z = yQ c x z := by
 unfold yQ; rw [Z5]; split
 ·rfl
 ·rename_i h; have h : zD c x = 0 := by simpa using h
  have e : (fun r : Z => zw (nE x) r.1) = fun r => zw x r.1 := funext (fun r => MK h r.1)
  rw [e]
theorem zaF (c : List Int) (es : List E) (z : List Z) : ZF c (es.map nE) z = ZF c es z := by
 unfold ZF; rw [YZ]; split
 ·rfl
 ·rename_i h; have h : (zy c es).2 = 0 := by simpa using h
  have e : (fun r : Z => ((es.map nE).map (yt r.1), r.2)) = fun r => (es.map (yt r.1), r.2) := funext (fun r => by rw [Jj h])
  rw [e]
theorem SU (l r : List Int) (x : E) (a b : List Z) : xC l r (nE x) a b = xC l r x a b := by unfold xC; rw [Z5]
theorem Pv {c : List Int} {x : E} (h : zD c x = 0) (a b : List Z) : yK (nE x) a b = yK x a b := by
 unfold yK xV; simp only [MK h]
theorem CG {c : List Int} {x : E} (h : zD c x = 0) (b : List Z) (p : Z) : js (nE x) b p = js x b p := by
 unfold js; simp only [MK h]
theorem Fj (l r : List Int) (x : E) (a b : List Z) : xT l r (nE x) a b = xT l r x a b := by
 unfold xT; rw [SU]; split
 ·rfl
 ·rename_i h; have h : xC l r x a b = 0 := by simpa using h
  rw [Pv (yM h).2.1]
theorem TF (want : Bool) (l r : List Int) (x : E) (a b : List Z) : xK want l r (nE x) a b = xK want l r x a b := by
 unfold xK; rw [SU]; split
 ·rfl
 ·rename_i h; have h : xC l r x a b = 0 := by simpa using h
  simp only [CG (yM h).2.1]
theorem Fk (l r : List Int) (x : E) (a b : List Z) : Yb l r (nE x) a b = Yb l r x a b := by
 unfold Yb; rw [SU]; split
 ·rfl
 ·rename_i h; have h : xC l r x a b = 0 := by simpa using h
  unfold qY; simp only [CG (yM h).2.1, Pv (yM h).2.1]
theorem zbl (c : List Int) (es : List E) (k : Int) (z : List Z) : W2 c (es.map nE) k z = W2 c es k z := by
 unfold W2; rw [YZ]; split
 ·rfl
 ·rename_i h; have h : (zy c es).2 = 0 := by simpa using h
  have e : Ht (es.map nE) = Ht es := by
   funext a b; unfold Ht Y7; simp only [Jj h]
  unfold XO; rw [e]
theorem Gp {c : List Int} {a : Ag} (h : Jq c a = 0) : qT (nA a) = qT a := by
 by_cases h1 : a.k = 1
 ·funext s r; unfold qT nA; simp [h1]
 ·have ht : (zr c a.x).2 = 0 := by
   unfold Jq at h; split at h
   ·omega
   ·split at h
    ·rename_i h2; exact absurd h h2
    ·rename_i h2; simpa using h2
  have hw := ((xE c a.x (zr c a.x).1).1 (by rw [<- ht])).2.2.1; funext s r; unfold qT nA; simp only [CK r.1 a.x hw]
theorem Eu {c : List Int} {a : Ag} (h : Jq c a = 0) (l : List Z) : XV (nA a) l = XV a l := by
 have e : yC (nA a) l = yC a l := by unfold yC; rw [Gp h]
 unfold XV; rw [e]; rfl
theorem zaw (c : List Int) (es : List E) (ag : List Ag) (z : List Z) : WV c (es.map nE) (ag.map nA) z = WV c es ag z := by
 unfold WV; rw [YZ, Mq, List.length_map, List.length_map]; split
 ·rfl
 ·split
  ·rfl
  ·rename_i h; have h : (zy c es).2 = 0 := by simpa using h
   split
   ·rfl
   ·rename_i ha; have ha : jT c ag = 0 := by simpa using ha
    have e1 : Wz (es.map nE) z = Wz es z := by unfold Wz xn; simp only [Jj h]
    have e2 : xd (es.map nE) z = xd es z := by unfold xd; rw [e1, List.length_map]
    have e3 : XS (es.map nE) (ag.map nA) z = XS es ag z := by
     funext q; unfold XS; have e4 : Yj (es.map nE) z q = Yj es z q := by unfold Yj xn; simp only [Jj h]
     rw [e4, List.map_map]; congr 2; exact List.map_congr_left (fun a hm => Eu (kI ha a hm) _)
    unfold Se; rw [e2, e3]
theorem zaY (k n : Int) (x : E) (xs : List E) (ag : List Ag) (cs : List (List Int)) (zs : List (List Z)) : kY k n (nE x) (xs.map nE) (ag.map nA) cs zs = kY k n x xs ag cs zs := by
 unfold kY; rw [UB, zaF, Fj, TF, TF, Fk, zaw, zbl]
theorem FW {ts : List (List Int)} {data : List (List Z)} (p : PL) : yr ts data (nP p) = yr ts data p := by
 induction p with
 | leaf => rfl
 | mk k n x xs ag A m cap kid ih =>
  unfold nP yY yr
  by_cases hk : k = 1
  ·rw [if_pos hk, if_pos hk]
  ·rw [if_neg hk, if_neg hk]; have e1 : yj (fun i => yr ts data (if i < m then nP (kid i) else .leaf)) m 0 [] = yj (fun i => yr ts data (kid i)) m 0 [] := kB m 0 [] (fun j _ hj => by simp only [if_pos (show j < m by omega)]; exact ih j); have e2 : (List.range m).map (fun i => (zi ts (if i < m then nP (kid i) else .leaf)).1) = (List.range m).map (fun i => (zi ts (kid i)).1) := List.map_congr_left (fun i hi => by rw [if_pos (List.mem_range.1 hi), jX]); simp only [e1, e2, zaY]
theorem W8 {ts : List (List Int)} {data : List (List Z)} (p : PL) : yS ts (nP p) data = yS ts p data := by
 unfold yS; rw [jX, FW]
theorem SG {ts : List (List Int)} {data : List (List Z)} {p r : PL} {a b : List Z} (hr : nP r = zx ts (nP p)) (h : yS ts p data = (a, 0)) (h2 : yS ts r data = (b, 0)) : a = b := by
 rw [<- W8 p] at h; rw [<- W8 r, hr] at h2; exact SF h h2
end Go.Proofs.YtcaedcpjdmlilaaGreat

