/- Parts of a proof. No condition. -/
import Derived.Test.YtflggnopgnoeiaaGreatGAa
import Derived.Test.YtflggnopgnoeiaaGreatGJa
import Derived.Test.YtflggnopgnoeiaaGreatGZ
set_option maxRecDepth 100000
set_option maxHeartbeats 16000000
set_option maxRecDepth 100000
set_option linter.unusedSimpArgs false
set_option linter.unusedVariables false
namespace Go
variable {p : Prop}
theorem oO_ (h : p := by simp [results, Tryz.results173, go_sem] <;> rfl) : p := h
theorem vA_ (h : p := by have := (Gz.trans gwA).size; simp; omega) : p := h
theorem um_ (h : p := by rw [ed]; simp [hu]) : p := h
theorem yo_ (h : p := by
 unfold zd yJ; rw [List.map_map]; exact List.map_congr_left (fun e _ => QW _ _)) : p := h
theorem yJ_ (h : p := by
 unfold Ft zK at h; have := yo zO yq a.x.row b.x.row; omega) : p := h
end Go
namespace Go.Proofs.YtflggnopgnoeiaaGreat
open Go.RowKit Go.Calm
def pg (z : List Z) : List Z := z.filter (fun r => decide (0 < r.2))
def jm (es : List E) (z : List Z) (q : List V) : List Z := (pg z).filter (fun r => decide (yJ es r.1 = q))
def Xp (es : List E) (aggs : List Ag) (z : List Z) (q : List V) : Z := (q ++ aggs.map (fun a => Ze a (jm es z q)), 1)
def WP (hs : List (List V)) (q : List V) : List (List V) := if q ∈ hs then hs else hs ++ [q]
def PJ (es : List E) (z : List Z) : List (List V) := (pg z).map (fun r => yJ es r.1)
def xG (es : List E) (z : List Z) : List (List V) := (PJ es z).foldl WP (if es.length = 0 then [[]] else [])
def Ss (es : List E) (aggs : List Ag) (z : List Z) : List Z := (xG es z).map (Xp es aggs z)
def Nk (cols : List Int) (es : List E) (aggs : List Ag) (z : List Z) : List Z × Int :=
 if 8 < es.length + aggs.length then ([], 5)
 else if (zB cols es).2 ≠ 0 then ([], (zB cols es).2)
 else if kK cols aggs ≠ 0 then ([], kK cols aggs)
 else if zo cols z ≠ 0 then ([], zo cols z)
 else (yE (Ss es aggs z), 0)
theorem Ci (hs : List (List V)) (q k : List V) : k ∈ WP hs q ↔ k ∈ hs \/ k = q := by
 unfold WP; split
 ·rename_i h
  constructor
  ·exact .inl
  ·rintro (h1 | rfl)
   ·exact h1
   ·exact h
 ·simp
theorem RW {hs : List (List V)} {q : List V} (h : hs.Nodup) : (WP hs q).Nodup := by
 unfold WP; split
 ·exact h
 ·rename_i h1; rw [List.nodup_append]; refine ⟨h, by simp, fun a ha b hb => ?_⟩; simp at hb; rintro rfl; exact h1 (hb ▸ ha)
theorem L5 : ∀ (l hs : List (List V)) (k : List V), k ∈ l.foldl WP hs ↔ k ∈ hs \/ k ∈ l
 | [], hs, k => by simp
 | q :: l, hs, k => by
  rw [List.foldl_cons, L5 l, Ci]; simp [or_assoc]
theorem Wv : ∀ (l hs : List (List V)), hs.Nodup -> (l.foldl WP hs).Nodup
 | [], hs, h => h
 | q :: l, hs, h => Wv l _ (RW h)
theorem L4 : ∀ (l hs : List (List V)), (l.foldl WP hs).length <= hs.length + l.length
 | [], hs => by simp
 | q :: l, hs => by
  have := L4 l (WP hs q); have h2 : (WP hs q).length <= hs.length + 1 := by unfold WP; split <;> simp
  simp only [List.foldl_cons, List.length_cons]; omega
theorem Qh (es : List E) (z : List Z) : (xG es z).Nodup := Wv _ _ (by split <;> simp)
theorem XF (es : List E) (z : List Z) (q : List V) : q ∈ xG es z ↔ (es.length = 0 /\ q = []) \/ ∃ r ∈ pg z, yJ es r.1 = q := by
 unfold xG PJ; rw [L5]; split
 ·rename_i h; simp [h]
 ·rename_i h; simp [h]
theorem SN (z : List Z) : (pg z).length <= z.length := List.length_filter_le _ _
theorem Zw (es : List E) (z : List Z) (hz : z.length <= 400) : (xG es z).length <= 400 := by
 by_cases h : es.length = 0
 ·have e : es = [] := List.length_eq_zero_iff.1 h; subst e
  have : ∀ l : List (List V), (∀ q ∈ l, q = []) -> l.foldl WP [[]] = [[]] := fun l hl => by
   induction l with
   | nil => rfl
   | cons q l ih =>
    rw [List.foldl_cons, hl q uY_]; exact ih (fun q hq => hl q (by simp [hq]))
  unfold xG
  rw [if_pos h, this _ (fun q hq => by
   obtain ⟨r, _, rfl⟩ := List.mem_map.1 hq
   rfl)]
  simp
 ·have h1 := L4 (PJ es z) []; have h2 := SN z; unfold xG; rw [if_neg h]; simp only [List.length_nil, PJ, List.length_map] at h1; unfold PJ; omega
structure jQ (cols : List Int) (es : List E) (aggs : List Ag) (z : List Z) : Prop where
 n : es.length + aggs.length <= 8
 es : (zB cols es).2 = 0
 ag : kK cols aggs = 0
 z : zo cols z = 0
theorem jQ.agg {cols : List Int} {es : List E} {aggs : List Ag} {z : List Z} (h : jQ cols es aggs z) {a : Ag} (ha : a ∈ aggs) {l : List Z} (hl : ∀ r ∈ l, r ∈ z) : MR a l := by
 have h1 := YG h.ag a ha; obtain ⟨_, hwz, hfit⟩ := zE h.z; unfold Jk at h1; split at h1
 ·simp at h1
 ·rename_i h2; refine ⟨by omega, fun hk r hr => ?_, fun r hr => (SM.of hwz).bd r (hl r hr)⟩; rw [if_neg hk] at h1; split at h1
  ·rename_i h3; exact absurd h1 h3
  ·rename_i h3; exact JF (by simpa using h3) (hfit r (hl r hr))
theorem Y9 {es : List E} {z : List Z} {q : List V} : ∀ r ∈ jm es z q, r ∈ z := fun r hr => (List.mem_filter.1 (List.mem_filter.1 hr).1).1
theorem jQ.key {cols : List Int} {es : List E} {aggs : List Ag} {z : List Z} (h : jQ cols es aggs z) {q : List V} (hq : q ∈ xG es z) : q.length = es.length /\ (∀ v ∈ q, RV v) /\ zd q = q := by
 obtain ⟨_, hty⟩ := ql h.es; obtain ⟨_, _, hfit⟩ := zE h.z; rcases (XF es z q).1 hq with ⟨h0, rfl⟩ | ⟨r, hr, rfl⟩
 ·exact ⟨by simp [h0], fun v hv => by simp at hv, rfl⟩
 ·have hrz := (List.mem_filter.1 hr).1; refine ⟨by simp [yJ], fun v hv => ?_, ?_⟩
  ·obtain ⟨e, he, rfl⟩ := List.mem_map.1 hv; exact JF (hty e he) (hfit r hrz)
  ·exact yo_
theorem jQ.row {cols : List Int} {es : List E} {aggs : List Ag} {z : List Z} (h : jQ cols es aggs z) {q : List V} (hq : q ∈ xG es z) : (Xp es aggs z q).1.length <= 8 /\ (∀ v ∈ (Xp es aggs z q).1, RV v) /\ (Xp es aggs z q).2 = 1 := by
 obtain ⟨h1, h2, _⟩ := h.key hq; have h3 := h.n; refine ⟨by simp [Xp]; omega, fun v hv => ?_, rfl⟩; rcases List.mem_append.1 hv with hv | hv
 ·exact h2 v hv
 ·obtain ⟨a, ha, rfl⟩ := List.mem_map.1 hv; exact Cl (h.agg ha Y9)
theorem jQ.rows {cols : List Int} {es : List E} {aggs : List Ag} {z : List Z} (h : jQ cols es aggs z) {l : List (List V)} (hl : ∀ q ∈ l, q ∈ xG es z) : Xk (l.map (Xp es aggs z)) /\ Pf 1 (l.map (Xp es aggs z)) := by
 refine ⟨fun y hy => ?_, fun y hy => ?_⟩
 ·obtain ⟨q, hq, rfl⟩ := List.mem_map.1 hy; exact ⟨(h.row (hl q hq)).1, (h.row (hl q hq)).2.1⟩
 ·obtain ⟨q, hq, rfl⟩ := List.mem_map.1 hy; rw [(h.row (hl q hq)).2.2]; decide
theorem Ru {l : List Z} (hb : Pf 1 l) (hl : l.length <= 400) : yy l = (yE l, 0) := by
 have h1 := T6 (K := 1) uW_ hb; have h2 := Yw l; unfold yy Xb; rw [if_neg ?_, if_neg uX_]; intro h; obtain ⟨x, hx, hb⟩ := List.any_eq_true.1 h; have := h1 x hx; exact (Jn x.2).1 hb uX_
theorem Er {z : List Z} {r : Z} : r ∈ pg z ↔ r ∈ z /\ 0 < r.2 := by simp [pg]
theorem jQ.sum {cols : List Int} {es : List E} {aggs : List Ag} {z : List Z} (h : jQ cols es aggs z) {l : List (List V)} (hn : l.Nodup) (hm : ∀ q, q ∈ l ↔ q ∈ xG es z) : yy (l.map (Xp es aggs z)) = (yE (Ss es aggs z), 0) := by
 have hp : l.Perm (xG es z) := (List.perm_ext_iff_of_nodup hn (Qh es z)).2 hm; have hlen : z.length <= 400 := (SM.of (zE h.z).2.1).len; have r1 := h.rows (l := l) (fun q hq => (hm q).1 hq); have r2 := h.rows (l := xG es z) (fun q hq => hq); have hl := Zw es z hlen; rw [Ru r1.2 (by rw [List.length_map, hp.length_eq]; exact hl)]; congr 1; exact Rl (fun x hx => (r1.1 x hx).2) (fun x hx => (r2.1 x hx).2) (fun q => RG (hp.map _) q)
/-! What the merging of NP groups makes. -/
structure Cb (T : List J) (gs : List (List V × List I)) : Prop where
 up : gs.Pairwise (fun a b => zK a.1 b.1 < 0)
 xs : ∀ h ∈ gs, h.2 = (T.filter (fun y => decide (y.row = h.1))).map J.x
 all : ∀ y ∈ T, ∃ h ∈ gs, h.1 = y.row
 of : ∀ h ∈ gs, ∃ y ∈ T, h.1 = y.row
theorem Xl (r : List V) : zK r r = 0 := by
 have := yK r r; omega
theorem Cb.nil : Cb [] [] := ⟨List.Pairwise.nil, fun h hh => by simp at hh, fun y hy => by simp at hy, fun h hh => by simp at hh⟩
theorem JC (T : List J) (y : J) (q : List V) : ((T ++ [y]).filter (fun u => decide (u.row = q))).map J.x = (T.filter (fun u => decide (u.row = q))).map J.x ++ if y.row = q then [y.x] else [] := by
 rw [List.filter_append, List.map_append]; congr 1
 by_cases h : y.row = q <;> simp [h]
theorem Cb.same {T : List J} {gs : List (List V × List I)} {h : List V × List I} {y : J} (hg : Cb T (gs ++ [h])) (e : h.1 = y.row) : Cb (T ++ [y]) (gs ++ [(h.1, h.2 ++ [y.x])]) := by
 obtain ⟨h1, h2, h3, h4⟩ := hg; obtain ⟨u1, u2, u3⟩ := List.pairwise_append.1 h1; refine ⟨List.pairwise_append.2 ⟨u1, by simp, fun a ha b hb => ?_⟩, fun k hk => ?_, fun u hu => ?_, fun k hk => ?_⟩
 ·simp at hb; subst hb; exact u3 a ha h uY_
 ·rw [JC]; rcases List.mem_append.1 hk with hk | hk
  ·rw [if_neg ?_, List.append_nil]; exact h2 k (by simp [hk]); intro e2; have := u3 k hk h uY_; rw [<- e2, <- e, Xl] at this; omega
  ·simp at hk; subst hk; rw [if_pos e.symm, <- h2 h uY_]
 ·rcases List.mem_append.1 hu with hu | hu
  ·obtain ⟨k, hk, ek⟩ := h3 u hu; rcases List.mem_append.1 hk with hk | hk
   ·exact ⟨k, by simp [hk], ek⟩
   ·simp at hk; subst hk; exact ⟨(k.1, k.2 ++ [y.x]), by simp, ek⟩
  ·simp at hu; subst hu; exact ⟨(h.1, h.2 ++ [u.x]), by simp, e⟩
 ·rcases List.mem_append.1 hk with hk | hk
  ·obtain ⟨u, hu, eu⟩ := h4 k (by simp [hk]); exact ⟨u, by simp [hu], eu⟩
  ·simp at hk; subst hk; exact ⟨y, by simp, e⟩
theorem Cb.new {T : List J} {gs : List (List V × List I)} {y : J} (hg : Cb T gs) (hy : ∀ h ∈ gs, zK h.1 y.row < 0) : Cb (T ++ [y]) (gs ++ [(y.row, [y.x])]) := by
 obtain ⟨h1, h2, h3, h4⟩ := hg
 have ne : ∀ h ∈ gs, ¬ y.row = h.1 := fun h hh e => by
  have := hy h hh; rw [e, Xl] at this; omega
 refine ⟨List.pairwise_append.2 ⟨h1, by simp, fun a ha b hb => by simp at hb; subst hb; exact hy a ha⟩, fun k hk => ?_, fun u hu => ?_, fun k hk => ?_⟩
 ·rw [JC]; rcases List.mem_append.1 hk with hk | hk
  ·rw [if_neg (ne k hk), List.append_nil]; exact h2 k hk
  ·simp at hk; subst hk; rw [if_pos rfl]
   have : T.filter (fun u => decide (u.row = y.row)) = [] := by
    rw [List.filter_eq_nil_iff]; intro u hu; obtain ⟨k, hk, ek⟩ := h3 u hu; have := ne k hk; rw [ek] at this; simp; exact fun e => this e.symm
   simp [this]
 ·rcases List.mem_append.1 hu with hu | hu
  ·obtain ⟨k, hk, ek⟩ := h3 u hu; exact ⟨k, by simp [hk], ek⟩
  ·simp at hu; subst hu; exact ⟨_, by simp; exact .inr rfl, rfl⟩
 ·rcases List.mem_append.1 hk with hk | hk
  ·obtain ⟨u, hu, eu⟩ := h4 k hk; exact ⟨u, by simp [hu], eu⟩
  ·simp at hk; subst hk; exact ⟨y, by simp, rfl⟩
theorem Mn {α : Type} {R : α -> α -> Prop} : ∀ {l : List α}, l.Pairwise R -> ∀ {a b : α}, a ∈ l -> b ∈ l -> a = b \/ R a b \/ R b a
 | x :: l, h, a, b, ha, hb => by
  rw [List.pairwise_cons] at h; rcases List.mem_cons.1 ha with e1 | h1
  ·rcases List.mem_cons.1 hb with e2 | h2
   ·exact .inl (e1.trans e2.symm)
   ·exact .inr (.inl (by rw [e1]; exact h.1 b h2))
  ·rcases List.mem_cons.1 hb with e2 | h2
   ·exact .inr (.inr (by rw [e2]; exact h.1 a h1))
   ·exact Mn h.2 h1 h2
theorem zcT {K : KJ} {M L : List J} (hp : M.Perm L) (hu : Uv K M) (ht : L.Pairwise Ft) (q : List V) : M.filter (fun y => decide (y.row = q)) = L.filter (fun y => decide (y.row = q)) := by
 refine List.Perm.eq_of_pairwise (le := fun a b : J => a.row = q /\ b.row = q -> zv zO a.x.row b.x.row <= 0) (fun a b ha hb h1 h2 => ?_) (List.Pairwise.filter _ (List.Pairwise.imp (fun {a b} h e => ?_) hu)) (List.Pairwise.filter _ (List.Pairwise.imp (fun {a b} h e => ?_) ht)) (hp.filter _)
 ·have ha2 := (List.mem_filter.1 ha)
  have hb2 := (List.mem_filter.1 hb)
  have qa : a.row = q := by simpa using ha2.2
  have qb : b.row = q := by simpa using hb2.2
  have h1 := h1 ⟨qa, qb⟩; have h2 := h2 ⟨qb, qa⟩; rcases Mn ht (hp.mem_iff.1 ha2.1) hb2.1 with h | h | h
  ·exact h
  ·exact yJ_
  ·exact yJ_
 ·unfold Xf at h; have e2 : zv zO a.row b.row = 0 := by rw [e.1, e.2]; exact Xl q
  rw [e2] at h; simpa using h
 ·unfold Ft zK at h; omega
abbrev J5 : List V -> Int := fun _ => 1
theorem Uy {a : Ag} (ha : a.k = 1) (l : List Z) : (yT a l).n = yn J5 l := by
 refine Kn (P := fun l => (yT a l).n = yn J5 l) rfl (fun l r ih => ?_) l; rw [YI, jI]; unfold kY; rw [if_pos ha]; simp [ih, yn]
theorem T9 : ∀ {l : List Z}, (∀ r ∈ l, 0 < r.2) -> 0 <= yn J5 l
 | [], _ => by simp [yn]
 | x :: l, h => by
  have := T9 (fun y hy => h y (List.mem_cons_of_mem x hy)); have := h x (List.mem_cons_self ..); simp only [yn, J5, Int.mul_one]; omega
theorem Ua : ∀ {l : List Z}, (∀ r ∈ l, r.2 <= 1000000) -> yn J5 l <= 1000000 * (l.length : Int)
 | [], _ => by simp [yn]
 | x :: l, h => by
  have := Ua (fun y hy => h y (List.mem_cons_of_mem x hy)); have := h x (List.mem_cons_self ..); simp only [yn, J5, Int.mul_one, List.length_cons]; omega
theorem Su {cols : List Int} {es : List E} {aggs : List Ag} {z t : List Z} (h : Nk cols es aggs z = (t, 0)) : jQ cols es aggs z /\ t = yE (Ss es aggs z) := by
 unfold Nk at h; split at h
 ·simp at h
 ·rename_i h8; split at h
  ·exact u8_
  ·rename_i h1; split at h
   ·exact wg_
   ·rename_i h2; split at h
    ·rename_i h3; exact absurd (Prod.mk.inj h).2 h3
    ·rename_i h3; exact ⟨⟨by omega, by simpa using h1, by simpa using h2, by simpa using h3⟩, (Prod.mk.inj h).1.symm⟩
theorem jQ.bare {cols : List Int} {es : List E} {a : Ag} {z : List Z} (h : jQ cols es [a] z) (ha : a.k = 1) {q : List V} (hq : q ∈ xG es z) : zd (Xp es [a] z q).1 = (Xp es [a] z q).1 /\ (Xp es [a] z q).1 = q ++ [Vq (yn J5 (jm es z q))] /\ 0 <= yn J5 (jm es z q) /\ yn J5 (jm es z q) <= 400000000 := by
 obtain ⟨_, _, h3⟩ := h.key hq; have smz := SM.of (zE h.z).2.1; have hp : ∀ r ∈ jm es z q, 0 < r.2 := fun r hr => (Er.1 (List.mem_filter.1 hr).1).2
 have hge := T9 hp; have hle := Ua (l := jm es z q) (fun r hr => (smz.bd r (Y9 r hr)).2)
 have hlen : (jm es z q).length <= 400 := by
  have h1 := List.length_filter_le (fun r : Z => decide (yJ es r.1 = q)) (pg z); have h2 := SN z; have h3 := smz.len; unfold jm; omega
 have ev : Ze a (jm es z q) = Vq (yn J5 (jm es z q)) := by
  unfold Ze; rw [if_pos uX_, Uy ha]; unfold xT; rw [if_pos uX_]; rfl
 have er : (Xp es [a] z q).1 = q ++ [Vq (yn J5 (jm es z q))] := by simp [Xp, ev]
 refine ⟨?_, er, hge, by omega⟩; rw [er]; unfold zd at h3 ⊢; rw [List.map_append, h3]; rfl
structure H where
 A : Option Addr
 row : List V
 cap : Nat
 xs : List I
 B : Option Addr
 rc : Nat
instance : Inhabited H := ⟨⟨none, [], 0, [], none, 0⟩⟩
def qx : List H -> List Value
 | [] => []
 | x :: xs => .slice x.A x.row.length x.cap :: .slice x.B x.xs.length x.rc :: qx xs
theorem j7 : ∀ xs : List H, (qx xs).length = xs.length * 2
 | [] => rfl
 | x :: xs => by simp [qx, j7 xs]; omega
theorem LQ : ∀ (xs : List H) (i : Nat) (x : H), xs[i]? = some x -> (qx xs)[i * 2]? = some (.slice x.A x.row.length x.cap) /\ (qx xs)[i * 2 + 1]? = some (.slice x.B x.xs.length x.rc)
 | [], i, x, h => by simp at h
 | y :: ys, 0, x, h => by simp at h; subst h; simp [qx]
 | y :: ys, i + 1, x, h => by
  have := LQ ys i x uI_; rw [show (i + 1) * 2 = i * 2 + 2 by omega]; simpa [qx] using this
theorem jW : ∀ xs ys : List H, qx (xs ++ ys) = qx xs ++ qx ys
 | [], ys => rfl
 | x :: xs, ys => by simp [qx, jW xs ys]
theorem Sk (xs : List H) (x : H) (B : Option Addr) (n c : Nat) (ys : List I) (hn : ys.length = n) : (qx (xs ++ [x])).set (xs.length * 2 + 1) (.slice B n c) = qx (xs ++ [{ x with xs := ys, B := B, rc := c }]) := by
 subst hn; rw [jW, jW, List.set_append_right _ _ (by rw [j7]; omega), j7]; simp [qx]
theorem Sw : (Tryz.prog.info? 218).map (fun i => (i.zero, i.size, i.bytes)) = some (some (.agg #[.slice none 0 0, .slice none 0 0]), 2, 48) := by kernel_rfl
theorem PG : ∃ ti, Tryz.prog.info? 218 = some ti /\ ti.zero = some (.agg #[.slice none 0 0, .slice none 0 0]) /\ ti.size = 2 /\ ti.bytes = 48 := by
 have h := Sw; cases hi : Tryz.prog.info? 218 with
 | none => rw [hi] at h; simp at h
 | some i => rw [hi] at h; simp at h; exact ⟨i, rfl, h⟩
theorem jl {w : World} {ops : Array Oper} {rest : List Oper} {o : Oper} {a : Act} {Q : Exit -> Act -> World -> Prop} (hgd : o.guard = none) (s x : Operand)
  (ho : o.op = .call { callee := .builtin .append, args := #[s, x], argTypes := #[216, 216] })
  (base : Nat) (v : Value) (n : Nat) (cs : List Value) (hs : a.eval s = v) (hown : w.ownsRow base 218 2 v n cs) (g c : Nat) (A B : Option Addr) (n0 c0 n1 c1 : Nat) (hx : a.eval x = .slice (some ⟨g, 0, none⟩) 1 c) (hb : zb w g 218 #[.slice A n0 c0, .slice B n1 c1]) (hB : n + 1 <= 1000000) (hbase : base <= w.heap.size)
  (h : ∀ v' w', w'.ownsRow base 218 2 v' (n + 1) (cs ++ [.slice A n0 c0, .slice B n1 c1]) -> w.grownBy w' v.ownBlock -> wpList Tryz.prog ops Q rest (a.put o.dst v') w') : wpList Tryz.prog ops Q (o :: rest) a w := by
 obtain ⟨ti, hti, hz0, hz1, hz2⟩ := PG; refine wpList_append_own _ hgd s x _ ho base 218 ti (.agg #[.slice none 0 0, .slice none 0 0]) 2 48 Tryz.underlying216 hti hz0 hz1 hz2 rfl uW_ v n cs hs hown ⟨g, 0, none⟩ 1 c [.slice A n0 c0, .slice B n1 c1] hx rfl (fun j u hj => ?_) (fun u hu => ?_) uh_ uX_ hbase ?_
 ·rw [zQ, hb.cell]
  match j, hj with
  | 0, hj => simp at hj; subst hj; rfl
  | 1, hj => simp at hj; subst hj; rfl
 ·simp at hu; rcases hu with rfl | rfl <;> rfl
 ·intro v' w' h1 h2 _; exact h v' w' h1 h2
theorem KI {w : World} {o : Oper} {a : Act} {K : Act -> World -> Prop} {Q : Exit -> Act -> World -> Prop} (s x : Operand)
  (ho : o.op = .call { callee := .builtin .append, args := #[s, x], argTypes := #[25, 25] })
  (base : Nat) (v : Value) (n : Nat) (xs : List I) (hs : a.eval s = v) (hown : w.ownsRow base 53 2 v n (zr xs)) (ad : Addr) (c : Nat) (L : List I) (hx : a.eval x = .slice (some ad) L.length c) (hc : ∀ j u, (zr L)[j]? = some u -> w.cell? (ad.add j) = some u) (hB : n + L.length <= 1000000) (hbase : base <= w.heap.size)
  (h : ∀ B cap w', w'.ownsRow base 53 2 (.slice B (n + L.length) cap) (n + L.length) (zr (xs ++ L)) -> w.grownBy w' v.ownBlock -> ((Value.slice B (n + L.length) cap).ownBlock = v.ownBlock \/ (Value.slice B (n + L.length) cap).ownBlock = some w.heap.size) -> K (a.put o.dst (.slice B (n + L.length) cap)) w') : Oper.wp Tryz.prog o a w K Q := by
 obtain ⟨ti, hti, hz0, hz1, hz2⟩ := qO; obtain ⟨v', w', hr, h2, h3, _, h5⟩ := run_append_own_at (P := Tryz.prog) w base 25 o.type 53 ti (.agg #[.slice none 0 0, .int .i64 0]) 2 32 Tryz.underlying25 hti hz0 hz1 hz2 rfl uW_ v n (zr xs) hown ad L.length c (zr L) (by rw [xv]) hc (YS _) uh_ uX_ hbase; obtain ⟨B, cap, rfl⟩ := yV h2; unfold Oper.wp execOp; simp only [ho, resolve, invoke, builtin, Sem.run_bind, Sem.run_pure, Result.andThen_ok, List.map_toArray, List.map_cons, List.map_nil, hs, hx, hr]; exact h B cap w' (by rw [xM]; exact h2) h3 h5
theorem We {ops : Array Oper} {w : World} {o : Oper} {a : Act} {K : Act -> World -> Prop} {Q : Exit -> Act -> World -> Prop} {E : Prop} (hgd : o.guard = none) (s x : Operand)
  (ho : o.op = .call { callee := .builtin .append, args := #[s, x], argTypes := #[25, 25] })
  (base : Nat) (v : Value) (n : Nat) (xs : List I) (hs : a.eval s = v) (hown : w.ownsRow base 53 2 v n (zr xs)) (ad : Addr) (c : Nat) (L : List I) (hx : a.eval x = .slice (some ad) L.length c) (hc : ∀ j u, (zr L)[j]? = some u -> w.cell? (ad.add j) = some u) (hB : n + L.length <= 1000000) (hbase : base <= w.heap.size)
  (h : ∀ B cap w', w'.ownsRow base 53 2 (.slice B (n + L.length) cap) (n + L.length) (zr (xs ++ L)) -> w.grownBy w' v.ownBlock -> ((Value.slice B (n + L.length) cap).ownBlock = v.ownBlock \/ (Value.slice B (n + L.length) cap).ownBlock = some w.heap.size) -> K (a.put o.dst (.slice B (n + L.length) cap)) w') :
  if Region.wanted o (yielded ops a.tmps) = true then Oper.wp Tryz.prog o a w K Q else E := by
 have hw : Region.wanted o (yielded ops a.tmps) = true := by simp [Region.wanted, hgd]
 rw [if_pos hw]; exact KI s x ho base v n xs hs hown ad c L hx hc hB hbase h
def WN (w : World) (y : J) : Prop := zb w y.b 53 #[.slice y.x.A y.x.row.length y.x.cap, .int .i64 y.x.w]
structure N4 (w wr : World) (es : List E) (xs : List I) (k : Nat) (L : List J) : Prop where
 map : L.map J.x = (xs.take k).filter (fun x => decide (0 < x.w))
 key : ∀ y ∈ L, y.row = yJ es y.x.row /\ KV wr y.A y.row
 row : ∀ y ∈ L, WN wr y /\ w.heap.size <= y.b
 nd : (L.map J.b).Nodup
theorem N4.grow {w wr wq : World} {es : List E} {xs : List I} {k : Nat} {L : List J} (h : N4 w wr es xs k L) (hg : za wr wq) : N4 w wq es xs k L :=
 ⟨h.map, fun y hy => ⟨(h.key y hy).1, (h.key y hy).2.grow hg⟩, fun y hy => ⟨zb.grow (h.row y hy).1 hg, (h.row y hy).2⟩, h.nd⟩
theorem N4.nil (w wr : World) (es : List E) (xs : List I) : N4 w wr es xs 0 [] := ⟨rfl, fun y hy => by simp at hy, fun y hy => by simp at hy, by simp⟩
theorem N4.len {w wr : World} {es : List E} {xs : List I} {k : Nat} {L : List J} (h : N4 w wr es xs k L) (hk : k <= xs.length) : L.length <= k := by
 have h1 := congrArg List.length h.map; have h2 := List.length_filter_le (fun x : I => decide (0 < x.w)) (xs.take k); simp at h1 h2; omega
theorem N4.skip {w wr : World} {es : List E} {xs : List I} {k : Nat} {L : List J} {x : I} (h : N4 w wr es xs k L) (hx : xs[k]? = some x) (hw : ¬ 0 < x.w) : N4 w wr es xs (k + 1) L := by
 refine ⟨?_, h.key, h.row, h.nd⟩; obtain ⟨h1, e1⟩ := qQ9.1 hx; rw [h.map, List.take_succ_eq_append_getElem h1, e1, List.filter_append]; simp [hw]
theorem N4.add {w w0 wr wq : World} {es : List E} {xs : List I} {k base n s : Nat} {L : List J} {y : J} {v : Value} {cs : List Value} (h : N4 w w0 es xs k L) (hg : za w0 wr) (hx : xs[k]? = some y.x) (hw : 0 < y.x.w) (hrow : y.row = yJ es y.x.row) (hk : KV wr y.A y.row) (hb : WN wr y) (hlo : w0.heap.size <= y.b) (hlo2 : w.heap.size <= w0.heap.size) (own : wr.ownsRow base 218 s v n cs) (hgr : wr.grownBy wq v.ownBlock) : N4 w wq es xs (k + 1) (L ++ [y]) := by
 refine ⟨?_, fun u hu => ?_, fun u hu => ?_, ?_⟩
 ·obtain ⟨h1, e1⟩ := qQ9.1 hx; rw [List.map_append, h.map, List.take_succ_eq_append_getElem h1, e1, List.filter_append]; simp [hw]
 ·rcases List.mem_append.1 hu with hu | hu
  ·exact ⟨(h.key u hu).1, Ym ((h.key u hu).2.grow hg) own uW_ hgr⟩
  ·simp at hu; subst hu; exact ⟨hrow, Ym hk own uW_ hgr⟩
 ·rcases List.mem_append.1 hu with hu | hu
  ·exact ⟨XB (zb.grow (h.row u hu).1 hg) own uW_ hgr, (h.row u hu).2⟩
  ·simp at hu; subst hu; exact ⟨XB hb own uW_ hgr, by omega⟩
 ·rw [List.map_append, List.nodup_append]; refine ⟨h.nd, by simp, fun a ha b hb2 => ?_⟩; obtain ⟨u, hu, rfl⟩ := List.mem_map.1 ha; simp at hb2; have := zb.lt (h.row u hu).1; omega
def SJ (w : World) (B : Option Addr) (M : List J) : Prop := M = [] \/ ∃ g, B = some ⟨g, 0, none⟩ /\ Xd w g M
theorem SJ.grow {w w' : World} {B : Option Addr} {M : List J} (h : SJ w B M) (hg : za w w') : SJ w' B M := by
 rcases h with h | ⟨g, e, h⟩
 ·exact .inl h
 ·exact .inr ⟨g, e, h.grow hg⟩
theorem Bq (K : KJ) (L : List J) (B : Option Addr) (cap : Nat) (w3 w4 : World) (hg : za w3 w4) (own : w4.ownsRow w3.heap.size 218 2 (.slice B L.length cap) L.length (xS L)) (key : ∀ y ∈ L, (∀ v ∈ y.row, RV v) /\ y.row.length <= 8 /\ KV w4 y.A y.row) (rows : ∀ y ∈ L, WN w4 y) (hl : L.length <= 400) (ht : L.Pairwise Ft) :
  Calls Tryz.prog 212 #[.slice B L.length cap, (CI K)] w4 fun en w' => en = .returned (.tuple #[]) /\ (∃ M : List J, M.Perm L /\ Uv K M /\ SJ w' B M /\ ∀ y ∈ M, KV w' y.A y.row /\ WN w' y) /\ za w3 w' := by
 have own0 := own; rcases own.2 with ⟨e, h0⟩ | ⟨g, cap', cur, e, hB, hgb, _⟩
 ·simp at e; obtain ⟨rfl, h1, rfl⟩ := e; subst h1; refine (Rn .j w4).mono ?_; rintro en w' ⟨rfl, hg'⟩; exact ⟨rfl, ⟨[], List.Perm.refl _, List.Pairwise.nil, .inl rfl, fun y hy => by simp at hy⟩, hg.trans hg'⟩
 ·simp at e; obtain ⟨rfl, rfl⟩ := e; have db := (Ht own0).1; have kx : ∀ y ∈ L, ∀ W, GX g w4 W -> KV W y.A y.row := fun y hy W h => (key y hy).2.2.gx hgb uW_ h
  have good : ∀ y ∈ L, jL K g w4 y := fun y hy => ⟨fun W h => (kx y hy W h).1, by have := (key y hy).2.1; omega, (key y hy).1⟩
  refine (Lg (K := K) L L.length cap g w4 w4 rfl uX_ ht good (GX.refl _ _) db).mono ?_; rintro en w' ⟨rfl, ⟨M, p, u, db'⟩, hgx⟩; refine ⟨rfl, ⟨M, p, u, .inr ⟨g, rfl, db'⟩, fun y hy => ?_⟩, GX.base hg hB hgx⟩; have hyL := p.mem_iff.1 hy; refine ⟨kx y hyL _ hgx, GX.blk hgx (fun e => ?_) (rows y hyL)⟩; have h1 := rows y hyL; unfold WN at h1; rw [e] at h1; exact absurd (xk h1 hgb) uW_
theorem jg {w : World} {base n c s : Nat} {e : TypeId} {B : Option Addr} {xs : List Value} (h : w.ownsRow base e s (.slice B n c) n xs) : (B = none /\ n = 0 /\ (Value.slice B n c).ownBlock = none) \/ ∃ g, B = some ⟨g, 0, none⟩ /\ (Value.slice B n c).ownBlock = some g /\ base <= g /\ g < w.heap.size := by
 rcases h.2 with ⟨e, h0⟩ | ⟨g', cap', cur, e, hB, hgb, _⟩
 ·simp at e; exact .inl ⟨e.1, h0, by rw [e.1]; rfl⟩
 ·simp at e; exact .inr ⟨g', e.1, by rw [e.1]; rfl, hB, zb.lt (w := w) hgb⟩
theorem zaa {w : World} {b1 b2 n1 n2 c1 c2 s1 s2 : Nat} {e1 e2 : TypeId} {B1 B2 : Option Addr} {x1 x2 : List Value} (h1 : w.ownsRow b1 e1 s1 (.slice B1 n1 c1) n1 x1) (h2 : w.ownsRow b2 e2 s2 (.slice B2 n2 c2) n2 x2) (hne : B1 ≠ B2) : (Value.slice B1 n1 c1).ownBlock = none \/ (Value.slice B1 n1 c1).ownBlock ≠ (Value.slice B2 n2 c2).ownBlock := by
 rcases jg h1 with ⟨_, _, e⟩ | ⟨g, e, o, _⟩
 ·exact .inl e
 ·rcases jg h2 with ⟨_, _, e'⟩ | ⟨g', e', o', _⟩
  ·rw [o, e']; exact .inr uY_
  ·rw [o, o']; refine .inr (fun h => hne ?_); rw [e, e']; simp at h; rw [h]
theorem zaj {w wr : World} {y : J} (h : WN wr y) (hlo : w.heap.size <= y.b) : wr.ownsRow w.heap.size 53 2 (.slice (some ⟨y.b, 0, none⟩) 1 1) 1 (zr [y.x]) :=
 ⟨rfl, .inr ⟨y.b, 1, _, rfl, hlo, h, Nat.le_refl _, by unfold maxLen; omega, rfl, rfl⟩⟩
theorem SJ.own {w w' : World} {B : Option Addr} {M : List J} {base n s : Nat} {e : TypeId} {v : Value} {xs : List Value} (h : SJ w B M) (own : w.ownsRow base e s v n xs) (hap : e ≠ 218 \/ ∀ g, B = some ⟨g, 0, none⟩ -> g < base) (hg : w.grownBy w' v.ownBlock) : SJ w' B M := by
 rcases h with h | ⟨g, eB, r, h⟩
 ·exact .inl h
 ·refine .inr ⟨g, eB, r, ?_⟩; rcases hap with hap | hap
  ·exact XB h own (Ne.symm hap) hg
  ·refine zb.by h hg (fun e' => ?_); have := (qr own e'.symm).1; have := hap g eB; omega
structure N7 (w wr : World) (B : Option Addr) (M : List J) (k : Nat) (Hs : List H) : Prop where
 grp : Cb (M.take k) (Hs.map (fun h => (h.row, h.xs)))
 src : SJ wr B M
 key : ∀ h ∈ Hs, KV wr h.A h.row
 keyM : ∀ y ∈ M, KV wr y.A y.row
 rowM : ∀ y ∈ M.drop k, WN wr y
 own : ∀ h ∈ Hs, wr.ownsRow w.heap.size 53 2 (.slice h.B h.xs.length h.rc) h.xs.length (zr h.xs)
 nd : (Hs.map H.B ++ (M.drop k).map (fun y => some (⟨y.b, 0, none⟩ : Addr))).Nodup
 lo : ∀ y ∈ M, w.heap.size <= y.b
theorem N7.grow {w wr wq : World} {B : Option Addr} {M : List J} {k : Nat} {Hs : List H} (h : N7 w wr B M k Hs) (hg : za wr wq) : N7 w wq B M k Hs :=
 ⟨h.grp, h.src.grow hg, fun x hx => (h.key x hx).grow hg, fun y hy => (h.keyM y hy).grow hg, fun y hy => zb.grow (h.rowM y hy) hg, fun x hx => zi (h.own x hx) hg, h.nd, h.lo⟩
theorem N7.start {w wr : World} {B : Option Addr} {M : List J} (h1 : SJ wr B M) (h2 : ∀ y ∈ M, KV wr y.A y.row /\ WN wr y) (h3 : ∀ y ∈ M, w.heap.size <= y.b) (h4 : (M.map J.b).Nodup) : N7 w wr B M 0 [] := by
 refine ⟨Cb.nil, h1, fun x hx => by simp at hx, fun y hy => (h2 y hy).1, fun y hy => (h2 y (by simpa using hy)).2, fun x hx => by simp at hx, ?_, h3⟩; simp only [List.map_nil, List.nil_append, List.drop_zero]; unfold List.Nodup at *; rw [List.pairwise_map] at *; exact List.Pairwise.imp (fun {a b} h e => h (Addr.mk.inj (Option.some.inj e)).1) h4
theorem YO {M : List J} {k : Nat} {y : J} (h : M[k]? = some y) : M.drop k = y :: M.drop (k + 1) := by
 obtain ⟨h1, e1⟩ := qQ9.1 h; rw [List.drop_eq_getElem_cons h1, e1]
theorem Ks {M : List J} {k : Nat} {y : J} (h : M[k]? = some y) : M.take (k + 1) = M.take k ++ [y] := by
 obtain ⟨h1, e1⟩ := qQ9.1 h; rw [List.take_succ_eq_append_getElem h1, e1]
abbrev GE (y : J) : H := ⟨y.A, y.row, y.cap, [y.x], some ⟨y.b, 0, none⟩, 1⟩
theorem N7.new {w wr wq : World} {B : Option Addr} {M : List J} {k base n s : Nat} {Hs : List H} {y : J} {v : Value} {cs : List Value} (h : N7 w wr B M k Hs) (hy : M[k]? = some y) (hlt : ∀ u ∈ Hs, zK u.row y.row < 0) (own : wr.ownsRow base 218 s v n cs) (hap : ∀ g, B = some ⟨g, 0, none⟩ -> g < base) (hg : wr.grownBy wq v.ownBlock) : N7 w wq B M (k + 1) (Hs ++ [GE y]) := by
 have hm := qZ_ hy; have ed := YO hy; have hr : WN wr y := h.rowM y (by rw [ed]; simp); have hrq : WN wq y := XB hr own uW_ hg; refine ⟨?_, h.src.own own (.inr hap) hg, fun u hu => ?_, fun u hu => Ym (h.keyM u hu) own uW_ hg, fun u hu => XB (h.rowM u um_) own uW_ hg, fun u hu => ?_, ?_, h.lo⟩
 ·rw [Ks hy, List.map_append]
  exact h.grp.new (fun u hu => by
   obtain ⟨x, hx, rfl⟩ := List.mem_map.1 hu
   exact hlt x hx)
 ·rcases List.mem_append.1 hu with hu | hu
  ·exact Ym (h.key u hu) own uW_ hg
  ·simp at hu; subst hu; exact Ym (h.keyM y hm) own uW_ hg
 ·rcases List.mem_append.1 hu with hu | hu
  ·exact (h.own u hu).kept hg (Ml (h.own u hu) own uW_)
  ·simp at hu; subst hu; exact zaj hrq (h.lo y hm)
 ·have := h.nd; rw [ed] at this; simpa [GE] using this
theorem N7.same {w wr w1 w2 : World} {B B' : Option Addr} {M : List J} {k ga c' : Nat} {Hs : List H} {x : H} {y : J} {cs : Array Value} (h : N7 w wr B M k (Hs ++ [x])) (hy : M[k]? = some y) (he : x.row = y.row)
  (hg : wr.grownBy w1 (Value.slice x.B x.xs.length x.rc).ownBlock) (own' : w1.ownsRow w.heap.size 53 2 (.slice B' (x.xs.length + 1) c') (x.xs.length + 1) (zr (x.xs ++ [y.x]))) (hat : (Value.slice B' (x.xs.length + 1) c').ownBlock = (Value.slice x.B x.xs.length x.rc).ownBlock \/ (Value.slice B' (x.xs.length + 1) c').ownBlock = some wr.heap.size)
  (hb : zb w1 ga 218 cs) (hap : ∀ g, B = some ⟨g, 0, none⟩ -> g < ga) (hg2 : w1.grownBy w2 (some ga)) : N7 w w2 B M (k + 1) (Hs ++ [{ x with xs := x.xs ++ [y.x], B := B', rc := c' }]) := by
 have hm := qZ_ hy; have ed := YO hy; have ox := h.own x uY_; have nd := h.nd; rw [ed] at nd; simp only [List.map_append, List.map_cons, List.map_nil, List.append_assoc, List.cons_append, List.nil_append] at nd; have kv : ∀ {A : Option Addr} {row : List V}, KV wr A row -> KV w2 A row := fun q => (Ym q ox uW_ hg).gx hb uW_ hg2
 have t2 : ∀ {g : Nat} {cs' : Array Value}, zb w1 g 53 cs' -> zb w2 g 53 cs' := fun q => zb.by q hg2 (fun e => by
  simp at e; subst e
  exact absurd (xk q hb) uW_)
 have o2 : ∀ {B1 : Option Addr} {n1 c1 : Nat} {x1 : List Value}, w1.ownsRow w.heap.size 53 2 (.slice B1 n1 c1) n1 x1 -> w2.ownsRow w.heap.size 53 2 (.slice B1 n1 c1) n1 x1 := fun q => q.kept hg2 (by
  rcases jg q with ⟨_, _, e⟩ | ⟨g, e, o, _⟩
  ·exact .inl e
  ·rw [o]; refine .inr (fun e' => ?_); simp at e'; subst e'; obtain ⟨_, cs', c2⟩ := qr q o
   exact absurd (xk c2 hb) uW_)
 refine ⟨?_, ?_, fun u hu => ?_, fun u hu => kv (h.keyM u hu), fun u hu => ?_, fun u hu => ?_, ?_, h.lo⟩
 ·rw [Ks hy, List.map_append]; have := h.grp; rw [List.map_append] at this; exact this.same he
 ·rcases h.src.own ox (.inl uW_) hg with q | ⟨g, eB, r, q⟩
  ·exact .inl q
  ·refine .inr ⟨g, eB, r, zb.by q hg2 (fun e => ?_)⟩; have := hap g eB; simp at e; omega
 ·rcases List.mem_append.1 hu with hu | hu
  ·exact kv (h.key u uU_)
  ·simp at hu; subst hu; exact kv (h.key x uY_)
 ·refine t2 (zb.by (h.rowM u um_) hg (fun e => ?_)); rcases jg ox with ⟨_, _, e'⟩ | ⟨g, e', o, _⟩
  ·rw [e'] at e; cases e
  ·rw [o] at e; simp at e
   have hne : x.B ≠ some ⟨u.b, 0, none⟩ := by
    have h1 := (List.nodup_append.1 nd).2.1; rw [List.nodup_cons, List.nodup_cons] at h1; intro e2; exact h1.1 (by rw [e2]; exact List.mem_cons_of_mem _ (List.mem_map.2 ⟨u, hu, rfl⟩))
   exact hne (by rw [e', e])
 ·rcases List.mem_append.1 hu with hu | hu
  ·have hne : u.B ≠ x.B := fun e => (List.nodup_append.1 nd).2.2 u.B (qZ9 hu) x.B uY_ e
   exact o2 ((h.own u uU_).kept hg (zaa (h.own u uU_) ox hne))
  ·simp at hu; subst hu; simp only [List.length_append, List.length_singleton]; exact o2 own'
 ·have old : ∀ a ∈ Hs.map H.B ++ (M.drop (k + 1)).map (fun y => some (⟨y.b, 0, none⟩ : Addr)), a ≠ B' := by
   intro a ha eB; rcases jg own' with ⟨_, h0, _⟩ | ⟨g, e', o, _, _⟩
   ·omega
   ·rcases hat with hat | hat
    ·rcases jg ox with ⟨_, _, e2⟩ | ⟨g2, e2, o2, _⟩
     ·rw [o, e2] at hat; cases hat
     ·rw [o, o2] at hat; simp at hat; have exB : x.B = B' := by rw [e2, e', hat]
      rcases List.mem_append.1 ha with ha | ha
      ·exact (List.nodup_append.1 nd).2.2 a ha x.B uY_ (by rw [eB, exB])
      ·have h1 := (List.nodup_append.1 nd).2.1; rw [List.nodup_cons, List.nodup_cons] at h1; exact h1.1 (by rw [exB, <- eB]; exact List.mem_cons_of_mem _ ha)
    ·rw [o] at hat; simp at hat; rw [e', hat] at eB; rcases List.mem_append.1 ha with ha | ha
     ·obtain ⟨u, hu, rfl⟩ := List.mem_map.1 ha; rcases jg (h.own u uU_) with ⟨q, _⟩ | ⟨g3, q, _, _, lt⟩
      ·rw [q] at eB; cases eB
      ·rw [q] at eB; simp at eB <;> omega
     ·obtain ⟨u, hu, rfl⟩ := List.mem_map.1 ha; have := zb.lt (h.rowM u um_); simp at eB <;> omega
  have n1 := List.nodup_append.1 nd; have n2 := n1.2.1; rw [List.nodup_cons, List.nodup_cons] at n2; simp only [List.map_append, List.map_cons, List.map_nil, List.append_assoc, List.cons_append, List.nil_append]; rw [List.nodup_append]; refine ⟨n1.1, ?_, fun a ha b hb2 => ?_⟩
  ·rw [List.nodup_cons]; exact ⟨fun q => old B' (by simp only [List.mem_append]; exact .inr q) rfl, n2.2.2⟩
  ·rcases List.mem_cons.1 hb2 with rfl | hb2
   ·exact old a (by simp only [List.mem_append]; exact .inl ha)
   ·exact n1.2.2 a ha b (by simp only [List.mem_cons]; exact .inr (.inr hb2))
theorem za5 {K : KJ} {M : List J} {k : Nat} {y : J} {gs : List (List V × List I)} {x : List V × List I} (hu : Uv K M) (hy : M[k]? = some y) (hg : Cb (M.take k) (gs ++ [x])) (hne : zK x.1 y.row ≠ 0) : ∀ h ∈ gs ++ [x], zK h.1 y.row < 0 := by
 have le : ∀ h ∈ gs ++ [x], zK h.1 y.row <= 0 := fun h hh => by
  obtain ⟨u, hu1, e⟩ := hg.of h hh; rw [e]; have h1 : M = M.take k ++ (y :: M.drop (k + 1)) := by rw [<- YO hy, List.take_append_drop]
  have h2 : Uv K (M.take k ++ (y :: M.drop (k + 1))) := by rw [<- h1]; exact hu
  have h3 := (List.pairwise_append.1 h2).2.2 u hu1 y uY_; unfold Xf at h3; unfold zK; split at h3
  ·exact h3
  ·omega
 have lx : zK x.1 y.row < 0 := by have := le x uY_; omega
 intro h hh; rcases List.mem_append.1 hh with hh | hh
 ·exact jY ((List.pairwise_append.1 hg.up).2.2 h hh x uY_) lx
 ·simp at hh; subst hh; exact lx
theorem Eg {w : World} {base n c g : Nat} {Hs : List H} {x : H} (h : w.ownsRow base 218 2 (.slice (some ⟨g, 0, none⟩) n c) n (qx (Hs ++ [x]))) (B : Option Addr) (c' : Nat) (ys : List I) (m : Nat) (hm : ys.length = m) : (w.setCell ⟨g, Hs.length * 2 + 1, none⟩ (.slice B m c')).ownsRow base 218 2 (.slice (some ⟨g, 0, none⟩) n c) n (qx (Hs ++ [{ x with xs := ys, B := B, rc := c' }])) := by
 have hl := h.1; rcases h.2 with ⟨e, _⟩ | ⟨g', cap, cur, e, hB, hgb, hle, hmx, hcs, htk⟩
 ·simp at e
 ·simp at e; obtain ⟨rfl, rfl⟩ := e; have hn : n = Hs.length + 1 := by rw [j7] at hl; simp at hl; omega
  refine ⟨by rw [j7]; simp; omega, .inr ⟨g, c, cur.setIfInBounds (Hs.length * 2 + 1) (.slice B m c'), rfl, hB, zb.set (w := w) hgb _ _, hle, hmx, by simpa using hcs, ?_⟩⟩; rw [<- Sk Hs x B m c' ys hm, <- htk, Array.toList_setIfInBounds, List.take_set]
structure Rdy (w : World) (t : Value) (Hs : List H) : Prop where
 sl : ∃ (B : Option Addr) (cap : Nat), t = .slice B Hs.length cap /\ ∀ i h, Hs[i]? = some h -> ∃ g, B = some ⟨g, 0, none⟩ /\ w.cell? ⟨g, i * 2, none⟩ = some (.slice h.A h.row.length h.cap) /\ w.cell? ⟨g, i * 2 + 1, none⟩ = some (.slice h.B h.xs.length h.rc)
 key : ∀ h ∈ Hs, xi w h.A h.row
 rows : ∀ h ∈ Hs, xe w h.B h.xs
theorem Mm {w : World} {base n c : Nat} {B : Option Addr} {Hs : List H} (h : w.ownsRow base 218 2 (.slice B n c) n (qx Hs)) : ∀ i x, Hs[i]? = some x -> ∃ g, B = some ⟨g, 0, none⟩ /\ w.cell? ⟨g, i * 2, none⟩ = some (.slice x.A x.row.length x.cap) /\ w.cell? ⟨g, i * 2 + 1, none⟩ = some (.slice x.B x.xs.length x.rc) := fun i x hx => by
 rcases jg h with ⟨_, h0, _⟩ | ⟨g, e, o, _⟩
 ·have hl := h.1; rw [j7] at hl; have := (qQ9.1 hx).1; omega
 ·obtain ⟨a, b⟩ := LQ Hs i x hx; have ca := h.cells o _ _ a; have cb := h.cells o _ _ b; rw [zQ, Nat.zero_add] at ca cb; exact ⟨g, e, ca, cb⟩
structure F9 (es : List E) (z : List Z) (xs : List I) (Hs : List H) : Prop where
 nd : (Hs.map H.row).Nodup
 mem : ∀ q, q ∈ Hs.map H.row ↔ q ∈ xG es z
 zs : ∀ h ∈ Hs, h.xs.map zh = jm es z h.row
 sub : ∀ h ∈ Hs, ∀ u ∈ h.xs, u ∈ xs
 len : Hs.length <= 400
theorem TW (xs : List I) : (xs.filter (fun x => decide (0 < x.w))).map zh = pg (xs.map zh) := by
 unfold pg; rw [List.filter_map]; rfl
theorem zat {K : KJ} {w wr wq : World} {es : List E} {xs : List I} {B : Option Addr} {M L : List J} {Hs : List H} (hc : N4 w wr es xs xs.length L) (hp : M.Perm L) (hu : Uv K M) (ht : L.Pairwise Ft) (hm : N7 w wq B M M.length Hs) (hlen : xs.length <= 400) (hne : ¬ (es.length = 0 /\ Hs.length = 0)) : F9 es (xs.map zh) xs Hs := by
 have hg := hm.grp; rw [List.take_length] at hg; have mapL : L.map J.x = xs.filter (fun x => decide (0 < x.w)) := by rw [hc.map, List.take_length]
 have zL : (L.map J.x).map zh = pg (xs.map zh) := by rw [mapL, TW]
 have memK : ∀ q, q ∈ Hs.map H.row ↔ ∃ y ∈ L, y.row = q := fun q => by
  constructor
  ·intro hq; obtain ⟨x, hx, rfl⟩ := List.mem_map.1 hq; obtain ⟨y, hy, e⟩ := hg.of _ (qZ9 (f := fun h : H => (h.row, h.xs)) hx); exact ⟨y, hp.mem_iff.1 hy, e.symm⟩
  ·rintro ⟨y, hy, rfl⟩; obtain ⟨p, hp1, e⟩ := hg.all y (hp.mem_iff.2 hy); obtain ⟨x, hx, rfl⟩ := List.mem_map.1 hp1; exact List.mem_map.2 ⟨x, hx, e⟩
 have memL : ∀ q, (∃ y ∈ L, y.row = q) ↔ ∃ r ∈ pg (xs.map zh), yJ es r.1 = q := fun q => by
  rw [<- zL]
  constructor
  ·rintro ⟨y, hy, rfl⟩; exact ⟨zh y.x, qZ9 (qZ9 hy), (hc.key y hy).1.symm⟩
  ·rintro ⟨r, hr, rfl⟩; obtain ⟨x, hx, rfl⟩ := List.mem_map.1 hr; obtain ⟨y, hy, rfl⟩ := List.mem_map.1 hx; exact ⟨y, hy, (hc.key y hy).1⟩
 have xsE : ∀ h ∈ Hs, h.xs = (L.filter (fun y => decide (y.row = h.row))).map J.x := fun h hh => by
  have := hg.xs _ (qZ9 (f := fun h : H => (h.row, h.xs)) hh); rw [zcT hp hu ht] at this; exact this
 refine ⟨?_, fun q => ?_, fun h hh => ?_, fun h hh u hu1 => ?_, ?_⟩
 ·have := hg.up; rw [List.pairwise_map] at this; unfold List.Nodup; rw [List.pairwise_map]; refine List.Pairwise.imp (fun {a b} h e => ?_) this; simp only [e, Xl] at h; omega
 ·rw [memK, memL, XF]
  constructor
  ·exact .inr
  ·rintro (⟨h0, rfl⟩ | h)
   ·have h1 : Hs ≠ [] := fun e => hne ⟨h0, by rw [e]; rfl⟩
    obtain ⟨x, hx⟩ := List.exists_mem_of_ne_nil _ h1; obtain ⟨y, hy, e⟩ := (memK x.row).1 (qZ9 hx); obtain ⟨r, hr, e2⟩ := (memL x.row).1 ⟨y, hy, e⟩; refine ⟨r, hr, ?_⟩; have : es = [] := List.length_eq_zero_iff.1 h0; rw [this]; rfl
   ·exact h
 ·rw [xsE h hh, List.map_map]; unfold jm; rw [<- zL, List.map_map, List.filter_map]; congr 1; refine List.filter_congr (fun y hy => ?_); simp only [Function.comp, zh]; rw [(hc.key y hy).1]; exact decide_eq_decide.2 Iff.rfl
 ·rw [xsE h hh] at hu1; obtain ⟨y, hy, rfl⟩ := List.mem_map.1 hu1; have h1 : y.x ∈ L.map J.x := qZ9 (List.mem_filter.1 hy).1; rw [mapL] at h1; exact (List.mem_filter.1 h1).1
 ·have h1 : (Hs.map H.row).Nodup := by
   have := hg.up; rw [List.pairwise_map] at this; unfold List.Nodup; rw [List.pairwise_map]; refine List.Pairwise.imp (fun {a b} h e => ?_) this; simp only [e, Xl] at h; omega
  have h2 : (Hs.map H.row).length <= (L.map J.row).length := by
   exact List.Nodup.length_le_of_subset h1 (fun q hq => by
    obtain ⟨y, hy, e⟩ := (memK q).1 hq
    exact List.mem_map.2 ⟨y, hy, e⟩)
  have h3 := hc.len (Nat.le_refl _); simp at h2; omega
def Cc (es : List E) (aggs : List Ag) (z : List Z) (w w' : World) (en : Ending) : Prop := ∃ (B : Option Addr) (ys : List I) (cap : Nat) (l : List (List V)), en = .returned (.slice B ys.length cap) /\ xe w' B ys /\ yf B ys.length cap /\ ys.map zh = l.map (Xp es aggs z) /\ l.Nodup /\ (∀ q, q ∈ l ↔ q ∈ xG es z) /\ za w w'
theorem Bt {w : World} {y : J} (h : WN w y) : ∀ j u, (zr [y.x])[j]? = some u -> w.cell? ((⟨y.b, 0, none⟩ : Addr).add j) = some u := fun j u hj => by
 rw [zQ, zb.cell h]
 match j, hj with
 | 0, hj => simp [zr] at hj; subst hj; rfl
 | 1, hj => simp [zr] at hj; subst hj; rfl
theorem UF {wz w1 w' : World} {g o b1 n1 c1 s1 b2 n2 s2 : Nat} {u : Value} {e1 e2 : TypeId} {v2 : Value} {x1 x2 : List Value} (h : wz.cell? ⟨g, o, none⟩ = some u) (hg : za wz w1) (o1 : w1.ownsRow b1 e1 s1 (.slice (some ⟨g, 0, none⟩) n1 c1) n1 x1) (o2 : w1.ownsRow b2 e2 s2 v2 n2 x2) (hne : e1 ≠ e2) (hgr : w1.grownBy w' v2.ownBlock) : w'.cell? ⟨g, o, none⟩ = some u := by
 refine hgr.cell (hg.cell h) (fun e => ?_); obtain ⟨_, cs, c1⟩ := qr o1 rfl; obtain ⟨_, cs', c2⟩ := qr o2 e.symm; exact hne (xk c1 c2)
theorem S4 {α : Type} (l : List α) : l = [] \/ ∃ m x, l = m ++ [x] := by
 rcases l.eq_nil_or_concat with h | ⟨m, x, h⟩
 ·exact .inl h
 ·exact .inr ⟨m, x, by rw [h]; simp⟩
theorem PE (cols : List Int) (es : List E) (Ae : Option Addr) (ce : Nat) (aggs : List Ag) (Aa : Option Addr) (ca : Nat) (xs : List I) (A : Option Addr) (c : Nat) (w : World) (ok : jQ cols es aggs (xs.map zh)) (hE : WW w Ae es) (hA : XZ w Aa aggs) (h : In w ⟨A, xs, c⟩) :
  Calls Tryz.prog 200 #[.slice Ae es.length ce, .slice Aa aggs.length ca, .slice A xs.length c] w fun en w' => Cc es aggs (xs.map zh) w w' en := by
 have HI := hh_ h; have HE := hh_ hE; have HA := hh_ hA; have OK := hh_ ok; obtain ⟨_, hwz, hfit⟩ := zE ok.z; obtain ⟨a1, a2, a3, a4⟩ := S.facts (s := ⟨A, xs, c⟩) hwz; have a1 : xs.length <= 400 := a1; obtain ⟨he8, hty⟩ := ql ok.es; have hn := ok.n
 have up : xs.Pairwise (fun x y => zK x.row y.row < 0) := by
  have h1 := (SM.of hwz).up; rw [List.pairwise_map] at h1; exact h1
 have hre : ∀ x ∈ xs, ∀ e ∈ es, RE x.row.length e := fun x hx e he => by
  obtain ⟨T, hok⟩ := kR (hty e he); have hl := ((y7 cols x.row).1 (hfit (zh x) (qZ9 hx))).1; rw [hl]; exact QH e hok.ty
 have hkey : ∀ x ∈ xs, (∀ v ∈ yJ es x.row, RV v) /\ zd (yJ es x.row) = yJ es x.row := fun x hx => by
  refine ⟨fun v hv => ?_, ?_⟩
  ·obtain ⟨e, he, rfl⟩ := List.mem_map.1 hv; exact JF (hty e he) (hfit (zh x) (qZ9 hx))
  ·exact yo_
 have A2 := hh_ a2; have A3 := hh_ a3; have A4 := hh_ a4; have UP := hh_ up; have HRE := hh_ hre; have HKEY := hh_ hkey; obtain ⟨z, hz⟩ : ∃ z, xs.map zh = z := ⟨_, rfl⟩
 rw [hz] at OK ⊢; have HZ := hh_ hz; clear h hE hA ok hwz hfit a2 a3 a4 hty up hre hkey hz; go_enter Tryz.func200, Tryz.ntmps200; go_wp2
 go_loopw [7, 21] (fun t i wr => ∃ (k : Nat) (L : List J), k <= xs.length /\ i = .int .i64 k /\ wr.ownsRow w.heap.size 218 2 t L.length (xS L) /\ N4 w wr es xs k L /\ za w wr) (fun _ i _ => xs.length - (intOf i).toNat)
 case atStart => exact ⟨0, [], Nat.zero_le _, rfl, World.ownsRow_nil _ _ _ _, N4.nil _ _ _ _, za.refl _⟩
 case round =>
  obtain ⟨k, L, hk, rfl, hown, hcol, hg⟩ := hrel; have Own := hh_ hown; have CL := hh_ hcol; have lL := hcol.len hk; clear hown hcol
  by_cases hlt : k < xs.length
  ·obtain ⟨x, hxk⟩ : ∃ x, xs[k]? = some x := ⟨_, qQ_ hlt⟩
   obtain ⟨gx, ox, rfl, c1, c2, hxv⟩ := (HI.out.z.grow hg) k x hxk; have hm := qZ_ hxk; have lx := A2.out x hm; have cv := fun W (h : za wr W) => XS es Ae ce x.row x.A x.cap W uX_ uX_ (HE.out.grow (hg.trans h)) (HRE.out x hm) (A3.out x hm) (hxv.grow h)
   have HXK := hh_ hxk; clear hxk hxv; go_upto_region 5 with fail
   refine zc (fun Z => zb Z wr.heap.size 53 #[.slice x.A x.row.length x.cap, .int .i64 x.w] /\ za wr Z) ⟨zb.new _ _ _, (za.refl wr).al _⟩ ?_; generalize hsz : wr.heap.size = g9; rintro Z ⟨Bz, Gz⟩; have BZ := hh_ Bz; have HS := hh_ hsz; obtain ⟨bz, fz⟩ := Bz.rules; clear c1 c2 Bz hsz
   by_cases hw : 0 < x.w
   ·have dw : decide (0 < x.w) = true := decide_eq_true hw; obtain ⟨KX, hKX⟩ : ∃ q, yJ es x.row = q := ⟨_, rfl⟩
    have lkx : KX.length = es.length := by rw [<- hKX]; simp [yJ]
    rw [show es.map (yu x.row) = KX from hKX] at cv; have HKX := hh_ hKX; have LKX := hh_ lkx; clear hKX lkx; go_upto_region 6 with fail
    clear bz fz; apply wp_region_calm 9 uQ_ uQ_
    case h' =>
     intro Q0 hQ0; simp only [List.take_succ_cons, List.take_zero]
     repeat ((first | ((first | apply calm_p rfl | apply zu rfl rfl rfl); case h1 => (intro w1 hw1 hF K hK; obtain ⟨bz, fz⟩ := (BZ.out.grow hw1).rules; go_simp; first | exact hK _ (za.refl _))) | apply zw rfl rfl rfl rfl); intro K hK; go_simp; apply hK; clear hK K)
     apply calm_fp (fun v W => ∃ (B : Option Addr) (cap : Nat), v = .slice B es.length cap /\ KV W B KX) rfl
     case h1 =>
      intro w1 hw1 hF K1 hK1; go_simp
      go_at_call 24
      refine (cv w1 (Gz.trans hw1)).mono ?_; rintro en w' ⟨B, cap, rfl, ho, hg'⟩; exact ⟨_, rfl, hK1 _ _ hg' ⟨B, cap, rfl, Ef LKX.out ho⟩⟩
     intro v32 K1 hK1; go_simp; apply hK1; clear hK1 K1
     repeat ((first | ((first | apply calm_p rfl | apply zu rfl rfl rfl); case h1 => (intro w1 hw1 hF K hK; obtain ⟨bz, fz⟩ := (BZ.out.grow hw1).rules; go_simp; first | exact hK _ (za.refl _))) | apply zw rfl rfl rfl rfl); intro K hK; go_simp; apply hK; clear hK K)
     apply calm_fp (fun v W => ∃ b, v = .slice (some ⟨b, 0, none⟩) 1 1 /\ Z.heap.size <= b /\ zb W b 53 #[.slice x.A x.row.length x.cap, .int .i64 x.w]) rfl
     case h1 =>
      intro w1 hw1 hF K1 hK1; go_simp; exact hK1 _ _ ((za.refl _).al _) ⟨_, rfl, hw1.size, zb.new _ _ _⟩
     intro v34 K1 hK1; go_simp; apply hK1; clear hK1 K1; apply calm_fp (fun v W => ∃ (B : Option Addr) (cap b : Nat), v = .agg #[.slice B es.length cap, .slice (some ⟨b, 0, none⟩) 1 1] /\ KV W B KX /\ Z.heap.size <= b /\ zb W b 53 #[.slice x.A x.row.length x.cap, .int .i64 x.w]) rfl
     case h1 =>
      intro w1 hw1 hF K1 hK1; obtain ⟨b, e34, hb, Bb⟩ := hF _ (List.mem_cons_self ..) ⟨_, rfl, by decide⟩; obtain ⟨B, cap, e32, kv⟩ := hF _ (List.mem_cons_of_mem _ (List.mem_cons_self ..)) ⟨_, rfl, by decide⟩; subst e34 e32; go_simp; exact hK1 _ _ (za.refl _) ⟨B, cap, b, rfl, kv, hb, Bb⟩
     intro v35 K1 hK1; go_simp; apply hK1; clear hK1 K1; apply calm_fp (fun v W => ∃ (g : Nat) (B : Option Addr) (cap b : Nat), v = .slice (some ⟨g, 0, none⟩) 1 1 /\ zb W g 218 #[.slice B es.length cap, .slice (some ⟨b, 0, none⟩) 1 1] /\ KV W B KX /\ Z.heap.size <= b /\ zb W b 53 #[.slice x.A x.row.length x.cap, .int .i64 x.w]) rfl
     case h1 =>
      intro w1 hw1 hF K1 hK1; obtain ⟨B, cap, b, e35, kv, hb, Bb⟩ := hF _ (List.mem_cons_self ..) ⟨_, rfl, by decide⟩; subst e35; go_simp; exact hK1 _ _ ((za.refl _).al _) ⟨_, B, cap, b, rfl, zb.new _ _ _, kv.grow ((za.refl _).al _), hb, Bb.al _⟩
     intro v36 K1 hK1; go_simp; apply hK1; clear hK1 K1; refine calm_nil ?_; intro w1 hw1 hF; apply hQ0; clear hQ0; simp only [List.drop_succ_cons, List.drop_zero]; obtain ⟨g, B, cap, b, rfl, Bg, kv, hb, Bb⟩ := hF _ (List.mem_cons_self ..); have BG := hh_ Bg; have KVV := hh_ kv; have BB := hh_ Bb; have Own1 := hh_ (zi Own.out (Gz.trans hw1)); have G1 := hg.trans (Gz.trans hw1); clear hF Bg kv Bb
     go_wp2_with (at_builtin; refine jl rfl _ _ rfl w.heap.size _ _ _ rfl Own1.out g 1 B (some ⟨b, 0, none⟩) es.length cap 1 1 rfl BG.out uX_ G1.size ?_; intro v7 w7 own7 gr7)
     have G7 : za w w7 := zy G1 gr7 Own1.out; have CL7 := hh_ (N4.add (y := ⟨B, KX, cap, x, b⟩) CL.out (Gz.trans hw1) HXK.out hw HKX.out.symm KVV.out BB.out (by have := Gz.size; show wr.heap.size <= b; omega) hg.size Own1.out gr7); have Own7 := hh_ (show w7.ownsRow w.heap.size 218 2 v7 (L ++ [J.mk B KX cap x b]).length (xS (L ++ [J.mk B KX cap x b])) by rw [Qf]; simp only [xS, List.length_append, List.length_singleton, LKX.out]; exact own7); clear own7 gr7; go_wp2; go_roundw
     case rel => exact ⟨k + 1, L ++ [J.mk B KX cap x b], by omega, by go_num, Own7.out, CL7.out, G7⟩
     case measure => exact u1_
    case hp' => exact ⟨fun v w w' hg ⟨B, cap, e, h⟩ => ⟨B, cap, e, h.grow hg⟩, fun v w w' hg ⟨b, e, h, h2⟩ => ⟨b, e, h, h2.grow hg⟩, fun v w w' hg ⟨B, cap, b, e, h, h1, h2⟩ => ⟨B, cap, b, e, h.grow hg, h1, h2.grow hg⟩, fun v w w' hg ⟨g, B, cap, b, e, h0, h, h1, h2⟩ => ⟨g, B, cap, b, e, h0.grow hg, h.grow hg, h1, h2.grow hg⟩, trivial⟩
   ·have dw : decide (0 < x.w) = false := decide_eq_false hw; go_wp2; go_roundw
    case rel => exact ⟨k + 1, L, by omega, by go_num, zi Own.out Gz, (CL.out.grow Gz).skip HXK.out hw, hg.trans Gz⟩
    case measure => exact u1_
  ·obtain rfl : k = xs.length := by omega
   obtain ⟨B, cap, rfl⟩ := yV Own.out
   have tgL : L.Pairwise Ft := by
    have h1 : (L.map J.x).Pairwise (fun x y => zK x.row y.row < 0) := by
     rw [CL.out.map, List.take_length]; exact UP.out.filter _
    rw [List.pairwise_map] at h1; exact h1
   have inx : ∀ y ∈ L, y.x ∈ xs := fun y hy => by
    have h1 : y.x ∈ L.map J.x := qZ9 hy; rw [CL.out.map] at h1; exact List.mem_of_mem_take (List.mem_filter.1 h1).1
   have keyL : ∀ y ∈ L, (∀ v ∈ y.row, RV v) /\ y.row.length <= 8 /\ KV wr y.A y.row := fun y hy => ⟨by rw [(CL.out.key y hy).1]; exact (HKEY.out y.x (inx y hy)).1, by rw [(CL.out.key y hy).1]; simp [yJ]; omega, (CL.out.key y hy).2⟩
   have cs := Bq ⟨()⟩ L B cap w wr hg Own.out keyL (fun y hy => (CL.out.row y hy).1) uX_ tgL; have TG := hh_ tgL; have INX := hh_ inx; clear tgL inx keyL; go_upto_region 9 with (go_at_call 212; (with_reducible refine cs.mono ?_); rintro e w5 ⟨rfl, ⟨M, pM, uM, sM, kM⟩, hg5⟩); have lM : M.length = L.length := pM.length_eq; have PM := hh_ pM; have UM := hh_ uM; have SM5 := hh_ sM; have M0 := hh_ (N7.start (w := w) sM kM (fun y hy => (CL.out.row y (pM.mem_iff.1 hy)).2) ((pM.map J.b).nodup_iff.2 CL.out.nd)); clear pM uM sM kM cs; go_wp2
   go_loopw [10, 43] (fun t i wq => ∃ (k : Nat) (Hs : List H), k <= L.length /\ i = .int .i64 k /\ wq.ownsRow w5.heap.size 218 2 t Hs.length (qx Hs) /\ Hs.length <= k /\ N7 w wq B M k Hs /\ w5.heap.size <= wq.heap.size /\ za w wq) (fun _ i _ => L.length - (intOf i).toNat)
   case atStart => exact ⟨0, [], Nat.zero_le _, rfl, World.ownsRow_nil _ _ _ _, Nat.le_refl _, M0.out, Nat.le_refl _, hg5⟩
   case round =>
    rename World => wq
    obtain ⟨k, Hs, hk, rfl, hown, hlH, hmer, hs5, hgq⟩ := hrel; have OwnH := hh_ hown; have ME := hh_ hmer; clear hown hmer
    by_cases hlt2 : k < L.length
    ·obtain ⟨y, hyk⟩ : ∃ y, M[k]? = some y := ⟨_, qQ_ uX_⟩
     have hyM := qZ_ hyk; have hyL := PM.out.mem_iff.1 hyM; have hyx := HKEY.out y.x (INX.out y hyL); have eyr := (CL.out.key y hyL).1; have yrv : (∀ v ∈ y.row, RV v) /\ zd y.row = y.row := by rw [eyr]; exact hyx
     have yl : y.row.length <= 8 := by rw [eyr]; simp [yJ]; omega
     have YRV := hh_ yrv; have HYK := hh_ hyk
     obtain ⟨gB, eB, hgB, dbx⟩ : ∃ g, B = some ⟨g, 0, none⟩ /\ g < w5.heap.size /\ Xd wq g M := by
      have hne : M ≠ [] := fun e => by rw [e] at hyk; simp at hyk
      rcases ME.out.src with h | ⟨g, e, d⟩
      ·exact absurd h hne
      ·rcases SM5.out with h | ⟨g', e', d'⟩
       ·exact absurd h hne
       ·rw [e] at e'; simp at e'; subst e'; exact ⟨g, e, d'.lt, d⟩
     subst eB; obtain ⟨c1, c2⟩ := dbx.at hyk; have hapM : ∀ g, (some ⟨gB, 0, none⟩ : Option Addr) = some ⟨g, 0, none⟩ -> g < w5.heap.size := fun g e => by simp at e; omega
     have HAP := hh_ hapM; clear hyk hyx eyr yrv dbx hapM hyM; go_upto_region 13 with fail
     refine zc (fun Z => zb Z wq.heap.size 218 #[.slice y.A y.row.length y.cap, .slice (some ⟨y.b, 0, none⟩) 1 1] /\ za wq Z) ⟨zb.new _ _ _, (za.refl wq).al _⟩ ?_; generalize hsz : wq.heap.size = g12; rintro Z ⟨Bz, Gz⟩; have HS := hh_ hsz; have BZ := hh_ Bz; have GZ := hgq.trans Gz; obtain ⟨bz, fz⟩ := Bz.rules; clear c1 c2 Bz hsz; rcases S4 Hs with rfl | ⟨Hs0, x, rfl⟩
     ·obtain ⟨Bh, caph, rfl⟩ := yV OwnH.out; have hw1 : IntKind.i64.wrap (-1) = -1 := by decide
      go_upto_region 14 with fail
      clear bz fz; apply wp_region_calm 13 uQ_ uQ_
      case h' =>
       intro Q0 hQ0; simp only [List.take_succ_cons, List.take_zero]
       repeat ((first | ((first | apply calm_p rfl | apply zu rfl rfl rfl); case h1 => (intro w1 hw1 hF K hK; obtain ⟨bz, fz⟩ := (BZ.out.grow hw1).rules; go_simp; first | exact hK _ (za.refl _))) | apply zw rfl rfl rfl rfl); intro K hK; go_simp; apply hK; clear hK K)
       refine calm_nil ?_; intro w1 hw1 hF; apply hQ0; clear hQ0; simp only [List.drop_succ_cons, List.drop_zero]; clear hF; obtain ⟨bz, fz⟩ := (BZ.out.grow hw1).rules; have gwA := hw1; have Own1 := hh_ (zi OwnH.out (Gz.trans hw1)); have G1 := GZ.trans hw1
       go_wp2_with (at_builtin; refine jl rfl _ _ rfl w5.heap.size _ _ _ rfl (Own1.out.alloc _) _ 1 y.A (some ⟨y.b, 0, none⟩) y.row.length y.cap 1 1 rfl (zb.new _ _ _) uX_ vA_ ?_; intro v7 w7 own7 gr7)
       have gr7' := World.grownBy.trans (World.grownBy_alloc w1 (.cells #[.slice y.A y.row.length y.cap, .slice (some ⟨y.b, 0, none⟩) 1 1] 218) _) gr7; have G7 : za w w7 := za.own (G1.al _) gr7 (fun i hi => by have := (qr Own1.out hi).1; have := hg5.size; omega); have ME7 := hh_ (N7.new (ME.out.grow (Gz.trans hw1)) HYK.out (fun u hu => by simp at hu) Own1.out HAP.out gr7'); have Own7 := hh_ (show w7.ownsRow w5.heap.size 218 2 v7 ([] ++ [GE y]).length (qx ([] ++ [GE y])) by simpa [qx] using own7); have S7 : w5.heap.size <= w7.heap.size := by have := gr7'.size; have := (Gz.trans hw1).size; omega
       clear own7 gr7 gr7'; go_wp2; go_roundw
       case rel => exact ⟨k + 1, [] ++ [GE y], by omega, by go_num, Own7.out, by simp, ME7.out, S7, G7⟩
       case measure => exact u1_
      case hp' => trivial
     ·obtain ⟨n0, hn0⟩ : ∃ n0, Hs0.length = n0 := ⟨_, rfl⟩
      have ln : (Hs0 ++ [x]).length = n0 + 1 := by simp [hn0]
      rw [ln] at OwnH hlH
      obtain ⟨gh, caph, eu, hgh⟩ : ∃ gh caph, u10 = .slice (some ⟨gh, 0, none⟩) (n0 + 1) caph /\ w5.heap.size <= gh := by
       obtain ⟨B1, c1, e1⟩ := yV OwnH.out; have o1 := OwnH.out; rw [e1] at o1; rcases jg o1 with ⟨_, h0, _⟩ | ⟨g, e, _, hb, _⟩
       ·omega
       ·exact ⟨g, c1, by rw [e1, e], hb⟩
      subst eu; have hxH : x ∈ Hs0 ++ [x] := by simp
      obtain ⟨gg, eg, cx0, cx1⟩ := Mm (OwnH.out) n0 x (by rw [<- hn0]; simp); obtain rfl : gh = gg := by simpa using eg
      have CX0 := hh_ (Gz.cell cx0); have CX1 := hh_ (Gz.cell cx1); have HN0 := hh_ hn0
      have xg : ∃ u ∈ M.take k, x.row = u.row := by
       obtain ⟨u, hu, e⟩ := ME.out.grp.of (x.row, x.xs) (by rw [List.map_append]; simp); exact ⟨u, hu, e⟩
      have xr : (∀ v ∈ x.row, RV v) /\ zd x.row = x.row /\ x.row.length <= 8 := by
       obtain ⟨u, hu, e⟩ := xg; have huL := PM.out.mem_iff.1 (List.mem_of_mem_take hu); have h1 := (CL.out.key u huL).1; have h2 := HKEY.out u.x (INX.out u huL); rw [e, h1]; exact ⟨h2.1, h2.2, by simp [yJ]; omega⟩
      have lxs : x.xs.length <= 400 := by
       have h1 := ME.out.grp.xs (x.row, x.xs) (by rw [List.map_append]; simp)
       have h2 : x.xs.length <= (M.take k).length := by
        show (x.row, x.xs).2.length <= _; rw [h1, List.length_map]; exact List.length_filter_le _ _
       rw [List.length_take] at h2; omega
      have kx := (ME.out.key x hxH).grow Gz; have ky := (ME.out.keyM y (qZ_ HYK.out)).grow Gz; have lxr := xr.2.2; have cr := fun W (h : za Z W) => qY x.row y.row x.A y.A x.cap y.cap W uX_ uX_ (kx.1.grow h) (ky.1.grow h)
      obtain ⟨d, hd⟩ : ∃ d, zv x4 x.row y.row = d := ⟨_, rfl⟩
      rw [hd] at cr; have hdo : zK x.row y.row = d := by rw [<- hd]; exact (yg x.row y.row xr.1 YRV.out.1).symm
      have hd0 : d = 0 -> x.row = y.row := fun h => by
       have h1 := (yR x.row y.row xr.1 YRV.out.1).1 (hdo.trans h); rw [xr.2.1, YRV.out.2] at h1; exact h1
      have HD := hh_ (And.intro hdo hd0); have hw1 : IntKind.i64.wrap (n0 : Int) = (n0 : Int) := by rw [IntKind.wrap_i64]; omega
      have hw2 : IntKind.i64.wrap ((n0 : Int) + 1 - 1) = (n0 : Int) := by rw [IntKind.wrap_i64]; omega
      have p0 : (0 : Int) <= (n0 : Int) := by omega
      have p1 : (n0 : Int) < (n0 : Int) + 1 := by omega
      have dge : decide ((0 : Int) <= (n0 : Int)) = true := decide_eq_true p0; clear cx0 cx1 eg hn0 xg xr hd hdo hd0 kx ky ln; go_upto_region 14 with fail
      clear bz fz; apply wp_region_calm 13 uQ_ uQ_
      case h' =>
       intro Q0 hQ0; simp only [List.take_succ_cons, List.take_zero]
       repeat ((first | ((first | apply calm_p rfl | apply zu rfl rfl rfl); case h1 => (intro w1 hw1 hF K hK; obtain ⟨bz, fz⟩ := (BZ.out.grow hw1).rules; have cx0 := hw1.cell CX0.out; go_simp; first | exact hK _ (za.refl _) | (go_at_call 27; ((with_reducible refine (cr w1 hw1).mono ?_); rintro e w' ⟨rfl, hg⟩; exact ⟨_, rfl, hK _ hg⟩)))) | apply zw rfl rfl rfl rfl); intro K hK; go_simp; apply hK; clear hK K)
       refine calm_nil ?_; intro w1 hw1 hF; apply hQ0; clear hQ0; simp only [List.drop_succ_cons, List.drop_zero]; clear hF; rename za Z w1 => gw1
       have G1 := GZ.trans gw1
       by_cases h0 : d = 0
       ·have d0 : (d == 0) = true := by simpa using h0
        go_upto_region 15 with fail
        have ox := hh_ (zi (ME.out.own x hxH) (Gz.trans gw1)); have ry := hh_ (show WN w1 y from zb.grow (ME.out.rowM y (by rw [YO HYK.out]; simp)) (Gz.trans gw1)); have oh := hh_ (zi OwnH.out (Gz.trans gw1)); have me := hh_ (ME.out.grow (Gz.trans gw1)); obtain ⟨csH, bgh'⟩ := (qr oh.out rfl).2; have bgh := hh_ bgh'; clear bgh'; have hcy := hh_ (Bt ry.out); have hs1 : w5.heap.size <= w1.heap.size := by have := (Gz.trans gw1).size; omega
        have cx1 := gw1.cell CX1.out; obtain ⟨bz, fz⟩ := (BZ.out.grow gw1).rules; have hw5 := hg5.size
        go_region_law (refine We rfl _ _ rfl w.heap.size _ x.xs.length x.xs rfl ox.out ⟨y.b, 0, none⟩ 1 [y.x] rfl hcy.out uN_ G1.size ?_; intro B' c' w' own' gr0 at'; have gr' : w1.grownBy w' (Value.slice x.B x.xs.length x.rc).ownBlock := ⟨gr0.os, gr0.tape, gr0.output, gr0.size, gr0.block⟩; clear gr0; have hb' : zb w' gh 218 csH := XB bgh.out ox.out uW_ gr'; have fh' := hb'.frozen (n0 * 2 + 1); have ch' : w'.cell? ⟨gh, n0 * 2 + 1, none⟩ = some (.slice x.B x.xs.length x.rc) := UF CX1.out gw1 oh.out ox.out uW_ gr'; have Own' := hh_ own'; have Gr' := hh_ gr'; have At' := hh_ at'; have HB' := hh_ hb'; clear own' gr' at' hb')
        all_goals (
         have oh2 : w'.ownsRow w5.heap.size 218 2 (.slice (some ⟨gh, 0, none⟩) (n0 + 1) caph) (n0 + 1) (qx (Hs0 ++ [x])) := oh.out.kept Gr'.out (Ml oh.out ox.out uW_); have oh3 := Eg oh2 B' c' (x.xs ++ [y.x]) (x.xs.length + 1) uY_; rw [HN0.out] at oh3; have me3 := hh_ (me.out.same HYK.out (HD.out.2 h0) Gr'.out Own'.out At'.out HB'.out (fun g e => by simp at e; omega) (GX.set (GX.refl gh w') (n0 * 2 + 1) (.slice B' (x.xs.length + 1) c'))); have G7 : za w w' := za.own G1 Gr'.out (fun i hi => (qr ox.out hi).1); have G8 := za.set (p := ⟨gh, n0 * 2 + 1, none⟩) G7 (by show w.heap.size <= gh; omega) (.slice B' (x.xs.length + 1) c'); have S8 : w5.heap.size <= w'.heap.size := by have := Gr'.out.size; omega
         have OH3 := hh_ oh3; clear oh2 oh3 fh' ch' bz fz cx1 cr; go_wp2; go_roundw
         case rel => exact ⟨k + 1, Hs0 ++ [{ x with xs := x.xs ++ [y.x], B := B', rc := c' }], by omega, by go_num, by simpa [HN0.out] using OH3.out, by simp [HN0.out]; omega, me3.out, by simpa [World.setCell] using S8, G8⟩
         case measure => simp [intOf]; omega)
       ·have d0 : (d == 0) = false := by simpa using h0
        have gwA := gw1
        have lt : ∀ u ∈ Hs0 ++ [x], zK u.row y.row < 0 := by
         have h1 := ME.out.grp; rw [List.map_append] at h1; intro u hu; exact za5 UM.out HYK.out h1 (by rw [HD.out.1]; exact h0) (u.row, u.xs) (by rw [show [(x.row, x.xs)] = [x].map (fun h : H => (h.row, h.xs)) from rfl, <- List.map_append]; exact qZ9 (f := fun h : H => (h.row, h.xs)) hu)
        have LT := hh_ lt; clear lt; obtain ⟨bz, fz⟩ := (BZ.out.grow gw1).rules; have Own1 := hh_ (zi OwnH.out (Gz.trans gw1))
        go_wp2_with (at_builtin; refine jl rfl _ _ rfl w5.heap.size _ _ _ rfl (Own1.out.alloc _) _ 1 y.A (some ⟨y.b, 0, none⟩) y.row.length y.cap 1 1 rfl (zb.new _ _ _) uX_ vA_ ?_; intro v7 w7 own7 gr7)
        have gr7' := World.grownBy.trans (World.grownBy_alloc w1 (.cells #[.slice y.A y.row.length y.cap, .slice (some ⟨y.b, 0, none⟩) 1 1] 218) _) gr7; have G7 : za w w7 := za.own (G1.al _) gr7 (fun i hi => by have := (qr Own1.out hi).1; have := hg5.size; omega); have ME7 := hh_ (N7.new (ME.out.grow (Gz.trans gw1)) HYK.out LT.out Own1.out HAP.out gr7'); have Own7 := hh_ (show w7.ownsRow w5.heap.size 218 2 v7 (Hs0 ++ [x] ++ [GE y]).length (qx (Hs0 ++ [x] ++ [GE y])) by rw [jW, show (Hs0 ++ [x] ++ [GE y]).length = n0 + 1 + 1 by simp [HN0.out]]; exact own7); have S7 : w5.heap.size <= w7.heap.size := by have := gr7'.size; have := (Gz.trans gw1).size; omega
        clear own7 gr7 gr7'; go_wp2; go_roundw
        case rel => exact ⟨k + 1, Hs0 ++ [x] ++ [GE y], by omega, by go_num, Own7.out, by simp [HN0.out]; omega, ME7.out, S7, G7⟩
        case measure => exact u1_
      case hp' => trivial
    ·have ek : k = L.length := by omega
     subst ek; obtain ⟨Bh, caph, rfl⟩ := yV OwnH.out; have hl9 : Hs.length <= 400 := by omega
     go_upto_region 18 with fail
     go_cut [87] (fun s wx => s = .bool (decide (es.length = 0 /\ Hs.length = 0)) /\ wx = wq)
     case first =>
      by_cases e1 : es.length = 0
      ·have d1 : ((es.length : Int) == 0) = true := by rw [beq_iff_eq]; omega
       by_cases e2 : Hs.length = 0
       ·have d2 : ((Hs.length : Int) == 0) = true := by rw [beq_iff_eq]; omega
        go_wp2; go_meet; exact ⟨by rw [decide_eq_true ⟨e1, e2⟩], rfl⟩
       ·have d2 : ((Hs.length : Int) == 0) = false := by rw [beq_eq_false_iff_ne]; omega
        go_wp2; go_meet; exact ⟨by rw [decide_eq_false (fun h => e2 h.2)], rfl⟩
      ·have d1 : ((es.length : Int) == 0) = false := by rw [beq_eq_false_iff_ne]; omega
       go_wp2; go_meet; exact ⟨by rw [decide_eq_false (fun h => e1 h.1)], rfl⟩
     case rest =>
     obtain ⟨rfl, hwc⟩ := hcut; subst wc; go_upto_if 87 with fail
     go_cut [10] (fun t wx => ∃ Hs' : List H, Rdy wx t Hs' /\ F9 es z xs Hs' /\ za w wx)
     case first =>
      by_cases hz0 : es.length = 0 /\ Hs.length = 0
      ·have dz : decide (es.length = 0 /\ Hs.length = 0) = true := decide_eq_true hz0
       have hM : M = [] := by
        have h1 := ME.out.grp; rw [List.length_eq_zero_iff.1 hz0.2, <- lM, List.take_length] at h1; rcases M with _ | ⟨y, M⟩
        ·rfl
        ·obtain ⟨q, hq, _⟩ := h1.all y uY_; simp at hq
       have hL : L = [] := by
        have h1 := PM.out.length_eq; rw [hM] at h1; exact List.length_eq_zero_iff.1 h1.symm
       have hpg : pg z = [] := by
        have h1 := CL.out.map; rw [hL, List.take_length] at h1; rw [<- HZ.out, <- TW, <- h1]; rfl
       have hT : F9 es z xs [⟨none, [], 0, [], none, 0⟩] := by
        have e0 : es = [] := List.length_eq_zero_iff.1 hz0.1; refine ⟨by simp, fun q => ?_, fun h hh => ?_, fun h hh u hu => ?_, by simp⟩
        ·rw [XF, hpg]; simp [e0]
        ·simp at hh; subst hh; unfold jm; rw [hpg]; rfl
        ·simp at hh; subst hh; simp at hu
       have HT := hh_ hT; clear hT hpg hL hM; go_wp2; go_meet; refine ⟨[⟨none, [], 0, [], none, 0⟩], ⟨⟨_, 1, rfl, fun i h hi => ?_⟩, fun h hh => ?_, fun h hh => ?_⟩, HT.out, hgq.al _⟩
       ·obtain rfl : i = 0 := by have := (qQ9.1 hi).1; simp at this; omega
        simp at hi; subst hi; have B := zb.new wq 218 #[.slice none 0 0, .slice none 0 0]; exact ⟨_, rfl, by rw [B.cell]; rfl, by rw [B.cell]; rfl⟩
       ·simp at hh; subst hh; exact fun i x hx => by simp at hx
       ·simp at hh; subst hh; exact zX _ _
      ·have hT : F9 es z xs Hs := by rw [<- HZ.out]; exact zat CL.out PM.out UM.out TG.out (show N7 w wq B M M.length Hs by rw [lM]; exact ME.out) uX_ hz0
       have HT := hh_ (And.intro hT (show Rdy wq (.slice Bh Hs.length caph) Hs from ⟨⟨Bh, caph, rfl, Mm OwnH.out⟩, fun h hh => (ME.out.key h hh).1, fun h hh => ND (ME.out.own h hh) (fun u hu => (HI.out.z.vsl u (hT.sub h hh u hu)).grow hgq)⟩)); clear hT; have dz : decide (es.length = 0 /\ Hs.length = 0) = false := decide_eq_false hz0; go_wp2; go_meet; exact ⟨Hs, HT.out.2, HT.out.1, hgq⟩
     case rest =>
      obtain ⟨Hs', rdy, told, G6⟩ := hcut; rename World => w6
      have RDY := hh_ rdy; have TD := hh_ told; obtain ⟨⟨Bg, capg, rfl, cel⟩, rk, rr⟩ := rdy; have CE := hh_ cel; have lH := told.len; clear cel rk rr told; go_wp2
      go_loopw [14, 92] (fun t i wq => ∃ (k : Nat) (out : List I), k <= Hs'.length /\ i = .int .i64 k /\ out.length = k /\ wq.ownsRow w6.heap.size 53 2 t out.length (zr out) /\ out.map zh = (Hs'.take k).map (fun h => Xp es aggs z h.row) /\ (∀ u ∈ out, KV wq u.A u.row) /\ za w6 wq) (fun _ i _ => Hs'.length - (intOf i).toNat)
      case atStart => exact ⟨0, [], Nat.zero_le _, rfl, rfl, World.ownsRow_nil _ _ _ _, rfl, fun u hu => by simp at hu, za.refl _⟩
      case round =>
       rename World => wv
       obtain ⟨k, out, hk, rfl, hlo, hown, hmap, hvs, hgv⟩ := hrel; have OwnO := hh_ hown; have MapO := hh_ hmap; have VsO := hh_ hvs; clear hown hmap hvs
       by_cases hlt : k < Hs'.length
       ·obtain ⟨h, hhk⟩ : ∃ h, Hs'[k]? = some h := ⟨_, qQ_ hlt⟩
        obtain ⟨gg, eg, c1, c2⟩ := CE.out k h hhk; subst eg; replace c1 := hgv.cell c1; replace c2 := hgv.cell c2; have hmem := qZ_ hhk; have HHK := hh_ hhk; have kr := OK.out.key ((TD.out.mem h.row).1 (qZ9 hmem)); have LR := hh_ kr.1; have zs := TD.out.zs h hmem; have sub := TD.out.sub h hmem; obtain ⟨q, hq⟩ : ∃ q, jm es z h.row = q := ⟨_, rfl⟩
        have ZS := hh_ (zs.trans hq)
        have lxs : h.xs.length <= 400 := by
         have h1 := congrArg List.length zs; have h2 : (jm es z h.row).length <= z.length := Nat.le_trans (List.length_filter_le _ _) (SN z); have h3 := congrArg List.length HZ.out; simp at h1 h3; omega
        have SUB := hh_ sub; have HQ := hh_ hq; clear hhk kr zs sub hq; go_upto_region 24 with fail
        refine zc (fun Z => zb Z wv.heap.size 218 #[.slice h.A h.row.length h.cap, .slice h.B h.xs.length h.rc] /\ za wv Z) ⟨zb.new _ _ _, (za.refl wv).al _⟩ ?_; generalize wv.heap.size = g16; rintro Z ⟨Bz, Gz⟩; have BZ := hh_ Bz; obtain ⟨bz, fz⟩ := Bz.rules; have kvz := (RDY.out.key h hmem).grow (hgv.trans Gz); have ziz := (RDY.out.rows h hmem).grow (hgv.trans Gz); have ZIZ := hh_ ziz; have cl := Ls h.row h.A h.cap Z (by have := LR.out; omega) kvz; clear c1 c2 Bz kvz ziz; go_upto_region 25 with (go_at_call 71; ((with_reducible refine cl.mono ?_); rintro e wcl ⟨Br, capr, rfl, ownr, hgc⟩)); have jM := hh_ ownr; have GZ := (G6.trans hgv).trans Gz; clear ownr cl bz fz; go_wp2
        go_loopw [17, 101] (fun t i wd => ∃ j : Nat, j <= aggs.length /\ i = .int .i64 j /\ wd.ownsRow Z.heap.size 33 3 t (h.row.length + j) (zN (h.row ++ (aggs.take j).map (fun a => Ze a q))) /\ za Z wd) (fun _ i _ => aggs.length - (intOf i).toNat)
        case atStart => exact ⟨0, Nat.zero_le _, rfl, by simpa using jM.out, hgc⟩
        case round =>
         rename World => wd
         obtain ⟨j, hj, rfl, hown, hgd⟩ := hrel; have OwnD := hh_ hown; clear hown
         by_cases hlt2 : j < aggs.length
         ·obtain ⟨a, haj⟩ : ∃ a, aggs[j]? = some a := ⟨_, qQ_ hlt2⟩
          obtain ⟨ga, oa, rfl, ac, ax⟩ := HA.out j a haj; have ham := qZ_ haj
          have aok : MR a (h.xs.map zh) := by
           rw [ZS.out, <- HQ.out]; exact OK.out.agg ham Y9
          have ag : AgX a h.xs := ⟨aok.k, lxs, fun x hx => by have := A2.out x (SUB.out x hx); omega, fun x hx => A3.out x (SUB.out x hx), fun h1 x hx => by
           have e0 := YG OK.out.ag a ham; unfold Jk at e0; rw [if_neg (by have := aok.k; omega), if_neg h1] at e0
           have e1 : (zD cols a.x).2 = 0 := by
            by_cases h2 : (zD cols a.x).2 = 0
            ·exact h2
            ·rw [if_pos h2] at e0; exact absurd e0 h2
           obtain ⟨T, hok⟩ := kR e1; have hf := (zE OK.out.z).2.2 (zh x) (by rw [<- HZ.out]; exact qZ9 (SUB.out x hx)); have hl := ((y7 cols x.row).1 hf).1; rw [hl]
           exact QH a.x hok.ty, fun x hx => A4.out x (SUB.out x hx)⟩
          have cag := fun W (hh : za Z W) => KZ a ga (oa + j * 7) h.xs h.B h.rc W (ac.grow (GZ.trans hh)) (ax.grow (GZ.trans hh)) (ZIZ.out.grow hh) ag
          obtain ⟨v9, hv9⟩ : ∃ v, Ze a (h.xs.map zh) = v := ⟨_, rfl⟩
          rw [hv9] at cag; have e9 : (aggs.take (j + 1)).map (fun a => Ze a q) = (aggs.take j).map (fun a => Ze a q) ++ [v9] := by rw [yi _ haj, <- ZS.out, hv9]
          have E9 := hh_ e9; unfold V.val at cag; have q0 : (0 : Int) <= (j : Int) := by omega
          have q1 : (j : Int) < (aggs.length : Int) := by omega
          clear haj ham aok ag ac ax hv9 e9; go_upto_region 28 with fail
          apply wp_region_calm 8 uQ_ uQ_
          case h' =>
           intro Q0 hQ0; simp only [List.take_succ_cons, List.take_zero]
           repeat ((first | ((first | apply calm_p rfl | apply zu rfl rfl rfl); case h1 => (intro w1 hw1 hF K hK; obtain ⟨bz, fz⟩ := (BZ.out.grow (hgd.trans hw1)).rules; go_simp; first | exact hK _ (za.refl _) | (go_at_call 214; ((with_reducible refine (cag w1 (hgd.trans hw1)).mono ?_); rintro e w' ⟨rfl, hg⟩; exact ⟨_, rfl, hK _ hg⟩)))) | apply zw rfl rfl rfl rfl); intro K hK; go_simp; apply hK; clear hK K)
           apply calm_fp (fun v W => ∃ g, v = .slice (some ⟨g, 0, none⟩) 1 1 /\ zb W g 33 #[.int .i64 v9.k, .int .i64 v9.n, .string v9.s]) rfl
           case h1 =>
            intro w1 hw1 hF K1 hK1; go_simp; exact hK1 _ _ ((za.refl _).al _) ⟨_, rfl, zb.new _ _ _⟩
           intro v111 K1 hK1; go_simp; apply hK1; clear hK1 K1; refine calm_nil ?_; intro w1 hw1 hF; apply hQ0; clear hQ0; simp only [List.drop_succ_cons, List.drop_zero]; obtain ⟨g, rfl, Bg⟩ := hF _ (List.mem_cons_self ..); have BG := hh_ Bg; have OwnD1 := hh_ (zi OwnD.out hw1); have gd1 := hgd.trans hw1; clear hF Bg
           go_wp2_with (at_builtin; refine xO rfl _ _ rfl Z.heap.size _ _ _ rfl OwnD1.out _ [v9] rfl (Rp BG.out) (by have := LR.out; simp; omega) gd1.size ?_; intro v7 w7 own7 gr7)
           have G7 : za Z w7 := zy gd1 gr7 OwnD1.out; have Own7 := hh_ own7; clear own7 gr7; go_wp2; go_roundw
           case rel => exact ⟨j + 1, by omega, by go_num, by rw [E9.out, <- List.append_assoc]; simpa [Nat.add_assoc] using Own7.out, G7⟩
           case measure => exact u1_
          case hp' => exact yq_
         ·obtain rfl : j = aggs.length := by omega
          have ownd := OwnD.out; rw [List.take_length] at ownd; obtain ⟨Bf, capf, rfl⟩ := yV ownd; obtain ⟨nrow, hnr⟩ : ∃ nrow, h.row ++ aggs.map (fun a => Ze a q) = nrow := ⟨_, rfl⟩
          rw [hnr] at ownd; have lnr : nrow.length = h.row.length + aggs.length := by rw [<- hnr]; simp
          have vnr := Ef lnr ownd; have NR := hh_ (And.intro hnr lnr); have VNR := hh_ vnr; have gd := (hgv.trans Gz).trans hgd; have OwnO1 := hh_ (zi OwnO.out (Gz.trans hgd)); have src : ∀ W : World, BU (W.alloc (.cells #[.slice Bf (h.row.length + aggs.length) capf, .int .i64 1] 53)) (.slice (some ⟨W.heap.size, 0, none⟩) 1 1) [I.mk Bf nrow capf 1] := fun W => jD (y := I.mk Bf nrow capf 1) lnr (zb.new _ _ _)
          have SRC := hh_ src; clear ownd hnr lnr vnr src
          go_wp2_with (at_builtin; refine zj rfl _ _ rfl w6.heap.size _ _ _ rfl (OwnO1.out.alloc _) _ [I.mk Bf nrow capf 1] rfl (SRC.out _) uN_ (by have := gd.size; simp; omega) ?_; intro v7 w7 own7 gr7)
          have G7 : za w6 w7 := zy (gd.al _) gr7 (OwnO1.out.alloc _)
          have KV7 : ∀ u ∈ out ++ [I.mk Bf nrow capf 1], KV w7 u.A u.row := fun u hu => by
           rcases List.mem_append.1 hu with hu | hu
           ·exact Ym (((VsO.out u hu).grow (Gz.trans hgd)).grow ((za.refl wd).al _)) (OwnO1.out.alloc _) uW_ gr7
           ·simp at hu; subst hu; exact Ym (VNR.out.grow ((za.refl wd).al _)) (OwnO1.out.alloc _) uW_ gr7
          have M7 : (out ++ [I.mk Bf nrow capf 1]).map zh = (Hs'.take (k + 1)).map (fun h => Xp es aggs z h.row) := by
           rw [List.map_append, MapO.out, yi _ HHK.out]; congr 1; simp only [List.map_cons, List.map_nil, zh, Xp]; rw [HQ.out, NR.out.1]
          have F7 := hh_ (And.intro own7 (And.intro M7 KV7)); clear own7 gr7 KV7 M7; go_wp2; go_roundw
          case rel => exact ⟨k + 1, out ++ [I.mk Bf nrow capf 1], by omega, by go_num, by simp [hlo], by simpa using F7.out.1, F7.out.2.1, F7.out.2.2, G7⟩
          case measure => exact u1_
       ·obtain rfl : k = Hs'.length := by omega
        have mo := MapO.out; rw [List.take_length] at mo; obtain ⟨Bf, capf, rfl, zf, sf⟩ := Xm OwnO.out (fun u hu => (VsO.out u hu).1); have FIN := hh_ (And.intro zf (And.intro sf mo)); clear zf sf mo; go_wp2; go_ret; exact ⟨Bf, out, capf, Hs'.map H.row, rfl, FIN.out.1, FIN.out.2.1, by rw [FIN.out.2.2, List.map_map]; rfl, TD.out.nd, TD.out.mem, G6.trans hgv⟩
theorem GD {cols : List Int} {es : List E} {aggs : List Ag} {z : List Z} (ok : jQ cols es aggs z) {l : List (List V)} {ys : List I} {B : Option Addr} {w : World} (hm : ys.map zh = l.map (Xp es aggs z)) (hn : l.Nodup) (hi : ∀ q, q ∈ l ↔ q ∈ xG es z) (hz : xe w B ys) (cap : Nat) : Calls Tryz.prog 29 #[.slice B ys.length cap] w fun en w' => yr w w' en (yE (Ss es aggs z), 0) := by
 have hr := ok.rows (l := l) (fun q hq => (hi q).1 hq); rw [<- hm] at hr
 have hl : ys.length <= 400 := by
  have h1 := ((List.perm_ext_iff_of_nodup hn (Qh es z)).2 hi).length_eq; have h2 := Zw es z (SM.of (zE ok.z).2.1).len; have h3 := congrArg List.length hm; simp at h3; omega
 have := kW ys B cap w uX_ hz (fun x hx => by have := (hr.1 (zh x) (qZ9 hx)).1; simp only [zh] at this; omega) (fun x hx => (hr.1 (zh x) (qZ9 hx)).2) (fun x hx => by have := hr.2 (zh x) (qZ9 hx); simp only [zh] at this; omega); rw [hm, ok.sum hn hi] at this; exact this
theorem Vc (cols : List Int) (Ac : Option Addr) (cc : Nat) (es : List E) (Ae : Option Addr) (ce : Nat) (aggs : List Ag) (Aa : Option Addr) (ca : Nat) (xs : List I) (A : Option Addr) (c : Nat) (w : World) (hlen : cols.length <= 9223372036854775807) (hle : es.length <= 140737488355328) (hla : aggs.length <= 140737488355328) (hc : yU w Ac cols) (hE : WW w Ae es) (hA : XZ w Aa aggs) (h : In w ⟨A, xs, c⟩) :
  Calls Tryz.prog 173 #[.slice Ac cols.length cc, .slice Ae es.length ce, .slice Aa aggs.length ca, .slice A xs.length c] w fun en w' => yr w w' en (Nk cols es aggs (xs.map zh)) := by
 have H := hh_ h; have HE := hh_ hE; have HA := hh_ hA; have HC := hh_ hc; have ct := Wh cols Ac cc es Ae ce w hlen uX_ hc hE; have ca0 := fun W (hg : za w W) (h8 : aggs.length <= 8) => MY cols Ac cc aggs Aa ca W hlen h8 (HC.out.grow hg) (HA.out.grow hg)
 have ci := fun W (hg : za w W) => jw cols Ac cc xs A c W hlen (HC.out.grow hg) (H.out.grow hg)
 obtain ⟨TS, TE, hTE⟩ : ∃ TS TE, zB cols es = (TS, TE) := ⟨_, _, rfl⟩
 obtain ⟨AE, hAE⟩ : ∃ AE, kK cols aggs = AE := ⟨_, rfl⟩
 obtain ⟨z, hz⟩ : ∃ z, xs.map zh = z := ⟨_, rfl⟩
 rw [hz] at ci ⊢; obtain ⟨IE, hIE⟩ : ∃ IE, zo cols z = IE := ⟨_, rfl⟩
 rw [hTE] at ct; rw [hAE] at ca0; rw [hIE] at ci; obtain ⟨Q, hQ⟩ : ∃ Q, Nk cols es aggs z = Q := ⟨_, rfl⟩
 rw [hQ]; have fin : Q = if 8 < es.length + aggs.length then ([], 5) else if TE ≠ 0 then ([], TE) else if AE ≠ 0 then ([], AE) else if IE ≠ 0 then ([], IE) else (yE (Ss es aggs z), 0) := by rw [<- hQ]; unfold Nk; rw [hTE, hAE, hIE]
 have Fin := hh_ fin; have HTE := hh_ hTE; have HAE := hh_ hAE; have HIE := hh_ hIE; have HZ := hh_ hz; have hwp : IntKind.i64.wrap ((es.length : Int) + (aggs.length : Int)) = ((es.length + aggs.length : Nat) : Int) := by rw [IntKind.wrap_i64]; omega
 clear h hc hE hA hTE hAE hIE hQ fin hz; go_enter Tryz.func173, Tryz.ntmps173
 by_cases h8 : 8 < es.length + aggs.length
 ·have d8 : decide ((8 : Int) < ((es.length + aggs.length : Nat) : Int)) = true := decide_eq_true uX_; have eQ : Q = ([], 5) := by rw [Fin.out, if_pos h8]
  go_wp2; refine qX_ oO_ rfl ?_; exact ⟨none, [], 0, rfl, zX _ _, rfl, yf.nil, za.refl _⟩
 ·have d8 : decide ((8 : Int) < ((es.length + aggs.length : Nat) : Int)) = false := decide_eq_false uX_; have ca1 := fun W (hg : za w W) => ca0 W hg uX_
  have eQ := Fin.out; rw [if_neg h8] at eQ; have EQ := hh_ eQ; clear Fin eQ ca0
  by_cases h0 : TE = 0
  ·by_cases h1 : AE = 0
   ·by_cases h2 : IE = 0
    ·subst h0 h1 h2; have ok : jQ cols es aggs z := ⟨by omega, by rw [HTE.out], HAE.out, HIE.out⟩
     have OK := hh_ ok; have cg := fun W (hg : za w W) => PE cols es Ae ce aggs Aa ca xs A c W (by rw [HZ.out]; exact OK.out) (HE.out.grow hg) (HA.out.grow hg) (H.out.grow hg)
     rw [HZ.out] at cg; clear ok
     go_upto_region 12 with (first
      | (go_at_call 21; ((with_reducible refine ct.mono ?_); rintro e w2 ⟨BT, capT, rfl, _, _, hg2⟩))
      | (go_at_call 189; ((with_reducible refine (ca1 _ hg2).mono ?_); rintro e w3 ⟨vT, rfl, hg3⟩))
      | (go_at_call 23; ((with_reducible refine (ci _ (hg2.trans hg3)).mono ?_); rintro e w4 ⟨rfl, hg4⟩)))
     have G4 := hg2.trans (hg3.trans hg4); have cg4 := cg w4 G4; clear ct ca1 ci cg; refine zc (fun W => W = w4) rfl ?_; rintro W rfl
     go_wp2_with (first
      | (go_at_call 200; ((with_reducible refine cg4.mono ?_); rintro e w5 ⟨B, ys, cap, l, rfl, hz5, hs5, hm5, hn5, hi5, hg5⟩; have ME5 := hh_ (And.intro hm5 (And.intro hn5 hi5)); have cs := GD OK.out hm5 hn5 hi5 hz5 cap; clear hm5 hn5 hi5 hz5))
      | (go_at_call 29; ((with_reducible refine cs.mono ?_); rintro en w7 ⟨C, zs, cap2, rfl, hz3, hm3, hk3, hg7⟩; have Out := hh_ (And.intro hz3 (And.intro hm3 hk3)); clear hz3 hm3 hk3)))
     refine qX_ oO_ rfl ?_; exact ⟨C, zs, cap2, by rw [EQ.out]; rfl, Out.out.1, by rw [EQ.out]; exact Out.out.2.1, Out.out.2.2, G4.trans (hg5.trans hg7)⟩
    ·have eQ : Q = ([], IE) := by rw [EQ.out, if_neg ux_, if_neg uB_, if_pos h2]
     have d3 : (IE != 0) = true := by simpa using h2
     subst h0 h1
     go_wp2_with (first
      | (go_at_call 21; ((with_reducible refine ct.mono ?_); rintro e w2 ⟨BT, capT, rfl, _, _, hg2⟩))
      | (go_at_call 189; ((with_reducible refine (ca1 _ hg2).mono ?_); rintro e w3 ⟨vT, rfl, hg3⟩))
      | (go_at_call 23; ((with_reducible refine (ci _ (hg2.trans hg3)).mono ?_); rintro e w4 ⟨rfl, hg4⟩)))
     refine qX_ oO_ rfl ?_; exact ⟨none, [], 0, by rw [eQ]; rfl, zX _ _, by rw [eQ]; rfl, yf.nil, hg2.trans (hg3.trans hg4)⟩
   ·have eQ : Q = ([], AE) := by rw [EQ.out, if_neg ux_, if_pos h1]
    have d3 : (AE != 0) = true := by simpa using h1
    subst h0
    go_wp2_with (first
     | (go_at_call 21; ((with_reducible refine ct.mono ?_); rintro e w2 ⟨BT, capT, rfl, _, _, hg2⟩))
     | (go_at_call 189; ((with_reducible refine (ca1 _ hg2).mono ?_); rintro e w3 ⟨vT, rfl, hg3⟩)))
    refine qX_ oO_ rfl ?_; exact ⟨none, [], 0, by rw [eQ]; rfl, zX _ _, by rw [eQ]; rfl, yf.nil, hg2.trans hg3⟩
  ·have eQ : Q = ([], TE) := by rw [EQ.out, if_pos h0]
   have d3 : (TE != 0) = true := by simpa using h0
   go_wp2_with (go_at_call 21; ((with_reducible refine ct.mono ?_); rintro e w2 ⟨BT, capT, rfl, _, _, hg2⟩))
   refine qX_ oO_ rfl ?_; exact ⟨none, [], 0, by rw [eQ]; rfl, zX _ _, by rw [eQ]; rfl, yf.nil, hg2⟩
