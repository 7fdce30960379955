/- Parts of a proof. No condition. -/
import Derived.Test.YtflggnopgnoeiaaGreatGG
import Derived.Laws.MakeOwn
import Derived.Test.YtflggnopgnoeiaaGreatGF
set_option maxRecDepth 100000
set_option maxHeartbeats 8000000
set_option maxRecDepth 100000
set_option linter.unusedSimpArgs false
set_option linter.unusedVariables false
namespace Go
variable {p : Prop}
theorem ox_ (h : p := by have := Inv2.out; rw [if_pos hw] at this; exact this) : p := h
theorem ve_ (h : p := by rw [<- h2]; exact qQ_ h1) : p := h
theorem vw_ (h : p := by rw [<- HR.out]; unfold jH; rw [if_pos h8]) : p := h
theorem ua_ (h : p := by rw [size_madeCells]; omega) : p := h
theorem uf_ (h : p := by have := LM.out; omega) : p := h
theorem uC_ (h : p := by simpa using hw) : p := h
theorem uE_ (h : p := by simpa using h2) : p := h
theorem uU_ (h : p := by simp [hu]) : p := h
theorem wb_ (h : p := by
 obtain ⟨h1, e1⟩ := qQ9.1 h; rw [List.drop_eq_getElem_cons h1, e1]; rfl) : p := h
theorem w0_ (h : p := by
 exact ⟨0, Nat.zero_le _, rfl, Inv0.out, za.refl _⟩) : p := h
theorem w2_ (h : p := by
 have h3 := xN (a := a) (b := b) (c := c) uX_ uX_
 by_cases h : zK a c = 0
 ·have h4 := yK a c; have h5 := xN (a := c) (b := a) (c := b) uX_ uX_; have h6 := yK b c; omega
 ·omega) : p := h
theorem xc_ (h : p := by
 obtain rfl : k = row.length := by omega
 have fin : R = 0 := by have := xt.out; rw [List.drop_length] at this; exact this.symm
 go_wp2; go_ret; exact zk fin.symm hg) : p := h
theorem xr_ (h : p := by
 intro j u hj
 match j, hj with
 | 0, hj => simp at hj; subst hj; simp [Addr.add]
 | 1, hj => simp at hj; subst hj; simp [Addr.add]) : p := h
theorem xF_ (h : p := by
 have d8 : decide ((8 : Int) < (row.length : Int)) = true := by simp; omega
 go_wp2; go_ret; exact zk vw_ (za.refl _)) : p := h
theorem xV_ (h : p := by
 exact ⟨k + 1, by omega, by go_num, by have := Inv2.out; rw [if_neg uC_] at this; exact this, G2⟩) : p := h
theorem yp_ (h : p := by
 rw [hcs'] at hcs; simp at hcs; exact fun e => by rw [e] at hcs; simp at hcs) : p := h
theorem yQ_ (h : p := by
 intro u hu; simp at hu; rcases hu with rfl | rfl <;> rfl) : p := h
theorem yR_ (h : p := by
 rw [h0] at hcs; simp at hcs; exact fun _ => hcs.2.2.symm) : p := h
end Go
namespace Go.Proofs.YtflggnopgnoeiaaGreat
open Go.RowKit Go.Calm
def zN : List V -> List Value
 | [] => []
 | v :: vs => .int .i64 v.k :: .int .i64 v.n :: .string v.s :: zN vs
theorem YT : ∀ row : List V, (zN row).length = row.length * 3
 | [] => rfl
 | v :: vs => by simp [zN, YT vs]; omega
theorem Xh : ∀ (row : List V) (i : Nat) (x : V), row[i]? = some x -> (zN row)[i * 3]? = some (.int .i64 x.k) /\ (zN row)[i * 3 + 1]? = some (.int .i64 x.n) /\ (zN row)[i * 3 + 2]? = some (.string x.s)
 | [], i, x, h => by simp at h
 | v :: vs, 0, x, h => by simp at h; subst h; simp [zN]
 | v :: vs, i + 1, x, h => by
  have := Xh vs i x uI_; rw [show (i + 1) * 3 = i * 3 + 3 by omega]; simpa [zN] using this
theorem LW : ∀ (xs : List V) (i : Nat) (y : V), i < xs.length -> (((zN xs).set (i * 3) (.int .i64 y.k)).set (i * 3 + 1) (.int .i64 y.n)).set (i * 3 + 2) (.string y.s) = zN (xs.set i y)
 | [], i, y, h => by simp at h
 | x :: xs, 0, y, h => by simp [zN]
 | x :: xs, i + 1, y, h => by
  have := LW xs i y uI_; rw [show (i + 1) * 3 = i * 3 + 1 + 1 + 1 by omega]; simp only [zN, List.set_cons_succ]; rw [<- this]
theorem JY (z : Array Value) (n i : Nat) (h : i < n) : (madeCells z n)[i]? = some (z[i % z.size]!) := by
 simp [madeCells, h]
theorem So (n : Nat) : madeCells #[.int .i64 0, .int .i64 0, .string ⟨#[]⟩] (n * 3) = (zN (List.replicate n zV)).toArray := by
 apply Array.ext_getElem?; intro i
 by_cases hi : i < n * 3
 ·rw [JY _ _ _ hi]; have hr : (List.replicate n zV)[i / 3]? = some zV := by rw [List.getElem?_replicate, if_pos uX_]
  obtain ⟨a, b, c⟩ := Xh _ _ _ hr; have h3 : i % 3 = 0 \/ i % 3 = 1 \/ i % 3 = 2 := by omega
  rcases h3 with h | h | h
  ·rw [show i / 3 * 3 = i by omega] at a; rw [List.getElem?_toArray, a]; simp [h, zV]
  ·rw [show i / 3 * 3 + 1 = i by omega] at b; rw [List.getElem?_toArray, b]; simp [h, zV]
  ·rw [show i / 3 * 3 + 2 = i by omega] at c; rw [List.getElem?_toArray, c]; simp [h, zV]
 ·rw [Array.getElem?_eq_none ua_, Array.getElem?_eq_none (by simp [YT]; omega)]
def DV (w : World) (g : Nat) (xs : List V) : Prop := zb w g 33 (zN xs).toArray
theorem DV.lt {w : World} {g : Nat} {xs : List V} (h : DV w g xs) : g < w.heap.size := zb.lt h
theorem DV.frozen {w : World} {g : Nat} {xs : List V} (h : DV w g xs) (i : Nat) : w.frozen? ⟨g, i, none⟩ = false := zb.frozen h i
theorem DV.grow {w w' : World} {g : Nat} {xs : List V} (h : DV w g xs) (hg : za w w') : DV w' g xs := zb.grow h hg
theorem DV.at {w : World} {g : Nat} {xs : List V} (h : DV w g xs) {i : Nat} {x : V} (hx : xs[i]? = some x) : w.cell? ⟨g, i * 3, none⟩ = some (.int .i64 x.k) /\ w.cell? ⟨g, i * 3 + 1, none⟩ = some (.int .i64 x.n) /\ w.cell? ⟨g, i * 3 + 2, none⟩ = some (.string x.s) := by
 obtain ⟨a, b, c⟩ := Xh xs i x hx; rw [zb.cell h, zb.cell h, zb.cell h]; exact ⟨by simpa using a, by simpa using b, by simpa using c⟩
theorem DV.put {w : World} {g : Nat} {xs : List V} (h : DV w g xs) {i : Nat} (hi : i < xs.length) (y : V) : DV (((w.setCell ⟨g, i * 3, none⟩ (.int .i64 y.k)).setCell ⟨g, i * 3 + 1, none⟩ (.int .i64 y.n)).setCell ⟨g, i * 3 + 2, none⟩ (.string y.s)) g (xs.set i y) := by
 have hb := (((zb.set h (i * 3) (.int .i64 y.k)).set (i * 3 + 1) (.int .i64 y.n)).set (i * 3 + 2) (.string y.s))
 unfold DV; rw [<- LW xs i y hi]; simpa using hb
theorem DV.vsl {w : World} {g : Nat} {xs : List V} (h : DV w g xs) : xi w (some ⟨g, 0, none⟩) xs := fun i x hx => by
 obtain ⟨a, b, c⟩ := h.at hx; exact ⟨g, 0, rfl, by simpa using a, by simpa using b, by simpa using c⟩
theorem Mb : (Tryz.prog.info? 33).map (fun i => (i.zero, i.size, i.bytes)) = some (some (.agg #[.int .i64 0, .int .i64 0, .string ⟨#[]⟩]), 3, 32) := by kernel_rfl
theorem Vm (n : Nat) (hn : n <= 100000) (W : World) : (Instr.makeSlice 51 (.int .i64 (n : Int)) (.int .i64 (n : Int))).run Tryz.prog W = .ok (.slice (some ⟨W.heap.size, 0, none⟩) n n) (W.alloc (.cells (zN (List.replicate n zV)).toArray 33)) := by
 have h := Mb; cases hi : Tryz.prog.info? 33 with
 | none => rw [hi] at h; simp at h
 | some i =>
  rw [hi] at h; simp at h; obtain ⟨h1, h2, h3⟩ := h; have := run_make W 51 33 i _ Tryz.underlying51 hi h1 .i64 .i64 (n : Int) (n : Int) uX_ uX_ (by rw [h3]; omega) uX_; rw [this, h2]; simp only [Int.toNat_natCast]; rw [show (Value.agg #[.int .i64 0, .int .i64 0, .string ⟨#[]⟩]).cells = #[.int .i64 0, .int .i64 0, .string ⟨#[]⟩] from rfl, So]
theorem zan (L : List V) (n : Nat) (y : V) (hn : 0 < n) : (L ++ List.replicate n zV).set L.length y = (L ++ [y]) ++ List.replicate (n - 1) zV := by
 obtain ⟨m, rfl⟩ : ∃ m, n = m + 1 := ⟨n - 1, by omega⟩
 rw [List.replicate_succ]
 induction L with
 | nil => simp
 | cons a L ih => simp at ih ⊢
theorem Lr (row : List V) (A : Option Addr) (c : Nat) (w : World) (hlen : row.length <= 1000) (hx : xi w A row) :
  Calls Tryz.prog 132 #[.slice A row.length c] w fun en w' => ∃ g, en = .returned (.slice (some ⟨g, 0, none⟩) row.length row.length) /\ DV w' g (row.map bare) /\ w.heap.size <= g /\ za w w' := by
 have mk := fun W => Vm row.length uX_ W
 have Hx := hh_ hx; clear hx; go_enter Tryz.func132, Tryz.ntmps132; go_wp2
 go_loopw [11] (fun i wr => ∃ k : Nat, k <= row.length /\ i = .int .i64 k /\ DV wr w.heap.size ((row.take k).map bare ++ List.replicate (row.length - k) zV) /\ za w wr) (fun i _ => row.length - (intOf i).toNat)
 case atStart => exact ⟨0, Nat.zero_le _, rfl, show DV _ _ (List.replicate row.length zV) from zb.new _ _ _, (za.refl w).al _⟩
 case round =>
  obtain ⟨k, hk, rfl, hdv, hg⟩ := hrel; have Hdv := hh_ hdv; clear hdv mk
  by_cases hlt : k < row.length
  ·obtain ⟨x, hxk⟩ : ∃ x, row[k]? = some x := ⟨_, qQ_ hlt⟩
   obtain ⟨gx, ox, rfl, c1, c2, c3⟩ := (Hx.out.grow hg) k x hxk; have Hxk := hh_ hxk; have hlk : ((row.take k).map bare).length = k := by simp; omega
   have hz : ((row.take k).map bare ++ List.replicate (row.length - k) zV)[k]? = some zV := by
    rw [List.getElem?_append_right uX_, hlk, Nat.sub_self, List.getElem?_replicate, if_pos uX_]
   have Hz := hh_ hz; have Hlk := hh_ hlk; have lg := Hdv.out.lt; clear hxk hz hlk
   go_wp2_with (go_at_call 115; ((with_reducible refine (ZX x _).mono ?_); rintro e w2 ⟨rfl, hg2⟩; have Hdv2 := hh_ ((Hdv.out.grow ((za.refl wr).al _)).grow hg2); obtain ⟨z1, z2, z3⟩ := Hdv2.out.at Hz.out; have fz := Hdv2.out.frozen; have G2 := (hg.al _).trans hg2))
   go_roundw
   case rel =>
    refine ⟨k + 1, by omega, by go_num, ?_, za.set (za.set (za.set G2 (Nat.le_refl _) _) (Nat.le_refl _) _) (Nat.le_refl _) _⟩; have h1 := Hdv2.out.put (qQ9.1 Hz.out).1 (bare x); have h2 := zan ((row.take k).map bare) (row.length - k) (bare x) uX_; rw [Hlk.out] at h2; rw [h2] at h1
    have e : (row.take (k + 1)).map bare = (row.take k).map bare ++ [bare x] := by
     have hx' := (qQ9.1 Hxk.out).2; rw [List.take_succ_eq_append_getElem hlt, hx']; simp
    rw [e, show row.length - (k + 1) = row.length - k - 1 by omega]; exact h1
   case measure => exact u1_
  ·obtain rfl : k = row.length := by omega
   have hfin : DV wr w.heap.size (row.map bare) := by
    have := Hdv.out; simpa using this
   have Hfin := hh_ hfin; clear hfin; go_wp2; go_ret; exact ⟨w.heap.size, rfl, Hfin.out, Nat.le_refl _, hg⟩
theorem Cv (row : List V) (A : Option Addr) (c : Nat) (w : World) (hlen : row.length <= 1000) (hx : xi w A row) :
  Calls Tryz.prog 132 #[.slice A row.length c] w fun en w' => ∃ g, en = .returned (.slice (some ⟨g, 0, none⟩) row.length row.length) /\ xi w' (some ⟨g, 0, none⟩) (row.map bare) /\ w.heap.size <= g /\ za w w' :=
 (Lr row A c w hlen hx).mono fun en w' ⟨g, h1, h2, h3, h4⟩ => ⟨g, h1, h2.vsl, h3, h4⟩
instance : DecidableEq V := fun a b => decidable_of_iff (FV a b = true) (TB a b)
abbrev Z := List V × Int
def zd (r : List V) : List V := r.map bare
theorem YJ (v : V) : bare (bare v) = bare v := by
 unfold bare
 repeat' split
 all_goals simp_all
theorem yL (r : List V) : zd (zd r) = zd r := by
 unfold zd; rw [List.map_map]; exact List.map_congr_left fun v _ => YJ v
def zW (z : List Z) (r : List V) : Int := (z.map (fun x => if zd x.1 = zd r then x.2 else 0)).sum
theorem qM (r : List V) : zW [] r = 0 := rfl
theorem zq (x : Z) (z : List Z) (r : List V) : zW (x :: z) r = (if zd x.1 = zd r then x.2 else 0) + zW z r := by simp [zW]
theorem qo (y z : List Z) (r : List V) : zW (y ++ z) r = zW y r + zW z r := by
 induction y with
 | nil => simp [qM]
 | cons x y ih => rw [List.cons_append, zq, zq, ih]; omega
theorem RG {y z : List Z} (h : y.Perm z) (r : List V) : zW y r = zW z r := by
 induction h with
 | nil => rfl
 | cons x _ ih => rw [zq, zq, ih]
 | swap x y l => simp only [zq]; omega
 | trans _ _ ih1 ih2 => rw [ih1, ih2]
def zK (a b : List V) : Int := zv zO a b
theorem SK (a b : List V) : zK a b = -1 \/ zK a b = 0 \/ zK a b = 1 := Yr zO kD a b
theorem yK (a b : List V) : zK b a = - zK a b := yo zO yq a b
theorem xN {a b c : List V} (h1 : zK a b <= 0) (h2 : zK b c <= 0) : zK a c <= 0 := qt a b c h1 h2
theorem jY {a b c : List V} (h1 : zK a b < 0) (h2 : zK b c < 0) : zK a c < 0 := w2_
theorem yR : ∀ (a b : List V), (∀ v ∈ a, RV v) -> (∀ v ∈ b, RV v) -> (zK a b = 0 ↔ zd a = zd b)
 | [], [], _, _ => by simp [zK, zv, zd]
 | [], y :: ys, _, _ => by simp [zK, zv, zd]
 | x :: xs, [], _, _ => by simp [zK, zv, zd]
 | x :: xs, y :: ys, hx, hy => by
  have h0 := Vz x y (hx x uY_) (hy y uY_); have ih : zv zO xs ys = 0 ↔ xs.map bare = ys.map bare := yR xs ys (fun v h => hx v (by simp [h])) (fun v h => hy v (by simp [h])); show (if zO x y = 0 then zv zO xs ys else zO x y) = 0 ↔ (x :: xs).map bare = (y :: ys).map bare; simp only [List.map_cons, List.cons.injEq]; split
  ·rename_i h; exact ⟨fun e => ⟨h0.1 h, ih.1 e⟩, fun e => ih.2 e.2⟩
  ·rename_i h; exact ⟨fun e => absurd e h, fun e => absurd (h0.2 e.1) h⟩
structure yA (z : List Z) : Prop where
 up : z.Pairwise (fun x y => zK x.1 y.1 < 0)
 rv : ∀ x ∈ z, ∀ v ∈ x.1, RV v
 bare : ∀ x ∈ z, zd x.1 = x.1
 w : ∀ x ∈ z, x.2 ≠ 0
theorem yA.tail {x : Z} {z : List Z} (h : yA (x :: z)) : yA z := ⟨(List.pairwise_cons.1 h.up).2, fun y hy => h.rv y uS_, fun y hy => h.bare y uS_, fun y hy => h.w y uS_⟩
theorem R1 {x : Z} {z : List Z} (h : yA (x :: z)) : zW z x.1 = 0 := by
 have h1 := (List.pairwise_cons.1 h.up).1
 have : ∀ l : List Z, (∀ y ∈ l, y ∈ z) -> zW l x.1 = 0 := by
  intro l
  induction l with
  | nil => intro _; rfl
  | cons y l ih =>
   intro hl; rw [zq, ih (fun y hy => hl y uS_)]; have hy := hl y uY_; have h2 := h1 y hy; have h3 := yR x.1 y.1 (h.rv x uY_) (h.rv y uS_); rw [if_neg]
   ·rfl
   ·intro e; have := h3.2 e.symm; omega
 exact this z (fun _ h => h)
theorem kz {x : Z} {z : List Z} (h : yA (x :: z)) : zW (x :: z) x.1 = x.2 := by
 rw [zq, if_pos rfl, R1 h]; omega
theorem Jq {z : List Z} (h : yA z) (r : List V) (hr : ∀ v ∈ r, RV v) (hl : ∀ y ∈ z, zK r y.1 < 0) : zW z r = 0 := by
 induction z with
 | nil => rfl
 | cons y z ih =>
  rw [zq, ih h.tail (fun y hy => hl y uS_)]; have h2 := hl y uY_; have h3 := yR r y.1 hr (h.rv y uY_); rw [if_neg]
  ·rfl
  ·intro e; have := h3.2 e.symm; omega
theorem jt : ∀ (y z : List Z), yA y -> yA z -> (∀ r, (∀ v ∈ r, RV v) -> zW y r = zW z r) -> y = z
 | [], [], _, _, _ => rfl
 | [], x :: z, _, hz, h => by
  have := h x.1 (hz.rv x uY_); rw [kz hz, qM] at this; exact absurd this.symm (hz.w x uY_)
 | x :: y, [], hy, _, h => by
  have := h x.1 (hy.rv x uY_); rw [kz hy, qM] at this; exact absurd this (hy.w x uY_)
 | x :: y, u :: z, hy, hz, h => by
  have rx := hy.rv x uY_; have ru := hz.rv u uY_; have uy := (List.pairwise_cons.1 hy.up).1; have uz := (List.pairwise_cons.1 hz.up).1
  have hr : zK x.1 u.1 = 0 := by
   rcases SK x.1 u.1 with h1 | h1 | h1
   ·exfalso
    have h2 := Jq hz x.1 rx (fun t ht => by
     rcases List.mem_cons.1 ht with rfl | ht
     ·omega
     ·exact jY uX_ (uz t ht))
    have h3 := h x.1 rx; rw [kz hy, h2] at h3; exact hy.w x uY_ h3
   ·exact h1
   ·exfalso; have h0 := yK x.1 u.1
    have h2 := Jq hy u.1 ru (fun t ht => by
     rcases List.mem_cons.1 ht with rfl | ht
     ·omega
     ·exact jY uX_ (uy t ht))
    have h3 := h u.1 ru; rw [kz hz, h2] at h3; exact hz.w u uY_ h3.symm
  have e1 : x.1 = u.1 := by
   have := (yR x.1 u.1 rx ru).1 hr
   rwa [hy.bare x uY_, hz.bare u uY_] at this
  have e2 : x.2 = u.2 := by
   have h1 := h x.1 rx; rw [kz hy, e1, kz hz] at h1; exact h1
  have e : x = u := Prod.ext e1 e2; subst e
  rw [jt y z hy.tail hz.tail (fun r hr => by
   have := h r hr; rw [zq, zq] at this
   omega)]
def DC (z : List Z) : List Z := z.filter (fun x => x.2 != 0)
def qc : Z -> List Z -> Z × List Z
 | x, [] => (x, [])
 | x, y :: l => if zK y.1 x.1 = 0 then qc (x.1, x.2 + y.2) l else (x, y :: l)
theorem ZW : ∀ (l : List Z) (x : Z), (qc x l).2.length <= l.length
 | [], x => by simp [qc]
 | y :: l, x => by
  unfold qc; split
  ·have := ZW l (x.1, x.2 + y.2); simp; omega
  ·simp
theorem N8 : ∀ (l : List Z) (x : Z), (qc x l).1.1 = x.1
 | [], x => rfl
 | y :: l, x => by
  unfold qc; split
  ·exact N8 l (x.1, x.2 + y.2)
  ·rfl
def Lj : Nat -> List Z -> List Z
 | 0, _ => []
 | _, [] => []
 | n + 1, x :: l => if (qc x l).1.2 = 0 then Lj n (qc x l).2 else (qc x l).1 :: Lj n (qc x l).2
def j0 (l : List Z) : List Z := Lj l.length l
theorem MI : ∀ (n m : Nat) (l : List Z), l.length <= n -> l.length <= m -> Lj n l = Lj m l
 | 0, m, [], _, _ => by cases m <;> rfl
 | n + 1, 0, [], _, _ => rfl
 | n + 1, m + 1, [], _, _ => rfl
 | n + 1, m + 1, x :: l, h1, h2 => by
  have := ZW l x; have ih := MI n m (qc x l).2 uo_ (by simp at h2; omega); unfold Lj; rw [ih]
theorem MJ (x : Z) (l : List Z) : j0 (x :: l) = if (qc x l).1.2 = 0 then j0 (qc x l).2 else (qc x l).1 :: j0 (qc x l).2 := by
 have := ZW l x; unfold j0; show Lj (l.length + 1) (x :: l) = _
 conv => lhs; unfold Lj
 rw [MI l.length (qc x l).2.length _ this (Nat.le_refl _)]
structure KW (l : List Z) : Prop where
 up : l.Pairwise (fun x y => zK x.1 y.1 <= 0)
 rv : ∀ x ∈ l, ∀ v ∈ x.1, RV v
 bare : ∀ x ∈ l, zd x.1 = x.1
theorem KW.tail {x : Z} {l : List Z} (h : KW (x :: l)) : KW l := ⟨(List.pairwise_cons.1 h.up).2, fun y hy => h.rv y uS_, fun y hy => h.bare y uS_⟩
theorem Lm : ∀ (l : List Z) (x : Z), KW (x :: l) -> (∀ r, zW ((qc x l).1 :: (qc x l).2) r = zW (x :: l) r) /\ KW ((qc x l).1 :: (qc x l).2) /\ (∀ y ∈ (qc x l).2, zK x.1 y.1 < 0)
 | [], x, h => ⟨fun _ => rfl, h, fun y hy => by simp [qc] at hy⟩
 | y :: l, x, h => by
  unfold qc; split
  ·rename_i he; have hx := (List.pairwise_cons.1 h.up).1; have hy := (List.pairwise_cons.1 (List.pairwise_cons.1 h.up).2).1
   have h2 : KW ((x.1, x.2 + y.2) :: l) := by
    refine ⟨List.pairwise_cons.2 ⟨fun z hz => hx z (by simp [hz]), h.tail.tail.up⟩, fun z hz => ?_, fun z hz => ?_⟩
    ·rcases List.mem_cons.1 hz with rfl | hz
     ·exact h.rv x uY_
     ·exact h.rv z (by simp [hz])
    ·rcases List.mem_cons.1 hz with rfl | hz
     ·exact h.bare x uY_
     ·exact h.bare z (by simp [hz])
   obtain ⟨g1, g2, g3⟩ := Lm l (x.1, x.2 + y.2) h2; refine ⟨fun r => ?_, g2, g3⟩; rw [g1, zq, zq, zq]; have e := (yR y.1 x.1 (h.rv y uY_) (h.rv x uY_)).1 he; rw [e]; split <;> omega
  ·rename_i he; refine ⟨fun _ => rfl, h, fun z hz => ?_⟩; have hx := (List.pairwise_cons.1 h.up).1; have hy := (List.pairwise_cons.1 (List.pairwise_cons.1 h.up).2).1; have s := yK x.1 y.1; have h1 := hx y uY_; rcases List.mem_cons.1 hz with rfl | hz
   ·omega
   ·have h2 := hy z hz; have h3 := xN h1 h2
    by_cases h4 : zK x.1 z.1 = 0
    ·exfalso; have s2 := yK x.1 z.1; have := xN (a := y.1) (b := z.1) (c := x.1) h2 uX_; omega
    ·omega
theorem QJ : yA [] := ⟨List.Pairwise.nil, fun x hx => by simp at hx, fun x hx => by simp at hx, fun x hx => by simp at hx⟩
theorem Wf : ∀ (n : Nat) (l : List Z), l.length <= n -> KW l -> yA (j0 l) /\ (∀ r, zW (j0 l) r = zW l r) /\ (∀ a : List V, (∀ y ∈ l, zK a y.1 < 0) -> ∀ y ∈ j0 l, zK a y.1 < 0)
 | n, [], _, _ => ⟨QJ, fun _ => rfl, fun _ _ y hy => by simp [j0, Lj] at hy⟩
 | 0, x :: l, h, _ => by simp at h
 | n + 1, x :: l, h, hr => by
  obtain ⟨g1, g2, g3⟩ := Lm l x hr; have hlen := ZW l x; have hrow := N8 l x; obtain ⟨c1, c2, c3⟩ := Wf n (qc x l).2 (by simp at h; omega) g2.tail; rw [MJ]; split
  ·rename_i h0; refine ⟨c1, fun r => ?_, fun a ha => c3 a fun y hy => ?_⟩
   ·rw [c2, <- g1, zq]; have : (if zd (qc x l).1.1 = zd r then (qc x l).1.2 else 0) = 0 := by split <;> omega
    omega
   ·exact jY (ha x uY_) (g3 y hy)
  ·rename_i h0; refine ⟨⟨List.pairwise_cons.2 ⟨fun y hy => ?_, c1.up⟩, fun y hy => ?_, fun y hy => ?_, fun y hy => ?_⟩, fun r => ?_, fun a ha y hy => ?_⟩
   ·rw [hrow]; exact c3 x.1 g3 y hy
   ·rcases List.mem_cons.1 hy with rfl | hy
    ·exact g2.rv _ uY_
    ·exact c1.rv y hy
   ·rcases List.mem_cons.1 hy with rfl | hy
    ·exact g2.bare _ uY_
    ·exact c1.bare y hy
   ·rcases List.mem_cons.1 hy with rfl | hy
    ·exact h0
    ·exact c1.w y hy
   ·rw [zq, c2, <- g1, zq]
   ·rcases List.mem_cons.1 hy with rfl | hy
    ·rw [hrow]; exact ha x uY_
    ·exact c3 a (fun z hz => jY (ha x uY_) (g3 z hz)) y hy
theorem BH {l : List Z} (h : KW l) : yA (j0 l) := (Wf _ l (Nat.le_refl _) h).1
theorem zbP {l : List Z} (h : KW l) (r : List V) : zW (j0 l) r = zW l r := (Wf _ l (Nat.le_refl _) h).2.1 r
def zI : I := ⟨none, [], 0, 0⟩
def zh (x : I) : Z := (x.row, x.w)
def yf (A : Option Addr) (n c : Nat) : Prop := n <= c /\ (A = none -> c = 0)
theorem yf.nil : yf none 0 0 := ⟨Nat.le_refl _, fun _ => rfl⟩
def xe (w : World) (A : Option Addr) (xs : List I) : Prop := ∀ i x, xs[i]? = some x -> ∃ g o, A = some ⟨g, o, none⟩ /\ w.cell? ⟨g, o + i * 2, none⟩ = some (.slice x.A x.row.length x.cap) /\ w.cell? ⟨g, o + i * 2 + 1, none⟩ = some (.int .i64 x.w) /\ xi w x.A x.row
theorem xe.grow {w w' : World} {A : Option Addr} {xs : List I} (h : xe w A xs) (hg : za w w') : xe w' A xs := fun i x hx => by
 obtain ⟨g, o, hA, a, b, c⟩ := h i x hx; exact ⟨g, o, hA, hg.cell a, hg.cell b, c.grow hg⟩
theorem xi.gx {g h o : Nat} {w w' : World} {xs : List V} (hx : xi w (some ⟨h, o, none⟩) xs) (hg : GX g w w') (hne : h ≠ g) : xi w' (some ⟨h, o, none⟩) xs := fun i x hi => by
 obtain ⟨g', o', e, a, b, c⟩ := hx i x hi; cases e; exact ⟨h, o, rfl, World.grownBy.cell hg a us_, World.grownBy.cell hg b us_, World.grownBy.cell hg c us_⟩
theorem xP.mono {g : Nat} {w w' : World} {x : I} (h : xP g w x) (hg : GX g w w') : xP g w' x := ⟨fun W hW => h.sl W (hg.trans hW), h.len, h.rv⟩
theorem Sm (n : Nat) : madeCells #[.slice none 0 0, .int .i64 0] (n * 2) = (zr (List.replicate n zI)).toArray := by
 apply Array.ext_getElem?; intro i
 by_cases hi : i < n * 2
 ·rw [JY _ _ _ hi]; have hr : (List.replicate n zI)[i / 2]? = some zI := by rw [List.getElem?_replicate, if_pos uX_]
  obtain ⟨a, b⟩ := qp _ _ _ hr; have h3 : i % 2 = 0 \/ i % 2 = 1 := by omega
  rcases h3 with h | h
  ·rw [show i / 2 * 2 = i by omega] at a; rw [List.getElem?_toArray, a]; simp [h, zI]
  ·rw [show i / 2 * 2 + 1 = i by omega] at b; rw [List.getElem?_toArray, b]; simp [h, zI]
 ·rw [Array.getElem?_eq_none ua_, Array.getElem?_eq_none (by simp [xv]; omega)]
theorem Mc : (Tryz.prog.info? 53).map (fun i => (i.zero, i.size, i.bytes)) = some (some (.agg #[.slice none 0 0, .int .i64 0]), 2, 32) := by kernel_rfl
theorem qO : ∃ ti, Tryz.prog.info? 53 = some ti /\ ti.zero = some (.agg #[.slice none 0 0, .int .i64 0]) /\ ti.size = 2 /\ ti.bytes = 32 := by
 have h := Mc; cases hi : Tryz.prog.info? 53 with
 | none => rw [hi] at h; simp at h
 | some i => rw [hi] at h; simp at h; exact ⟨i, rfl, h⟩
theorem SG (n : Nat) (hn : n <= 1000000) (W : World) : (Instr.makeSlice 25 (.int .i64 (n : Int)) (.int .i64 (n : Int))).run Tryz.prog W = .ok (.slice (some ⟨W.heap.size, 0, none⟩) n n) (W.alloc (.cells (zr (List.replicate n zI)).toArray 53)) := by
 have h := Mc; cases hi : Tryz.prog.info? 53 with
 | none => rw [hi] at h; simp at h
 | some i =>
  rw [hi] at h; simp at h; obtain ⟨h1, h2, h3⟩ := h; have := run_make W 25 53 i _ Tryz.underlying25 hi h1 .i64 .i64 (n : Int) (n : Int) uX_ uX_ (by rw [h3]; omega) uX_; rw [this, h2]; simp only [Int.toNat_natCast]; rw [show (Value.agg #[.slice none 0 0, .int .i64 0]).cells = #[.slice none 0 0, .int .i64 0] from rfl, Sm]
theorem Fb (L : List I) (n : Nat) (y : I) (hn : 0 < n) : (L ++ List.replicate n zI).set L.length y = (L ++ [y]) ++ List.replicate (n - 1) zI := by
 obtain ⟨m, rfl⟩ : ∃ m, n = m + 1 := ⟨n - 1, by omega⟩
 rw [List.replicate_succ, Qv L _ zI y _ rfl]; simp
theorem qE {r : List V} (h : ∀ v ∈ r, RV v) : ∀ v ∈ zd r, RV v := fun v hv => by
 simp only [zd, List.mem_map] at hv; obtain ⟨u, hu, rfl⟩ := hv; exact Jd (h u hu)
theorem zi {w w' : World} {base n size : Nat} {e : TypeId} {v : Value} {xs : List Value} (h : w.ownsRow base e size v n xs) (hg : za w w') : w'.ownsRow base e size v n xs := by
 obtain ⟨h1, h2⟩ := h; refine ⟨h1, ?_⟩; rcases h2 with h2 | ⟨g, cap, cur, a, b, c, d⟩
 ·exact .inl h2
 ·exact .inr ⟨g, cap, cur, a, b, zb.grow (g := g) c hg, d⟩
theorem za.own {a b c : World} {row : Option Nat} (h : za a b) (k : b.grownBy c row) (hr : ∀ i, row = some i -> a.heap.size <= i) : za a c :=
 ⟨⟨k.os.trans h.below.os, k.tape.trans h.below.tape, k.output.trans h.below.output, Nat.le_trans h.size k.size, fun i hi => (k.block i (Nat.lt_of_lt_of_le hi h.size) (fun e => by have := hr i e.symm; omega)).trans (h.below.block i hi)⟩⟩
theorem BI (xs : List I) (A : Option Addr) (c : Nat) (w : World) (hlen : xs.length <= 200000) (hz : xe w A xs) (hrow : ∀ x ∈ xs, x.row.length <= 1000) (hrv : ∀ x ∈ xs, ∀ v ∈ x.row, RV v) (hw : ∀ x ∈ xs, -1000000000000 <= x.w /\ x.w <= 1000000000000) :
  Calls Tryz.prog 75 #[.slice A xs.length c] w fun en w' => ∃ (B : Option Addr) (ys : List I) (cap : Nat), en = .returned (.slice B ys.length cap) /\ xe w' B ys /\ yA (ys.map zh) /\ (∀ r, zW (ys.map zh) r = zW (xs.map zh) r) /\ yf B ys.length cap /\ (∀ y ∈ ys, y.row.length <= y.cap) /\ za w w' := by
 have mk := fun W => SG xs.length uX_ W
 have Hz := hh_ hz; have Hrow := hh_ hrow; have Hrv := hh_ hrv; have Hw := hh_ hw; clear hz hrow hrv hw; go_enter Tryz.func75, Tryz.ntmps75; go_wp2
 go_loopw [14] (fun i wr => ∃ (k : Nat) (done : List I), k <= xs.length /\ i = .int .i64 k /\ done.length = k /\ DB wr w.heap.size (done ++ List.replicate (xs.length - k) zI) /\ done.map zh = (xs.take k).map (fun x => (zd x.row, x.w)) /\ ((∀ y ∈ done, xP w.heap.size wr y) /\ ∀ y ∈ done, y.row.length <= y.cap) /\ za w wr) (fun i _ => xs.length - (intOf i).toNat)
 case atStart => exact ⟨0, [], Nat.zero_le _, rfl, rfl, show DB _ _ (List.replicate xs.length zI) from zb.new _ _ _, rfl, ⟨fun y hy => by simp at hy, fun y hy => by simp at hy⟩, (za.refl w).al _⟩
 case round =>
  obtain ⟨k, done, hk, rfl, hdl, hdb, hmap, ⟨hgood, hcap⟩, hg⟩ := hrel; have Hcap := hh_ hcap; have Hdl := hh_ hdl; have Hdb := hh_ hdb; have Hmap := hh_ hmap; have Hgood := hh_ hgood; clear hdl hdb hmap hgood mk hcap
  by_cases hlt : k < xs.length
  ·obtain ⟨x, hxk⟩ : ∃ x, xs[k]? = some x := ⟨_, qQ_ hlt⟩
   obtain ⟨gx, ox, rfl, c1, c2, hxv⟩ := (Hz.out.grow hg) k x hxk; have Hxk := hh_ hxk; have hmem : x ∈ xs := qZ_ hxk; have hlx := Hrow.out x hmem; have cb := fun W (h : za wr W) => Cv x.row x.A x.cap W hlx (hxv.grow h)
   have lg := Hdb.out.lt; have Hmem := hh_ hmem; clear hxk hxv hmem; go_upto_region 5 with fail
   refine zc (fun X => zb X wr.heap.size 53 #[.slice x.A x.row.length x.cap, .int .i64 x.w] /\ za wr X) ⟨zb.new _ _ _, (za.refl wr).al _⟩ ?_; rintro X ⟨Bx, G⟩; apply wp_region_calm 9 uQ_ uQ_
   case h' =>
    intro Q0 hQ0; simp only [List.take_succ_cons, List.take_zero]
    repeat ((first | ((first | apply calm_p rfl | apply zu rfl rfl rfl); case h1 => (intro w1 hw1 hF K hK; obtain ⟨bx, fx⟩ := (zb.grow Bx hw1).rules; go_simp; first | exact hK _ (za.refl _))) | apply zw rfl rfl rfl rfl); intro K hK; go_simp; apply hK; clear hK K)
    apply calm_fp (fun v W => ∃ gi, v = .slice (some ⟨gi, 0, none⟩) x.row.length x.row.length /\ xi W (some ⟨gi, 0, none⟩) (x.row.map bare) /\ wr.heap.size <= gi) rfl
    case h1 =>
     intro w1 hw1 hF K hK; go_simp
     go_at_call 132
     refine (cb w1 (G.trans hw1)).mono ?_; rintro en w' ⟨gi, rfl, hv, hge, hg'⟩; exact ⟨_, rfl, hK _ _ hg' ⟨gi, rfl, hv, Nat.le_trans (G.trans hw1).size hge⟩⟩
    intro v23 K hK; go_simp; apply hK; clear hK K
    repeat ((first | ((first | apply calm_p rfl | apply zu rfl rfl rfl); case h1 => (intro w1 hw1 hF K hK; obtain ⟨bx, fx⟩ := (zb.grow Bx hw1).rules; go_simp; first | exact hK _ (za.refl _))) | apply zw rfl rfl rfl rfl); intro K hK; go_simp; apply hK; clear hK K)
    apply calm_fp (fun v W => ∃ gi, v = .agg #[.slice (some ⟨gi, 0, none⟩) x.row.length x.row.length, .int .i64 x.w] /\ xi W (some ⟨gi, 0, none⟩) (x.row.map bare) /\ wr.heap.size <= gi) rfl
    case h1 =>
     intro w1 hw1 hF K hK; obtain ⟨gi, hv, h1, h2⟩ := hF _ (List.mem_cons_self ..) ⟨_, rfl, by decide⟩; subst hv; go_simp; exact hK _ _ (za.refl _) ⟨gi, rfl, h1, h2⟩
    intro v26 K hK; go_simp; apply hK; clear hK K
    repeat ((first | ((first | apply calm_p rfl | apply zu rfl rfl rfl); case h1 => (intro w1 hw1 hF K hK; obtain ⟨bx, fx⟩ := (zb.grow Bx hw1).rules; go_simp; first | exact hK _ (za.refl _))) | apply zw rfl rfl rfl rfl); intro K hK; go_simp; apply hK; clear hK K)
    refine calm_nil ?_; intro w1 hw1 hF; apply hQ0; clear hQ0; simp only [List.drop_succ_cons, List.drop_zero]; obtain ⟨gi, hv, hvs, hge⟩ := hF _ (List.mem_cons_self ..); subst hv; clear hF; have Hdb2 := hh_ (Hdb.out.grow (G.trans hw1))
    have hz : (done ++ List.replicate (xs.length - k) zI)[k]? = some zI := by
     rw [List.getElem?_append_right (by have := Hdl.out; omega), Hdl.out, Nat.sub_self, List.getElem?_replicate, if_pos uX_]
    obtain ⟨z1, z2⟩ := Hdb2.out.at hz; have fz := Hdb2.out.frozen; have Hz2 := hh_ hz; have Hvs := hh_ hvs; have G2 := hg.trans (G.trans hw1); have hgi : gi ≠ w.heap.size := by omega
    clear hz hvs; go_wp2; go_roundw
    case rel =>
     refine ⟨k + 1, done ++ [⟨some ⟨gi, 0, none⟩, zd x.row, x.row.length, x.w⟩], by omega, by go_num, by simp [Hdl.out], ?_, ?_, ?_, za.set (za.set G2 (Nat.le_refl _) _) (Nat.le_refl _) _⟩
     ·have h1 := Hdb2.out.put (qQ9.1 Hz2.out).1 ⟨some ⟨gi, 0, none⟩, zd x.row, x.row.length, x.w⟩; have h2 := Fb done (xs.length - k) ⟨some ⟨gi, 0, none⟩, zd x.row, x.row.length, x.w⟩ uX_; rw [Hdl.out] at h2; rw [h2, show xs.length - k - 1 = xs.length - (k + 1) by omega] at h1; simpa [zd] using h1
     ·have hx' := (qQ9.1 Hxk.out).2; rw [List.map_append, Hmap.out, List.take_succ_eq_append_getElem hlt, hx']; simp [zh]
     ·have hgx : GX w.heap.size wr (((w1.setCell ⟨w.heap.size, k * 2, none⟩ (.slice (some ⟨gi, 0, none⟩) x.row.length x.row.length)).setCell ⟨w.heap.size, k * 2 + 1, none⟩ (.int .i64 x.w))) := ((GX.refl _ wr).grow (G.trans hw1)).put _ _ _ _; refine ⟨fun y hy => ?_, fun y hy => ?_⟩
      rotate_left
      ·rcases List.mem_append.1 hy with hy | hy
       ·exact Hcap.out y hy
       ·simp at hy; subst hy; simp [zd]
      rcases List.mem_append.1 hy with hy | hy
      ·exact (Hgood.out y hy).mono hgx
      ·simp at hy; subst hy; refine ⟨fun W hW => ?_, ?_, qE (Hrv.out x Hmem.out)⟩
       ·have h1 := Hvs.out.gx (((GX.refl w.heap.size w1).put _ _ _ _).trans hW) hgi; exact h1
       ·simp [zd]; omega
    case measure => exact u1_
   case hp' => exact ⟨fun v w w' hg ⟨gi, e, h1, h2⟩ => ⟨gi, e, h1.grow hg, h2⟩, fun v w w' hg ⟨gi, e, h1, h2⟩ => ⟨gi, e, h1.grow hg, h2⟩, trivial⟩
  ·obtain rfl : k = xs.length := by omega
   have hdb2 : DB wr w.heap.size done := by have := Hdb.out; simpa using this
   have cs := Ro done xs.length xs.length w.heap.size wr wr Hdl.out.symm uX_ Hgood.out (GX.refl _ _) hdb2; have hmap2 : done.map zh = xs.map (fun x => (zd x.row, x.w)) := by have := Hmap.out; simpa using this
   have Hmap2 := hh_ hmap2; have cR := fun (y x : I) (W : World) (hy : xi W y.A y.row) (hx : xi W x.A x.row) (l1 : y.row.length <= 9223372036854775807) (l2 : x.row.length <= 9223372036854775807) => qY y.row x.row y.A x.A y.cap x.cap W l1 l2 hy hx
   clear hmap2 hdb2 hlt Hdb Hmap; go_upto_region 8 with (go_at_call 133; ((with_reducible refine cs.mono ?_); rintro en w2 ⟨rfl, hd2, hg2⟩)); obtain ⟨M, pM, uM, dM⟩ := hd2; have gM : ∀ y ∈ M, xP w.heap.size w2 y := fun y hy => (Hgood.out y (pM.mem_iff.1 hy)).mono hg2
   have G0 : za w w2 := GX.base hg (Nat.le_refl _) hg2; have lM : M.length = xs.length := pM.length_eq.trans Hdl.out
   have wM : ∀ y ∈ M, -1000000000000 <= y.w /\ y.w <= 1000000000000 := fun y hy => by
    have h1 : zh y ∈ done.map zh := qZ9 (pM.mem_iff.1 hy); rw [Hmap2.out, List.mem_map] at h1; obtain ⟨x, hx, e⟩ := h1; have : x.w = y.w := congrArg Prod.snd e; rw [<- this]; exact Hw.out x hx
   have bM : ∀ y ∈ M, zd y.row = y.row := fun y hy => by
    have h1 : zh y ∈ done.map zh := qZ9 (pM.mem_iff.1 hy); rw [Hmap2.out, List.mem_map] at h1; obtain ⟨x, hx, e⟩ := h1; have : zd x.row = y.row := congrArg Prod.fst e; rw [<- this]; exact yL _
   have hrise : KW (M.map zh) := by
    refine ⟨?_, fun x hx => ?_, fun x hx => ?_⟩
    ·rw [List.pairwise_map]; refine List.Pairwise.imp_of_mem (fun {a b} ha hb h => ?_) uM; have := h; unfold WS at this; rw [yg _ _ (gM a ha).rv (gM b hb).rv] at this; exact this
    ·obtain ⟨y, hy, rfl⟩ := List.mem_map.1 hx; exact (gM y hy).rv
    ·obtain ⟨y, hy, rfl⟩ := List.mem_map.1 hx; exact bM y hy
   have hwt : ∀ r, zW (j0 (M.map zh)) r = zW (xs.map zh) r := fun r => by
    rw [zbP hrise, RG (pM.map zh) r, Hmap2.out]
    have : ∀ l : List I, zW (l.map (fun x => (zd x.row, x.w))) r = zW (l.map zh) r := fun l => by
     induction l with
     | nil => rfl
     | cons a l ih => simp only [List.map_cons, zq, ih, zh, yL]
    exact this xs
   have Hwt := hh_ hwt; have Hcan := hh_ (BH hrise); have GM := hh_ gM; have CM := hh_ (fun y (hy : y ∈ M) => Hcap.out y (pM.mem_iff.1 hy)); have LM := hh_ lM; have WM := hh_ wM; have DM := hh_ dM; clear pM uM dM gM lM wM bM hrise hwt cs hg2 Hmap2 Hgood Hdl; go_wp2
   go_loopw [6, 7] (fun t si w3 => ∃ (i : Nat) (out : List I), si = .int .i64 (i : Int) /\ i <= xs.length /\ w3.ownsRow w2.heap.size 53 2 t out.length (zr out) /\ out.map zh ++ j0 ((M.drop i).map zh) = j0 (M.map zh) /\ (∀ y ∈ out, xi w2 y.A y.row /\ y.row.length <= y.cap) /\ out.length <= i /\ za w2 w3) (fun _ si _ => xs.length - (intOf si).toNat)
   case atStart => exact ⟨0, [], rfl, Nat.zero_le _, World.ownsRow_nil _ _ _ _, rfl, fun y hy => by simp at hy, Nat.le_refl _, za.refl _⟩
   case round =>
    obtain ⟨i, out, rfl, hi, hown, htot, hvo, hol, hg3⟩ := hrel; have Own := hh_ hown; have Tot := hh_ htot; have Hvo := hh_ hvo; clear hown htot hvo
    by_cases hlt : i < xs.length
    ·obtain ⟨x, hxk⟩ : ∃ x, M[i]? = some x := ⟨_, qQ_ uf_⟩
     have hmem : x ∈ M := qZ_ hxk; have gx := GM.out x hmem; have wx := WM.out x hmem; have vx := gx.sl _ (GX.refl _ _); have Cx := hh_ (CM.out x hmem)
     have hdrop : (M.drop i).map zh = zh x :: (M.drop (i + 1)).map zh := by
      rw [List.drop_eq_getElem_cons uf_, (qQ9.1 hxk).2]; rfl
     have htot2 : j0 (M.map zh) = out.map zh ++ (if (qc (zh x) ((M.drop (i + 1)).map zh)).1.2 = 0 then j0 (qc (zh x) ((M.drop (i + 1)).map zh)).2 else (qc (zh x) ((M.drop (i + 1)).map zh)).1 :: j0 (qc (zh x) ((M.drop (i + 1)).map zh)).2) := by
      rw [<- Tot.out, hdrop, MJ]
     have Tot2 := hh_ htot2; obtain ⟨cx0, cx1⟩ := (DM.out.grow hg3).at hxk; have Gx := hh_ gx; have Vx := hh_ vx; have d0 : decide ((i : Int) < (xs.length : Int)) = true := by simp; omega
     obtain ⟨wx1, wx2⟩ := wx; clear hxk hmem gx vx hdrop htot2 Tot; go_wp2; rename World => w4
     go_loopw [7] (fun si w5 => ∃ (j : Nat) (acc : Int), si = .int .i64 (j : Int) /\ i + 1 <= j /\ j <= xs.length /\ zb w5 w4.heap.size 53 #[.slice x.A x.row.length x.cap, .int .i64 acc] /\ qc (x.row, acc) ((M.drop j).map zh) = qc (zh x) ((M.drop (i + 1)).map zh) /\ -1000000000000 * (j : Int) <= acc /\ acc <= 1000000000000 * (j : Int) /\ za w4 w5) (fun si _ => xs.length - (intOf si).toNat)
     case atStart => exact ⟨i + 1, x.w, by go_num, Nat.le_refl _, by omega, zb.new _ _ _, rfl, by omega, by omega, (za.refl w4).al _⟩
     case round =>
      obtain ⟨j, acc, rfl, hij, hjn, hbx, hacc, ha1, ha2, hg5⟩ := hrel; have Hbx := hh_ hbx; have Hacc := hh_ hacc; clear hbx hacc
      by_cases hj : j < xs.length
      ·obtain ⟨y, hyk⟩ : ∃ y, M[j]? = some y := ⟨_, qQ_ uf_⟩
       have hymem : y ∈ M := qZ_ hyk; have gy := GM.out y hymem; have wy := WM.out y hymem; obtain ⟨wy1, wy2⟩ := wy
       have hdropy : (M.drop j).map zh = zh y :: (M.drop (j + 1)).map zh := by
        rw [List.drop_eq_getElem_cons uf_, (qQ9.1 hyk).2]; rfl
       have Hdy := hh_ hdropy; have Hyk := hh_ hyk; have hordr : zv x4 y.row x.row = zK y.row x.row := yg _ _ gy.rv Gx.out.rv; obtain ⟨cr, hcr⟩ : ∃ r, zv x4 y.row x.row = r := ⟨_, rfl⟩
       have hord : zK y.row x.row = cr := hordr.symm.trans hcr; have cc := fun W (h : za w2 W) => cR y x W (gy.sl _ ((GX.refl _ _).grow h)) (Gx.out.sl _ ((GX.refl _ _).grow h)) gy.len Gx.out.len
       rw [hcr] at cc; have Hord := hh_ hord; have gw := hg3.trans hg5; have d1 : decide ((j : Int) < (xs.length : Int)) = true := by simp; omega
       clear hcr hordr hord hyk hdropy hymem gy; go_wp2; apply wp_region_calm 15 uQ_ uQ_
       case h' =>
        intro Q0 hQ0; simp only [List.take_succ_cons, List.take_zero]
        repeat ((first | ((first | apply calm_p rfl | apply zu rfl rfl rfl); case h1 => (intro w1 hw1 hF K hK; obtain ⟨bx, fx⟩ := (zb.grow Hbx.out hw1).rules; obtain ⟨cy0, cy1⟩ := (DM.out.grow (gw.trans hw1)).at Hyk.out; go_simp; first | exact hK _ (za.refl _) | (go_at_call 27; ((with_reducible refine (cc _ (gw.trans hw1)).mono ?_); rintro e w' ⟨rfl, hg⟩; exact ⟨_, rfl, hK _ hg⟩)))) | apply zw rfl rfl rfl rfl); intro K hK; go_simp; apply hK; clear hK K)
        refine calm_nil ?_; intro w1 hw1 hF; apply hQ0; clear hQ0; simp only [List.drop_succ_cons, List.drop_zero]; clear hF; have gw1 := gw.trans hw1; obtain ⟨cy0, cy1⟩ := (DM.out.grow gw1).at Hyk.out
        by_cases hc : cr = 0
        ·have dc : (cr == 0) = true := by simpa using hc
         obtain ⟨bx, fx⟩ := (zb.grow Hbx.out hw1).rules; have hwp : IntKind.i64.wrap (acc + y.w) = acc + y.w := by rw [IntKind.wrap_i64]; omega
         have mixed : Tryz.prog.follows .mixedOrders = true := by kernel_rfl
         simp only [dc]; go_wp2; go_big_region_o
         all_goals go_wp2
         refine ⟨⟨j + 1, acc + y.w, by go_num, by omega, by omega, ?_, ?_, by omega, by omega, ?_⟩, by simp [intOf]; omega⟩
         ·have := (zb.grow Hbx.out hw1).set 1 (.int .i64 (acc + y.w)); simpa using zb.drew this
         ·rw [<- Hacc.out, Hdy.out]; show _ = if zK y.row x.row = 0 then qc (x.row, acc + y.w) _ else _
          rw [if_pos (Hord.out.trans hc)]
         ·exact za.drew (za.set (hg5.trans hw1) (Nat.le_refl _) _)
        ·have dc : (cr == 0) = false := by simpa using hc
         simp only [dc]
         have hst : j0 (M.map zh) = out.map zh ++ (if acc = 0 then j0 ((M.drop j).map zh) else (x.row, acc) :: j0 ((M.drop j).map zh)) := by
          have h := Tot2.out; rw [<- Hacc.out, show qc (x.row, acc) ((M.drop j).map zh) = ((x.row, acc), (M.drop j).map zh) by rw [Hdy.out]; show (if zK y.row x.row = 0 then _ else _) = _; rw [if_neg (fun h => hc (Hord.out.symm.trans h))]] at h; exact h
         have Hst := hh_ hst; have Own6 := hh_ (zi (zi Own.out hg5) hw1); have G6 := hg3.trans (hg5.trans hw1); obtain ⟨bx, fx⟩ := (zb.grow Hbx.out hw1).rules; clear hst
         by_cases ha0 : acc = 0
         ·have da : (acc != 0) = false := by simpa using ha0
          go_wp2; go_roundw
          case rel => exact ⟨j, out, rfl, hjn, Own6.out, by have := Hst.out; rw [if_pos ha0] at this; exact this.symm, Hvo.out, by omega, G6⟩
          case measure => exact u1_
         ·have da : (acc != 0) = true := by simpa using ha0
          obtain ⟨ti, ht, hz0, hz1, hz2⟩ := qO; have hl2 := Own6.out.lt; have HL2 := hh_ hl2; clear hl2
          go_wp2_with (at_builtin; refine wpList_append_own _ rfl _ _ 25 rfl w2.heap.size 53 ti (.agg #[.slice none 0 0, .int .i64 0]) 2 32 Tryz.underlying25 ht hz0 hz1 hz2 rfl uW_ _ _ _ rfl (Own6.out.alloc _) ⟨w1.heap.size, 0, none⟩ 1 1 [.slice x.A x.row.length x.cap, .int .i64 acc] rfl rfl ?c1 ?c2 ?c3 ?c4 ?c5 ?_)
          case c1 => exact xr_
          case c2 => exact yQ_
          case c3 => exact yc_
          case c4 => omega
          case c5 => have := G6.size; simp; omega
          ·intro v' w7 hown' hgrow _; have hg7 : za w2 w7 := za.own (G6.al _) hgrow (fun i hi => (HL2.out i hi).1); clear hgrow; go_wp2; go_roundw
           case rel => exact ⟨j, out ++ [⟨x.A, x.row, x.cap, acc⟩], rfl, hjn, by simpa [xM, zr] using hown', by have := Hst.out; rw [if_neg ha0] at this; rw [this]; simp [zh], fun y hy => by
             rcases List.mem_append.1 hy with hy | hy
             ·exact Hvo.out y hy
             ·simp at hy; subst hy; exact ⟨Vx.out, Cx.out⟩, by simp; omega, hg7⟩
           case measure => exact u1_
       case hp' => trivial
      ·obtain rfl : j = xs.length := by omega
       have d1 : decide ((xs.length : Int) < (xs.length : Int)) = false := by simp
       have hdr : (M.drop xs.length).map zh = [] := by rw [List.drop_eq_nil_of_le uf_]; rfl
       have Hdr := hh_ hdr; clear hdr; go_wp2; apply wp_region_calm 15 uQ_ uQ_
       case h' =>
        intro Q0 hQ0; simp only [List.take_succ_cons, List.take_zero]
        repeat ((first | ((first | apply calm_p rfl | apply zu rfl rfl rfl); case h1 => (intro w1 hw1 hF K hK; obtain ⟨bx, fx⟩ := (zb.grow Hbx.out hw1).rules; go_simp; first | exact hK _ (za.refl _))) | apply zw rfl rfl rfl rfl); intro K hK; go_simp; apply hK; clear hK K)
        refine calm_nil ?_; intro w1 hw1 hF; apply hQ0; clear hQ0; simp only [List.drop_succ_cons, List.drop_zero]; clear hF
        have hst : j0 (M.map zh) = out.map zh ++ (if acc = 0 then j0 ((M.drop xs.length).map zh) else (x.row, acc) :: j0 ((M.drop xs.length).map zh)) := by
         have h := Tot2.out; rw [<- Hacc.out, show qc (x.row, acc) ((M.drop xs.length).map zh) = ((x.row, acc), (M.drop xs.length).map zh) by rw [Hdr.out]; rfl] at h; exact h
        have Hst := hh_ hst; have Own6 := hh_ (zi (zi Own.out hg5) hw1); have G6 := hg3.trans (hg5.trans hw1); obtain ⟨bx, fx⟩ := (zb.grow Hbx.out hw1).rules; clear hst
        by_cases ha0 : acc = 0
        ·have da : (acc != 0) = false := by simpa using ha0
         go_wp2; go_roundw
         case rel => exact ⟨xs.length, out, rfl, hjn, Own6.out, by have := Hst.out; rw [if_pos ha0] at this; exact this.symm, Hvo.out, by omega, G6⟩
         case measure => exact u1_
        ·have da : (acc != 0) = true := by simpa using ha0
         obtain ⟨ti, ht, hz0, hz1, hz2⟩ := qO; have hl2 := Own6.out.lt; have HL2 := hh_ hl2; clear hl2
         go_wp2_with (at_builtin; refine wpList_append_own _ rfl _ _ 25 rfl w2.heap.size 53 ti (.agg #[.slice none 0 0, .int .i64 0]) 2 32 Tryz.underlying25 ht hz0 hz1 hz2 rfl uW_ _ _ _ rfl (Own6.out.alloc _) ⟨w1.heap.size, 0, none⟩ 1 1 [.slice x.A x.row.length x.cap, .int .i64 acc] rfl rfl ?c1 ?c2 ?c3 ?c4 ?c5 ?_)
         case c1 => exact xr_
         case c2 => exact yQ_
         case c3 => exact yc_
         case c4 => omega
         case c5 => have := G6.size; simp; omega
         ·intro v' w7 hown' hgrow _; have hg7 : za w2 w7 := za.own (G6.al _) hgrow (fun i hi => (HL2.out i hi).1); clear hgrow; go_wp2; go_roundw
          case rel => exact ⟨xs.length, out ++ [⟨x.A, x.row, x.cap, acc⟩], rfl, hjn, by simpa [xM, zr] using hown', by have := Hst.out; rw [if_neg ha0] at this; rw [this]; simp [zh], fun y hy => by
            rcases List.mem_append.1 hy with hy | hy
            ·exact Hvo.out y hy
            ·simp at hy; subst hy; exact ⟨Vx.out, Cx.out⟩, by simp; omega, hg7⟩
          case measure => exact u1_
       case hp' => trivial
    ·have ei : i = xs.length := by omega
     have hfin : out.map zh = j0 (M.map zh) := by
      have h := Tot.out; rw [List.drop_eq_nil_of_le uf_] at h; simpa [j0, Lj] using h
     have hres : ∃ (B : Option Addr) (cap : Nat), u6 = .slice B out.length cap /\ xe wr B out /\ yf B out.length cap := by
      obtain ⟨_, h⟩ := Own.out; rcases h with ⟨rfl, h0⟩ | ⟨gb, cap, cur, rfl, hB, hgb, hle, hmx, hcs, htk⟩
      ·have : out = [] := List.length_eq_zero_iff.1 h0; subst this; exact ⟨none, 0, rfl, fun i x hx => by simp at hx, yf.nil⟩
      ·refine ⟨some ⟨gb, 0, none⟩, cap, rfl, fun i x hx => ⟨gb, 0, rfl, ?_, ?_, (Hvo.out x (qZ_ hx)).1.grow hg3⟩, hle, fun h => by cases h⟩
       ·have hb : zb wr gb 53 cur := hgb; have hi' : i < out.length := (qQ9.1 hx).1; have h1 := (qp out i x hx).1; rw [<- htk, List.getElem?_take, if_pos uX_] at h1; rw [Nat.zero_add, hb.cell]; simpa using h1
       ·have hb : zb wr gb 53 cur := hgb; have hi' : i < out.length := (qQ9.1 hx).1; have h1 := (qp out i x hx).2; rw [<- htk, List.getElem?_take, if_pos uX_] at h1; rw [Nat.zero_add, hb.cell]; simpa using h1
     obtain ⟨B, cap, rfl, hzin, hsok⟩ := hres; have Hsok := hh_ hsok; have Hfin := hh_ hfin; have Hzin := hh_ hzin; have Hco := hh_ (fun y hy => (Hvo.out y hy).2); have d0 : decide ((i : Int) < (xs.length : Int)) = false := by simp; omega
     have d0n : ¬ i < xs.length := hlt; clear hfin hzin ei hsok; go_wp2; go_ret; exact ⟨B, out, cap, rfl, Hzin.out, by rw [Hfin.out]; exact Hcan.out, fun r => by rw [Hfin.out]; exact Hwt.out r, Hsok.out, Hco.out, G0.trans hg3⟩
def kA : List V -> Int
 | [] => 0
 | v :: l => if zY v ≠ 0 then zY v else kA l
theorem LJ {xs : List V} {k : Nat} {x : V} (h : xs[k]? = some x) : kA (xs.drop k) = if zY x ≠ 0 then zY x else kA (xs.drop (k + 1)) := wb_
theorem Ws : ∀ xs : List V, kA xs = 0 ↔ ∀ v ∈ xs, RV v
 | [] => by simp [kA]
 | v :: l => by
  have h1 := RV.of v; have h2 := Ws l; unfold kA; simp only [List.mem_cons, forall_eq_or_imp]; split
  ·rename_i h; exact ⟨fun e => absurd e h, fun e => absurd (h1.2 e.1) h⟩
  ·rename_i h; have h : zY v = 0 := by simpa using h
   exact ⟨fun e => ⟨h1.1 h, h2.1 e⟩, fun e => h2.2 e.2⟩
def jH (r : List V) : Int := if 8 < r.length then 5 else kA r
theorem kg (r : List V) : jH r = 0 ↔ r.length <= 8 /\ ∀ v ∈ r, RV v := by
 unfold jH; split
 ·exact ⟨fun h => by simp at h, fun h => by omega⟩
 ·rw [Ws]; exact ⟨fun h => ⟨by omega, h⟩, fun h => h.2⟩
def xx (n : Int) : Bool := decide (n < -1000000) || decide (1000000 < n)
theorem Jm {n : Int} (h : xx n = false) : -1000000 <= n /\ n <= 1000000 := by
 simp [xx] at h; omega
def K3 (p : Option (List V)) (r : List V) : Bool := match p with | none => false | some y => decide (0 <= zv x4 y r)
def BJ : Option (List V) -> List Z -> Int
 | _, [] => 0
 | p, x :: l => if jH x.1 ≠ 0 then jH x.1 else if x.2 = 0 \/ xx x.2 = true then 3 else if K3 p x.1 = true then 2 else BJ (some x.1) l
def qz (xs : List I) (k : Nat) : Option (List V) := if k = 0 then none else (xs[k - 1]?).map (·.row)
theorem FM {xs : List I} {k : Nat} {x : I} (h : xs[k]? = some x) : BJ (qz xs k) ((xs.drop k).map zh) = if jH x.row ≠ 0 then jH x.row else if x.w = 0 \/ xx x.w = true then 3 else if K3 (qz xs k) x.row = true then 2 else BJ (qz xs (k + 1)) ((xs.drop (k + 1)).map zh) := by
 obtain ⟨h1, e1⟩ := qQ9.1 h; have hp : qz xs (k + 1) = some x.row := by unfold qz; rw [if_neg uX_, Nat.add_sub_cancel, h]; rfl
 rw [List.drop_eq_getElem_cons h1, e1, hp]; rfl
def zC (z : List Z) : Int := if 400 < z.length then 5 else BJ none z
structure RZ (z : List Z) : Prop where
 len : z.length <= 400
 row : ∀ x ∈ z, x.1.length <= 8 /\ ∀ v ∈ x.1, RV v
 w : ∀ x ∈ z, x.2 ≠ 0 /\ -1000000 <= x.2 /\ x.2 <= 1000000
 up : z.Pairwise (fun x y => zK x.1 y.1 < 0)
theorem RF : ∀ (z : List Z) (p : Option (List V)), (∀ y, p = some y -> ∀ v ∈ y, RV v) -> (BJ p z = 0 ↔ (∀ x ∈ z, x.1.length <= 8 /\ ∀ v ∈ x.1, RV v) /\ (∀ x ∈ z, x.2 ≠ 0 /\ -1000000 <= x.2 /\ x.2 <= 1000000) /\ z.Pairwise (fun x y => zK x.1 y.1 < 0) /\ (∀ y x, p = some y -> x ∈ z -> zK y x.1 < 0))
 | [], p, _ => by simp [BJ]
 | x :: l, p, hp => by
  unfold BJ
  by_cases h1 : jH x.1 = 0
  ·have hr := (kg x.1).1 h1; rw [if_neg uB_]
   by_cases h2 : x.2 = 0 \/ xx x.2 = true
   ·rw [if_pos h2]
    constructor
    ·exact yl_
    ·rintro ⟨_, hw, _⟩; have := hw x uY_; rcases h2 with h2 | h2
     ·exact absurd h2 this.1
     ·simp [xx] at h2; omega
   ·rw [if_neg h2]
    have h2' : x.2 ≠ 0 /\ -1000000 <= x.2 /\ x.2 <= 1000000 := by
     have a : ¬ x.2 = 0 := fun e => h2 (.inl e)
     have b := Jm (n := x.2) (by cases hb : xx x.2; rfl; exact absurd (.inr hb) h2); exact ⟨a, b⟩
    have ih := RF l (some x.1) (fun y hy => by cases hy; exact hr.2)
    by_cases h3 : ∃ y, p = some y /\ 0 <= zv x4 y x.1
    ·obtain ⟨y, rfl, hy⟩ := h3; rw [if_pos (by simpa [K3] using hy)]
     constructor
     ·exact yl_
     ·rintro ⟨_, _, _, h⟩; have := h y x rfl uY_; rw [yg _ _ (hp y rfl) hr.2] at hy; unfold zK at this; omega
    ·have h4 : ∀ y, p = some y -> zK y x.1 < 0 := fun y hy => by
      have : ¬ 0 <= zv x4 y x.1 := fun h => h3 ⟨y, hy, h⟩
      rw [yg _ _ (hp y hy) hr.2] at this; unfold zK; omega
     have h5 : ¬ (K3 p x.1 = true) := by
      cases p with
      | none => simp [K3]
      | some y => simp [K3]; have : ¬ 0 <= zv x4 y x.1 := fun h => h3 ⟨y, rfl, h⟩; omega
     rw [if_neg h5, ih]
     constructor
     ·rintro ⟨a, b, c, d⟩; refine ⟨fun y hy => ?_, fun y hy => ?_, List.pairwise_cons.2 ⟨fun y hy => d _ y rfl hy, c⟩, fun y u hy hu => ?_⟩
      ·rcases List.mem_cons.1 hy with rfl | hy
       ·exact hr
       ·exact a y hy
      ·rcases List.mem_cons.1 hy with rfl | hy
       ·exact h2'
       ·exact b y hy
      ·rcases List.mem_cons.1 hu with rfl | hu
       ·exact h4 y hy
       ·exact jY (h4 y hy) (d _ u rfl hu)
     ·rintro ⟨a, b, c, d⟩; exact ⟨fun y hy => a y uS_, fun y hy => b y uS_, (List.pairwise_cons.1 c).2, fun y u hy hu => by cases hy; exact (List.pairwise_cons.1 c).1 u hu⟩
  ·rw [if_pos h1]
   constructor
   ·intro h; exact absurd h h1
   ·rintro ⟨a, _⟩; exact absurd ((kg x.1).2 (a x uY_)) h1
theorem jK (z : List Z) : zC z = 0 ↔ RZ z := by
 unfold zC; have h := RF z none (fun y hy => by cases hy); split
 ·exact ⟨fun h => by simp at h, fun h => by have := h.len; omega⟩
 ·rw [h]; exact ⟨fun ⟨a, b, c, _⟩ => ⟨by omega, a, b, c⟩, fun h => ⟨h.row, h.w, h.up, fun y x hy => by cases hy⟩⟩
theorem ZP (n : Int) (w : World) : Calls Tryz.prog 112 #[.int .i64 n] w fun e w' => e = .returned (.bool (!xx n)) /\ w = w' := by
 go_enter Tryz.func112, Tryz.ntmps112
 by_cases h1 : n <= 1000000
 ·have d1 : decide (n <= 1000000) = true := by simpa using h1
  by_cases h2 : -1000000 <= n
  ·have d2 : decide (-1000000 <= n) = true := by simpa using h2
   go_wp2; go_ret; refine xn ?_ rfl; simp [xx]; omega
  ·have d2 : decide (-1000000 <= n) = false := by simp; omega
   go_wp2; go_ret; refine xn ?_ rfl; simp [xx]; omega
 ·have d1 : decide (n <= 1000000) = false := by simp; omega
  go_wp2; go_ret; refine xn ?_ rfl; simp [xx]; omega
theorem zai (row : List V) (A : Option Addr) (c : Nat) (w : World) (hlen : row.length <= 9223372036854775807) (hx : xi w A row) (R : Int) (hR : jH row = R) :
  Calls Tryz.prog 111 #[.slice A row.length c] w fun en w' => en = .returned (.int .i64 R) /\ za w w' := by
 have HR := hh_ hR; have Hx := hh_ hx; clear hx hR; go_enter Tryz.func111, Tryz.ntmps111
 by_cases h8 : 8 < row.length
 ·exact xF_
 ·have d8 : decide ((8 : Int) < (row.length : Int)) = false := by simp; omega
  have inv0 : kA (row.drop 0) = R := by rw [<- HR.out]; unfold jH; rw [if_neg h8, List.drop_zero]
  have Inv0 := hh_ inv0; clear inv0; go_wp2
  go_loopw [11] (fun i wr => ∃ k : Nat, k <= row.length /\ i = .int .i64 k /\ kA (row.drop k) = R /\ za w wr) (fun i _ => row.length - (intOf i).toNat)
  case atStart => exact w0_
  case round =>
   obtain ⟨k, hk, rfl, hinv, hg⟩ := hrel; have xt := hh_ hinv; clear hinv
   by_cases hlt : k < row.length
   ·obtain ⟨x, hxk⟩ : ∃ x, row[k]? = some x := ⟨_, qQ_ hlt⟩
    obtain ⟨gx, ox, rfl, c1, c2, c3⟩ := (Hx.out.grow hg) k x hxk; have inv2 := (LJ hxk).symm.trans xt.out; have Inv2 := hh_ inv2; clear inv2 hxk
    by_cases hw : zY x = 0
    ·have dw : (zY x != 0) = false := by simpa using hw
     go_wp2_with (go_at_call 113; ((with_reducible refine (jB x _).mono ?_); rintro e w2 ⟨rfl, hg2⟩; have G2 := (hg.al _).trans hg2))
     go_roundw
     case rel => exact xV_
     case measure => exact u1_
    ·have dw : (zY x != 0) = true := by simpa using hw
     go_wp2_with (go_at_call 113; ((with_reducible refine (jB x _).mono ?_); rintro e w2 ⟨rfl, hg2⟩; have G2 := (hg.al _).trans hg2))
     go_ret; exact zk ox_ G2
   ·exact xc_
theorem XL {a b c : List V} (h1 : zK a b < 0) (h2 : zK b c = 0) : zK a c < 0 := by
 have h3 := xN (a := a) (b := b) (c := c) uX_ uX_
 by_cases h : zK a c = 0
 ·have h4 := yK a c; have h5 := xN (a := b) (b := c) (c := a) uX_ uX_; have h6 := yK a b; omega
 ·omega
theorem J8 {a b c : List V} (h1 : zK a b = 0) (h2 : zK b c < 0) : zK a c < 0 := w2_
theorem Y4 {r : List V} (h : ∀ v ∈ r, RV v) : zK r (zd r) = 0 := (yR r (zd r) h (qE h)).2 (yL r).symm
theorem J7 {r : List V} (h : ∀ v ∈ r, RV v) : zK (zd r) r = 0 := (yR (zd r) r (qE h) h).2 (yL r)
def qB : List Z -> List V -> Int -> List Z
 | [], r, n => if n ≠ 0 then [(zd r, n)] else []
 | x :: z, r, n => if zK x.1 r < 0 then x :: qB z r n else if zK x.1 r = 0 then (if n + x.2 ≠ 0 then (zd r, n + x.2) :: z else z) else (if n ≠ 0 then (zd r, n) :: x :: z else x :: z)
theorem Mp : ∀ (z : List Z) (r : List V) (n : Int), yA z -> (∀ v ∈ r, RV v) -> yA (qB z r n) /\ (∀ q, zW (qB z r n) q = zW z q + if zd r = zd q then n else 0) /\ (∀ a, zK a r < 0 -> (∀ y ∈ z, zK a y.1 < 0) -> ∀ y ∈ qB z r n, zK a y.1 < 0)
 | [], r, n, hz, hr => by
  unfold qB; split
  ·rename_i h; refine ⟨⟨List.pairwise_singleton _ _, fun x hx => ?_, fun x hx => ?_, fun x hx => ?_⟩, fun q => ?_, fun a ha _ y hy => ?_⟩
   ·simp at hx; subst hx; exact qE hr
   ·simp at hx; subst hx; exact yL r
   ·simp at hx; subst hx; exact h
   ·rw [zq]; simp only [yL]; omega
   ·simp at hy; subst hy; exact XL ha (Y4 hr)
  ·rename_i h; have h : n = 0 := by simpa using h
   exact ⟨QJ, fun q => by simp [h, qM], fun a ha _ y hy => by simp at hy⟩
 | x :: z, r, n, hz, hr => by
  have ih := Mp z r n hz.tail hr; have rx := hz.rv x uY_; have ux := (List.pairwise_cons.1 hz.up).1; unfold qB; split
  ·rename_i h; refine ⟨⟨List.pairwise_cons.2 ⟨fun y hy => ih.2.2 x.1 h ux y hy, ih.1.up⟩, fun y hy => ?_, fun y hy => ?_, fun y hy => ?_⟩, fun q => ?_, fun a ha hl y hy => ?_⟩
   ·rcases List.mem_cons.1 hy with rfl | hy
    ·exact rx
    ·exact ih.1.rv y hy
   ·rcases List.mem_cons.1 hy with rfl | hy
    ·exact hz.bare _ uY_
    ·exact ih.1.bare y hy
   ·rcases List.mem_cons.1 hy with rfl | hy
    ·exact hz.w _ uY_
    ·exact ih.1.w y hy
   ·rw [zq, zq, ih.2.1 q]; omega
   ·rcases List.mem_cons.1 hy with rfl | hy
    ·exact hl _ uY_
    ·exact ih.2.2 a ha (fun u hu => hl u uU_) y hy
  ·rename_i h1; split
   ·rename_i h2
    have e : zd r = x.1 := by
     have := (yR x.1 r rx hr).1 h2; rw [hz.bare x uY_] at this; exact this.symm
    split
    ·rename_i h3; refine ⟨⟨List.pairwise_cons.2 ⟨fun y hy => by rw [e]; exact ux y hy, hz.tail.up⟩, fun y hy => ?_, fun y hy => ?_, fun y hy => ?_⟩, fun q => ?_, fun a ha hl y hy => ?_⟩
     ·rcases List.mem_cons.1 hy with rfl | hy
      ·exact qE hr
      ·exact hz.rv y uS_
     ·rcases List.mem_cons.1 hy with rfl | hy
      ·exact yL r
      ·exact hz.bare y uS_
     ·rcases List.mem_cons.1 hy with rfl | hy
      ·exact h3
      ·exact hz.w y uS_
     ·rw [zq, zq]; simp only [yL, hz.bare x uY_, e]; split <;> omega
     ·rcases List.mem_cons.1 hy with rfl | hy
      ·exact XL ha (Y4 hr)
      ·exact hl y uS_
    ·rename_i h3; have h3 : n + x.2 = 0 := by simpa using h3
     refine ⟨hz.tail, fun q => ?_, fun a ha hl y hy => hl y uS_⟩; rw [zq]; simp only [hz.bare x uY_, e]; split <;> omega
   ·rename_i h2; have hlt : zK r x.1 < 0 := by have := yK r x.1; omega
    split
    ·rename_i h3; refine ⟨⟨List.pairwise_cons.2 ⟨fun y hy => ?_, hz.up⟩, fun y hy => ?_, fun y hy => ?_, fun y hy => ?_⟩, fun q => ?_, fun a ha hl y hy => ?_⟩
     ·have h4 := J8 (J7 hr) hlt; rcases List.mem_cons.1 hy with rfl | hy
      ·exact h4
      ·exact jY h4 (ux y hy)
     ·rcases List.mem_cons.1 hy with rfl | hy
      ·exact qE hr
      ·exact hz.rv y hy
     ·rcases List.mem_cons.1 hy with rfl | hy
      ·exact yL r
      ·exact hz.bare y hy
     ·rcases List.mem_cons.1 hy with rfl | hy
      ·exact h3
      ·exact hz.w y hy
     ·rw [zq]; simp only [yL]; omega
     ·rcases List.mem_cons.1 hy with rfl | hy
      ·exact XL ha (Y4 hr)
      ·exact hl y hy
    ·rename_i h3; have h3 : n = 0 := by simpa using h3
     exact ⟨hz, fun q => by rw [h3]; simp, fun a ha hl y hy => hl y hy⟩
theorem Kg : ∀ (z : List Z) (r : List V) (n : Int), ∀ y ∈ qB z r n, y ∈ z \/ (y.1 = zd r /\ (y.2 = n \/ ∃ x ∈ z, y.2 = n + x.2))
 | [], r, n, y, hy => by
  unfold qB at hy; split at hy
  ·simp at hy; subst hy; exact .inr ⟨rfl, .inl rfl⟩
  ·simp at hy
 | x :: z, r, n, y, hy => by
  unfold qB at hy; split at hy
  ·rcases List.mem_cons.1 hy with rfl | hy
   ·exact .inl uY_
   ·rcases Kg z r n y hy with h | ⟨h1, h | ⟨u, hu, h⟩⟩
    ·exact .inl (by simp [h])
    ·exact .inr ⟨h1, .inl h⟩
    ·exact .inr ⟨h1, .inr ⟨u, by simp [hu], h⟩⟩
  ·split at hy
   ·split at hy
    ·rcases List.mem_cons.1 hy with rfl | hy
     ·exact .inr ⟨rfl, .inr ⟨x, by simp, rfl⟩⟩
     ·exact .inl uS_
    ·exact .inl uS_
   ·split at hy
    ·rcases List.mem_cons.1 hy with rfl | hy
     ·exact .inr ⟨rfl, .inl rfl⟩
     ·exact .inl hy
    ·exact .inl hy
theorem Rd : ∀ (z : List Z) (r : List V) (n : Int), (qB z r n).length <= z.length + 1
 | [], r, n => by unfold qB; split <;> simp
 | x :: z, r, n => by
  have := Rd z r n; unfold qB; split
  ·simp; omega
  ·split <;> split <;> simp <;> omega
def Pf (M : Int) (z : List Z) : Prop := ∀ x ∈ z, -M <= x.2 /\ x.2 <= M
theorem zae {M K : Int} {z : List Z} {r : List V} {n : Int} (hz : Pf M z) (hM : 0 <= M) (h1 : -K <= n) (h2 : n <= K) : Pf (M + K) (qB z r n) := fun y hy => by
 rcases Kg z r n y hy with h | ⟨_, h | ⟨x, hx, h⟩⟩
 ·have := hz y h; omega
 ·omega
 ·have := hz x hx; omega
def WQ (z l : List Z) : List Z := l.foldl (fun z x => qB z x.1 x.2) z
def yE (l : List Z) : List Z := WQ [] l
theorem YF (z : List Z) (x : Z) (l : List Z) : WQ z (x :: l) = WQ (qB z x.1 x.2) l := rfl
theorem Lp : ∀ (l z : List Z), yA z -> (∀ x ∈ l, ∀ v ∈ x.1, RV v) -> yA (WQ z l) /\ ∀ q, zW (WQ z l) q = zW z q + zW l q
 | [], z, hz, _ => ⟨hz, fun q => by simp [WQ, qM]⟩
 | x :: l, z, hz, hl => by
  have h1 := Mp z x.1 x.2 hz (hl x uY_); have h2 := Lp l (qB z x.1 x.2) h1.1 (fun y hy => hl y uS_); rw [YF]; refine ⟨h2.1, fun q => ?_⟩; rw [h2.2 q, h1.2.1 q, zq]; omega
theorem yW (l : List Z) (hl : ∀ x ∈ l, ∀ v ∈ x.1, RV v) : yA (yE l) /\ ∀ q, zW (yE l) q = zW l q := by
 have h := Lp l [] QJ hl; exact ⟨h.1, fun q => by have := h.2 q; rw [qM] at this; unfold yE; omega⟩
theorem N9 : ∀ (l z : List Z), (WQ z l).length <= z.length + l.length
 | [], z => by simp [WQ]
 | x :: l, z => by
  rw [YF]; have h1 := N9 l (qB z x.1 x.2); have h2 := Rd z x.1 x.2; simp; omega
theorem Yw (l : List Z) : (yE l).length <= l.length := by
 have := N9 l []; simpa [yE] using this
theorem NK {l y : List Z} (hl : ∀ x ∈ l, ∀ v ∈ x.1, RV v) (hy : yA y) (hw : ∀ q, zW y q = zW l q) : y = yE l :=
 jt _ _ hy (yW l hl).1 (fun r _ => by rw [hw, (yW l hl).2])
def Xb (z : List Z) : List Z × Int := if z.any (fun x => xx x.2) then ([], 3) else if 400 < z.length then ([], 5) else (z, 0)
def yy (l : List Z) : List Z × Int := Xb (yE l)
def Ld : List Z -> Int
 | [] => 0
 | x :: l => if jH x.1 ≠ 0 then jH x.1 else if xx x.2 = true then 3 else Ld l
theorem Hh {xs : List I} {k : Nat} {x : I} (h : xs[k]? = some x) : Ld ((xs.drop k).map zh) = if jH x.row ≠ 0 then jH x.row else if xx x.w = true then 3 else Ld ((xs.drop (k + 1)).map zh) := wb_
theorem Mi : ∀ l : List Z, Ld l = 0 ↔ ∀ x ∈ l, (x.1.length <= 8 /\ ∀ v ∈ x.1, RV v) /\ -1000000 <= x.2 /\ x.2 <= 1000000
 | [] => by simp [Ld]
 | x :: l => by
  have ih := Mi l; have h1 := kg x.1; unfold Ld; simp only [List.mem_cons, forall_eq_or_imp]
  by_cases h : jH x.1 = 0
  ·rw [if_neg uI_]
   by_cases h2 : xx x.2 = true
   ·rw [if_pos h2]; refine ⟨fun e => by simp at e, fun e => ?_⟩; have := e.1.2; simp [xx] at h2; omega
   ·rw [if_neg h2, ih]; exact ⟨fun e => ⟨⟨h1.1 h, Jm uE_⟩, e⟩, fun e => e.2⟩
  ·rw [if_pos h]; exact ⟨fun e => absurd e h, fun e => absurd (h1.2 e.1.1) h⟩
def D4 (l : List Z) : List Z × Int := if 1600 < l.length then ([], 5) else if Ld l ≠ 0 then ([], Ld l) else yy l
theorem Cp {xs : List I} {k : Nat} {x : I} (h : xs[k]? = some x) : ((xs.drop k).map zh).any (fun x => xx x.2) = (xx x.w || ((xs.drop (k + 1)).map zh).any (fun x => xx x.2)) := wb_
def yr (w w' : World) (e : Ending) (r : List Z × Int) : Prop := ∃ (B : Option Addr) (ys : List I) (cap : Nat), e = .returned (.tuple #[.slice B ys.length cap, .int .i64 r.2]) /\ xe w' B ys /\ ys.map zh = r.1 /\ yf B ys.length cap /\ za w w'
theorem zX (w : World) (A : Option Addr) : xe w A [] := fun i x hx => by simp at hx
end Go.Proofs.YtflggnopgnoeiaaGreat
namespace Go.Proofs.YtflggnopgnoeiaaGreat
open Go.ChangeShapes Go.WideShapes Go.ChangeAt Go.RowKit Go.Calm
set_option maxRecDepth 100000
theorem Qm {α : Type} [Inhabited α] {P : Nat -> α -> Prop} (n : Nat) (h : ∀ i, i < n -> ∃ x, P i x) : ∃ xs : List α, xs.length = n /\ ∀ i x, xs[i]? = some x -> P i x := by
 obtain ⟨f, hf⟩ := Go.Deep.choose_lt h; refine ⟨(List.range n).map f, by simp, fun i x hx => ?_⟩; obtain ⟨hi, e⟩ := qQ9.1 hx; simp at hi e; subst e; exact hf i hi
structure IB (x : I) : Prop where
 len : x.row.length <= maxLen
 v : ∀ v ∈ x.row, VB v
 w : x7 x.w
section
variable {H : Type} {enc : TypeId × Value -> H} {w : World} {base : Nat} {spare : Nat -> Bool} {held : Bool}
theorem Tj {fuel : Nat} {cs : List Value} {x : DataW H × List MemPlace} (h : DataW.trod enc Tryz.prog w base spare held fuel 53 cs = some x) :
  ∃ x : I, cs = [.slice x.A x.row.length x.cap, .int .i64 x.w] /\ xi w x.A x.row /\ IB x := by
 obtain ⟨xs, n, hfu, _, hlen, hxl, hf⟩ := DataW.trod_struct Tryz.underlying53 h; have h6 : cs.length = 2 := by rw [hlen]; kernel_rfl
 match cs, h6 with
 | [a, b], _ =>
  have f0 := hf 0 _ rfl; have f1 := hf 1 _ rfl; have g : ∀ i, i < 2 -> ∃ y, xs[i]? = some y := fun i hi => ⟨xs[i]' uk_, qQ_ _⟩
  obtain ⟨y0, e0⟩ := g 0 uX_; obtain ⟨y1, e1⟩ := g 1 uX_; rw [e0] at f0; rw [e1] at f1; obtain ⟨A, row, cap, hcs, hv, hl, hb⟩ := Te f0; obtain ⟨m, hm, _, wm⟩ := DataW.trod_int Tryz.underlying2 f1; have c0 : Tryz.prog.cellsOf 51 = 1 := by kernel_rfl
  have c1 : Tryz.prog.cellsOf 2 = 1 := by kernel_rfl
  simp [c0] at hcs; simp [c1] at hm; exact ⟨⟨A, row, cap, m⟩, by simp [hcs, hm], hv, hl, hb, YD wm⟩
theorem RK {fuel : Nat} {cs : List Value} {x : DataW H × List MemPlace} (h : DataW.trod enc Tryz.prog w base spare held fuel 25 cs = some x) :
  ∃ (A : Option Addr) (xs : List I) (cap : Nat), cs = [.slice A xs.length cap] /\ xe w A xs /\ xs.length <= maxLen /\ yf A xs.length cap /\ ∀ x ∈ xs, IB x := by
 obtain ⟨A, len, cap, n, D, hcs, hl, hcap, hi⟩ := qX (c := 2) Tryz.underlying25 uQ_ uX_ h
 obtain ⟨xs, hxl, hx⟩ := Qm (α := I) (P := fun i x => IB x /\ ∃ g o, A = some ⟨g, o, none⟩ /\ w.cell? ⟨g, o + i * 2, none⟩ = some (.slice x.A x.row.length x.cap) /\ w.cell? ⟨g, o + i * 2 + 1, none⟩ = some (.int .i64 x.w) /\ xi w x.A x.row) len (fun i hlt => by
  obtain ⟨g, o, ys, hA, hyl, hat, hd⟩ := hi i hlt; obtain ⟨x, hx, hv, hb⟩ := Tj hd; subst hx
  exact ⟨x, hb, g, o, hA, hat 0 _ rfl, hat 1 _ rfl, hv⟩)
 have hn : A = none -> cap = 0 := by
  rcases DataW.trod_slice Tryz.underlying25 h with ⟨h0, _⟩ | ⟨a, len', cap', elems, rest, n', _, hcs', _⟩
  ·exact yR_
  ·exact yp_
 refine ⟨A, xs, cap, by rw [hcs, hxl], fun i x h => (hx i x h).2, by omega, ⟨by omega, hn⟩, fun x h => ?_⟩; obtain ⟨i, h1, h2⟩ := List.mem_iff_getElem.1 h; exact (hx i x ve_).1
end
