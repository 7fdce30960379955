/- Parts of a proof. No condition. -/
import Derived.Test.YtphaeahdmfapgaaGreatGG
import Derived.Laws.MakeOwn
import Derived.Test.YtphaeahdmfapgaaGreatGF
set_option maxRecDepth 100000
set_option maxHeartbeats 8000000
set_option maxRecDepth 100000
set_option linter.unusedSimpArgs false
set_option linter.unusedVariables false
namespace Go
variable {p : Prop}
theorem oA_ (h : p := by have := Inv2.out; rw [if_pos hw] at this; exact this) : p := h
theorem vg_ (h : p := by rw [<- h2]; exact qQ_ h1) : p := h
theorem vJ_ (h : p := by rw [<- HR.out]; unfold XU; rw [if_pos h8]) : p := h
theorem um_ (h : p := by rw [size_madeCells]; omega) : p := h
theorem ur_ (h : p := by have := LM.out; omega) : p := h
theorem uN_ (h : p := by simpa using hw) : p := h
theorem u2_ (h : p := by simp [hu]) : p := h
theorem wm_ (h : p := by
 obtain ⟨h1, e1⟩ := qQ9.1 h; rw [List.drop_eq_getElem_cons h1, e1]; rfl) : p := h
theorem xf_ (h : p := by
 exact ⟨0, Nat.zero_le _, rfl, Inv0.out, za.refl _⟩) : p := h
theorem xh_ (h : p := by
 have h3 := xp (a := a) (b := b) (c := c) u4_ u4_
 by_cases h : zZ a c = 0
 ·have h4 := xu a c; have h5 := xp (a := c) (b := a) (c := b) u4_ u4_; have h6 := xu b c; omega
 ·omega) : p := h
theorem xl_ (h : p := by
 obtain rfl : k = row.length := by omega
 have fin : R = 0 := by have := xP.out; rw [List.drop_length] at this; exact this.symm
 go_wp2; go_ret; exact zk fin.symm hg) : p := h
theorem xB_ (h : p := by
 intro j u hj
 match j, hj with
 | 0, hj => simp at hj; subst hj; simp [Addr.add]
 | 1, hj => simp at hj; subst hj; simp [Addr.add]) : p := h
theorem xR_ (h : p := by
 have d8 : decide ((8 : Int) < (row.length : Int)) = true := by simp; omega
 go_wp2; go_ret; exact zk vJ_ (za.refl _)) : p := h
theorem x2_ (h : p := by
 exact ⟨k + 1, by omega, by go_num, by have := Inv2.out; rw [if_neg uN_] at this; exact this, G2⟩) : p := h
theorem yw_ (h : p := by
 rw [hcs'] at hcs; simp at hcs; exact fun e => by rw [e] at hcs; simp at hcs) : p := h
theorem yR_ (h : p := by
 intro u hu; simp at hu; rcases hu with rfl | rfl <;> rfl) : p := h
theorem yS_ (h : p := by
 rw [h0] at hcs; simp at hcs; exact fun _ => hcs.2.2.symm) : p := h
end Go
namespace Go.Proofs.YtphaeahdmfapgaaGreat
open Go.RowKit Go.Calm
def zF : List V -> List Value
 | [] => []
 | v :: vs => .int .i64 v.k :: .int .i64 v.n :: .string v.s :: zF vs
theorem Yn : ∀ row : List V, (zF row).length = row.length * 3
 | [] => rfl
 | v :: vs => by simp [zF, Yn vs]; omega
theorem kH : ∀ (row : List V) (i : Nat) (x : V), row[i]? = some x -> (zF row)[i * 3]? = some (.int .i64 x.k) /\ (zF row)[i * 3 + 1]? = some (.int .i64 x.n) /\ (zF row)[i * 3 + 2]? = some (.string x.s)
 | [], i, x, h => by simp at h
 | v :: vs, 0, x, h => by simp at h; subst h; simp [zF]
 | v :: vs, i + 1, x, h => by
  have := kH vs i x uT_; rw [show (i + 1) * 3 = i * 3 + 3 by omega]; simpa [zF] using this
theorem JW : ∀ (xs : List V) (i : Nat) (y : V), i < xs.length -> (((zF xs).set (i * 3) (.int .i64 y.k)).set (i * 3 + 1) (.int .i64 y.n)).set (i * 3 + 2) (.string y.s) = zF (xs.set i y)
 | [], i, y, h => by simp at h
 | x :: xs, 0, y, h => by simp [zF]
 | x :: xs, i + 1, y, h => by
  have := JW xs i y uT_; rw [show (i + 1) * 3 = i * 3 + 1 + 1 + 1 by omega]; simp only [zF, List.set_cons_succ]; rw [<- this]
theorem Ww (z : Array Value) (n i : Nat) (h : i < n) : (madeCells z n)[i]? = some (z[i % z.size]!) := by
 simp [madeCells, h]
theorem N4 (n : Nat) : madeCells #[.int .i64 0, .int .i64 0, .string ⟨#[]⟩] (n * 3) = (zF (List.replicate n zV)).toArray := by
 apply Array.ext_getElem?; intro i
 by_cases hi : i < n * 3
 ·rw [Ww _ _ _ hi]; have hr : (List.replicate n zV)[i / 3]? = some zV := by rw [List.getElem?_replicate, if_pos u4_]
  obtain ⟨a, b, c⟩ := kH _ _ _ hr; have h3 : i % 3 = 0 \/ i % 3 = 1 \/ i % 3 = 2 := by omega
  rcases h3 with h | h | h
  ·rw [show i / 3 * 3 = i by omega] at a; rw [List.getElem?_toArray, a]; simp [h, zV]
  ·rw [show i / 3 * 3 + 1 = i by omega] at b; rw [List.getElem?_toArray, b]; simp [h, zV]
  ·rw [show i / 3 * 3 + 2 = i by omega] at c; rw [List.getElem?_toArray, c]; simp [h, zV]
 ·rw [Array.getElem?_eq_none um_, Array.getElem?_eq_none (by simp [Yn]; omega)]
def DV (w : World) (g : Nat) (xs : List V) : Prop := zc w g 24 (zF xs).toArray
theorem DV.lt {w : World} {g : Nat} {xs : List V} (h : DV w g xs) : g < w.heap.size := zc.lt h
theorem DV.frozen {w : World} {g : Nat} {xs : List V} (h : DV w g xs) (i : Nat) : w.frozen? ⟨g, i, none⟩ = false := zc.frozen h i
theorem DV.grow {w w' : World} {g : Nat} {xs : List V} (h : DV w g xs) (hg : za w w') : DV w' g xs := zc.grow h hg
theorem DV.at {w : World} {g : Nat} {xs : List V} (h : DV w g xs) {i : Nat} {x : V} (hx : xs[i]? = some x) : w.cell? ⟨g, i * 3, none⟩ = some (.int .i64 x.k) /\ w.cell? ⟨g, i * 3 + 1, none⟩ = some (.int .i64 x.n) /\ w.cell? ⟨g, i * 3 + 2, none⟩ = some (.string x.s) := by
 obtain ⟨a, b, c⟩ := kH xs i x hx; rw [zc.cell h, zc.cell h, zc.cell h]; exact ⟨by simpa using a, by simpa using b, by simpa using c⟩
theorem DV.put {w : World} {g : Nat} {xs : List V} (h : DV w g xs) {i : Nat} (hi : i < xs.length) (y : V) : DV (((w.setCell ⟨g, i * 3, none⟩ (.int .i64 y.k)).setCell ⟨g, i * 3 + 1, none⟩ (.int .i64 y.n)).setCell ⟨g, i * 3 + 2, none⟩ (.string y.s)) g (xs.set i y) := by
 have hb := (((zc.set h (i * 3) (.int .i64 y.k)).set (i * 3 + 1) (.int .i64 y.n)).set (i * 3 + 2) (.string y.s))
 unfold DV; rw [<- JW xs i y hi]; simpa using hb
theorem DV.vsl {w : World} {g : Nat} {xs : List V} (h : DV w g xs) : yS w (some ⟨g, 0, none⟩) xs := fun i x hx => by
 obtain ⟨a, b, c⟩ := h.at hx; exact ⟨g, 0, rfl, by simpa using a, by simpa using b, by simpa using c⟩
theorem J6 : (Tryz.prog.info? 24).map (fun i => (i.zero, i.size, i.bytes)) = some (some (.agg #[.int .i64 0, .int .i64 0, .string ⟨#[]⟩]), 3, 32) := by kernel_rfl
theorem Su (n : Nat) (hn : n <= 100000) (W : World) : (Instr.makeSlice 57 (.int .i64 (n : Int)) (.int .i64 (n : Int))).run Tryz.prog W = .ok (.slice (some ⟨W.heap.size, 0, none⟩) n n) (W.alloc (.cells (zF (List.replicate n zV)).toArray 24)) := by
 have h := J6; cases hi : Tryz.prog.info? 24 with
 | none => rw [hi] at h; simp at h
 | some i =>
  rw [hi] at h; simp at h; obtain ⟨h1, h2, h3⟩ := h; have := run_make W 57 24 i _ Tryz.underlying57 hi h1 .i64 .i64 (n : Int) (n : Int) u4_ u4_ (by rw [h3]; omega) u4_; rw [this, h2]; simp only [Int.toNat_natCast]; rw [show (Value.agg #[.int .i64 0, .int .i64 0, .string ⟨#[]⟩]).cells = #[.int .i64 0, .int .i64 0, .string ⟨#[]⟩] from rfl, N4]
theorem Dv (L : List V) (n : Nat) (y : V) (hn : 0 < n) : (L ++ List.replicate n zV).set L.length y = (L ++ [y]) ++ List.replicate (n - 1) zV := by
 obtain ⟨m, rfl⟩ : ∃ m, n = m + 1 := ⟨n - 1, by omega⟩
 rw [List.replicate_succ]
 induction L with
 | nil => simp
 | cons a L ih => simp at ih ⊢
theorem kA (row : List V) (A : Option Addr) (c : Nat) (w : World) (hlen : row.length <= 1000) (hx : yS w A row) :
  Calls Tryz.prog 75 #[.slice A row.length c] w fun en w' => ∃ g, en = .returned (.slice (some ⟨g, 0, none⟩) row.length row.length) /\ DV w' g (row.map bare) /\ w.heap.size <= g /\ za w w' := by
 have mk := fun W => Su row.length u4_ W
 have Hx := hh_ hx; clear hx; go_enter Tryz.func75, Tryz.ntmps75; go_wp2
 go_loopw [11] (fun i wr => ∃ k : Nat, k <= row.length /\ i = .int .i64 k /\ DV wr w.heap.size ((row.take k).map bare ++ List.replicate (row.length - k) zV) /\ za w wr) (fun i _ => row.length - (intOf i).toNat)
 case atStart => exact ⟨0, Nat.zero_le _, rfl, show DV _ _ (List.replicate row.length zV) from zc.new _ _ _, (za.refl w).al _⟩
 case round =>
  obtain ⟨k, hk, rfl, hdv, hg⟩ := hrel; have Hdv := hh_ hdv; clear hdv mk
  by_cases hlt : k < row.length
  ·obtain ⟨x, hxk⟩ : ∃ x, row[k]? = some x := ⟨_, qQ_ hlt⟩
   obtain ⟨gx, ox, rfl, c1, c2, c3⟩ := (Hx.out.grow hg) k x hxk; have Hxk := hh_ hxk; have hlk : ((row.take k).map bare).length = k := by simp; omega
   have hz : ((row.take k).map bare ++ List.replicate (row.length - k) zV)[k]? = some zV := by
    rw [List.getElem?_append_right u4_, hlk, Nat.sub_self, List.getElem?_replicate, if_pos u4_]
   have Hz := hh_ hz; have Hlk := hh_ hlk; have lg := Hdv.out.lt; clear hxk hz hlk
   go_wp2_with (go_at_call 118; ((with_reducible refine (Y9 x _).mono ?_); rintro e w2 ⟨rfl, hg2⟩; have Hdv2 := hh_ ((Hdv.out.grow ((za.refl wr).al _)).grow hg2); obtain ⟨z1, z2, z3⟩ := Hdv2.out.at Hz.out; have fz := Hdv2.out.frozen; have G2 := (hg.al _).trans hg2))
   go_roundw
   case rel =>
    refine ⟨k + 1, by omega, by go_num, ?_, za.set (za.set (za.set G2 (Nat.le_refl _) _) (Nat.le_refl _) _) (Nat.le_refl _) _⟩; have h1 := Hdv2.out.put (qQ9.1 Hz.out).1 (bare x); have h2 := Dv ((row.take k).map bare) (row.length - k) (bare x) u4_; rw [Hlk.out] at h2; rw [h2] at h1
    have e : (row.take (k + 1)).map bare = (row.take k).map bare ++ [bare x] := by
     have hx' := (qQ9.1 Hxk.out).2; rw [List.take_succ_eq_append_getElem hlt, hx']; simp
    rw [e, show row.length - (k + 1) = row.length - k - 1 by omega]; exact h1
   case measure => exact wa_
  ·obtain rfl : k = row.length := by omega
   have hfin : DV wr w.heap.size (row.map bare) := by
    have := Hdv.out; simpa using this
   have Hfin := hh_ hfin; clear hfin; go_wp2; go_ret; exact ⟨w.heap.size, rfl, Hfin.out, Nat.le_refl _, hg⟩
theorem T4 (row : List V) (A : Option Addr) (c : Nat) (w : World) (hlen : row.length <= 1000) (hx : yS w A row) :
  Calls Tryz.prog 75 #[.slice A row.length c] w fun en w' => ∃ g, en = .returned (.slice (some ⟨g, 0, none⟩) row.length row.length) /\ yS w' (some ⟨g, 0, none⟩) (row.map bare) /\ w.heap.size <= g /\ za w w' :=
 (kA row A c w hlen hx).mono fun en w' ⟨g, h1, h2, h3, h4⟩ => ⟨g, h1, h2.vsl, h3, h4⟩
instance : DecidableEq V := fun a b => decidable_of_iff (Bw a b = true) (Rl a b)
abbrev Z := List V × Int
def zj (r : List V) : List V := r.map bare
theorem Yh (v : V) : bare (bare v) = bare v := by
 unfold bare
 repeat' split
 all_goals simp_all
theorem yK (r : List V) : zj (zj r) = zj r := by
 unfold zj; rw [List.map_map]; exact List.map_congr_left fun v _ => Yh v
def xe (z : List Z) (r : List V) : Int := (z.map (fun x => if zj x.1 = zj r then x.2 else 0)).sum
theorem qx (r : List V) : xe [] r = 0 := rfl
theorem zv (x : Z) (z : List Z) (r : List V) : xe (x :: z) r = (if zj x.1 = zj r then x.2 else 0) + xe z r := by simp [xe]
theorem xz (y z : List Z) (r : List V) : xe (y ++ z) r = xe y r + xe z r := by
 induction y with
 | nil => simp [qx]
 | cons x y ih => rw [List.cons_append, zv, zv, ih]; omega
theorem Ny {y z : List Z} (h : y.Perm z) (r : List V) : xe y r = xe z r := by
 induction h with
 | nil => rfl
 | cons x _ ih => rw [zv, zv, ih]
 | swap x y l => simp only [zv]; omega
 | trans _ _ ih1 ih2 => rw [ih1, ih2]
def zZ (a b : List V) : Int := zC zH a b
theorem Pp (a b : List V) : zZ a b = -1 \/ zZ a b = 0 \/ zZ a b = 1 := XV zH qV a b
theorem xu (a b : List V) : zZ b a = - zZ a b := yu zH yr a b
theorem xp {a b c : List V} (h1 : zZ a b <= 0) (h2 : zZ b c <= 0) : zZ a c <= 0 := qc a b c h1 h2
theorem Xk {a b c : List V} (h1 : zZ a b < 0) (h2 : zZ b c < 0) : zZ a c < 0 := xh_
theorem yX : ∀ (a b : List V), (∀ v ∈ a, RV v) -> (∀ v ∈ b, RV v) -> (zZ a b = 0 ↔ zj a = zj b)
 | [], [], _, _ => by simp [zZ, zC, zj]
 | [], y :: ys, _, _ => by simp [zZ, zC, zj]
 | x :: xs, [], _, _ => by simp [zZ, zC, zj]
 | x :: xs, y :: ys, hx, hy => by
  have h0 := SG x y (hx x u5_) (hy y u5_); have ih : zC zH xs ys = 0 ↔ xs.map bare = ys.map bare := yX xs ys (fun v h => hx v (by simp [h])) (fun v h => hy v (by simp [h])); show (if zH x y = 0 then zC zH xs ys else zH x y) = 0 ↔ (x :: xs).map bare = (y :: ys).map bare; simp only [List.map_cons, List.cons.injEq]; split
  ·rename_i h; exact ⟨fun e => ⟨h0.1 h, ih.1 e⟩, fun e => ih.2 e.2⟩
  ·rename_i h; exact ⟨fun e => absurd e h, fun e => absurd (h0.2 e.1) h⟩
structure xi (z : List Z) : Prop where
 up : z.Pairwise (fun x y => zZ x.1 y.1 < 0)
 rv : ∀ x ∈ z, ∀ v ∈ x.1, RV v
 bare : ∀ x ∈ z, zj x.1 = x.1
 w : ∀ x ∈ z, x.2 ≠ 0
theorem xi.tail {x : Z} {z : List Z} (h : xi (x :: z)) : xi z := ⟨(List.pairwise_cons.1 h.up).2, fun y hy => h.rv y u0_, fun y hy => h.bare y u0_, fun y hy => h.w y u0_⟩
theorem NP {x : Z} {z : List Z} (h : xi (x :: z)) : xe z x.1 = 0 := by
 have h1 := (List.pairwise_cons.1 h.up).1
 have : ∀ l : List Z, (∀ y ∈ l, y ∈ z) -> xe l x.1 = 0 := by
  intro l
  induction l with
  | nil => intro _; rfl
  | cons y l ih =>
   intro hl; rw [zv, ih (fun y hy => hl y u0_)]; have hy := hl y u5_; have h2 := h1 y hy; have h3 := yX x.1 y.1 (h.rv x u5_) (h.rv y u0_); rw [if_neg]
   ·rfl
   ·intro e; have := h3.2 e.symm; omega
 exact this z (fun _ h => h)
theorem jP {x : Z} {z : List Z} (h : xi (x :: z)) : xe (x :: z) x.1 = x.2 := by
 rw [zv, if_pos rfl, NP h]; omega
theorem Q8 {z : List Z} (h : xi z) (r : List V) (hr : ∀ v ∈ r, RV v) (hl : ∀ y ∈ z, zZ r y.1 < 0) : xe z r = 0 := by
 induction z with
 | nil => rfl
 | cons y z ih =>
  rw [zv, ih h.tail (fun y hy => hl y u0_)]; have h2 := hl y u5_; have h3 := yX r y.1 hr (h.rv y u5_); rw [if_neg]
  ·rfl
  ·intro e; have := h3.2 e.symm; omega
theorem JC : ∀ (y z : List Z), xi y -> xi z -> (∀ r, (∀ v ∈ r, RV v) -> xe y r = xe z r) -> y = z
 | [], [], _, _, _ => rfl
 | [], x :: z, _, hz, h => by
  have := h x.1 (hz.rv x u5_); rw [jP hz, qx] at this; exact absurd this.symm (hz.w x u5_)
 | x :: y, [], hy, _, h => by
  have := h x.1 (hy.rv x u5_); rw [jP hy, qx] at this; exact absurd this (hy.w x u5_)
 | x :: y, u :: z, hy, hz, h => by
  have rx := hy.rv x u5_; have ru := hz.rv u u5_; have uy := (List.pairwise_cons.1 hy.up).1; have uz := (List.pairwise_cons.1 hz.up).1
  have hr : zZ x.1 u.1 = 0 := by
   rcases Pp x.1 u.1 with h1 | h1 | h1
   ·exfalso
    have h2 := Q8 hz x.1 rx (fun t ht => by
     rcases List.mem_cons.1 ht with rfl | ht
     ·omega
     ·exact Xk u4_ (uz t ht))
    have h3 := h x.1 rx; rw [jP hy, h2] at h3; exact hy.w x u5_ h3
   ·exact h1
   ·exfalso; have h0 := xu x.1 u.1
    have h2 := Q8 hy u.1 ru (fun t ht => by
     rcases List.mem_cons.1 ht with rfl | ht
     ·omega
     ·exact Xk u4_ (uy t ht))
    have h3 := h u.1 ru; rw [jP hz, h2] at h3; exact hz.w u u5_ h3.symm
  have e1 : x.1 = u.1 := by
   have := (yX x.1 u.1 rx ru).1 hr
   rwa [hy.bare x u5_, hz.bare u u5_] at this
  have e2 : x.2 = u.2 := by
   have h1 := h x.1 rx; rw [jP hy, e1, jP hz] at h1; exact h1
  have e : x = u := Prod.ext e1 e2; subst e
  rw [JC y z hy.tail hz.tail (fun r hr => by
   have := h r hr; rw [zv, zv] at this
   omega)]
def UD (z : List Z) : List Z := z.filter (fun x => x.2 != 0)
def xR : Z -> List Z -> Z × List Z
 | x, [] => (x, [])
 | x, y :: l => if zZ y.1 x.1 = 0 then xR (x.1, x.2 + y.2) l else (x, y :: l)
theorem Y8 : ∀ (l : List Z) (x : Z), (xR x l).2.length <= l.length
 | [], x => by simp [xR]
 | y :: l, x => by
  unfold xR; split
  ·have := Y8 l (x.1, x.2 + y.2); simp; omega
  ·simp
theorem Mb : ∀ (l : List Z) (x : Z), (xR x l).1.1 = x.1
 | [], x => rfl
 | y :: l, x => by
  unfold xR; split
  ·exact Mb l (x.1, x.2 + y.2)
  ·rfl
def Jw : Nat -> List Z -> List Z
 | 0, _ => []
 | _, [] => []
 | n + 1, x :: l => if (xR x l).1.2 = 0 then Jw n (xR x l).2 else (xR x l).1 :: Jw n (xR x l).2
def jF (l : List Z) : List Z := Jw l.length l
theorem KD : ∀ (n m : Nat) (l : List Z), l.length <= n -> l.length <= m -> Jw n l = Jw m l
 | 0, m, [], _, _ => by cases m <;> rfl
 | n + 1, 0, [], _, _ => rfl
 | n + 1, m + 1, [], _, _ => rfl
 | n + 1, m + 1, x :: l, h1, h2 => by
  have := Y8 l x; have ih := KD n m (xR x l).2 uz_ (by simp at h2; omega); unfold Jw; rw [ih]
theorem KE (x : Z) (l : List Z) : jF (x :: l) = if (xR x l).1.2 = 0 then jF (xR x l).2 else (xR x l).1 :: jF (xR x l).2 := by
 have := Y8 l x; unfold jF; show Jw (l.length + 1) (x :: l) = _
 conv => lhs; unfold Jw
 rw [KD l.length (xR x l).2.length _ this (Nat.le_refl _)]
structure Jl (l : List Z) : Prop where
 up : l.Pairwise (fun x y => zZ x.1 y.1 <= 0)
 rv : ∀ x ∈ l, ∀ v ∈ x.1, RV v
 bare : ∀ x ∈ l, zj x.1 = x.1
theorem Jl.tail {x : Z} {l : List Z} (h : Jl (x :: l)) : Jl l := ⟨(List.pairwise_cons.1 h.up).2, fun y hy => h.rv y u0_, fun y hy => h.bare y u0_⟩
theorem Jy : ∀ (l : List Z) (x : Z), Jl (x :: l) -> (∀ r, xe ((xR x l).1 :: (xR x l).2) r = xe (x :: l) r) /\ Jl ((xR x l).1 :: (xR x l).2) /\ (∀ y ∈ (xR x l).2, zZ x.1 y.1 < 0)
 | [], x, h => ⟨fun _ => rfl, h, fun y hy => by simp [xR] at hy⟩
 | y :: l, x, h => by
  unfold xR; split
  ·rename_i he; have hx := (List.pairwise_cons.1 h.up).1; have hy := (List.pairwise_cons.1 (List.pairwise_cons.1 h.up).2).1
   have h2 : Jl ((x.1, x.2 + y.2) :: l) := by
    refine ⟨List.pairwise_cons.2 ⟨fun z hz => hx z (by simp [hz]), h.tail.tail.up⟩, fun z hz => ?_, fun z hz => ?_⟩
    ·rcases List.mem_cons.1 hz with rfl | hz
     ·exact h.rv x u5_
     ·exact h.rv z (by simp [hz])
    ·rcases List.mem_cons.1 hz with rfl | hz
     ·exact h.bare x u5_
     ·exact h.bare z (by simp [hz])
   obtain ⟨g1, g2, g3⟩ := Jy l (x.1, x.2 + y.2) h2; refine ⟨fun r => ?_, g2, g3⟩; rw [g1, zv, zv, zv]; have e := (yX y.1 x.1 (h.rv y u5_) (h.rv x u5_)).1 he; rw [e]; split <;> omega
  ·rename_i he; refine ⟨fun _ => rfl, h, fun z hz => ?_⟩; have hx := (List.pairwise_cons.1 h.up).1; have hy := (List.pairwise_cons.1 (List.pairwise_cons.1 h.up).2).1; have s := xu x.1 y.1; have h1 := hx y u5_; rcases List.mem_cons.1 hz with rfl | hz
   ·omega
   ·have h2 := hy z hz; have h3 := xp h1 h2
    by_cases h4 : zZ x.1 z.1 = 0
    ·exfalso; have s2 := xu x.1 z.1; have := xp (a := y.1) (b := z.1) (c := x.1) h2 u4_; omega
    ·omega
theorem ZQ : xi [] := ⟨List.Pairwise.nil, fun x hx => by simp at hx, fun x hx => by simp at hx, fun x hx => by simp at hx⟩
theorem Qo : ∀ (n : Nat) (l : List Z), l.length <= n -> Jl l -> xi (jF l) /\ (∀ r, xe (jF l) r = xe l r) /\ (∀ a : List V, (∀ y ∈ l, zZ a y.1 < 0) -> ∀ y ∈ jF l, zZ a y.1 < 0)
 | n, [], _, _ => ⟨ZQ, fun _ => rfl, fun _ _ y hy => by simp [jF, Jw] at hy⟩
 | 0, x :: l, h, _ => by simp at h
 | n + 1, x :: l, h, hr => by
  obtain ⟨g1, g2, g3⟩ := Jy l x hr; have hlen := Y8 l x; have hrow := Mb l x; obtain ⟨c1, c2, c3⟩ := Qo n (xR x l).2 (by simp at h; omega) g2.tail; rw [KE]; split
  ·rename_i h0; refine ⟨c1, fun r => ?_, fun a ha => c3 a fun y hy => ?_⟩
   ·rw [c2, <- g1, zv]; have : (if zj (xR x l).1.1 = zj r then (xR x l).1.2 else 0) = 0 := by split <;> omega
    omega
   ·exact Xk (ha x u5_) (g3 y hy)
  ·rename_i h0; refine ⟨⟨List.pairwise_cons.2 ⟨fun y hy => ?_, c1.up⟩, fun y hy => ?_, fun y hy => ?_, fun y hy => ?_⟩, fun r => ?_, fun a ha y hy => ?_⟩
   ·rw [hrow]; exact c3 x.1 g3 y hy
   ·rcases List.mem_cons.1 hy with rfl | hy
    ·exact g2.rv _ u5_
    ·exact c1.rv y hy
   ·rcases List.mem_cons.1 hy with rfl | hy
    ·exact g2.bare _ u5_
    ·exact c1.bare y hy
   ·rcases List.mem_cons.1 hy with rfl | hy
    ·exact h0
    ·exact c1.w y hy
   ·rw [zv, c2, <- g1, zv]
   ·rcases List.mem_cons.1 hy with rfl | hy
    ·rw [hrow]; exact ha x u5_
    ·exact c3 a (fun z hz => Xk (ha x u5_) (g3 z hz)) y hy
theorem TF {l : List Z} (h : Jl l) : xi (jF l) := (Qo _ l (Nat.le_refl _) h).1
theorem Ff {l : List Z} (h : Jl l) (r : List V) : xe (jF l) r = xe l r := (Qo _ l (Nat.le_refl _) h).2.1 r
def zI : I := ⟨none, [], 0, 0⟩
def zg (x : I) : Z := (x.row, x.w)
def zX (A : Option Addr) (n c : Nat) : Prop := n <= c /\ (A = none -> c = 0)
theorem zX.nil : zX none 0 0 := ⟨Nat.le_refl _, fun _ => rfl⟩
def xc (w : World) (A : Option Addr) (xs : List I) : Prop := ∀ i x, xs[i]? = some x -> ∃ g o, A = some ⟨g, o, none⟩ /\ w.cell? ⟨g, o + i * 2, none⟩ = some (.slice x.A x.row.length x.cap) /\ w.cell? ⟨g, o + i * 2 + 1, none⟩ = some (.int .i64 x.w) /\ yS w x.A x.row
theorem xc.grow {w w' : World} {A : Option Addr} {xs : List I} (h : xc w A xs) (hg : za w w') : xc w' A xs := fun i x hx => by
 obtain ⟨g, o, hA, a, b, c⟩ := h i x hx; exact ⟨g, o, hA, hg.cell a, hg.cell b, c.grow hg⟩
theorem yS.gx {g h o : Nat} {w w' : World} {xs : List V} (hx : yS w (some ⟨h, o, none⟩) xs) (hg : GX g w w') (hne : h ≠ g) : yS w' (some ⟨h, o, none⟩) xs := fun i x hi => by
 obtain ⟨g', o', e, a, b, c⟩ := hx i x hi; cases e; exact ⟨h, o, rfl, World.grownBy.cell hg a uE_, World.grownBy.cell hg b uE_, World.grownBy.cell hg c uE_⟩
theorem xA.mono {g : Nat} {w w' : World} {x : I} (h : xA g w x) (hg : GX g w w') : xA g w' x := ⟨fun W hW => h.sl W (hg.trans hW), h.len, h.rv⟩
theorem N3 (n : Nat) : madeCells #[.slice none 0 0, .int .i64 0] (n * 2) = (zx (List.replicate n zI)).toArray := by
 apply Array.ext_getElem?; intro i
 by_cases hi : i < n * 2
 ·rw [Ww _ _ _ hi]; have hr : (List.replicate n zI)[i / 2]? = some zI := by rw [List.getElem?_replicate, if_pos u4_]
  obtain ⟨a, b⟩ := xI _ _ _ hr; have h3 : i % 2 = 0 \/ i % 2 = 1 := by omega
  rcases h3 with h | h
  ·rw [show i / 2 * 2 = i by omega] at a; rw [List.getElem?_toArray, a]; simp [h, zI]
  ·rw [show i / 2 * 2 + 1 = i by omega] at b; rw [List.getElem?_toArray, b]; simp [h, zI]
 ·rw [Array.getElem?_eq_none um_, Array.getElem?_eq_none (by simp [yW]; omega)]
theorem J7 : (Tryz.prog.info? 59).map (fun i => (i.zero, i.size, i.bytes)) = some (some (.agg #[.slice none 0 0, .int .i64 0]), 2, 32) := by kernel_rfl
theorem qT : ∃ ti, Tryz.prog.info? 59 = some ti /\ ti.zero = some (.agg #[.slice none 0 0, .int .i64 0]) /\ ti.size = 2 /\ ti.bytes = 32 := by
 have h := J7; cases hi : Tryz.prog.info? 59 with
 | none => rw [hi] at h; simp at h
 | some i => rw [hi] at h; simp at h; exact ⟨i, rfl, h⟩
theorem Pn (n : Nat) (hn : n <= 1000000) (W : World) : (Instr.makeSlice 38 (.int .i64 (n : Int)) (.int .i64 (n : Int))).run Tryz.prog W = .ok (.slice (some ⟨W.heap.size, 0, none⟩) n n) (W.alloc (.cells (zx (List.replicate n zI)).toArray 59)) := by
 have h := J7; cases hi : Tryz.prog.info? 59 with
 | none => rw [hi] at h; simp at h
 | some i =>
  rw [hi] at h; simp at h; obtain ⟨h1, h2, h3⟩ := h; have := run_make W 38 59 i _ Tryz.underlying38 hi h1 .i64 .i64 (n : Int) (n : Int) u4_ u4_ (by rw [h3]; omega) u4_; rw [this, h2]; simp only [Int.toNat_natCast]; rw [show (Value.agg #[.slice none 0 0, .int .i64 0]).cells = #[.slice none 0 0, .int .i64 0] from rfl, N3]
theorem VO (L : List I) (n : Nat) (y : I) (hn : 0 < n) : (L ++ List.replicate n zI).set L.length y = (L ++ [y]) ++ List.replicate (n - 1) zI := by
 obtain ⟨m, rfl⟩ : ∃ m, n = m + 1 := ⟨n - 1, by omega⟩
 rw [List.replicate_succ, Zt L _ zI y _ rfl]; simp
theorem xS {r : List V} (h : ∀ v ∈ r, RV v) : ∀ v ∈ zj r, RV v := fun v hv => by
 simp only [zj, List.mem_map] at hv; obtain ⟨u, hu, rfl⟩ := hv; exact LG (h u hu)
theorem zh {w w' : World} {base n size : Nat} {e : TypeId} {v : Value} {xs : List Value} (h : w.ownsRow base e size v n xs) (hg : za w w') : w'.ownsRow base e size v n xs := by
 obtain ⟨h1, h2⟩ := h; refine ⟨h1, ?_⟩; rcases h2 with h2 | ⟨g, cap, cur, a, b, c, d⟩
 ·exact .inl h2
 ·exact .inr ⟨g, cap, cur, a, b, zc.grow (g := g) c hg, d⟩
theorem za.own {a b c : World} {row : Option Nat} (h : za a b) (k : b.grownBy c row) (hr : ∀ i, row = some i -> a.heap.size <= i) : za a c :=
 ⟨⟨k.os.trans h.below.os, k.tape.trans h.below.tape, k.output.trans h.below.output, Nat.le_trans h.size k.size, fun i hi => (k.block i (Nat.lt_of_lt_of_le hi h.size) (fun e => by have := hr i e.symm; omega)).trans (h.below.block i hi)⟩⟩
theorem TH (xs : List I) (A : Option Addr) (c : Nat) (w : World) (hlen : xs.length <= 200000) (hz : xc w A xs) (hrow : ∀ x ∈ xs, x.row.length <= 1000) (hrv : ∀ x ∈ xs, ∀ v ∈ x.row, RV v) (hw : ∀ x ∈ xs, -1000000000000 <= x.w /\ x.w <= 1000000000000) :
  Calls Tryz.prog 41 #[.slice A xs.length c] w fun en w' => ∃ (B : Option Addr) (ys : List I) (cap : Nat), en = .returned (.slice B ys.length cap) /\ xc w' B ys /\ xi (ys.map zg) /\ (∀ r, xe (ys.map zg) r = xe (xs.map zg) r) /\ zX B ys.length cap /\ (∀ y ∈ ys, y.row.length <= y.cap) /\ za w w' := by
 have mk := fun W => Pn xs.length u4_ W
 have Hz := hh_ hz; have Hrow := hh_ hrow; have Hrv := hh_ hrv; have Hw := hh_ hw; clear hz hrow hrv hw; go_enter Tryz.func41, Tryz.ntmps41; go_wp2
 go_loopw [14] (fun i wr => ∃ (k : Nat) (done : List I), k <= xs.length /\ i = .int .i64 k /\ done.length = k /\ DB wr w.heap.size (done ++ List.replicate (xs.length - k) zI) /\ done.map zg = (xs.take k).map (fun x => (zj x.row, x.w)) /\ ((∀ y ∈ done, xA w.heap.size wr y) /\ ∀ y ∈ done, y.row.length <= y.cap) /\ za w wr) (fun i _ => xs.length - (intOf i).toNat)
 case atStart => exact ⟨0, [], Nat.zero_le _, rfl, rfl, show DB _ _ (List.replicate xs.length zI) from zc.new _ _ _, rfl, ⟨fun y hy => by simp at hy, fun y hy => by simp at hy⟩, (za.refl w).al _⟩
 case round =>
  obtain ⟨k, done, hk, rfl, hdl, hdb, hmap, ⟨hgood, hcap⟩, hg⟩ := hrel; have Hcap := hh_ hcap; have Hdl := hh_ hdl; have Hdb := hh_ hdb; have Hmap := hh_ hmap; have Hgood := hh_ hgood; clear hdl hdb hmap hgood mk hcap
  by_cases hlt : k < xs.length
  ·obtain ⟨x, hxk⟩ : ∃ x, xs[k]? = some x := ⟨_, qQ_ hlt⟩
   obtain ⟨gx, ox, rfl, c1, c2, hxv⟩ := (Hz.out.grow hg) k x hxk; have Hxk := hh_ hxk; have hmem : x ∈ xs := qZ_ hxk; have hlx := Hrow.out x hmem; have cb := fun W (h : za wr W) => T4 x.row x.A x.cap W hlx (hxv.grow h)
   have lg := Hdb.out.lt; have Hmem := hh_ hmem; clear hxk hxv hmem; go_upto_region 5 with fail
   refine zb (fun X => zc X wr.heap.size 59 #[.slice x.A x.row.length x.cap, .int .i64 x.w] /\ za wr X) ⟨zc.new _ _ _, (za.refl wr).al _⟩ ?_; rintro X ⟨Bx, G⟩; apply ze 9 uY_ uY_
   case h' =>
    intro Q0 hQ0; simp only [List.take_succ_cons, List.take_zero]
    repeat ((first | ((first | apply zu rfl | apply zw rfl rfl rfl); case h1 => (intro w1 hw1 hF K hK; obtain ⟨bx, fx⟩ := (zc.grow Bx hw1).rules; go_simp; first | exact hK _ (za.refl _))) | apply zz rfl rfl rfl rfl); intro K hK; go_simp; apply hK; clear hK K)
    apply zN (fun v W => ∃ gi, v = .slice (some ⟨gi, 0, none⟩) x.row.length x.row.length /\ yS W (some ⟨gi, 0, none⟩) (x.row.map bare) /\ wr.heap.size <= gi) rfl
    case h1 =>
     intro w1 hw1 hF K hK; go_simp
     go_at_call 75
     refine (cb w1 (G.trans hw1)).mono ?_; rintro en w' ⟨gi, rfl, hv, hge, hg'⟩; exact ⟨_, rfl, hK _ _ hg' ⟨gi, rfl, hv, Nat.le_trans (G.trans hw1).size hge⟩⟩
    intro v23 K hK; go_simp; apply hK; clear hK K
    repeat ((first | ((first | apply zu rfl | apply zw rfl rfl rfl); case h1 => (intro w1 hw1 hF K hK; obtain ⟨bx, fx⟩ := (zc.grow Bx hw1).rules; go_simp; first | exact hK _ (za.refl _))) | apply zz rfl rfl rfl rfl); intro K hK; go_simp; apply hK; clear hK K)
    apply zN (fun v W => ∃ gi, v = .agg #[.slice (some ⟨gi, 0, none⟩) x.row.length x.row.length, .int .i64 x.w] /\ yS W (some ⟨gi, 0, none⟩) (x.row.map bare) /\ wr.heap.size <= gi) rfl
    case h1 =>
     intro w1 hw1 hF K hK; obtain ⟨gi, hv, h1, h2⟩ := hF _ (List.mem_cons_self ..) ⟨_, rfl, by decide⟩; subst hv; go_simp; exact hK _ _ (za.refl _) ⟨gi, rfl, h1, h2⟩
    intro v26 K hK; go_simp; apply hK; clear hK K
    repeat ((first | ((first | apply zu rfl | apply zw rfl rfl rfl); case h1 => (intro w1 hw1 hF K hK; obtain ⟨bx, fx⟩ := (zc.grow Bx hw1).rules; go_simp; first | exact hK _ (za.refl _))) | apply zz rfl rfl rfl rfl); intro K hK; go_simp; apply hK; clear hK K)
    refine zo ?_; intro w1 hw1 hF; apply hQ0; clear hQ0; simp only [List.drop_succ_cons, List.drop_zero]; obtain ⟨gi, hv, hvs, hge⟩ := hF _ (List.mem_cons_self ..); subst hv; clear hF; have Hdb2 := hh_ (Hdb.out.grow (G.trans hw1))
    have hz : (done ++ List.replicate (xs.length - k) zI)[k]? = some zI := by
     rw [List.getElem?_append_right (by have := Hdl.out; omega), Hdl.out, Nat.sub_self, List.getElem?_replicate, if_pos u4_]
    obtain ⟨z1, z2⟩ := Hdb2.out.at hz; have fz := Hdb2.out.frozen; have Hz2 := hh_ hz; have Hvs := hh_ hvs; have G2 := hg.trans (G.trans hw1); have hgi : gi ≠ w.heap.size := by omega
    clear hz hvs; go_wp2; go_roundw
    case rel =>
     refine ⟨k + 1, done ++ [⟨some ⟨gi, 0, none⟩, zj x.row, x.row.length, x.w⟩], by omega, by go_num, by simp [Hdl.out], ?_, ?_, ?_, za.set (za.set G2 (Nat.le_refl _) _) (Nat.le_refl _) _⟩
     ·have h1 := Hdb2.out.put (qQ9.1 Hz2.out).1 ⟨some ⟨gi, 0, none⟩, zj x.row, x.row.length, x.w⟩; have h2 := VO done (xs.length - k) ⟨some ⟨gi, 0, none⟩, zj x.row, x.row.length, x.w⟩ u4_; rw [Hdl.out] at h2; rw [h2, show xs.length - k - 1 = xs.length - (k + 1) by omega] at h1; simpa [zj] using h1
     ·have hx' := (qQ9.1 Hxk.out).2; rw [List.map_append, Hmap.out, List.take_succ_eq_append_getElem hlt, hx']; simp [zg]
     ·have hgx : GX w.heap.size wr (((w1.setCell ⟨w.heap.size, k * 2, none⟩ (.slice (some ⟨gi, 0, none⟩) x.row.length x.row.length)).setCell ⟨w.heap.size, k * 2 + 1, none⟩ (.int .i64 x.w))) := ((GX.refl _ wr).grow (G.trans hw1)).put _ _ _ _; refine ⟨fun y hy => ?_, fun y hy => ?_⟩
      rotate_left
      ·rcases List.mem_append.1 hy with hy | hy
       ·exact Hcap.out y hy
       ·simp at hy; subst hy; simp [zj]
      rcases List.mem_append.1 hy with hy | hy
      ·exact (Hgood.out y hy).mono hgx
      ·simp at hy; subst hy; refine ⟨fun W hW => ?_, ?_, xS (Hrv.out x Hmem.out)⟩
       ·have h1 := Hvs.out.gx (((GX.refl w.heap.size w1).put _ _ _ _).trans hW) hgi; exact h1
       ·simp [zj]; omega
    case measure => exact wa_
   case hp' => exact ⟨fun v w w' hg ⟨gi, e, h1, h2⟩ => ⟨gi, e, h1.grow hg, h2⟩, fun v w w' hg ⟨gi, e, h1, h2⟩ => ⟨gi, e, h1.grow hg, h2⟩, trivial⟩
  ·obtain rfl : k = xs.length := by omega
   have hdb2 : DB wr w.heap.size done := by have := Hdb.out; simpa using this
   have cs := Nk done xs.length xs.length w.heap.size wr wr Hdl.out.symm u4_ Hgood.out (GX.refl _ _) hdb2; have hmap2 : done.map zg = xs.map (fun x => (zj x.row, x.w)) := by have := Hmap.out; simpa using this
   have Hmap2 := hh_ hmap2; have cR := fun (y x : I) (W : World) (hy : yS W y.A y.row) (hx : yS W x.A x.row) (l1 : y.row.length <= 9223372036854775807) (l2 : x.row.length <= 9223372036854775807) => jJ y.row x.row y.A x.A y.cap x.cap W l1 l2 hy hx
   clear hmap2 hdb2 hlt Hdb Hmap; go_upto_region 8 with (go_at_call 76; ((with_reducible refine cs.mono ?_); rintro en w2 ⟨rfl, hd2, hg2⟩)); obtain ⟨M, pM, uM, dM⟩ := hd2; have gM : ∀ y ∈ M, xA w.heap.size w2 y := fun y hy => (Hgood.out y (pM.mem_iff.1 hy)).mono hg2
   have G0 : za w w2 := GX.base hg (Nat.le_refl _) hg2; have lM : M.length = xs.length := pM.length_eq.trans Hdl.out
   have wM : ∀ y ∈ M, -1000000000000 <= y.w /\ y.w <= 1000000000000 := fun y hy => by
    have h1 : zg y ∈ done.map zg := qZ9 (pM.mem_iff.1 hy); rw [Hmap2.out, List.mem_map] at h1; obtain ⟨x, hx, e⟩ := h1; have : x.w = y.w := congrArg Prod.snd e; rw [<- this]; exact Hw.out x hx
   have bM : ∀ y ∈ M, zj y.row = y.row := fun y hy => by
    have h1 : zg y ∈ done.map zg := qZ9 (pM.mem_iff.1 hy); rw [Hmap2.out, List.mem_map] at h1; obtain ⟨x, hx, e⟩ := h1; have : zj x.row = y.row := congrArg Prod.fst e; rw [<- this]; exact yK _
   have hrise : Jl (M.map zg) := by
    refine ⟨?_, fun x hx => ?_, fun x hx => ?_⟩
    ·rw [List.pairwise_map]; refine List.Pairwise.imp_of_mem (fun {a b} ha hb h => ?_) uM; have := h; unfold QM at this; rw [yv _ _ (gM a ha).rv (gM b hb).rv] at this; exact this
    ·obtain ⟨y, hy, rfl⟩ := List.mem_map.1 hx; exact (gM y hy).rv
    ·obtain ⟨y, hy, rfl⟩ := List.mem_map.1 hx; exact bM y hy
   have hwt : ∀ r, xe (jF (M.map zg)) r = xe (xs.map zg) r := fun r => by
    rw [Ff hrise, Ny (pM.map zg) r, Hmap2.out]
    have : ∀ l : List I, xe (l.map (fun x => (zj x.row, x.w))) r = xe (l.map zg) r := fun l => by
     induction l with
     | nil => rfl
     | cons a l ih => simp only [List.map_cons, zv, ih, zg, yK]
    exact this xs
   have Hwt := hh_ hwt; have Hcan := hh_ (TF hrise); have GM := hh_ gM; have CM := hh_ (fun y (hy : y ∈ M) => Hcap.out y (pM.mem_iff.1 hy)); have LM := hh_ lM; have WM := hh_ wM; have DM := hh_ dM; clear pM uM dM gM lM wM bM hrise hwt cs hg2 Hmap2 Hgood Hdl; go_wp2
   go_loopw [6, 7] (fun t si w3 => ∃ (i : Nat) (out : List I), si = .int .i64 (i : Int) /\ i <= xs.length /\ w3.ownsRow w2.heap.size 59 2 t out.length (zx out) /\ out.map zg ++ jF ((M.drop i).map zg) = jF (M.map zg) /\ (∀ y ∈ out, yS w2 y.A y.row /\ y.row.length <= y.cap) /\ out.length <= i /\ za w2 w3) (fun _ si _ => xs.length - (intOf si).toNat)
   case atStart => exact ⟨0, [], rfl, Nat.zero_le _, World.ownsRow_nil _ _ _ _, rfl, fun y hy => by simp at hy, Nat.le_refl _, za.refl _⟩
   case round =>
    obtain ⟨i, out, rfl, hi, hown, htot, hvo, hol, hg3⟩ := hrel; have Own := hh_ hown; have Tot := hh_ htot; have Hvo := hh_ hvo; clear hown htot hvo
    by_cases hlt : i < xs.length
    ·obtain ⟨x, hxk⟩ : ∃ x, M[i]? = some x := ⟨_, qQ_ ur_⟩
     have hmem : x ∈ M := qZ_ hxk; have gx := GM.out x hmem; have wx := WM.out x hmem; have vx := gx.sl _ (GX.refl _ _); have Cx := hh_ (CM.out x hmem)
     have hdrop : (M.drop i).map zg = zg x :: (M.drop (i + 1)).map zg := by
      rw [List.drop_eq_getElem_cons ur_, (qQ9.1 hxk).2]; rfl
     have htot2 : jF (M.map zg) = out.map zg ++ (if (xR (zg x) ((M.drop (i + 1)).map zg)).1.2 = 0 then jF (xR (zg x) ((M.drop (i + 1)).map zg)).2 else (xR (zg x) ((M.drop (i + 1)).map zg)).1 :: jF (xR (zg x) ((M.drop (i + 1)).map zg)).2) := by
      rw [<- Tot.out, hdrop, KE]
     have Tot2 := hh_ htot2; obtain ⟨cx0, cx1⟩ := (DM.out.grow hg3).at hxk; have Gx := hh_ gx; have Vx := hh_ vx; have d0 : decide ((i : Int) < (xs.length : Int)) = true := by simp; omega
     obtain ⟨wx1, wx2⟩ := wx; clear hxk hmem gx vx hdrop htot2 Tot; go_wp2; rename World => w4
     go_loopw [7] (fun si w5 => ∃ (j : Nat) (acc : Int), si = .int .i64 (j : Int) /\ i + 1 <= j /\ j <= xs.length /\ zc w5 w4.heap.size 59 #[.slice x.A x.row.length x.cap, .int .i64 acc] /\ xR (x.row, acc) ((M.drop j).map zg) = xR (zg x) ((M.drop (i + 1)).map zg) /\ -1000000000000 * (j : Int) <= acc /\ acc <= 1000000000000 * (j : Int) /\ za w4 w5) (fun si _ => xs.length - (intOf si).toNat)
     case atStart => exact ⟨i + 1, x.w, by go_num, Nat.le_refl _, by omega, zc.new _ _ _, rfl, by omega, by omega, (za.refl w4).al _⟩
     case round =>
      obtain ⟨j, acc, rfl, hij, hjn, hbx, hacc, ha1, ha2, hg5⟩ := hrel; have Hbx := hh_ hbx; have Hacc := hh_ hacc; clear hbx hacc
      by_cases hj : j < xs.length
      ·obtain ⟨y, hyk⟩ : ∃ y, M[j]? = some y := ⟨_, qQ_ ur_⟩
       have hymem : y ∈ M := qZ_ hyk; have gy := GM.out y hymem; have wy := WM.out y hymem; obtain ⟨wy1, wy2⟩ := wy
       have hdropy : (M.drop j).map zg = zg y :: (M.drop (j + 1)).map zg := by
        rw [List.drop_eq_getElem_cons ur_, (qQ9.1 hyk).2]; rfl
       have Hdy := hh_ hdropy; have Hyk := hh_ hyk; have hordr : zC xT y.row x.row = zZ y.row x.row := yv _ _ gy.rv Gx.out.rv; obtain ⟨cr, hcr⟩ : ∃ r, zC xT y.row x.row = r := ⟨_, rfl⟩
       have hord : zZ y.row x.row = cr := hordr.symm.trans hcr; have cc := fun W (h : za w2 W) => cR y x W (gy.sl _ ((GX.refl _ _).grow h)) (Gx.out.sl _ ((GX.refl _ _).grow h)) gy.len Gx.out.len
       rw [hcr] at cc; have Hord := hh_ hord; have gw := hg3.trans hg5; have d1 : decide ((j : Int) < (xs.length : Int)) = true := by simp; omega
       clear hcr hordr hord hyk hdropy hymem gy; go_wp2; apply ze 15 uY_ uY_
       case h' =>
        intro Q0 hQ0; simp only [List.take_succ_cons, List.take_zero]
        repeat ((first | ((first | apply zu rfl | apply zw rfl rfl rfl); case h1 => (intro w1 hw1 hF K hK; obtain ⟨bx, fx⟩ := (zc.grow Hbx.out hw1).rules; obtain ⟨cy0, cy1⟩ := (DM.out.grow (gw.trans hw1)).at Hyk.out; go_simp; first | exact hK _ (za.refl _) | (go_at_call 71; ((with_reducible refine (cc _ (gw.trans hw1)).mono ?_); rintro e w' ⟨rfl, hg⟩; exact ⟨_, rfl, hK _ hg⟩)))) | apply zz rfl rfl rfl rfl); intro K hK; go_simp; apply hK; clear hK K)
        refine zo ?_; intro w1 hw1 hF; apply hQ0; clear hQ0; simp only [List.drop_succ_cons, List.drop_zero]; clear hF; have gw1 := gw.trans hw1; obtain ⟨cy0, cy1⟩ := (DM.out.grow gw1).at Hyk.out
        by_cases hc : cr = 0
        ·have dc : (cr == 0) = true := by simpa using hc
         obtain ⟨bx, fx⟩ := (zc.grow Hbx.out hw1).rules; have hwp : IntKind.i64.wrap (acc + y.w) = acc + y.w := by rw [IntKind.wrap_i64]; omega
         have mixed : Tryz.prog.follows .mixedOrders = true := by kernel_rfl
         simp only [dc]; go_wp2; go_big_region_o
         all_goals go_wp2
         refine ⟨⟨j + 1, acc + y.w, by go_num, by omega, by omega, ?_, ?_, by omega, by omega, ?_⟩, by simp [intOf]; omega⟩
         ·have := (zc.grow Hbx.out hw1).set 1 (.int .i64 (acc + y.w)); simpa using zc.drew this
         ·rw [<- Hacc.out, Hdy.out]; show _ = if zZ y.row x.row = 0 then xR (x.row, acc + y.w) _ else _
          rw [if_pos (Hord.out.trans hc)]
         ·exact za.drew (za.set (hg5.trans hw1) (Nat.le_refl _) _)
        ·have dc : (cr == 0) = false := by simpa using hc
         simp only [dc]
         have hst : jF (M.map zg) = out.map zg ++ (if acc = 0 then jF ((M.drop j).map zg) else (x.row, acc) :: jF ((M.drop j).map zg)) := by
          have h := Tot2.out; rw [<- Hacc.out, show xR (x.row, acc) ((M.drop j).map zg) = ((x.row, acc), (M.drop j).map zg) by rw [Hdy.out]; show (if zZ y.row x.row = 0 then _ else _) = _; rw [if_neg (fun h => hc (Hord.out.symm.trans h))]] at h; exact h
         have Hst := hh_ hst; have Own6 := hh_ (zh (zh Own.out hg5) hw1); have G6 := hg3.trans (hg5.trans hw1); obtain ⟨bx, fx⟩ := (zc.grow Hbx.out hw1).rules; clear hst
         by_cases ha0 : acc = 0
         ·have da : (acc != 0) = false := by simpa using ha0
          go_wp2; go_roundw
          case rel => exact ⟨j, out, rfl, hjn, Own6.out, by have := Hst.out; rw [if_pos ha0] at this; exact this.symm, Hvo.out, by omega, G6⟩
          case measure => exact wa_
         ·have da : (acc != 0) = true := by simpa using ha0
          obtain ⟨ti, ht, hz0, hz1, hz2⟩ := qT; have hl2 := Own6.out.lt; have HL2 := hh_ hl2; clear hl2
          go_wp2_with (at_builtin; refine wpList_append_own _ rfl _ _ 38 rfl w2.heap.size 59 ti (.agg #[.slice none 0 0, .int .i64 0]) 2 32 Tryz.underlying38 ht hz0 hz1 hz2 rfl u3_ _ _ _ rfl (Own6.out.alloc _) ⟨w1.heap.size, 0, none⟩ 1 1 [.slice x.A x.row.length x.cap, .int .i64 acc] rfl rfl ?c1 ?c2 ?c3 ?c4 ?c5 ?_)
          case c1 => exact xB_
          case c2 => exact yR_
          case c3 => exact x6_
          case c4 => omega
          case c5 => have := G6.size; simp; omega
          ·intro v' w7 hown' hgrow _; have hg7 : za w2 w7 := za.own (G6.al _) hgrow (fun i hi => (HL2.out i hi).1); clear hgrow; go_wp2; go_roundw
           case rel => exact ⟨j, out ++ [⟨x.A, x.row, x.cap, acc⟩], rfl, hjn, by simpa [xy, zx] using hown', by have := Hst.out; rw [if_neg ha0] at this; rw [this]; simp [zg], fun y hy => by
             rcases List.mem_append.1 hy with hy | hy
             ·exact Hvo.out y hy
             ·simp at hy; subst hy; exact ⟨Vx.out, Cx.out⟩, by simp; omega, hg7⟩
           case measure => exact wa_
       case hp' => trivial
      ·obtain rfl : j = xs.length := by omega
       have d1 : decide ((xs.length : Int) < (xs.length : Int)) = false := by simp
       have hdr : (M.drop xs.length).map zg = [] := by rw [List.drop_eq_nil_of_le ur_]; rfl
       have Hdr := hh_ hdr; clear hdr; go_wp2; apply ze 15 uY_ uY_
       case h' =>
        intro Q0 hQ0; simp only [List.take_succ_cons, List.take_zero]
        repeat ((first | ((first | apply zu rfl | apply zw rfl rfl rfl); case h1 => (intro w1 hw1 hF K hK; obtain ⟨bx, fx⟩ := (zc.grow Hbx.out hw1).rules; go_simp; first | exact hK _ (za.refl _))) | apply zz rfl rfl rfl rfl); intro K hK; go_simp; apply hK; clear hK K)
        refine zo ?_; intro w1 hw1 hF; apply hQ0; clear hQ0; simp only [List.drop_succ_cons, List.drop_zero]; clear hF
        have hst : jF (M.map zg) = out.map zg ++ (if acc = 0 then jF ((M.drop xs.length).map zg) else (x.row, acc) :: jF ((M.drop xs.length).map zg)) := by
         have h := Tot2.out; rw [<- Hacc.out, show xR (x.row, acc) ((M.drop xs.length).map zg) = ((x.row, acc), (M.drop xs.length).map zg) by rw [Hdr.out]; rfl] at h; exact h
        have Hst := hh_ hst; have Own6 := hh_ (zh (zh Own.out hg5) hw1); have G6 := hg3.trans (hg5.trans hw1); obtain ⟨bx, fx⟩ := (zc.grow Hbx.out hw1).rules; clear hst
        by_cases ha0 : acc = 0
        ·have da : (acc != 0) = false := by simpa using ha0
         go_wp2; go_roundw
         case rel => exact ⟨xs.length, out, rfl, hjn, Own6.out, by have := Hst.out; rw [if_pos ha0] at this; exact this.symm, Hvo.out, by omega, G6⟩
         case measure => exact wa_
        ·have da : (acc != 0) = true := by simpa using ha0
         obtain ⟨ti, ht, hz0, hz1, hz2⟩ := qT; have hl2 := Own6.out.lt; have HL2 := hh_ hl2; clear hl2
         go_wp2_with (at_builtin; refine wpList_append_own _ rfl _ _ 38 rfl w2.heap.size 59 ti (.agg #[.slice none 0 0, .int .i64 0]) 2 32 Tryz.underlying38 ht hz0 hz1 hz2 rfl u3_ _ _ _ rfl (Own6.out.alloc _) ⟨w1.heap.size, 0, none⟩ 1 1 [.slice x.A x.row.length x.cap, .int .i64 acc] rfl rfl ?c1 ?c2 ?c3 ?c4 ?c5 ?_)
         case c1 => exact xB_
         case c2 => exact yR_
         case c3 => exact x6_
         case c4 => omega
         case c5 => have := G6.size; simp; omega
         ·intro v' w7 hown' hgrow _; have hg7 : za w2 w7 := za.own (G6.al _) hgrow (fun i hi => (HL2.out i hi).1); clear hgrow; go_wp2; go_roundw
          case rel => exact ⟨xs.length, out ++ [⟨x.A, x.row, x.cap, acc⟩], rfl, hjn, by simpa [xy, zx] using hown', by have := Hst.out; rw [if_neg ha0] at this; rw [this]; simp [zg], fun y hy => by
            rcases List.mem_append.1 hy with hy | hy
            ·exact Hvo.out y hy
            ·simp at hy; subst hy; exact ⟨Vx.out, Cx.out⟩, by simp; omega, hg7⟩
          case measure => exact wa_
       case hp' => trivial
    ·have ei : i = xs.length := by omega
     have hfin : out.map zg = jF (M.map zg) := by
      have h := Tot.out; rw [List.drop_eq_nil_of_le ur_] at h; simpa [jF, Jw] using h
     have hres : ∃ (B : Option Addr) (cap : Nat), u6 = .slice B out.length cap /\ xc wr B out /\ zX B out.length cap := by
      obtain ⟨_, h⟩ := Own.out; rcases h with ⟨rfl, h0⟩ | ⟨gb, cap, cur, rfl, hB, hgb, hle, hmx, hcs, htk⟩
      ·have : out = [] := List.length_eq_zero_iff.1 h0; subst this; exact ⟨none, 0, rfl, fun i x hx => by simp at hx, zX.nil⟩
      ·refine ⟨some ⟨gb, 0, none⟩, cap, rfl, fun i x hx => ⟨gb, 0, rfl, ?_, ?_, (Hvo.out x (qZ_ hx)).1.grow hg3⟩, hle, fun h => by cases h⟩
       ·have hb : zc wr gb 59 cur := hgb; have hi' : i < out.length := (qQ9.1 hx).1; have h1 := (xI out i x hx).1; rw [<- htk, List.getElem?_take, if_pos u4_] at h1; rw [Nat.zero_add, hb.cell]; simpa using h1
       ·have hb : zc wr gb 59 cur := hgb; have hi' : i < out.length := (qQ9.1 hx).1; have h1 := (xI out i x hx).2; rw [<- htk, List.getElem?_take, if_pos u4_] at h1; rw [Nat.zero_add, hb.cell]; simpa using h1
     obtain ⟨B, cap, rfl, hzin, hsok⟩ := hres; have Hsok := hh_ hsok; have Hfin := hh_ hfin; have Hzin := hh_ hzin; have Hco := hh_ (fun y hy => (Hvo.out y hy).2); have d0 : decide ((i : Int) < (xs.length : Int)) = false := by simp; omega
     have d0n : ¬ i < xs.length := hlt; clear hfin hzin ei hsok; go_wp2; go_ret; exact ⟨B, out, cap, rfl, Hzin.out, by rw [Hfin.out]; exact Hcan.out, fun r => by rw [Hfin.out]; exact Hwt.out r, Hsok.out, Hco.out, G0.trans hg3⟩
def jR : List V -> Int
 | [] => 0
 | v :: l => if ye v ≠ 0 then ye v else jR l
theorem JP {xs : List V} {k : Nat} {x : V} (h : xs[k]? = some x) : jR (xs.drop k) = if ye x ≠ 0 then ye x else jR (xs.drop (k + 1)) := wm_
theorem Qw : ∀ xs : List V, jR xs = 0 ↔ ∀ v ∈ xs, RV v
 | [] => by simp [jR]
 | v :: l => by
  have h1 := RV.of v; have h2 := Qw l; unfold jR; simp only [List.mem_cons, forall_eq_or_imp]; split
  ·rename_i h; exact ⟨fun e => absurd e h, fun e => absurd (h1.2 e.1) h⟩
  ·rename_i h; have h : ye v = 0 := by simpa using h
   exact ⟨fun e => ⟨h1.1 h, h2.1 e⟩, fun e => h2.2 e.2⟩
def XU (r : List V) : Int := if 8 < r.length then 5 else jR r
theorem Qe (r : List V) : XU r = 0 ↔ r.length <= 8 /\ ∀ v ∈ r, RV v := by
 unfold XU; split
 ·exact ⟨fun h => by simp at h, fun h => by omega⟩
 ·rw [Qw]; exact ⟨fun h => ⟨by omega, h⟩, fun h => h.2⟩
def xD (n : Int) : Bool := decide (n < -1000000) || decide (1000000 < n)
theorem NM {n : Int} (h : xD n = false) : -1000000 <= n /\ n <= 1000000 := by
 simp [xD] at h; omega
def Jn (p : Option (List V)) (r : List V) : Bool := match p with | none => false | some y => decide (0 <= zC xT y r)
def TJ : Option (List V) -> List Z -> Int
 | _, [] => 0
 | p, x :: l => if XU x.1 ≠ 0 then XU x.1 else if x.2 = 0 \/ xD x.2 = true then 3 else if Jn p x.1 = true then 2 else TJ (some x.1) l
def qh (xs : List I) (k : Nat) : Option (List V) := if k = 0 then none else (xs[k - 1]?).map (·.row)
theorem Bl {xs : List I} {k : Nat} {x : I} (h : xs[k]? = some x) : TJ (qh xs k) ((xs.drop k).map zg) = if XU x.row ≠ 0 then XU x.row else if x.w = 0 \/ xD x.w = true then 3 else if Jn (qh xs k) x.row = true then 2 else TJ (qh xs (k + 1)) ((xs.drop (k + 1)).map zg) := by
 obtain ⟨h1, e1⟩ := qQ9.1 h; have hp : qh xs (k + 1) = some x.row := by unfold qh; rw [if_neg u4_, Nat.add_sub_cancel, h]; rfl
 rw [List.drop_eq_getElem_cons h1, e1, hp]; rfl
def zD (z : List Z) : Int := if 400 < z.length then 5 else TJ none z
structure RZ (z : List Z) : Prop where
 len : z.length <= 400
 row : ∀ x ∈ z, x.1.length <= 8 /\ ∀ v ∈ x.1, RV v
 w : ∀ x ∈ z, x.2 ≠ 0 /\ -1000000 <= x.2 /\ x.2 <= 1000000
 up : z.Pairwise (fun x y => zZ x.1 y.1 < 0)
theorem Nx : ∀ (z : List Z) (p : Option (List V)), (∀ y, p = some y -> ∀ v ∈ y, RV v) -> (TJ p z = 0 ↔ (∀ x ∈ z, x.1.length <= 8 /\ ∀ v ∈ x.1, RV v) /\ (∀ x ∈ z, x.2 ≠ 0 /\ -1000000 <= x.2 /\ x.2 <= 1000000) /\ z.Pairwise (fun x y => zZ x.1 y.1 < 0) /\ (∀ y x, p = some y -> x ∈ z -> zZ y x.1 < 0))
 | [], p, _ => by simp [TJ]
 | x :: l, p, hp => by
  unfold TJ
  by_cases h1 : XU x.1 = 0
  ·have hr := (Qe x.1).1 h1; rw [if_neg uM_]
   by_cases h2 : x.2 = 0 \/ xD x.2 = true
   ·rw [if_pos h2]
    constructor
    ·exact yq_
    ·rintro ⟨_, hw, _⟩; have := hw x u5_; rcases h2 with h2 | h2
     ·exact absurd h2 this.1
     ·simp [xD] at h2; omega
   ·rw [if_neg h2]
    have h2' : x.2 ≠ 0 /\ -1000000 <= x.2 /\ x.2 <= 1000000 := by
     have a : ¬ x.2 = 0 := fun e => h2 (.inl e)
     have b := NM (n := x.2) (by cases hb : xD x.2; rfl; exact absurd (.inr hb) h2); exact ⟨a, b⟩
    have ih := Nx l (some x.1) (fun y hy => by cases hy; exact hr.2)
    by_cases h3 : ∃ y, p = some y /\ 0 <= zC xT y x.1
    ·obtain ⟨y, rfl, hy⟩ := h3; rw [if_pos (by simpa [Jn] using hy)]
     constructor
     ·exact yq_
     ·rintro ⟨_, _, _, h⟩; have := h y x rfl u5_; rw [yv _ _ (hp y rfl) hr.2] at hy; unfold zZ at this; omega
    ·have h4 : ∀ y, p = some y -> zZ y x.1 < 0 := fun y hy => by
      have : ¬ 0 <= zC xT y x.1 := fun h => h3 ⟨y, hy, h⟩
      rw [yv _ _ (hp y hy) hr.2] at this; unfold zZ; omega
     have h5 : ¬ (Jn p x.1 = true) := by
      cases p with
      | none => simp [Jn]
      | some y => simp [Jn]; have : ¬ 0 <= zC xT y x.1 := fun h => h3 ⟨y, rfl, h⟩; omega
     rw [if_neg h5, ih]
     constructor
     ·rintro ⟨a, b, c, d⟩; refine ⟨fun y hy => ?_, fun y hy => ?_, List.pairwise_cons.2 ⟨fun y hy => d _ y rfl hy, c⟩, fun y u hy hu => ?_⟩
      ·rcases List.mem_cons.1 hy with rfl | hy
       ·exact hr
       ·exact a y hy
      ·rcases List.mem_cons.1 hy with rfl | hy
       ·exact h2'
       ·exact b y hy
      ·rcases List.mem_cons.1 hu with rfl | hu
       ·exact h4 y hy
       ·exact Xk (h4 y hy) (d _ u rfl hu)
     ·rintro ⟨a, b, c, d⟩; exact ⟨fun y hy => a y u0_, fun y hy => b y u0_, (List.pairwise_cons.1 c).2, fun y u hy hu => by cases hy; exact (List.pairwise_cons.1 c).1 u hu⟩
  ·rw [if_pos h1]
   constructor
   ·intro h; exact absurd h h1
   ·rintro ⟨a, _⟩; exact absurd ((Qe x.1).2 (a x u5_)) h1
theorem jo (z : List Z) : zD z = 0 ↔ RZ z := by
 unfold zD; have h := Nx z none (fun y hy => by cases hy); split
 ·exact ⟨fun h => by simp at h, fun h => by have := h.len; omega⟩
 ·rw [h]; exact ⟨fun ⟨a, b, c, _⟩ => ⟨by omega, a, b, c⟩, fun h => ⟨h.row, h.w, h.up, fun y x hy => by cases hy⟩⟩
theorem Y5 (n : Int) (w : World) : Calls Tryz.prog 70 #[.int .i64 n] w fun e w' => e = .returned (.bool (!xD n)) /\ w = w' := by
 go_enter Tryz.func70, Tryz.ntmps70
 by_cases h1 : n <= 1000000
 ·have d1 : decide (n <= 1000000) = true := by simpa using h1
  by_cases h2 : -1000000 <= n
  ·have d2 : decide (-1000000 <= n) = true := by simpa using h2
   go_wp2; go_ret; refine yG ?_ rfl; simp [xD]; omega
  ·have d2 : decide (-1000000 <= n) = false := by simp; omega
   go_wp2; go_ret; refine yG ?_ rfl; simp [xD]; omega
 ·have d1 : decide (n <= 1000000) = false := by simp; omega
  go_wp2; go_ret; refine yG ?_ rfl; simp [xD]; omega
theorem Dh (row : List V) (A : Option Addr) (c : Nat) (w : World) (hlen : row.length <= 9223372036854775807) (hx : yS w A row) (R : Int) (hR : XU row = R) :
  Calls Tryz.prog 69 #[.slice A row.length c] w fun en w' => en = .returned (.int .i64 R) /\ za w w' := by
 have HR := hh_ hR; have Hx := hh_ hx; clear hx hR; go_enter Tryz.func69, Tryz.ntmps69
 by_cases h8 : 8 < row.length
 ·exact xR_
 ·have d8 : decide ((8 : Int) < (row.length : Int)) = false := by simp; omega
  have inv0 : jR (row.drop 0) = R := by rw [<- HR.out]; unfold XU; rw [if_neg h8, List.drop_zero]
  have Inv0 := hh_ inv0; clear inv0; go_wp2
  go_loopw [11] (fun i wr => ∃ k : Nat, k <= row.length /\ i = .int .i64 k /\ jR (row.drop k) = R /\ za w wr) (fun i _ => row.length - (intOf i).toNat)
  case atStart => exact xf_
  case round =>
   obtain ⟨k, hk, rfl, hinv, hg⟩ := hrel; have xP := hh_ hinv; clear hinv
   by_cases hlt : k < row.length
   ·obtain ⟨x, hxk⟩ : ∃ x, row[k]? = some x := ⟨_, qQ_ hlt⟩
    obtain ⟨gx, ox, rfl, c1, c2, c3⟩ := (Hx.out.grow hg) k x hxk; have inv2 := (JP hxk).symm.trans xP.out; have Inv2 := hh_ inv2; clear inv2 hxk
    by_cases hw : ye x = 0
    ·have dw : (ye x != 0) = false := by simpa using hw
     go_wp2_with (go_at_call 72; ((with_reducible refine (qY x _).mono ?_); rintro e w2 ⟨rfl, hg2⟩; have G2 := (hg.al _).trans hg2))
     go_roundw
     case rel => exact x2_
     case measure => exact wa_
    ·have dw : (ye x != 0) = true := by simpa using hw
     go_wp2_with (go_at_call 72; ((with_reducible refine (qY x _).mono ?_); rintro e w2 ⟨rfl, hg2⟩; have G2 := (hg.al _).trans hg2))
     go_ret; exact zk oA_ G2
   ·exact xl_
theorem Xl {a b c : List V} (h1 : zZ a b < 0) (h2 : zZ b c = 0) : zZ a c < 0 := by
 have h3 := xp (a := a) (b := b) (c := c) u4_ u4_
 by_cases h : zZ a c = 0
 ·have h4 := xu a c; have h5 := xp (a := b) (b := c) (c := a) u4_ u4_; have h6 := xu a b; omega
 ·omega
theorem WD {a b c : List V} (h1 : zZ a b = 0) (h2 : zZ b c < 0) : zZ a c < 0 := xh_
theorem kL {r : List V} (h : ∀ v ∈ r, RV v) : zZ r (zj r) = 0 := (yX r (zj r) h (xS h)).2 (yK r).symm
theorem YR {r : List V} (h : ∀ v ∈ r, RV v) : zZ (zj r) r = 0 := (yX (zj r) r (xS h) h).2 (yK r)
def qm : List Z -> List V -> Int -> List Z
 | [], r, n => if n ≠ 0 then [(zj r, n)] else []
 | x :: z, r, n => if zZ x.1 r < 0 then x :: qm z r n else if zZ x.1 r = 0 then (if n + x.2 ≠ 0 then (zj r, n + x.2) :: z else z) else (if n ≠ 0 then (zj r, n) :: x :: z else x :: z)
theorem Kp : ∀ (z : List Z) (r : List V) (n : Int), xi z -> (∀ v ∈ r, RV v) -> xi (qm z r n) /\ (∀ q, xe (qm z r n) q = xe z q + if zj r = zj q then n else 0) /\ (∀ a, zZ a r < 0 -> (∀ y ∈ z, zZ a y.1 < 0) -> ∀ y ∈ qm z r n, zZ a y.1 < 0)
 | [], r, n, hz, hr => by
  unfold qm; split
  ·rename_i h; refine ⟨⟨List.pairwise_singleton _ _, fun x hx => ?_, fun x hx => ?_, fun x hx => ?_⟩, fun q => ?_, fun a ha _ y hy => ?_⟩
   ·simp at hx; subst hx; exact xS hr
   ·simp at hx; subst hx; exact yK r
   ·simp at hx; subst hx; exact h
   ·rw [zv]; simp only [yK]; omega
   ·simp at hy; subst hy; exact Xl ha (kL hr)
  ·rename_i h; have h : n = 0 := by simpa using h
   exact ⟨ZQ, fun q => by simp [h, qx], fun a ha _ y hy => by simp at hy⟩
 | x :: z, r, n, hz, hr => by
  have ih := Kp z r n hz.tail hr; have rx := hz.rv x u5_; have ux := (List.pairwise_cons.1 hz.up).1; unfold qm; split
  ·rename_i h; refine ⟨⟨List.pairwise_cons.2 ⟨fun y hy => ih.2.2 x.1 h ux y hy, ih.1.up⟩, fun y hy => ?_, fun y hy => ?_, fun y hy => ?_⟩, fun q => ?_, fun a ha hl y hy => ?_⟩
   ·rcases List.mem_cons.1 hy with rfl | hy
    ·exact rx
    ·exact ih.1.rv y hy
   ·rcases List.mem_cons.1 hy with rfl | hy
    ·exact hz.bare _ u5_
    ·exact ih.1.bare y hy
   ·rcases List.mem_cons.1 hy with rfl | hy
    ·exact hz.w _ u5_
    ·exact ih.1.w y hy
   ·rw [zv, zv, ih.2.1 q]; omega
   ·rcases List.mem_cons.1 hy with rfl | hy
    ·exact hl _ u5_
    ·exact ih.2.2 a ha (fun u hu => hl u u2_) y hy
  ·rename_i h1; split
   ·rename_i h2
    have e : zj r = x.1 := by
     have := (yX x.1 r rx hr).1 h2; rw [hz.bare x u5_] at this; exact this.symm
    split
    ·rename_i h3; refine ⟨⟨List.pairwise_cons.2 ⟨fun y hy => by rw [e]; exact ux y hy, hz.tail.up⟩, fun y hy => ?_, fun y hy => ?_, fun y hy => ?_⟩, fun q => ?_, fun a ha hl y hy => ?_⟩
     ·rcases List.mem_cons.1 hy with rfl | hy
      ·exact xS hr
      ·exact hz.rv y u0_
     ·rcases List.mem_cons.1 hy with rfl | hy
      ·exact yK r
      ·exact hz.bare y u0_
     ·rcases List.mem_cons.1 hy with rfl | hy
      ·exact h3
      ·exact hz.w y u0_
     ·rw [zv, zv]; simp only [yK, hz.bare x u5_, e]; split <;> omega
     ·rcases List.mem_cons.1 hy with rfl | hy
      ·exact Xl ha (kL hr)
      ·exact hl y u0_
    ·rename_i h3; have h3 : n + x.2 = 0 := by simpa using h3
     refine ⟨hz.tail, fun q => ?_, fun a ha hl y hy => hl y u0_⟩; rw [zv]; simp only [hz.bare x u5_, e]; split <;> omega
   ·rename_i h2; have hlt : zZ r x.1 < 0 := by have := xu r x.1; omega
    split
    ·rename_i h3; refine ⟨⟨List.pairwise_cons.2 ⟨fun y hy => ?_, hz.up⟩, fun y hy => ?_, fun y hy => ?_, fun y hy => ?_⟩, fun q => ?_, fun a ha hl y hy => ?_⟩
     ·have h4 := WD (YR hr) hlt; rcases List.mem_cons.1 hy with rfl | hy
      ·exact h4
      ·exact Xk h4 (ux y hy)
     ·rcases List.mem_cons.1 hy with rfl | hy
      ·exact xS hr
      ·exact hz.rv y hy
     ·rcases List.mem_cons.1 hy with rfl | hy
      ·exact yK r
      ·exact hz.bare y hy
     ·rcases List.mem_cons.1 hy with rfl | hy
      ·exact h3
      ·exact hz.w y hy
     ·rw [zv]; simp only [yK]; omega
     ·rcases List.mem_cons.1 hy with rfl | hy
      ·exact Xl ha (kL hr)
      ·exact hl y hy
    ·rename_i h3; have h3 : n = 0 := by simpa using h3
     exact ⟨hz, fun q => by rw [h3]; simp, fun a ha hl y hy => hl y hy⟩
theorem WP : ∀ (z : List Z) (r : List V) (n : Int), ∀ y ∈ qm z r n, y ∈ z \/ (y.1 = zj r /\ (y.2 = n \/ ∃ x ∈ z, y.2 = n + x.2))
 | [], r, n, y, hy => by
  unfold qm at hy; split at hy
  ·simp at hy; subst hy; exact .inr ⟨rfl, .inl rfl⟩
  ·simp at hy
 | x :: z, r, n, y, hy => by
  unfold qm at hy; split at hy
  ·rcases List.mem_cons.1 hy with rfl | hy
   ·exact .inl u5_
   ·rcases WP z r n y hy with h | ⟨h1, h | ⟨u, hu, h⟩⟩
    ·exact .inl (by simp [h])
    ·exact .inr ⟨h1, .inl h⟩
    ·exact .inr ⟨h1, .inr ⟨u, by simp [hu], h⟩⟩
  ·split at hy
   ·split at hy
    ·rcases List.mem_cons.1 hy with rfl | hy
     ·exact .inr ⟨rfl, .inr ⟨x, by simp, rfl⟩⟩
     ·exact .inl u0_
    ·exact .inl u0_
   ·split at hy
    ·rcases List.mem_cons.1 hy with rfl | hy
     ·exact .inr ⟨rfl, .inl rfl⟩
     ·exact .inl hy
    ·exact .inl hy
theorem Nb : ∀ (z : List Z) (r : List V) (n : Int), (qm z r n).length <= z.length + 1
 | [], r, n => by unfold qm; split <;> simp
 | x :: z, r, n => by
  have := Nb z r n; unfold qm; split
  ·simp; omega
  ·split <;> split <;> simp <;> omega
def Mi (M : Int) (z : List Z) : Prop := ∀ x ∈ z, -M <= x.2 /\ x.2 <= M
theorem Dc {M K : Int} {z : List Z} {r : List V} {n : Int} (hz : Mi M z) (hM : 0 <= M) (h1 : -K <= n) (h2 : n <= K) : Mi (M + K) (qm z r n) := fun y hy => by
 rcases WP z r n y hy with h | ⟨_, h | ⟨x, hx, h⟩⟩
 ·have := hz y h; omega
 ·omega
 ·have := hz x hx; omega
def QK (z l : List Z) : List Z := l.foldl (fun z x => qm z x.1 x.2) z
def yC (l : List Z) : List Z := QK [] l
theorem Yd (z : List Z) (x : Z) (l : List Z) : QK z (x :: l) = QK (qm z x.1 x.2) l := rfl
theorem Jz : ∀ (l z : List Z), xi z -> (∀ x ∈ l, ∀ v ∈ x.1, RV v) -> xi (QK z l) /\ ∀ q, xe (QK z l) q = xe z q + xe l q
 | [], z, hz, _ => ⟨hz, fun q => by simp [QK, qx]⟩
 | x :: l, z, hz, hl => by
  have h1 := Kp z x.1 x.2 hz (hl x u5_); have h2 := Jz l (qm z x.1 x.2) h1.1 (fun y hy => hl y u0_); rw [Yd]; refine ⟨h2.1, fun q => ?_⟩; rw [h2.2 q, h1.2.1 q, zv]; omega
theorem qe (l : List Z) (hl : ∀ x ∈ l, ∀ v ∈ x.1, RV v) : xi (yC l) /\ ∀ q, xe (yC l) q = xe l q := by
 have h := Jz l [] ZQ hl; exact ⟨h.1, fun q => by have := h.2 q; rw [qx] at this; unfold yC; omega⟩
theorem Mc : ∀ (l z : List Z), (QK z l).length <= z.length + l.length
 | [], z => by simp [QK]
 | x :: l, z => by
  rw [Yd]; have h1 := Mc l (qm z x.1 x.2); have h2 := Nb z x.1 x.2; simp; omega
theorem xv (l : List Z) : (yC l).length <= l.length := by
 have := Mc l []; simpa [yC] using this
theorem Zs {l y : List Z} (hl : ∀ x ∈ l, ∀ v ∈ x.1, RV v) (hy : xi y) (hw : ∀ q, xe y q = xe l q) : y = yC l :=
 JC _ _ hy (qe l hl).1 (fun r _ => by rw [hw, (qe l hl).2])
def qj (z : List Z) : List Z × Int := if z.any (fun x => xD x.2) then ([], 3) else if 400 < z.length then ([], 5) else (z, 0)
def yZ (l : List Z) : List Z × Int := qj (yC l)
theorem T0 {xs : List I} {k : Nat} {x : I} (h : xs[k]? = some x) : ((xs.drop k).map zg).any (fun x => xD x.2) = (xD x.w || ((xs.drop (k + 1)).map zg).any (fun x => xD x.2)) := wm_
def z0 (w w' : World) (e : Ending) (r : List Z × Int) : Prop := ∃ (B : Option Addr) (ys : List I) (cap : Nat), e = .returned (.tuple #[.slice B ys.length cap, .int .i64 r.2]) /\ xc w' B ys /\ ys.map zg = r.1 /\ zX B ys.length cap /\ za w w'
theorem zy (w : World) (A : Option Addr) : xc w A [] := fun i x hx => by simp at hx
end Go.Proofs.YtphaeahdmfapgaaGreat
namespace Go.Proofs.YtphaeahdmfapgaaGreat
open Go.ChangeShapes Go.WideShapes Go.ChangeAt Go.RowKit Go.Calm
set_option maxRecDepth 100000
theorem Zn {α : Type} [Inhabited α] {P : Nat -> α -> Prop} (n : Nat) (h : ∀ i, i < n -> ∃ x, P i x) : ∃ xs : List α, xs.length = n /\ ∀ i x, xs[i]? = some x -> P i x := by
 obtain ⟨f, hf⟩ := Go.Deep.choose_lt h; refine ⟨(List.range n).map f, by simp, fun i x hx => ?_⟩; obtain ⟨hi, e⟩ := qQ9.1 hx; simp at hi e; subst e; exact hf i hi
structure IB (x : I) : Prop where
 len : x.row.length <= maxLen
 v : ∀ v ∈ x.row, VB v
 w : jh x.w
section
variable {H : Type} {enc : TypeId × Value -> H} {w : World} {base : Nat} {spare : Nat -> Bool} {held : Bool}
theorem PQ {fuel : Nat} {cs : List Value} {x : DataW H × List MemPlace} (h : DataW.trod enc Tryz.prog w base spare held fuel 59 cs = some x) :
  ∃ x : I, cs = [.slice x.A x.row.length x.cap, .int .i64 x.w] /\ yS w x.A x.row /\ IB x := by
 obtain ⟨xs, n, hfu, _, hlen, hxl, hf⟩ := DataW.trod_struct Tryz.underlying59 h; have h6 : cs.length = 2 := by rw [hlen]; kernel_rfl
 match cs, h6 with
 | [a, b], _ =>
  have f0 := hf 0 _ rfl; have f1 := hf 1 _ rfl; have g : ∀ i, i < 2 -> ∃ y, xs[i]? = some y := fun i hi => ⟨xs[i]' uv_, qQ_ _⟩
  obtain ⟨y0, e0⟩ := g 0 u4_; obtain ⟨y1, e1⟩ := g 1 u4_; rw [e0] at f0; rw [e1] at f1; obtain ⟨A, row, cap, hcs, hv, hl, hb⟩ := PO f0; obtain ⟨m, hm, _, wm⟩ := DataW.trod_int Tryz.underlying2 f1; have c0 : Tryz.prog.cellsOf 57 = 1 := by kernel_rfl
  have c1 : Tryz.prog.cellsOf 2 = 1 := by kernel_rfl
  simp [c0] at hcs; simp [c1] at hm; exact ⟨⟨A, row, cap, m⟩, by simp [hcs, hm], hv, hl, hb, Ya wm⟩
theorem NE {fuel : Nat} {cs : List Value} {x : DataW H × List MemPlace} (h : DataW.trod enc Tryz.prog w base spare held fuel 38 cs = some x) :
  ∃ (A : Option Addr) (xs : List I) (cap : Nat), cs = [.slice A xs.length cap] /\ xc w A xs /\ xs.length <= maxLen /\ zX A xs.length cap /\ ∀ x ∈ xs, IB x := by
 obtain ⟨A, len, cap, n, D, hcs, hl, hcap, hi⟩ := qG (c := 2) Tryz.underlying38 uY_ u4_ h
 obtain ⟨xs, hxl, hx⟩ := Zn (α := I) (P := fun i x => IB x /\ ∃ g o, A = some ⟨g, o, none⟩ /\ w.cell? ⟨g, o + i * 2, none⟩ = some (.slice x.A x.row.length x.cap) /\ w.cell? ⟨g, o + i * 2 + 1, none⟩ = some (.int .i64 x.w) /\ yS w x.A x.row) len (fun i hlt => by
  obtain ⟨g, o, ys, hA, hyl, hat, hd⟩ := hi i hlt; obtain ⟨x, hx, hv, hb⟩ := PQ hd; subst hx
  exact ⟨x, hb, g, o, hA, hat 0 _ rfl, hat 1 _ rfl, hv⟩)
 have hn : A = none -> cap = 0 := by
  rcases DataW.trod_slice Tryz.underlying38 h with ⟨h0, _⟩ | ⟨a, len', cap', elems, rest, n', _, hcs', _⟩
  ·exact yS_
  ·exact yw_
 refine ⟨A, xs, cap, by rw [hcs, hxl], fun i x h => (hx i x h).2, by omega, ⟨by omega, hn⟩, fun x h => ?_⟩; obtain ⟨i, h1, h2⟩ := List.mem_iff_getElem.1 h; exact (hx i x vg_).1
end
