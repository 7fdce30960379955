/-
  Joined texts of this claim: Zs1, Zs2, Zs3, Zs4, Zs5, Zs9, ReadZ. What each proves its own head says; no condition beside those that each theorem names.
-/
import Derived.Test.YtamfpppbjaelaaaGEa
import Derived.Test.YtamfpppbjaelaaaGG
import Derived.Laws.MakeOwn
import Derived.Test.YtamfpppbjaelaaaGF
import Derived.Deep.DeepCutAuto
import Derived.Test.YtamfpppbjaelaaaGD
set_option maxRecDepth 100000
set_option maxHeartbeats 8000000
namespace Go.Proofs.Ytamfpppbjaelaaa
open Go.RowKit Go.Calm
set_option linter.unusedSimpArgs false
set_option linter.unusedVariables false
def flatW : List V → List Value
  | [] => []
  | v :: vs => .int .i64 v.k :: .int .i64 v.n :: .string v.s :: flatW vs
theorem flatW_len : ∀ row : List V, (flatW row).length = row.length * 3
  | [] => rfl
  | v :: vs => by simp [flatW, flatW_len vs]; omega
theorem flatW_get : ∀ (row : List V) (i : Nat) (x : V), row[i]? = some x → (flatW row)[i * 3]? = some (.int .i64 x.k) ∧ (flatW row)[i * 3 + 1]? = some (.int .i64 x.n) ∧ (flatW row)[i * 3 + 2]? = some (.string x.s)
  | [], i, x, h => by simp at h
  | v :: vs, 0, x, h => by simp at h; subst h; simp [flatW]
  | v :: vs, i + 1, x, h => by
    have := flatW_get vs i x (by simpa using h)
    rw [show (i + 1) * 3 = i * 3 + 3 by omega]
    simpa [flatW] using this
theorem flatW_set : ∀ (xs : List V) (i : Nat) (y : V), i < xs.length → (((flatW xs).set (i * 3) (.int .i64 y.k)).set (i * 3 + 1) (.int .i64 y.n)).set (i * 3 + 2) (.string y.s) = flatW (xs.set i y)
  | [], i, y, h => by simp at h
  | x :: xs, 0, y, h => by simp [flatW]
  | x :: xs, i + 1, y, h => by
    have := flatW_set xs i y (by simpa using h)
    rw [show (i + 1) * 3 = i * 3 + 1 + 1 + 1 by omega]
    simp only [flatW, List.set_cons_succ]
    rw [← this]
theorem made_get (z : Array Value) (n i : Nat) (h : i < n) : (madeCells z n)[i]? = some (z[i % z.size]!) := by
  simp [madeCells, h]
theorem flatW_zero (n : Nat) : madeCells #[.int .i64 0, .int .i64 0, .string ⟨#[]⟩] (n * 3) = (flatW (List.replicate n zV)).toArray := by
  apply Array.ext_getElem?
  intro i
  by_cases hi : i < n * 3
  · rw [made_get _ _ _ hi]
    have hr : (List.replicate n zV)[i / 3]? = some zV := by rw [List.getElem?_replicate, if_pos (by omega)]
    obtain ⟨a, b, c⟩ := flatW_get _ _ _ hr
    have h3 : i % 3 = 0 ∨ i % 3 = 1 ∨ i % 3 = 2 := by omega
    rcases h3 with h | h | h
    · rw [show i / 3 * 3 = i by omega] at a
      rw [List.getElem?_toArray, a]; simp [h, zV]
    · rw [show i / 3 * 3 + 1 = i by omega] at b
      rw [List.getElem?_toArray, b]; simp [h, zV]
    · rw [show i / 3 * 3 + 2 = i by omega] at c
      rw [List.getElem?_toArray, c]; simp [h, zV]
  · rw [Array.getElem?_eq_none (by rw [size_madeCells]; omega), Array.getElem?_eq_none (by simp [flatW_len]; omega)]
def DV (w : World) (g : Nat) (xs : List V) : Prop := Blk w g 30 (flatW xs).toArray
theorem DV.lt {w : World} {g : Nat} {xs : List V} (h : DV w g xs) : g < w.heap.size := Blk.lt h
theorem DV.frozen {w : World} {g : Nat} {xs : List V} (h : DV w g xs) (i : Nat) : w.frozen? ⟨g, i, none⟩ = false := Blk.frozen h i
theorem DV.grow {w w' : World} {g : Nat} {xs : List V} (h : DV w g xs) (hg : Grow w w') : DV w' g xs := Blk.grow h hg
theorem DV.at {w : World} {g : Nat} {xs : List V} (h : DV w g xs) {i : Nat} {x : V} (hx : xs[i]? = some x) : w.cell? ⟨g, i * 3, none⟩ = some (.int .i64 x.k) ∧ w.cell? ⟨g, i * 3 + 1, none⟩ = some (.int .i64 x.n) ∧ w.cell? ⟨g, i * 3 + 2, none⟩ = some (.string x.s) := by
  obtain ⟨a, b, c⟩ := flatW_get xs i x hx
  rw [Blk.cell h, Blk.cell h, Blk.cell h]
  exact ⟨by simpa using a, by simpa using b, by simpa using c⟩
theorem DV.put {w : World} {g : Nat} {xs : List V} (h : DV w g xs) {i : Nat} (hi : i < xs.length) (y : V) : DV (((w.setCell ⟨g, i * 3, none⟩ (.int .i64 y.k)).setCell ⟨g, i * 3 + 1, none⟩ (.int .i64 y.n)).setCell ⟨g, i * 3 + 2, none⟩ (.string y.s)) g (xs.set i y) := by
  have hb := (((Blk.set h (i * 3) (.int .i64 y.k)).set (i * 3 + 1) (.int .i64 y.n)).set (i * 3 + 2) (.string y.s))
  unfold DV
  rw [← flatW_set xs i y hi]
  simpa using hb
theorem DV.vsl {w : World} {g : Nat} {xs : List V} (h : DV w g xs) : VSl w (some ⟨g, 0, none⟩) xs := fun i x hx => by
  obtain ⟨a, b, c⟩ := h.at hx
  exact ⟨g, 0, rfl, by simpa using a, by simpa using b, by simpa using c⟩
theorem info_val2 : (Try.prog.info? 30).map (fun i => (i.zero, i.size, i.bytes)) = some (some (.agg #[.int .i64 0, .int .i64 0, .string ⟨#[]⟩]), 3, 32) := by kernel_rfl
theorem make_vals (n : Nat) (hn : n ≤ 100000) (W : World) : (Instr.makeSlice 37 (.int .i64 (n : Int)) (.int .i64 (n : Int))).run Try.prog W = .ok (.slice (some ⟨W.heap.size, 0, none⟩) n n) (W.alloc (.cells (flatW (List.replicate n zV)).toArray 30)) := by
  have h := info_val2
  cases hi : Try.prog.info? 30 with
  | none => rw [hi] at h; simp at h
  | some i =>
    rw [hi] at h
    simp at h
    obtain ⟨h1, h2, h3⟩ := h
    have := run_make W 37 30 i _ Try.underlying37 hi h1 .i64 .i64 (n : Int) (n : Int) (by omega) (by omega) (by rw [h3]; omega) (by omega)
    rw [this, h2]
    simp only [Int.toNat_natCast]
    rw [show (Value.agg #[.int .i64 0, .int .i64 0, .string ⟨#[]⟩]).cells = #[.int .i64 0, .int .i64 0, .string ⟨#[]⟩] from rfl, flatW_zero]

theorem set_rep (L : List V) (n : Nat) (y : V) (hn : 0 < n) : (L ++ List.replicate n zV).set L.length y = (L ++ [y]) ++ List.replicate (n - 1) zV := by
  obtain ⟨m, rfl⟩ : ∃ m, n = m + 1 := ⟨n - 1, by omega⟩
  rw [List.replicate_succ]
  induction L with
  | nil => simp
  | cons a L ih => simp at ih ⊢

theorem bare_rowD (row : List V) (A : Option Addr) (c : Nat) (w : World) (hlen : row.length ≤ 1000) (hx : VSl w A row) :
    Calls Try.prog 61 #[.slice A row.length c] w fun en w' => ∃ g, en = .returned (.slice (some ⟨g, 0, none⟩) row.length row.length) ∧ DV w' g (row.map bare) ∧ w.heap.size ≤ g ∧ Grow w w' := by
  have mk := fun W => make_vals row.length (by omega) W
  have Hx := Lib.hid hx
  clear hx
  go_enter Try.func61, Try.ntmps61
  go_wp2
  go_loopw [11] (fun i wr => ∃ k : Nat, k ≤ row.length ∧ i = .int .i64 k ∧ DV wr w.heap.size ((row.take k).map bare ++ List.replicate (row.length - k) zV) ∧ Grow w wr) (fun i _ => row.length - (intOf i).toNat)
  case atStart => exact ⟨0, Nat.zero_le _, rfl, show DV _ _ (List.replicate row.length zV) from Blk.new _ _ _, (Grow.refl w).al _⟩
  case round =>
    obtain ⟨k, hk, rfl, hdv, hg⟩ := hrel
    have Hdv := Lib.hid hdv
    clear hdv mk
    by_cases hlt : k < row.length
    · obtain ⟨x, hxk⟩ : ∃ x, row[k]? = some x := ⟨_, List.getElem?_eq_getElem hlt⟩
      obtain ⟨gx, ox, rfl, c1, c2, c3⟩ := (Hx.out.grow hg) k x hxk
      have Hxk := Lib.hid hxk
      have hlk : ((row.take k).map bare).length = k := by simp; omega
      have hz : ((row.take k).map bare ++ List.replicate (row.length - k) zV)[k]? = some zV := by
        rw [List.getElem?_append_right (by omega), hlk, Nat.sub_self, List.getElem?_replicate, if_pos (by omega)]
      have Hz := Lib.hid hz
      have Hlk := Lib.hid hlk
      have lg := Hdv.out.lt
      clear hxk hz hlk
      go_wp2_with (go_at_call 52; ((with_reducible refine (bare_any x _).mono ?_); rintro e w2 ⟨rfl, hg2⟩; have Hdv2 := Lib.hid ((Hdv.out.grow ((Grow.refl wr).al _)).grow hg2); obtain ⟨z1, z2, z3⟩ := Hdv2.out.at Hz.out; have fz := Hdv2.out.frozen; have G2 := (hg.al _).trans hg2))
      go_roundw
      case rel =>
        refine ⟨k + 1, by omega, by go_num, ?_, Grow.set (Grow.set (Grow.set G2 (Nat.le_refl _) _) (Nat.le_refl _) _) (Nat.le_refl _) _⟩
        have h1 := Hdv2.out.put (List.getElem?_eq_some_iff.1 Hz.out).1 (bare x)
        have h2 := set_rep ((row.take k).map bare) (row.length - k) (bare x) (by omega)
        rw [Hlk.out] at h2
        rw [h2] at h1
        have e : (row.take (k + 1)).map bare = (row.take k).map bare ++ [bare x] := by
          have hx' := (List.getElem?_eq_some_iff.1 Hxk.out).2
          rw [List.take_succ_eq_append_getElem hlt, hx']; simp
        rw [e, show row.length - (k + 1) = row.length - k - 1 by omega]
        exact h1
      case measure => simp [intOf]; omega
    · obtain rfl : k = row.length := by omega
      have hfin : DV wr w.heap.size (row.map bare) := by
        have := Hdv.out
        simpa using this
      have Hfin := Lib.hid hfin
      clear hfin
      go_wp2
      go_ret
      exact ⟨w.heap.size, rfl, Hfin.out, Nat.le_refl _, hg⟩
theorem bare_row (row : List V) (A : Option Addr) (c : Nat) (w : World) (hlen : row.length ≤ 1000) (hx : VSl w A row) :
    Calls Try.prog 61 #[.slice A row.length c] w fun en w' => ∃ g, en = .returned (.slice (some ⟨g, 0, none⟩) row.length row.length) ∧ VSl w' (some ⟨g, 0, none⟩) (row.map bare) ∧ w.heap.size ≤ g ∧ Grow w w' :=
  (bare_rowD row A c w hlen hx).mono fun en w' ⟨g, h1, h2, h3, h4⟩ => ⟨g, h1, h2.vsl, h3, h4⟩
instance : DecidableEq V := fun a b => decidable_of_iff (eqB a b = true) (eqB_iff a b)
abbrev Z := List V × Int
def bareR (r : List V) : List V := r.map bare
theorem bare_bare (v : V) : bare (bare v) = bare v := by
  unfold bare
  repeat' split
  all_goals simp_all
theorem bareR_bareR (r : List V) : bareR (bareR r) = bareR r := by
  unfold bareR
  rw [List.map_map]
  exact List.map_congr_left fun v _ => bare_bare v
def wtZ (z : List Z) (r : List V) : Int := (z.map (fun x => if bareR x.1 = bareR r then x.2 else 0)).sum
theorem wtZ_nil (r : List V) : wtZ [] r = 0 := rfl
theorem wtZ_cons (x : Z) (z : List Z) (r : List V) : wtZ (x :: z) r = (if bareR x.1 = bareR r then x.2 else 0) + wtZ z r := by simp [wtZ]
theorem wtZ_append (y z : List Z) (r : List V) : wtZ (y ++ z) r = wtZ y r + wtZ z r := by
  induction y with
  | nil => simp [wtZ_nil]
  | cons x y ih => rw [List.cons_append, wtZ_cons, wtZ_cons, ih]; omega
theorem wtZ_perm {y z : List Z} (h : y.Perm z) (r : List V) : wtZ y r = wtZ z r := by
  induction h with
  | nil => rfl
  | cons x _ ih => rw [wtZ_cons, wtZ_cons, ih]
  | swap x y l => simp only [wtZ_cons]; omega
  | trans _ _ ih1 ih2 => rw [ih1, ih2]
def ordR (a b : List V) : Int := rowsG ordV a b
theorem ordR_range (a b : List V) : ordR a b = -1 ∨ ordR a b = 0 ∨ ordR a b = 1 := rowsG_range ordV ordV_range a b
theorem ordR_swap (a b : List V) : ordR b a = - ordR a b := rowsG_swap ordV ordV_swap a b
theorem ordR_trans {a b c : List V} (h1 : ordR a b ≤ 0) (h2 : ordR b c ≤ 0) : ordR a c ≤ 0 := rowsG_trans' a b c h1 h2
theorem ordR_lt {a b c : List V} (h1 : ordR a b < 0) (h2 : ordR b c < 0) : ordR a c < 0 := by
  have h3 := ordR_trans (a := a) (b := b) (c := c) (by omega) (by omega)
  by_cases h : ordR a c = 0
  · have h4 := ordR_swap a c
    have h5 := ordR_trans (a := c) (b := a) (c := b) (by omega) (by omega)
    have h6 := ordR_swap b c
    omega
  · omega
theorem ordR_zero : ∀ (a b : List V), (∀ v ∈ a, RV v) → (∀ v ∈ b, RV v) → (ordR a b = 0 ↔ bareR a = bareR b)
  | [], [], _, _ => by simp [ordR, rowsG, bareR]
  | [], y :: ys, _, _ => by simp [ordR, rowsG, bareR]
  | x :: xs, [], _, _ => by simp [ordR, rowsG, bareR]
  | x :: xs, y :: ys, hx, hy => by
    have h0 := ordV_zero x y (hx x (by simp)) (hy y (by simp))
    have ih : rowsG ordV xs ys = 0 ↔ xs.map bare = ys.map bare := ordR_zero xs ys (fun v h => hx v (by simp [h])) (fun v h => hy v (by simp [h]))
    show (if ordV x y = 0 then rowsG ordV xs ys else ordV x y) = 0 ↔ (x :: xs).map bare = (y :: ys).map bare
    simp only [List.map_cons, List.cons.injEq]
    split
    · rename_i h
      exact ⟨fun e => ⟨h0.1 h, ih.1 e⟩, fun e => ih.2 e.2⟩
    · rename_i h
      exact ⟨fun e => absurd e h, fun e => absurd (h0.2 e.1) h⟩
structure Canon (z : List Z) : Prop where
  up : z.Pairwise (fun x y => ordR x.1 y.1 < 0)
  rv : ∀ x ∈ z, ∀ v ∈ x.1, RV v
  bare : ∀ x ∈ z, bareR x.1 = x.1
  w : ∀ x ∈ z, x.2 ≠ 0
theorem Canon.tail {x : Z} {z : List Z} (h : Canon (x :: z)) : Canon z := ⟨(List.pairwise_cons.1 h.up).2, fun y hy => h.rv y (by simp [hy]), fun y hy => h.bare y (by simp [hy]), fun y hy => h.w y (by simp [hy])⟩
theorem canon_head {x : Z} {z : List Z} (h : Canon (x :: z)) : wtZ z x.1 = 0 := by
  have h1 := (List.pairwise_cons.1 h.up).1
  have : ∀ l : List Z, (∀ y ∈ l, y ∈ z) → wtZ l x.1 = 0 := by
    intro l
    induction l with
    | nil => intro _; rfl
    | cons y l ih =>
      intro hl
      rw [wtZ_cons, ih (fun y hy => hl y (by simp [hy]))]
      have hy := hl y (by simp)
      have h2 := h1 y hy
      have h3 := ordR_zero x.1 y.1 (h.rv x (by simp)) (h.rv y (by simp [hy]))
      rw [if_neg]
      · rfl
      · intro e
        have := h3.2 e.symm
        omega
  exact this z (fun _ h => h)
theorem canon_wt {x : Z} {z : List Z} (h : Canon (x :: z)) : wtZ (x :: z) x.1 = x.2 := by
  rw [wtZ_cons, if_pos rfl, canon_head h]; omega
theorem canon_less {z : List Z} (h : Canon z) (r : List V) (hr : ∀ v ∈ r, RV v) (hl : ∀ y ∈ z, ordR r y.1 < 0) : wtZ z r = 0 := by
  induction z with
  | nil => rfl
  | cons y z ih =>
    rw [wtZ_cons, ih h.tail (fun y hy => hl y (by simp [hy]))]
    have h2 := hl y (by simp)
    have h3 := ordR_zero r y.1 hr (h.rv y (by simp))
    rw [if_neg]
    · rfl
    · intro e
      have := h3.2 e.symm
      omega
theorem canon_ext : ∀ (y z : List Z), Canon y → Canon z → (∀ r, (∀ v ∈ r, RV v) → wtZ y r = wtZ z r) → y = z
  | [], [], _, _, _ => rfl
  | [], x :: z, _, hz, h => by
    have := h x.1 (hz.rv x (by simp))
    rw [canon_wt hz, wtZ_nil] at this
    exact absurd this.symm (hz.w x (by simp))
  | x :: y, [], hy, _, h => by
    have := h x.1 (hy.rv x (by simp))
    rw [canon_wt hy, wtZ_nil] at this
    exact absurd this (hy.w x (by simp))
  | x :: y, u :: z, hy, hz, h => by
    have rx := hy.rv x (by simp)
    have ru := hz.rv u (by simp)
    have uy := (List.pairwise_cons.1 hy.up).1
    have uz := (List.pairwise_cons.1 hz.up).1
    have hr : ordR x.1 u.1 = 0 := by
      rcases ordR_range x.1 u.1 with h1 | h1 | h1
      · exfalso
        have h2 := canon_less hz x.1 rx (fun t ht => by
          rcases List.mem_cons.1 ht with rfl | ht
          · omega
          · exact ordR_lt (by omega) (uz t ht))
        have h3 := h x.1 rx
        rw [canon_wt hy, h2] at h3
        exact hy.w x (by simp) h3
      · exact h1
      · exfalso
        have h0 := ordR_swap x.1 u.1
        have h2 := canon_less hy u.1 ru (fun t ht => by
          rcases List.mem_cons.1 ht with rfl | ht
          · omega
          · exact ordR_lt (by omega) (uy t ht))
        have h3 := h u.1 ru
        rw [canon_wt hz, h2] at h3
        exact hz.w u (by simp) h3.symm
    have e1 : x.1 = u.1 := by
      have := (ordR_zero x.1 u.1 rx ru).1 hr
      rwa [hy.bare x (by simp), hz.bare u (by simp)] at this
    have e2 : x.2 = u.2 := by
      have h1 := h x.1 rx
      rw [canon_wt hy, e1, canon_wt hz] at h1
      exact h1
    have e : x = u := Prod.ext e1 e2
    subst e
    rw [canon_ext y z hy.tail hz.tail (fun r hr => by
      have := h r hr
      rw [wtZ_cons, wtZ_cons] at this
      omega)]

def accZ : Z → List Z → Z × List Z
  | x, [] => (x, [])
  | x, y :: l => if ordR y.1 x.1 = 0 then accZ (x.1, x.2 + y.2) l else (x, y :: l)
theorem accZ_len : ∀ (l : List Z) (x : Z), (accZ x l).2.length ≤ l.length
  | [], x => by simp [accZ]
  | y :: l, x => by
    unfold accZ
    split
    · have := accZ_len l (x.1, x.2 + y.2)
      simp; omega
    · simp
theorem accZ_row : ∀ (l : List Z) (x : Z), (accZ x l).1.1 = x.1
  | [], x => rfl
  | y :: l, x => by
    unfold accZ
    split
    · exact accZ_row l (x.1, x.2 + y.2)
    · rfl
def totN : Nat → List Z → List Z
  | 0, _ => []
  | _, [] => []
  | n + 1, x :: l => if (accZ x l).1.2 = 0 then totN n (accZ x l).2 else (accZ x l).1 :: totN n (accZ x l).2
def totZ (l : List Z) : List Z := totN l.length l
theorem totN_more : ∀ (n m : Nat) (l : List Z), l.length ≤ n → l.length ≤ m → totN n l = totN m l
  | 0, m, [], _, _ => by cases m <;> rfl
  | n + 1, 0, [], _, _ => rfl
  | n + 1, m + 1, [], _, _ => rfl
  | n + 1, m + 1, x :: l, h1, h2 => by
    have := accZ_len l x
    have ih := totN_more n m (accZ x l).2 (by simp at h1; omega) (by simp at h2; omega)
    unfold totN
    rw [ih]
theorem totZ_cons (x : Z) (l : List Z) : totZ (x :: l) = if (accZ x l).1.2 = 0 then totZ (accZ x l).2 else (accZ x l).1 :: totZ (accZ x l).2 := by
  have := accZ_len l x
  unfold totZ
  show totN (l.length + 1) (x :: l) = _
  conv => lhs; unfold totN
  rw [totN_more l.length (accZ x l).2.length _ this (Nat.le_refl _)]

structure Rise (l : List Z) : Prop where
  up : l.Pairwise (fun x y => ordR x.1 y.1 ≤ 0)
  rv : ∀ x ∈ l, ∀ v ∈ x.1, RV v
  bare : ∀ x ∈ l, bareR x.1 = x.1
theorem Rise.tail {x : Z} {l : List Z} (h : Rise (x :: l)) : Rise l := ⟨(List.pairwise_cons.1 h.up).2, fun y hy => h.rv y (by simp [hy]), fun y hy => h.bare y (by simp [hy])⟩
theorem accZ_spec : ∀ (l : List Z) (x : Z), Rise (x :: l) → (∀ r, wtZ ((accZ x l).1 :: (accZ x l).2) r = wtZ (x :: l) r) ∧ Rise ((accZ x l).1 :: (accZ x l).2) ∧ (∀ y ∈ (accZ x l).2, ordR x.1 y.1 < 0)
  | [], x, h => ⟨fun _ => rfl, h, fun y hy => by simp [accZ] at hy⟩
  | y :: l, x, h => by
    unfold accZ
    split
    · rename_i he
      have hx := (List.pairwise_cons.1 h.up).1
      have hy := (List.pairwise_cons.1 (List.pairwise_cons.1 h.up).2).1
      have h2 : Rise ((x.1, x.2 + y.2) :: l) := by
        refine ⟨List.pairwise_cons.2 ⟨fun z hz => hx z (by simp [hz]), h.tail.tail.up⟩, fun z hz => ?_, fun z hz => ?_⟩
        · rcases List.mem_cons.1 hz with rfl | hz
          · exact h.rv x (by simp)
          · exact h.rv z (by simp [hz])
        · rcases List.mem_cons.1 hz with rfl | hz
          · exact h.bare x (by simp)
          · exact h.bare z (by simp [hz])
      obtain ⟨g1, g2, g3⟩ := accZ_spec l (x.1, x.2 + y.2) h2
      refine ⟨fun r => ?_, g2, g3⟩
      rw [g1, wtZ_cons, wtZ_cons, wtZ_cons]
      have e := (ordR_zero y.1 x.1 (h.rv y (by simp)) (h.rv x (by simp))).1 he
      rw [e]
      split <;> omega
    · rename_i he
      refine ⟨fun _ => rfl, h, fun z hz => ?_⟩
      have hx := (List.pairwise_cons.1 h.up).1
      have hy := (List.pairwise_cons.1 (List.pairwise_cons.1 h.up).2).1
      have s := ordR_swap x.1 y.1
      have h1 := hx y (by simp)
      rcases List.mem_cons.1 hz with rfl | hz
      · omega
      · have h2 := hy z hz
        have h3 := ordR_trans h1 h2
        by_cases h4 : ordR x.1 z.1 = 0
        · exfalso
          have s2 := ordR_swap x.1 z.1
          have := ordR_trans (a := y.1) (b := z.1) (c := x.1) h2 (by omega)
          omega
        · omega
theorem canon_nil : Canon [] := ⟨List.Pairwise.nil, fun x hx => by simp at hx, fun x hx => by simp at hx, fun x hx => by simp at hx⟩
theorem totN_spec : ∀ (n : Nat) (l : List Z), l.length ≤ n → Rise l → Canon (totZ l) ∧ (∀ r, wtZ (totZ l) r = wtZ l r) ∧ (∀ a : List V, (∀ y ∈ l, ordR a y.1 < 0) → ∀ y ∈ totZ l, ordR a y.1 < 0)
  | n, [], _, _ => ⟨canon_nil, fun _ => rfl, fun _ _ y hy => by simp [totZ, totN] at hy⟩
  | 0, x :: l, h, _ => by simp at h
  | n + 1, x :: l, h, hr => by
    obtain ⟨g1, g2, g3⟩ := accZ_spec l x hr
    have hlen := accZ_len l x
    have hrow := accZ_row l x
    obtain ⟨c1, c2, c3⟩ := totN_spec n (accZ x l).2 (by simp at h; omega) g2.tail
    rw [totZ_cons]
    split
    · rename_i h0
      refine ⟨c1, fun r => ?_, fun a ha => c3 a fun y hy => ?_⟩
      · rw [c2, ← g1, wtZ_cons]
        have : (if bareR (accZ x l).1.1 = bareR r then (accZ x l).1.2 else 0) = 0 := by split <;> omega
        omega
      · exact ordR_lt (ha x (by simp)) (g3 y hy)
    · rename_i h0
      refine ⟨⟨List.pairwise_cons.2 ⟨fun y hy => ?_, c1.up⟩, fun y hy => ?_, fun y hy => ?_, fun y hy => ?_⟩, fun r => ?_, fun a ha y hy => ?_⟩
      · rw [hrow]; exact c3 x.1 g3 y hy
      · rcases List.mem_cons.1 hy with rfl | hy
        · exact g2.rv _ (by simp)
        · exact c1.rv y hy
      · rcases List.mem_cons.1 hy with rfl | hy
        · exact g2.bare _ (by simp)
        · exact c1.bare y hy
      · rcases List.mem_cons.1 hy with rfl | hy
        · exact h0
        · exact c1.w y hy
      · rw [wtZ_cons, c2, ← g1, wtZ_cons]
      · rcases List.mem_cons.1 hy with rfl | hy
        · rw [hrow]; exact ha x (by simp)
        · exact c3 a (fun z hz => ordR_lt (ha x (by simp)) (g3 z hz)) y hy
theorem tot_canon {l : List Z} (h : Rise l) : Canon (totZ l) := (totN_spec _ l (Nat.le_refl _) h).1
theorem tot_wt {l : List Z} (h : Rise l) (r : List V) : wtZ (totZ l) r = wtZ l r := (totN_spec _ l (Nat.le_refl _) h).2.1 r

def zI : I := ⟨none, [], 0, 0⟩
def zOf (x : I) : Z := (x.row, x.w)
def SlOk (A : Option Addr) (n c : Nat) : Prop := n ≤ c ∧ (A = none → c = 0)
theorem SlOk.nil : SlOk none 0 0 := ⟨Nat.le_refl _, fun _ => rfl⟩
def ZIn (w : World) (A : Option Addr) (xs : List I) : Prop := ∀ i x, xs[i]? = some x → ∃ g o, A = some ⟨g, o, none⟩ ∧ w.cell? ⟨g, o + i * 2, none⟩ = some (.slice x.A x.row.length x.cap) ∧ w.cell? ⟨g, o + i * 2 + 1, none⟩ = some (.int .i64 x.w) ∧ VSl w x.A x.row
theorem ZIn.grow {w w' : World} {A : Option Addr} {xs : List I} (h : ZIn w A xs) (hg : Grow w w') : ZIn w' A xs := fun i x hx => by
  obtain ⟨g, o, hA, a, b, c⟩ := h i x hx
  exact ⟨g, o, hA, hg.cell a, hg.cell b, c.grow hg⟩
theorem VSl.gx {g h o : Nat} {w w' : World} {xs : List V} (hx : VSl w (some ⟨h, o, none⟩) xs) (hg : GX g w w') (hne : h ≠ g) : VSl w' (some ⟨h, o, none⟩) xs := fun i x hi => by
  obtain ⟨g', o', e, a, b, c⟩ := hx i x hi
  cases e
  exact ⟨h, o, rfl, World.grownBy.cell hg a (by simpa using hne), World.grownBy.cell hg b (by simpa using hne), World.grownBy.cell hg c (by simpa using hne)⟩
theorem Good.mono {g : Nat} {w w' : World} {x : I} (h : Good g w x) (hg : GX g w w') : Good g w' x := ⟨fun W hW => h.sl W (hg.trans hW), h.len, h.rv⟩

theorem flatI_zero (n : Nat) : madeCells #[.slice none 0 0, .int .i64 0] (n * 2) = (flatI (List.replicate n zI)).toArray := by
  apply Array.ext_getElem?
  intro i
  by_cases hi : i < n * 2
  · rw [made_get _ _ _ hi]
    have hr : (List.replicate n zI)[i / 2]? = some zI := by rw [List.getElem?_replicate, if_pos (by omega)]
    obtain ⟨a, b⟩ := flatI_get _ _ _ hr
    have h3 : i % 2 = 0 ∨ i % 2 = 1 := by omega
    rcases h3 with h | h
    · rw [show i / 2 * 2 = i by omega] at a
      rw [List.getElem?_toArray, a]; simp [h, zI]
    · rw [show i / 2 * 2 + 1 = i by omega] at b
      rw [List.getElem?_toArray, b]; simp [h, zI]
  · rw [Array.getElem?_eq_none (by rw [size_madeCells]; omega), Array.getElem?_eq_none (by simp [flatI_len]; omega)]
theorem info_zrow : (Try.prog.info? 39).map (fun i => (i.zero, i.size, i.bytes)) = some (some (.agg #[.slice none 0 0, .int .i64 0]), 2, 32) := by kernel_rfl
theorem info_zrow' : ∃ ti, Try.prog.info? 39 = some ti ∧ ti.zero = some (.agg #[.slice none 0 0, .int .i64 0]) ∧ ti.size = 2 ∧ ti.bytes = 32 := by
  have h := info_zrow
  cases hi : Try.prog.info? 39 with
  | none => rw [hi] at h; simp at h
  | some i => rw [hi] at h; simp at h; exact ⟨i, rfl, h⟩
theorem make_zrows (n : Nat) (hn : n ≤ 1000000) (W : World) : (Instr.makeSlice 24 (.int .i64 (n : Int)) (.int .i64 (n : Int))).run Try.prog W = .ok (.slice (some ⟨W.heap.size, 0, none⟩) n n) (W.alloc (.cells (flatI (List.replicate n zI)).toArray 39)) := by
  have h := info_zrow
  cases hi : Try.prog.info? 39 with
  | none => rw [hi] at h; simp at h
  | some i =>
    rw [hi] at h
    simp at h
    obtain ⟨h1, h2, h3⟩ := h
    have := run_make W 24 39 i _ Try.underlying24 hi h1 .i64 .i64 (n : Int) (n : Int) (by omega) (by omega) (by rw [h3]; omega) (by omega)
    rw [this, h2]
    simp only [Int.toNat_natCast]
    rw [show (Value.agg #[.slice none 0 0, .int .i64 0]).cells = #[.slice none 0 0, .int .i64 0] from rfl, flatI_zero]
theorem set_repI (L : List I) (n : Nat) (y : I) (hn : 0 < n) : (L ++ List.replicate n zI).set L.length y = (L ++ [y]) ++ List.replicate (n - 1) zI := by
  obtain ⟨m, rfl⟩ : ∃ m, n = m + 1 := ⟨n - 1, by omega⟩
  rw [List.replicate_succ, set_mid L _ zI y _ rfl]
  simp
theorem bareR_rv {r : List V} (h : ∀ v ∈ r, RV v) : ∀ v ∈ bareR r, RV v := fun v hv => by
  simp only [bareR, List.mem_map] at hv
  obtain ⟨u, hu, rfl⟩ := hv
  exact rv_bare (h u hu)

theorem own_grow {w w' : World} {base n size : Nat} {e : TypeId} {v : Value} {xs : List Value} (h : w.ownsRow base e size v n xs) (hg : Grow w w') : w'.ownsRow base e size v n xs := by
  obtain ⟨h1, h2⟩ := h
  refine ⟨h1, ?_⟩
  rcases h2 with h2 | ⟨g, cap, cur, a, b, c, d⟩
  · exact .inl h2
  · exact .inr ⟨g, cap, cur, a, b, Blk.grow (g := g) c hg, d⟩
theorem Grow.own {a b c : World} {row : Option Nat} (h : Grow a b) (k : b.grownBy c row) (hr : ∀ i, row = some i → a.heap.size ≤ i) : Grow a c :=
  ⟨⟨k.os.trans h.below.os, k.tape.trans h.below.tape, k.output.trans h.below.output, Nat.le_trans h.size k.size, fun i hi => (k.block i (Nat.lt_of_lt_of_le hi h.size) (fun e => by have := hr i e.symm; omega)).trans (h.below.block i hi)⟩⟩
theorem total_cap (xs : List I) (A : Option Addr) (c : Nat) (w : World) (hlen : xs.length ≤ 200000) (hz : ZIn w A xs) (hrow : ∀ x ∈ xs, x.row.length ≤ 1000) (hrv : ∀ x ∈ xs, ∀ v ∈ x.row, RV v) (hw : ∀ x ∈ xs, -1000000000000 ≤ x.w ∧ x.w ≤ 1000000000000) :
    Calls Try.prog 49 #[.slice A xs.length c] w fun en w' => ∃ (B : Option Addr) (ys : List I) (cap : Nat), en = .returned (.slice B ys.length cap) ∧ ZIn w' B ys ∧ Canon (ys.map zOf) ∧ (∀ r, wtZ (ys.map zOf) r = wtZ (xs.map zOf) r) ∧ SlOk B ys.length cap ∧ (∀ y ∈ ys, y.row.length ≤ y.cap) ∧ Grow w w' := by
  have mk := fun W => make_zrows xs.length (by omega) W
  have Hz := Lib.hid hz
  have Hrow := Lib.hid hrow
  have Hrv := Lib.hid hrv
  have Hw := Lib.hid hw
  clear hz hrow hrv hw
  go_enter Try.func49, Try.ntmps49
  go_wp2
  go_loopw [14] (fun i wr => ∃ (k : Nat) (done : List I), k ≤ xs.length ∧ i = .int .i64 k ∧ done.length = k ∧ DB wr w.heap.size (done ++ List.replicate (xs.length - k) zI) ∧ done.map zOf = (xs.take k).map (fun x => (bareR x.row, x.w)) ∧ ((∀ y ∈ done, Good w.heap.size wr y) ∧ ∀ y ∈ done, y.row.length ≤ y.cap) ∧ Grow w wr) (fun i _ => xs.length - (intOf i).toNat)
  case atStart => exact ⟨0, [], Nat.zero_le _, rfl, rfl, show DB _ _ (List.replicate xs.length zI) from Blk.new _ _ _, rfl, ⟨fun y hy => by simp at hy, fun y hy => by simp at hy⟩, (Grow.refl w).al _⟩
  case round =>
    obtain ⟨k, done, hk, rfl, hdl, hdb, hmap, ⟨hgood, hcap⟩, hg⟩ := hrel
    have Hcap := Lib.hid hcap
    have Hdl := Lib.hid hdl
    have Hdb := Lib.hid hdb
    have Hmap := Lib.hid hmap
    have Hgood := Lib.hid hgood
    clear hdl hdb hmap hgood mk hcap
    by_cases hlt : k < xs.length
    · obtain ⟨x, hxk⟩ : ∃ x, xs[k]? = some x := ⟨_, List.getElem?_eq_getElem hlt⟩
      obtain ⟨gx, ox, rfl, c1, c2, hxv⟩ := (Hz.out.grow hg) k x hxk
      have Hxk := Lib.hid hxk
      have hmem : x ∈ xs := List.mem_of_getElem? hxk
      have hlx := Hrow.out x hmem
      have cb := fun W (h : Grow wr W) => bare_row x.row x.A x.cap W hlx (hxv.grow h)
      have lg := Hdb.out.lt
      have Hmem := Lib.hid hmem
      clear hxk hxv hmem
      go_upto_region 5 with fail
      refine wp_forget (fun X => Blk X wr.heap.size 39 #[.slice x.A x.row.length x.cap, .int .i64 x.w] ∧ Grow wr X) ⟨Blk.new _ _ _, (Grow.refl wr).al _⟩ ?_
      rintro X ⟨Bx, G⟩
      apply wp_region_calm 9 (by kernel_rfl) (by kernel_rfl)
      case h' =>
        intro Q0 hQ0
        simp only [List.take_succ_cons, List.take_zero]
        repeat ((first | ((first | apply calm_p rfl | apply calm_y rfl rfl rfl); case h1 => (intro w1 hw1 hF K hK; obtain ⟨bx, fx⟩ := (Blk.grow Bx hw1).rules; go_simp; first | exact hK _ (Grow.refl _))) | apply calm_n rfl rfl rfl rfl); intro K hK; go_simp; apply hK; clear hK K)
        apply calm_fp (fun v W => ∃ gi, v = .slice (some ⟨gi, 0, none⟩) x.row.length x.row.length ∧ VSl W (some ⟨gi, 0, none⟩) (x.row.map bare) ∧ wr.heap.size ≤ gi) rfl
        case h1 =>
          intro w1 hw1 hF K hK
          go_simp
          go_at_call 61
          refine (cb w1 (G.trans hw1)).mono ?_
          rintro en w' ⟨gi, rfl, hv, hge, hg'⟩
          exact ⟨_, rfl, hK _ _ hg' ⟨gi, rfl, hv, Nat.le_trans (G.trans hw1).size hge⟩⟩
        intro v23 K hK
        go_simp
        apply hK
        clear hK K
        repeat ((first | ((first | apply calm_p rfl | apply calm_y rfl rfl rfl); case h1 => (intro w1 hw1 hF K hK; obtain ⟨bx, fx⟩ := (Blk.grow Bx hw1).rules; go_simp; first | exact hK _ (Grow.refl _))) | apply calm_n rfl rfl rfl rfl); intro K hK; go_simp; apply hK; clear hK K)
        apply calm_fp (fun v W => ∃ gi, v = .agg #[.slice (some ⟨gi, 0, none⟩) x.row.length x.row.length, .int .i64 x.w] ∧ VSl W (some ⟨gi, 0, none⟩) (x.row.map bare) ∧ wr.heap.size ≤ gi) rfl
        case h1 =>
          intro w1 hw1 hF K hK
          obtain ⟨gi, hv, h1, h2⟩ := hF _ (List.mem_cons_self ..) ⟨_, rfl, by decide⟩
          subst hv
          go_simp
          exact hK _ _ (Grow.refl _) ⟨gi, rfl, h1, h2⟩
        intro v26 K hK
        go_simp
        apply hK
        clear hK K
        repeat ((first | ((first | apply calm_p rfl | apply calm_y rfl rfl rfl); case h1 => (intro w1 hw1 hF K hK; obtain ⟨bx, fx⟩ := (Blk.grow Bx hw1).rules; go_simp; first | exact hK _ (Grow.refl _))) | apply calm_n rfl rfl rfl rfl); intro K hK; go_simp; apply hK; clear hK K)
        refine calm_nil ?_
        intro w1 hw1 hF
        apply hQ0
        clear hQ0
        simp only [List.drop_succ_cons, List.drop_zero]
        obtain ⟨gi, hv, hvs, hge⟩ := hF _ (List.mem_cons_self ..)
        subst hv
        clear hF
        have Hdb2 := Lib.hid (Hdb.out.grow (G.trans hw1))
        have hz : (done ++ List.replicate (xs.length - k) zI)[k]? = some zI := by
          rw [List.getElem?_append_right (by have := Hdl.out; omega), Hdl.out, Nat.sub_self, List.getElem?_replicate, if_pos (by omega)]
        obtain ⟨z1, z2⟩ := Hdb2.out.at hz
        have fz := Hdb2.out.frozen
        have Hz2 := Lib.hid hz
        have Hvs := Lib.hid hvs
        have G2 := hg.trans (G.trans hw1)
        have hgi : gi ≠ w.heap.size := by omega
        clear hz hvs
        go_wp2
        go_roundw
        case rel =>
          refine ⟨k + 1, done ++ [⟨some ⟨gi, 0, none⟩, bareR x.row, x.row.length, x.w⟩], by omega, by go_num, by simp [Hdl.out], ?_, ?_, ?_, Grow.set (Grow.set G2 (Nat.le_refl _) _) (Nat.le_refl _) _⟩
          · have h1 := Hdb2.out.put (List.getElem?_eq_some_iff.1 Hz2.out).1 ⟨some ⟨gi, 0, none⟩, bareR x.row, x.row.length, x.w⟩
            have h2 := set_repI done (xs.length - k) ⟨some ⟨gi, 0, none⟩, bareR x.row, x.row.length, x.w⟩ (by omega)
            rw [Hdl.out] at h2
            rw [h2, show xs.length - k - 1 = xs.length - (k + 1) by omega] at h1
            simpa [bareR] using h1
          · have hx' := (List.getElem?_eq_some_iff.1 Hxk.out).2
            rw [List.map_append, Hmap.out, List.take_succ_eq_append_getElem hlt, hx']; simp [zOf]
          · have hgx : GX w.heap.size wr (((w1.setCell ⟨w.heap.size, k * 2, none⟩ (.slice (some ⟨gi, 0, none⟩) x.row.length x.row.length)).setCell ⟨w.heap.size, k * 2 + 1, none⟩ (.int .i64 x.w))) := ((GX.refl _ wr).grow (G.trans hw1)).put _ _ _ _
            refine ⟨fun y hy => ?_, fun y hy => ?_⟩
            rotate_left
            · rcases List.mem_append.1 hy with hy | hy
              · exact Hcap.out y hy
              · simp at hy; subst hy; simp [bareR]
            rcases List.mem_append.1 hy with hy | hy
            · exact (Hgood.out y hy).mono hgx
            · simp at hy
              subst hy
              refine ⟨fun W hW => ?_, ?_, bareR_rv (Hrv.out x Hmem.out)⟩
              · have h1 := Hvs.out.gx (((GX.refl w.heap.size w1).put _ _ _ _).trans hW) hgi
                exact h1
              · simp [bareR]; omega
        case measure => simp [intOf]; omega
      case hp' => exact ⟨fun v w w' hg ⟨gi, e, h1, h2⟩ => ⟨gi, e, h1.grow hg, h2⟩, fun v w w' hg ⟨gi, e, h1, h2⟩ => ⟨gi, e, h1.grow hg, h2⟩, trivial⟩
    · obtain rfl : k = xs.length := by omega
      have hdb2 : DB wr w.heap.size done := by have := Hdb.out; simpa using this
      have cs := sort_stable done xs.length xs.length w.heap.size wr wr Hdl.out.symm (by omega) Hgood.out (GX.refl _ _) hdb2
      have hmap2 : done.map zOf = xs.map (fun x => (bareR x.row, x.w)) := by have := Hmap.out; simpa using this
      have Hmap2 := Lib.hid hmap2
      have cR := fun (y x : I) (W : World) (hy : VSl W y.A y.row) (hx : VSl W x.A x.row) (l1 : y.row.length ≤ 9223372036854775807) (l2 : x.row.length ≤ 9223372036854775807) => vrows_any y.row x.row y.A x.A y.cap x.cap W l1 l2 hy hx
      clear hmap2 hdb2 hlt Hdb Hmap
      go_upto_region 8 with (go_at_call 77; ((with_reducible refine cs.mono ?_); rintro en w2 ⟨rfl, hd2, hg2⟩))
      obtain ⟨M, pM, uM, dM⟩ := hd2
      have gM : ∀ y ∈ M, Good w.heap.size w2 y := fun y hy => (Hgood.out y (pM.mem_iff.1 hy)).mono hg2
      have G0 : Grow w w2 := GX.base hg (Nat.le_refl _) hg2
      have lM : M.length = xs.length := pM.length_eq.trans Hdl.out
      have wM : ∀ y ∈ M, -1000000000000 ≤ y.w ∧ y.w ≤ 1000000000000 := fun y hy => by
        have h1 : zOf y ∈ done.map zOf := List.mem_map_of_mem (pM.mem_iff.1 hy)
        rw [Hmap2.out, List.mem_map] at h1
        obtain ⟨x, hx, e⟩ := h1
        have : x.w = y.w := congrArg Prod.snd e
        rw [← this]; exact Hw.out x hx
      have bM : ∀ y ∈ M, bareR y.row = y.row := fun y hy => by
        have h1 : zOf y ∈ done.map zOf := List.mem_map_of_mem (pM.mem_iff.1 hy)
        rw [Hmap2.out, List.mem_map] at h1
        obtain ⟨x, hx, e⟩ := h1
        have : bareR x.row = y.row := congrArg Prod.fst e
        rw [← this]; exact bareR_bareR _
      have hrise : Rise (M.map zOf) := by
        refine ⟨?_, fun x hx => ?_, fun x hx => ?_⟩
        · rw [List.pairwise_map]
          refine List.Pairwise.imp_of_mem (fun {a b} ha hb h => ?_) uM
          have := h
          unfold cmpR at this
          rw [rows_cmp_ord _ _ (gM a ha).rv (gM b hb).rv] at this
          exact this
        · obtain ⟨y, hy, rfl⟩ := List.mem_map.1 hx
          exact (gM y hy).rv
        · obtain ⟨y, hy, rfl⟩ := List.mem_map.1 hx
          exact bM y hy
      have hwt : ∀ r, wtZ (totZ (M.map zOf)) r = wtZ (xs.map zOf) r := fun r => by
        rw [tot_wt hrise, wtZ_perm (pM.map zOf) r, Hmap2.out]
        have : ∀ l : List I, wtZ (l.map (fun x => (bareR x.row, x.w))) r = wtZ (l.map zOf) r := fun l => by
          induction l with
          | nil => rfl
          | cons a l ih => simp only [List.map_cons, wtZ_cons, ih, zOf, bareR_bareR]
        exact this xs
      have Hwt := Lib.hid hwt
      have Hcan := Lib.hid (tot_canon hrise)
      have GM := Lib.hid gM
      have CM := Lib.hid (fun y (hy : y ∈ M) => Hcap.out y (pM.mem_iff.1 hy))
      have LM := Lib.hid lM
      have WM := Lib.hid wM
      have DM := Lib.hid dM
      clear pM uM dM gM lM wM bM hrise hwt cs hg2 Hmap2 Hgood Hdl
      go_wp2
      go_loopw [6, 7] (fun t si w3 => ∃ (i : Nat) (out : List I), si = .int .i64 (i : Int) ∧ i ≤ xs.length ∧ w3.ownsRow w2.heap.size 39 2 t out.length (flatI out) ∧ out.map zOf ++ totZ ((M.drop i).map zOf) = totZ (M.map zOf) ∧ (∀ y ∈ out, VSl w2 y.A y.row ∧ y.row.length ≤ y.cap) ∧ out.length ≤ i ∧ Grow w2 w3) (fun _ si _ => xs.length - (intOf si).toNat)
      case atStart => exact ⟨0, [], rfl, Nat.zero_le _, World.ownsRow_nil _ _ _ _, rfl, fun y hy => by simp at hy, Nat.le_refl _, Grow.refl _⟩
      case round =>
        obtain ⟨i, out, rfl, hi, hown, htot, hvo, hol, hg3⟩ := hrel
        have Own := Lib.hid hown
        have Tot := Lib.hid htot
        have Hvo := Lib.hid hvo
        clear hown htot hvo
        by_cases hlt : i < xs.length
        · obtain ⟨x, hxk⟩ : ∃ x, M[i]? = some x := ⟨_, List.getElem?_eq_getElem (by have := LM.out; omega)⟩
          have hmem : x ∈ M := List.mem_of_getElem? hxk
          have gx := GM.out x hmem
          have wx := WM.out x hmem
          have vx := gx.sl _ (GX.refl _ _)
          have Cx := Lib.hid (CM.out x hmem)
          have hdrop : (M.drop i).map zOf = zOf x :: (M.drop (i + 1)).map zOf := by
            rw [List.drop_eq_getElem_cons (by have := LM.out; omega), (List.getElem?_eq_some_iff.1 hxk).2]; rfl
          have htot2 : totZ (M.map zOf) = out.map zOf ++ (if (accZ (zOf x) ((M.drop (i + 1)).map zOf)).1.2 = 0 then totZ (accZ (zOf x) ((M.drop (i + 1)).map zOf)).2 else (accZ (zOf x) ((M.drop (i + 1)).map zOf)).1 :: totZ (accZ (zOf x) ((M.drop (i + 1)).map zOf)).2) := by
            rw [← Tot.out, hdrop, totZ_cons]
          have Tot2 := Lib.hid htot2
          obtain ⟨cx0, cx1⟩ := (DM.out.grow hg3).at hxk
          have Gx := Lib.hid gx
          have Vx := Lib.hid vx
          have d0 : decide ((i : Int) < (xs.length : Int)) = true := by simp; omega
          obtain ⟨wx1, wx2⟩ := wx
          clear hxk hmem gx vx hdrop htot2 Tot
          go_wp2
          rename World => w4
          go_loopw [7] (fun si w5 => ∃ (j : Nat) (acc : Int), si = .int .i64 (j : Int) ∧ i + 1 ≤ j ∧ j ≤ xs.length ∧ Blk w5 w4.heap.size 39 #[.slice x.A x.row.length x.cap, .int .i64 acc] ∧ accZ (x.row, acc) ((M.drop j).map zOf) = accZ (zOf x) ((M.drop (i + 1)).map zOf) ∧ -1000000000000 * (j : Int) ≤ acc ∧ acc ≤ 1000000000000 * (j : Int) ∧ Grow w4 w5) (fun si _ => xs.length - (intOf si).toNat)
          case atStart => exact ⟨i + 1, x.w, by go_num, Nat.le_refl _, by omega, Blk.new _ _ _, rfl, by omega, by omega, (Grow.refl w4).al _⟩
          case round =>
            obtain ⟨j, acc, rfl, hij, hjn, hbx, hacc, ha1, ha2, hg5⟩ := hrel
            have Hbx := Lib.hid hbx
            have Hacc := Lib.hid hacc
            clear hbx hacc
            by_cases hj : j < xs.length
            · obtain ⟨y, hyk⟩ : ∃ y, M[j]? = some y := ⟨_, List.getElem?_eq_getElem (by have := LM.out; omega)⟩
              have hymem : y ∈ M := List.mem_of_getElem? hyk
              have gy := GM.out y hymem
              have wy := WM.out y hymem
              obtain ⟨wy1, wy2⟩ := wy
              have hdropy : (M.drop j).map zOf = zOf y :: (M.drop (j + 1)).map zOf := by
                rw [List.drop_eq_getElem_cons (by have := LM.out; omega), (List.getElem?_eq_some_iff.1 hyk).2]; rfl
              have Hdy := Lib.hid hdropy
              have Hyk := Lib.hid hyk
              have hordr : rowsG cmpV y.row x.row = ordR y.row x.row := rows_cmp_ord _ _ gy.rv Gx.out.rv
              obtain ⟨cr, hcr⟩ : ∃ r, rowsG cmpV y.row x.row = r := ⟨_, rfl⟩
              have hord : ordR y.row x.row = cr := hordr.symm.trans hcr
              have cc := fun W (h : Grow w2 W) => cR y x W (gy.sl _ ((GX.refl _ _).grow h)) (Gx.out.sl _ ((GX.refl _ _).grow h)) gy.len Gx.out.len
              rw [hcr] at cc
              have Hord := Lib.hid hord
              have gw := hg3.trans hg5
              have d1 : decide ((j : Int) < (xs.length : Int)) = true := by simp; omega
              clear hcr hordr hord hyk hdropy hymem gy
              go_wp2
              apply wp_region_calm 15 (by kernel_rfl) (by kernel_rfl)
              case h' =>
                intro Q0 hQ0
                simp only [List.take_succ_cons, List.take_zero]
                repeat ((first | ((first | apply calm_p rfl | apply calm_y rfl rfl rfl); case h1 => (intro w1 hw1 hF K hK; obtain ⟨bx, fx⟩ := (Blk.grow Hbx.out hw1).rules; obtain ⟨cy0, cy1⟩ := (DM.out.grow (gw.trans hw1)).at Hyk.out; go_simp; first | exact hK _ (Grow.refl _) | (go_at_call 24; ((with_reducible refine (cc _ (gw.trans hw1)).mono ?_); rintro e w' ⟨rfl, hg⟩; exact ⟨_, rfl, hK _ hg⟩)))) | apply calm_n rfl rfl rfl rfl); intro K hK; go_simp; apply hK; clear hK K)
                refine calm_nil ?_
                intro w1 hw1 hF
                apply hQ0
                clear hQ0
                simp only [List.drop_succ_cons, List.drop_zero]
                clear hF
                have gw1 := gw.trans hw1
                obtain ⟨cy0, cy1⟩ := (DM.out.grow gw1).at Hyk.out
                by_cases hc : cr = 0
                · have dc : (cr == 0) = true := by simpa using hc
                  obtain ⟨bx, fx⟩ := (Blk.grow Hbx.out hw1).rules
                  have hwp : IntKind.i64.wrap (acc + y.w) = acc + y.w := by rw [IntKind.wrap_i64]; omega
                  have mixed : Try.prog.follows .mixedOrders = true := by kernel_rfl
                  simp only [dc]
                  go_wp2
                  go_big_region_o
                  all_goals go_wp2
                  refine ⟨⟨j + 1, acc + y.w, by go_num, by omega, by omega, ?_, ?_, by omega, by omega, ?_⟩, by simp [intOf]; omega⟩
                  · have := (Blk.grow Hbx.out hw1).set 1 (.int .i64 (acc + y.w))
                    simpa using Blk.drew this
                  · rw [← Hacc.out, Hdy.out]
                    show _ = if ordR y.row x.row = 0 then accZ (x.row, acc + y.w) _ else _
                    rw [if_pos (Hord.out.trans hc)]
                  · exact Grow.drew (Grow.set (hg5.trans hw1) (Nat.le_refl _) _)
                · have dc : (cr == 0) = false := by simpa using hc
                  simp only [dc]
                  have hst : totZ (M.map zOf) = out.map zOf ++ (if acc = 0 then totZ ((M.drop j).map zOf) else (x.row, acc) :: totZ ((M.drop j).map zOf)) := by
                    have h := Tot2.out
                    rw [← Hacc.out, show accZ (x.row, acc) ((M.drop j).map zOf) = ((x.row, acc), (M.drop j).map zOf) by rw [Hdy.out]; show (if ordR y.row x.row = 0 then _ else _) = _; rw [if_neg (fun h => hc (Hord.out.symm.trans h))]] at h
                    exact h
                  have Hst := Lib.hid hst
                  have Own6 := Lib.hid (own_grow (own_grow Own.out hg5) hw1)
                  have G6 := hg3.trans (hg5.trans hw1)
                  obtain ⟨bx, fx⟩ := (Blk.grow Hbx.out hw1).rules
                  clear hst
                  by_cases ha0 : acc = 0
                  · have da : (acc != 0) = false := by simpa using ha0
                    go_wp2
                    go_roundw
                    case rel => exact ⟨j, out, rfl, hjn, Own6.out, by have := Hst.out; rw [if_pos ha0] at this; exact this.symm, Hvo.out, by omega, G6⟩
                    case measure => simp [intOf]; omega
                  · have da : (acc != 0) = true := by simpa using ha0
                    obtain ⟨ti, ht, hz0, hz1, hz2⟩ := info_zrow'
                    have hl2 := Own6.out.lt
                    have HL2 := Lib.hid hl2
                    clear hl2
                    go_wp2_with (at_builtin; refine wpList_append_own _ rfl _ _ 24 rfl w2.heap.size 39 ti (.agg #[.slice none 0 0, .int .i64 0]) 2 32 Try.underlying24 ht hz0 hz1 hz2 rfl (by decide) _ _ _ rfl (Own6.out.alloc _) ⟨w1.heap.size, 0, none⟩ 1 1 [.slice x.A x.row.length x.cap, .int .i64 acc] rfl rfl ?c1 ?c2 ?c3 ?c4 ?c5 ?_)
                    case c1 =>
                      intro j u hj
                      match j, hj with
                      | 0, hj => simp at hj; subst hj; simp [Addr.add]
                      | 1, hj => simp at hj; subst hj; simp [Addr.add]
                    case c2 => intro u hu; simp at hu; rcases hu with rfl | rfl <;> rfl
                    case c3 => unfold maxLen; omega
                    case c4 => omega
                    case c5 => have := G6.size; simp; omega
                    · intro v' w7 hown' hgrow _
                      have hg7 : Grow w2 w7 := Grow.own (G6.al _) hgrow (fun i hi => (HL2.out i hi).1)
                      clear hgrow
                      go_wp2
                      go_roundw
                      case rel => exact ⟨j, out ++ [⟨x.A, x.row, x.cap, acc⟩], rfl, hjn, by simpa [flatI_append, flatI] using hown', by have := Hst.out; rw [if_neg ha0] at this; rw [this]; simp [zOf], fun y hy => by
                          rcases List.mem_append.1 hy with hy | hy
                          · exact Hvo.out y hy
                          · simp at hy; subst hy; exact ⟨Vx.out, Cx.out⟩, by simp; omega, hg7⟩
                      case measure => simp [intOf]; omega
              case hp' => trivial
            · obtain rfl : j = xs.length := by omega
              have d1 : decide ((xs.length : Int) < (xs.length : Int)) = false := by simp
              have hdr : (M.drop xs.length).map zOf = [] := by rw [List.drop_eq_nil_of_le (by have := LM.out; omega)]; rfl
              have Hdr := Lib.hid hdr
              clear hdr
              go_wp2
              apply wp_region_calm 15 (by kernel_rfl) (by kernel_rfl)
              case h' =>
                intro Q0 hQ0
                simp only [List.take_succ_cons, List.take_zero]
                repeat ((first | ((first | apply calm_p rfl | apply calm_y rfl rfl rfl); case h1 => (intro w1 hw1 hF K hK; obtain ⟨bx, fx⟩ := (Blk.grow Hbx.out hw1).rules; go_simp; first | exact hK _ (Grow.refl _))) | apply calm_n rfl rfl rfl rfl); intro K hK; go_simp; apply hK; clear hK K)
                refine calm_nil ?_
                intro w1 hw1 hF
                apply hQ0
                clear hQ0
                simp only [List.drop_succ_cons, List.drop_zero]
                clear hF
                have hst : totZ (M.map zOf) = out.map zOf ++ (if acc = 0 then totZ ((M.drop xs.length).map zOf) else (x.row, acc) :: totZ ((M.drop xs.length).map zOf)) := by
                  have h := Tot2.out
                  rw [← Hacc.out, show accZ (x.row, acc) ((M.drop xs.length).map zOf) = ((x.row, acc), (M.drop xs.length).map zOf) by rw [Hdr.out]; rfl] at h
                  exact h
                have Hst := Lib.hid hst
                have Own6 := Lib.hid (own_grow (own_grow Own.out hg5) hw1)
                have G6 := hg3.trans (hg5.trans hw1)
                obtain ⟨bx, fx⟩ := (Blk.grow Hbx.out hw1).rules
                clear hst
                by_cases ha0 : acc = 0
                · have da : (acc != 0) = false := by simpa using ha0
                  go_wp2
                  go_roundw
                  case rel => exact ⟨xs.length, out, rfl, hjn, Own6.out, by have := Hst.out; rw [if_pos ha0] at this; exact this.symm, Hvo.out, by omega, G6⟩
                  case measure => simp [intOf]; omega
                · have da : (acc != 0) = true := by simpa using ha0
                  obtain ⟨ti, ht, hz0, hz1, hz2⟩ := info_zrow'
                  have hl2 := Own6.out.lt
                  have HL2 := Lib.hid hl2
                  clear hl2
                  go_wp2_with (at_builtin; refine wpList_append_own _ rfl _ _ 24 rfl w2.heap.size 39 ti (.agg #[.slice none 0 0, .int .i64 0]) 2 32 Try.underlying24 ht hz0 hz1 hz2 rfl (by decide) _ _ _ rfl (Own6.out.alloc _) ⟨w1.heap.size, 0, none⟩ 1 1 [.slice x.A x.row.length x.cap, .int .i64 acc] rfl rfl ?c1 ?c2 ?c3 ?c4 ?c5 ?_)
                  case c1 =>
                    intro j u hj
                    match j, hj with
                    | 0, hj => simp at hj; subst hj; simp [Addr.add]
                    | 1, hj => simp at hj; subst hj; simp [Addr.add]
                  case c2 => intro u hu; simp at hu; rcases hu with rfl | rfl <;> rfl
                  case c3 => unfold maxLen; omega
                  case c4 => omega
                  case c5 => have := G6.size; simp; omega
                  · intro v' w7 hown' hgrow _
                    have hg7 : Grow w2 w7 := Grow.own (G6.al _) hgrow (fun i hi => (HL2.out i hi).1)
                    clear hgrow
                    go_wp2
                    go_roundw
                    case rel => exact ⟨xs.length, out ++ [⟨x.A, x.row, x.cap, acc⟩], rfl, hjn, by simpa [flatI_append, flatI] using hown', by have := Hst.out; rw [if_neg ha0] at this; rw [this]; simp [zOf], fun y hy => by
                        rcases List.mem_append.1 hy with hy | hy
                        · exact Hvo.out y hy
                        · simp at hy; subst hy; exact ⟨Vx.out, Cx.out⟩, by simp; omega, hg7⟩
                    case measure => simp [intOf]; omega
              case hp' => trivial
        · have ei : i = xs.length := by omega
          have hfin : out.map zOf = totZ (M.map zOf) := by
            have h := Tot.out
            rw [List.drop_eq_nil_of_le (by have := LM.out; omega)] at h
            simpa [totZ, totN] using h
          have hres : ∃ (B : Option Addr) (cap : Nat), u6 = .slice B out.length cap ∧ ZIn wr B out ∧ SlOk B out.length cap := by
            obtain ⟨_, h⟩ := Own.out
            rcases h with ⟨rfl, h0⟩ | ⟨gb, cap, cur, rfl, hB, hgb, hle, hmx, hcs, htk⟩
            · have : out = [] := List.length_eq_zero_iff.1 h0
              subst this
              exact ⟨none, 0, rfl, fun i x hx => by simp at hx, SlOk.nil⟩
            · refine ⟨some ⟨gb, 0, none⟩, cap, rfl, fun i x hx => ⟨gb, 0, rfl, ?_, ?_, (Hvo.out x (List.mem_of_getElem? hx)).1.grow hg3⟩, hle, fun h => by cases h⟩
              · have hb : Blk wr gb 39 cur := hgb
                have hi' : i < out.length := (List.getElem?_eq_some_iff.1 hx).1
                have h1 := (flatI_get out i x hx).1
                rw [← htk, List.getElem?_take, if_pos (by omega)] at h1
                rw [Nat.zero_add, hb.cell]; simpa using h1
              · have hb : Blk wr gb 39 cur := hgb
                have hi' : i < out.length := (List.getElem?_eq_some_iff.1 hx).1
                have h1 := (flatI_get out i x hx).2
                rw [← htk, List.getElem?_take, if_pos (by omega)] at h1
                rw [Nat.zero_add, hb.cell]; simpa using h1
          obtain ⟨B, cap, rfl, hzin, hsok⟩ := hres
          have Hsok := Lib.hid hsok
          have Hfin := Lib.hid hfin
          have Hzin := Lib.hid hzin
          have Hco := Lib.hid (fun y hy => (Hvo.out y hy).2)
          have d0 : decide ((i : Int) < (xs.length : Int)) = false := by simp; omega
          have d0n : ¬ i < xs.length := hlt
          clear hfin hzin ei hsok
          go_wp2
          go_ret
          exact ⟨B, out, cap, rfl, Hzin.out, by rw [Hfin.out]; exact Hcan.out, fun r => by rw [Hfin.out]; exact Hwt.out r, Hsok.out, Hco.out, G0.trans hg3⟩
def firstE : List V → Int
  | [] => 0
  | v :: l => if wrongV v ≠ 0 then wrongV v else firstE l
theorem firstE_at {xs : List V} {k : Nat} {x : V} (h : xs[k]? = some x) : firstE (xs.drop k) = if wrongV x ≠ 0 then wrongV x else firstE (xs.drop (k + 1)) := by
  obtain ⟨h1, e1⟩ := List.getElem?_eq_some_iff.1 h
  rw [List.drop_eq_getElem_cons h1, e1]; rfl
theorem firstE_zero : ∀ xs : List V, firstE xs = 0 ↔ ∀ v ∈ xs, RV v
  | [] => by simp [firstE]
  | v :: l => by
    have h1 := RV.of v
    have h2 := firstE_zero l
    unfold firstE
    simp only [List.mem_cons, forall_eq_or_imp]
    split
    · rename_i h; exact ⟨fun e => absurd e h, fun e => absurd (h1.2 e.1) h⟩
    · rename_i h
      have h : wrongV v = 0 := by simpa using h
      exact ⟨fun e => ⟨h1.1 h, h2.1 e⟩, fun e => h2.2 e.2⟩
def rowE (r : List V) : Int := if 8 < r.length then 5 else firstE r
theorem rowE_zero (r : List V) : rowE r = 0 ↔ r.length ≤ 8 ∧ ∀ v ∈ r, RV v := by
  unfold rowE
  split
  · exact ⟨fun h => by simp at h, fun h => by omega⟩
  · rw [firstE_zero]; exact ⟨fun h => ⟨by omega, h⟩, fun h => h.2⟩
def bigW (n : Int) : Bool := decide (n < -1000000) || decide (1000000 < n)
theorem bigW_false {n : Int} (h : bigW n = false) : -1000000 ≤ n ∧ n ≤ 1000000 := by
  simp [bigW] at h; omega
def badP (p : Option (List V)) (r : List V) : Bool := match p with | none => false | some y => decide (0 ≤ rowsG cmpV y r)
def wgo : Option (List V) → List Z → Int
  | _, [] => 0
  | p, x :: l => if rowE x.1 ≠ 0 then rowE x.1 else if x.2 = 0 ∨ bigW x.2 = true then 3 else if badP p x.1 = true then 2 else wgo (some x.1) l
def prevR (xs : List I) (k : Nat) : Option (List V) := if k = 0 then none else (xs[k - 1]?).map (·.row)
theorem wgo_at {xs : List I} {k : Nat} {x : I} (h : xs[k]? = some x) : wgo (prevR xs k) ((xs.drop k).map zOf) = if rowE x.row ≠ 0 then rowE x.row else if x.w = 0 ∨ bigW x.w = true then 3 else if badP (prevR xs k) x.row = true then 2 else wgo (prevR xs (k + 1)) ((xs.drop (k + 1)).map zOf) := by
  obtain ⟨h1, e1⟩ := List.getElem?_eq_some_iff.1 h
  have hp : prevR xs (k + 1) = some x.row := by unfold prevR; rw [if_neg (by omega), Nat.add_sub_cancel, h]; rfl
  rw [List.drop_eq_getElem_cons h1, e1, hp]; rfl
def wrongZ (z : List Z) : Int := if 400 < z.length then 5 else wgo none z
structure RZ (z : List Z) : Prop where
  len : z.length ≤ 400
  row : ∀ x ∈ z, x.1.length ≤ 8 ∧ ∀ v ∈ x.1, RV v
  w : ∀ x ∈ z, x.2 ≠ 0 ∧ -1000000 ≤ x.2 ∧ x.2 ≤ 1000000
  up : z.Pairwise (fun x y => ordR x.1 y.1 < 0)
theorem wgo_zero : ∀ (z : List Z) (p : Option (List V)), (∀ y, p = some y → ∀ v ∈ y, RV v) → (wgo p z = 0 ↔ (∀ x ∈ z, x.1.length ≤ 8 ∧ ∀ v ∈ x.1, RV v) ∧ (∀ x ∈ z, x.2 ≠ 0 ∧ -1000000 ≤ x.2 ∧ x.2 ≤ 1000000) ∧ z.Pairwise (fun x y => ordR x.1 y.1 < 0) ∧ (∀ y x, p = some y → x ∈ z → ordR y x.1 < 0))
  | [], p, _ => by simp [wgo]
  | x :: l, p, hp => by
    unfold wgo
    by_cases h1 : rowE x.1 = 0
    · have hr := (rowE_zero x.1).1 h1
      rw [if_neg (by simpa using h1)]
      by_cases h2 : x.2 = 0 ∨ bigW x.2 = true
      · rw [if_pos h2]
        constructor
        · intro h; simp at h
        · rintro ⟨_, hw, _⟩
          have := hw x (by simp)
          rcases h2 with h2 | h2
          · exact absurd h2 this.1
          · simp [bigW] at h2; omega
      · rw [if_neg h2]
        have h2' : x.2 ≠ 0 ∧ -1000000 ≤ x.2 ∧ x.2 ≤ 1000000 := by
          have a : ¬ x.2 = 0 := fun e => h2 (.inl e)
          have b := bigW_false (n := x.2) (by cases hb : bigW x.2; rfl; exact absurd (.inr hb) h2)
          exact ⟨a, b⟩
        have ih := wgo_zero l (some x.1) (fun y hy => by cases hy; exact hr.2)
        by_cases h3 : ∃ y, p = some y ∧ 0 ≤ rowsG cmpV y x.1
        · obtain ⟨y, rfl, hy⟩ := h3
          rw [if_pos (by simpa [badP] using hy)]
          constructor
          · intro h; simp at h
          · rintro ⟨_, _, _, h⟩
            have := h y x rfl (by simp)
            rw [rows_cmp_ord _ _ (hp y rfl) hr.2] at hy
            unfold ordR at this
            omega
        · have h4 : ∀ y, p = some y → ordR y x.1 < 0 := fun y hy => by
            have : ¬ 0 ≤ rowsG cmpV y x.1 := fun h => h3 ⟨y, hy, h⟩
            rw [rows_cmp_ord _ _ (hp y hy) hr.2] at this
            unfold ordR; omega
          have h5 : ¬ (badP p x.1 = true) := by
            cases p with
            | none => simp [badP]
            | some y => simp [badP]; have : ¬ 0 ≤ rowsG cmpV y x.1 := fun h => h3 ⟨y, rfl, h⟩; omega
          rw [if_neg h5, ih]
          constructor
          · rintro ⟨a, b, c, d⟩
            refine ⟨fun y hy => ?_, fun y hy => ?_, List.pairwise_cons.2 ⟨fun y hy => d _ y rfl hy, c⟩, fun y u hy hu => ?_⟩
            · rcases List.mem_cons.1 hy with rfl | hy
              · exact hr
              · exact a y hy
            · rcases List.mem_cons.1 hy with rfl | hy
              · exact h2'
              · exact b y hy
            · rcases List.mem_cons.1 hu with rfl | hu
              · exact h4 y hy
              · exact ordR_lt (h4 y hy) (d _ u rfl hu)
          · rintro ⟨a, b, c, d⟩
            exact ⟨fun y hy => a y (by simp [hy]), fun y hy => b y (by simp [hy]), (List.pairwise_cons.1 c).2, fun y u hy hu => by cases hy; exact (List.pairwise_cons.1 c).1 u hu⟩
    · rw [if_pos h1]
      constructor
      · intro h; exact absurd h h1
      · rintro ⟨a, _⟩
        exact absurd ((rowE_zero x.1).2 (a x (by simp))) h1
theorem wrongZ_zero (z : List Z) : wrongZ z = 0 ↔ RZ z := by
  unfold wrongZ
  have h := wgo_zero z none (fun y hy => by cases hy)
  split
  · exact ⟨fun h => by simp at h, fun h => by have := h.len; omega⟩
  · rw [h]
    exact ⟨fun ⟨a, b, c, _⟩ => ⟨by omega, a, b, c⟩, fun h => ⟨h.row, h.w, h.up, fun y x hy => by cases hy⟩⟩

theorem weight_any (n : Int) (w : World) : Calls Try.prog 63 #[.int .i64 n] w fun e w' => e = .returned (.bool (!bigW n)) ∧ w = w' := by
  go_enter Try.func63, Try.ntmps63
  by_cases h1 : n ≤ 1000000
  · have d1 : decide (n ≤ 1000000) = true := by simpa using h1
    by_cases h2 : -1000000 ≤ n
    · have d2 : decide (-1000000 ≤ n) = true := by simpa using h2
      go_wp2
      go_ret
      refine ret_bool ?_ rfl
      simp [bigW]; omega
    · have d2 : decide (-1000000 ≤ n) = false := by simp; omega
      go_wp2
      go_ret
      refine ret_bool ?_ rfl
      simp [bigW]; omega
  · have d1 : decide (n ≤ 1000000) = false := by simp; omega
    go_wp2
    go_ret
    refine ret_bool ?_ rfl
    simp [bigW]; omega

theorem row_any (row : List V) (A : Option Addr) (c : Nat) (w : World) (hlen : row.length ≤ 9223372036854775807) (hx : VSl w A row) (R : Int) (hR : rowE row = R) :
    Calls Try.prog 62 #[.slice A row.length c] w fun en w' => en = .returned (.int .i64 R) ∧ Grow w w' := by
  have HR := Lib.hid hR
  have Hx := Lib.hid hx
  clear hx hR
  go_enter Try.func62, Try.ntmps62
  by_cases h8 : 8 < row.length
  · have d8 : decide ((8 : Int) < (row.length : Int)) = true := by simp; omega
    go_wp2
    go_ret
    exact ret_int (by rw [← HR.out]; unfold rowE; rw [if_pos h8]) (Grow.refl _)
  · have d8 : decide ((8 : Int) < (row.length : Int)) = false := by simp; omega
    have inv0 : firstE (row.drop 0) = R := by rw [← HR.out]; unfold rowE; rw [if_neg h8, List.drop_zero]
    have Inv0 := Lib.hid inv0
    clear inv0
    go_wp2
    go_loopw [11] (fun i wr => ∃ k : Nat, k ≤ row.length ∧ i = .int .i64 k ∧ firstE (row.drop k) = R ∧ Grow w wr) (fun i _ => row.length - (intOf i).toNat)
    case atStart => exact ⟨0, Nat.zero_le _, rfl, Inv0.out, Grow.refl _⟩
    case round =>
      obtain ⟨k, hk, rfl, hinv, hg⟩ := hrel
      have Inv := Lib.hid hinv
      clear hinv
      by_cases hlt : k < row.length
      · obtain ⟨x, hxk⟩ : ∃ x, row[k]? = some x := ⟨_, List.getElem?_eq_getElem hlt⟩
        obtain ⟨gx, ox, rfl, c1, c2, c3⟩ := (Hx.out.grow hg) k x hxk
        have inv2 := (firstE_at hxk).symm.trans Inv.out
        have Inv2 := Lib.hid inv2
        clear inv2 hxk
        by_cases hw : wrongV x = 0
        · have dw : (wrongV x != 0) = false := by simpa using hw
          go_wp2_with (go_at_call 68; ((with_reducible refine (wrong_any x _).mono ?_); rintro e w2 ⟨rfl, hg2⟩; have G2 := (hg.al _).trans hg2))
          go_roundw
          case rel => exact ⟨k + 1, by omega, by go_num, by have := Inv2.out; rw [if_neg (by simpa using hw)] at this; exact this, G2⟩
          case measure => simp [intOf]; omega
        · have dw : (wrongV x != 0) = true := by simpa using hw
          go_wp2_with (go_at_call 68; ((with_reducible refine (wrong_any x _).mono ?_); rintro e w2 ⟨rfl, hg2⟩; have G2 := (hg.al _).trans hg2))
          go_ret
          exact ret_int (by have := Inv2.out; rw [if_pos hw] at this; exact this) G2
      · obtain rfl : k = row.length := by omega
        have fin : R = 0 := by have := Inv.out; rw [List.drop_length] at this; exact this.symm
        go_wp2
        go_ret
        exact ret_int fin.symm hg
theorem ordR_lt_eq {a b c : List V} (h1 : ordR a b < 0) (h2 : ordR b c = 0) : ordR a c < 0 := by
  have h3 := ordR_trans (a := a) (b := b) (c := c) (by omega) (by omega)
  by_cases h : ordR a c = 0
  · have h4 := ordR_swap a c
    have h5 := ordR_trans (a := b) (b := c) (c := a) (by omega) (by omega)
    have h6 := ordR_swap a b
    omega
  · omega
theorem ordR_eq_lt {a b c : List V} (h1 : ordR a b = 0) (h2 : ordR b c < 0) : ordR a c < 0 := by
  have h3 := ordR_trans (a := a) (b := b) (c := c) (by omega) (by omega)
  by_cases h : ordR a c = 0
  · have h4 := ordR_swap a c
    have h5 := ordR_trans (a := c) (b := a) (c := b) (by omega) (by omega)
    have h6 := ordR_swap b c
    omega
  · omega
theorem ordR_bare {r : List V} (h : ∀ v ∈ r, RV v) : ordR r (bareR r) = 0 := (ordR_zero r (bareR r) h (bareR_rv h)).2 (bareR_bareR r).symm
theorem ordR_bare' {r : List V} (h : ∀ v ∈ r, RV v) : ordR (bareR r) r = 0 := (ordR_zero (bareR r) r (bareR_rv h) h).2 (bareR_bareR r)
def putZ : List Z → List V → Int → List Z
  | [], r, n => if n ≠ 0 then [(bareR r, n)] else []
  | x :: z, r, n => if ordR x.1 r < 0 then x :: putZ z r n else if ordR x.1 r = 0 then (if n + x.2 ≠ 0 then (bareR r, n + x.2) :: z else z) else (if n ≠ 0 then (bareR r, n) :: x :: z else x :: z)
theorem putZ_spec : ∀ (z : List Z) (r : List V) (n : Int), Canon z → (∀ v ∈ r, RV v) → Canon (putZ z r n) ∧ (∀ q, wtZ (putZ z r n) q = wtZ z q + if bareR r = bareR q then n else 0) ∧ (∀ a, ordR a r < 0 → (∀ y ∈ z, ordR a y.1 < 0) → ∀ y ∈ putZ z r n, ordR a y.1 < 0)
  | [], r, n, hz, hr => by
    unfold putZ
    split
    · rename_i h
      refine ⟨⟨List.pairwise_singleton _ _, fun x hx => ?_, fun x hx => ?_, fun x hx => ?_⟩, fun q => ?_, fun a ha _ y hy => ?_⟩
      · simp at hx; subst hx; exact bareR_rv hr
      · simp at hx; subst hx; exact bareR_bareR r
      · simp at hx; subst hx; exact h
      · rw [wtZ_cons]; simp only [bareR_bareR]; omega
      · simp at hy; subst hy; exact ordR_lt_eq ha (ordR_bare hr)
    · rename_i h
      have h : n = 0 := by simpa using h
      exact ⟨canon_nil, fun q => by simp [h, wtZ_nil], fun a ha _ y hy => by simp at hy⟩
  | x :: z, r, n, hz, hr => by
    have ih := putZ_spec z r n hz.tail hr
    have rx := hz.rv x (by simp)
    have ux := (List.pairwise_cons.1 hz.up).1
    unfold putZ
    split
    · rename_i h
      refine ⟨⟨List.pairwise_cons.2 ⟨fun y hy => ih.2.2 x.1 h ux y hy, ih.1.up⟩, fun y hy => ?_, fun y hy => ?_, fun y hy => ?_⟩, fun q => ?_, fun a ha hl y hy => ?_⟩
      · rcases List.mem_cons.1 hy with rfl | hy
        · exact rx
        · exact ih.1.rv y hy
      · rcases List.mem_cons.1 hy with rfl | hy
        · exact hz.bare _ (by simp)
        · exact ih.1.bare y hy
      · rcases List.mem_cons.1 hy with rfl | hy
        · exact hz.w _ (by simp)
        · exact ih.1.w y hy
      · rw [wtZ_cons, wtZ_cons, ih.2.1 q]; omega
      · rcases List.mem_cons.1 hy with rfl | hy
        · exact hl _ (by simp)
        · exact ih.2.2 a ha (fun u hu => hl u (by simp [hu])) y hy
    · rename_i h1
      split
      · rename_i h2
        have e : bareR r = x.1 := by
          have := (ordR_zero x.1 r rx hr).1 h2
          rw [hz.bare x (by simp)] at this
          exact this.symm
        split
        · rename_i h3
          refine ⟨⟨List.pairwise_cons.2 ⟨fun y hy => by rw [e]; exact ux y hy, hz.tail.up⟩, fun y hy => ?_, fun y hy => ?_, fun y hy => ?_⟩, fun q => ?_, fun a ha hl y hy => ?_⟩
          · rcases List.mem_cons.1 hy with rfl | hy
            · exact bareR_rv hr
            · exact hz.rv y (by simp [hy])
          · rcases List.mem_cons.1 hy with rfl | hy
            · exact bareR_bareR r
            · exact hz.bare y (by simp [hy])
          · rcases List.mem_cons.1 hy with rfl | hy
            · exact h3
            · exact hz.w y (by simp [hy])
          · rw [wtZ_cons, wtZ_cons]; simp only [bareR_bareR, hz.bare x (by simp), e]; split <;> omega
          · rcases List.mem_cons.1 hy with rfl | hy
            · exact ordR_lt_eq ha (ordR_bare hr)
            · exact hl y (by simp [hy])
        · rename_i h3
          have h3 : n + x.2 = 0 := by simpa using h3
          refine ⟨hz.tail, fun q => ?_, fun a ha hl y hy => hl y (by simp [hy])⟩
          rw [wtZ_cons]; simp only [hz.bare x (by simp), e]; split <;> omega
      · rename_i h2
        have hlt : ordR r x.1 < 0 := by have := ordR_swap r x.1; omega
        split
        · rename_i h3
          refine ⟨⟨List.pairwise_cons.2 ⟨fun y hy => ?_, hz.up⟩, fun y hy => ?_, fun y hy => ?_, fun y hy => ?_⟩, fun q => ?_, fun a ha hl y hy => ?_⟩
          · have h4 := ordR_eq_lt (ordR_bare' hr) hlt
            rcases List.mem_cons.1 hy with rfl | hy
            · exact h4
            · exact ordR_lt h4 (ux y hy)
          · rcases List.mem_cons.1 hy with rfl | hy
            · exact bareR_rv hr
            · exact hz.rv y hy
          · rcases List.mem_cons.1 hy with rfl | hy
            · exact bareR_bareR r
            · exact hz.bare y hy
          · rcases List.mem_cons.1 hy with rfl | hy
            · exact h3
            · exact hz.w y hy
          · rw [wtZ_cons]; simp only [bareR_bareR]; omega
          · rcases List.mem_cons.1 hy with rfl | hy
            · exact ordR_lt_eq ha (ordR_bare hr)
            · exact hl y hy
        · rename_i h3
          have h3 : n = 0 := by simpa using h3
          exact ⟨hz, fun q => by rw [h3]; simp, fun a ha hl y hy => hl y hy⟩
theorem putZ_mem : ∀ (z : List Z) (r : List V) (n : Int), ∀ y ∈ putZ z r n, y ∈ z ∨ (y.1 = bareR r ∧ (y.2 = n ∨ ∃ x ∈ z, y.2 = n + x.2))
  | [], r, n, y, hy => by
    unfold putZ at hy
    split at hy
    · simp at hy; subst hy; exact .inr ⟨rfl, .inl rfl⟩
    · simp at hy
  | x :: z, r, n, y, hy => by
    unfold putZ at hy
    split at hy
    · rcases List.mem_cons.1 hy with rfl | hy
      · exact .inl (by simp)
      · rcases putZ_mem z r n y hy with h | ⟨h1, h | ⟨u, hu, h⟩⟩
        · exact .inl (by simp [h])
        · exact .inr ⟨h1, .inl h⟩
        · exact .inr ⟨h1, .inr ⟨u, by simp [hu], h⟩⟩
    · split at hy
      · split at hy
        · rcases List.mem_cons.1 hy with rfl | hy
          · exact .inr ⟨rfl, .inr ⟨x, by simp, rfl⟩⟩
          · exact .inl (by simp [hy])
        · exact .inl (by simp [hy])
      · split at hy
        · rcases List.mem_cons.1 hy with rfl | hy
          · exact .inr ⟨rfl, .inl rfl⟩
          · exact .inl hy
        · exact .inl hy
theorem putZ_len : ∀ (z : List Z) (r : List V) (n : Int), (putZ z r n).length ≤ z.length + 1
  | [], r, n => by unfold putZ; split <;> simp
  | x :: z, r, n => by
    have := putZ_len z r n
    unfold putZ
    split
    · simp; omega
    · split <;> split <;> simp <;> omega
def bdZ (M : Int) (z : List Z) : Prop := ∀ x ∈ z, -M ≤ x.2 ∧ x.2 ≤ M
theorem putZ_bd {M K : Int} {z : List Z} {r : List V} {n : Int} (hz : bdZ M z) (hM : 0 ≤ M) (h1 : -K ≤ n) (h2 : n ≤ K) : bdZ (M + K) (putZ z r n) := fun y hy => by
  rcases putZ_mem z r n y hy with h | ⟨_, h | ⟨x, hx, h⟩⟩
  · have := hz y h; omega
  · omega
  · have := hz x hx; omega
def addZ (z l : List Z) : List Z := l.foldl (fun z x => putZ z x.1 x.2) z
def setZ (l : List Z) : List Z := addZ [] l
theorem addZ_cons (z : List Z) (x : Z) (l : List Z) : addZ z (x :: l) = addZ (putZ z x.1 x.2) l := rfl
theorem addZ_spec : ∀ (l z : List Z), Canon z → (∀ x ∈ l, ∀ v ∈ x.1, RV v) → Canon (addZ z l) ∧ ∀ q, wtZ (addZ z l) q = wtZ z q + wtZ l q
  | [], z, hz, _ => ⟨hz, fun q => by simp [addZ, wtZ_nil]⟩
  | x :: l, z, hz, hl => by
    have h1 := putZ_spec z x.1 x.2 hz (hl x (by simp))
    have h2 := addZ_spec l (putZ z x.1 x.2) h1.1 (fun y hy => hl y (by simp [hy]))
    rw [addZ_cons]
    refine ⟨h2.1, fun q => ?_⟩
    rw [h2.2 q, h1.2.1 q, wtZ_cons]; omega
theorem setZ_spec (l : List Z) (hl : ∀ x ∈ l, ∀ v ∈ x.1, RV v) : Canon (setZ l) ∧ ∀ q, wtZ (setZ l) q = wtZ l q := by
  have h := addZ_spec l [] canon_nil hl
  exact ⟨h.1, fun q => by have := h.2 q; rw [wtZ_nil] at this; unfold setZ; omega⟩
theorem addZ_len : ∀ (l z : List Z), (addZ z l).length ≤ z.length + l.length
  | [], z => by simp [addZ]
  | x :: l, z => by
    rw [addZ_cons]
    have h1 := addZ_len l (putZ z x.1 x.2)
    have h2 := putZ_len z x.1 x.2
    simp
    omega
theorem setZ_len (l : List Z) : (setZ l).length ≤ l.length := by
  have := addZ_len l []
  simpa [setZ] using this
theorem setZ_of {l y : List Z} (hl : ∀ x ∈ l, ∀ v ∈ x.1, RV v) (hy : Canon y) (hw : ∀ q, wtZ y q = wtZ l q) : y = setZ l :=
  canon_ext _ _ hy (setZ_spec l hl).1 (fun r _ => by rw [hw, (setZ_spec l hl).2])
def fitZ (z : List Z) : List Z × Int := if z.any (fun x => bigW x.2) then ([], 3) else if 400 < z.length then ([], 5) else (z, 0)
def sumZ (l : List Z) : List Z × Int := fitZ (setZ l)
def ofGo : List Z → Int
  | [] => 0
  | x :: l => if rowE x.1 ≠ 0 then rowE x.1 else if bigW x.2 = true then 3 else ofGo l
theorem ofGo_at {xs : List I} {k : Nat} {x : I} (h : xs[k]? = some x) : ofGo ((xs.drop k).map zOf) = if rowE x.row ≠ 0 then rowE x.row else if bigW x.w = true then 3 else ofGo ((xs.drop (k + 1)).map zOf) := by
  obtain ⟨h1, e1⟩ := List.getElem?_eq_some_iff.1 h
  rw [List.drop_eq_getElem_cons h1, e1]; rfl
theorem ofGo_zero : ∀ l : List Z, ofGo l = 0 ↔ ∀ x ∈ l, (x.1.length ≤ 8 ∧ ∀ v ∈ x.1, RV v) ∧ -1000000 ≤ x.2 ∧ x.2 ≤ 1000000
  | [] => by simp [ofGo]
  | x :: l => by
    have ih := ofGo_zero l
    have h1 := rowE_zero x.1
    unfold ofGo
    simp only [List.mem_cons, forall_eq_or_imp]
    by_cases h : rowE x.1 = 0
    · rw [if_neg (by simpa using h)]
      by_cases h2 : bigW x.2 = true
      · rw [if_pos h2]
        refine ⟨fun e => by simp at e, fun e => ?_⟩
        have := e.1.2
        simp [bigW] at h2
        omega
      · rw [if_neg h2, ih]
        exact ⟨fun e => ⟨⟨h1.1 h, bigW_false (by simpa using h2)⟩, e⟩, fun e => e.2⟩
    · rw [if_pos h]
      exact ⟨fun e => absurd e h, fun e => absurd (h1.2 e.1.1) h⟩
def ofZ (l : List Z) : List Z × Int := if 1600 < l.length then ([], 5) else if ofGo l ≠ 0 then ([], ofGo l) else sumZ l
theorem any_at {xs : List I} {k : Nat} {x : I} (h : xs[k]? = some x) : ((xs.drop k).map zOf).any (fun x => bigW x.2) = (bigW x.w || ((xs.drop (k + 1)).map zOf).any (fun x => bigW x.2)) := by
  obtain ⟨h1, e1⟩ := List.getElem?_eq_some_iff.1 h
  rw [List.drop_eq_getElem_cons h1, e1]; rfl
def Gives (w w' : World) (e : Ending) (r : List Z × Int) : Prop := ∃ (B : Option Addr) (ys : List I) (cap : Nat), e = .returned (.tuple #[.slice B ys.length cap, .int .i64 r.2]) ∧ ZIn w' B ys ∧ ys.map zOf = r.1 ∧ SlOk B ys.length cap ∧ Grow w w'
theorem zin_nil (w : World) (A : Option Addr) : ZIn w A [] := fun i x hx => by simp at hx
end Go.Proofs.Ytamfpppbjaelaaa

namespace Go.Proofs.Ytamfpppbjaelaaa
open Go.ChangeShapes Go.WideShapes Go.ChangeAt Go.RowKit Go.Calm
set_option maxRecDepth 100000
set_option linter.unusedVariables false
set_option linter.unusedSimpArgs false
theorem list_of {α : Type} [Inhabited α] {P : Nat → α → Prop} (n : Nat) (h : ∀ i, i < n → ∃ x, P i x) : ∃ xs : List α, xs.length = n ∧ ∀ i x, xs[i]? = some x → P i x := by
  obtain ⟨f, hf⟩ := Go.Deep.choose_lt h
  refine ⟨(List.range n).map f, by simp, fun i x hx => ?_⟩
  obtain ⟨hi, e⟩ := List.getElem?_eq_some_iff.1 hx
  simp at hi e
  subst e
  exact hf i hi
structure IB (x : I) : Prop where
  len : x.row.length ≤ maxLen
  v : ∀ v ∈ x.row, VB v
  w : inI64 x.w
section
variable {H : Type} {enc : TypeId × Value → H} {w : World} {base : Nat} {spare : Nat → Bool} {held : Bool}
theorem zrow_cells {fuel : Nat} {cs : List Value} {x : DataW H × List MemPlace} (h : DataW.trod enc Try.prog w base spare held fuel 39 cs = some x) :
    ∃ x : I, cs = [.slice x.A x.row.length x.cap, .int .i64 x.w] ∧ VSl w x.A x.row ∧ IB x := by
  obtain ⟨xs, n, hfu, _, hlen, hxl, hf⟩ := DataW.trod_struct Try.underlying39 h
  have h6 : cs.length = 2 := by rw [hlen]; kernel_rfl
  match cs, h6 with
  | [a, b], _ =>
    have f0 := hf 0 _ rfl
    have f1 := hf 1 _ rfl
    have g : ∀ i, i < 2 → ∃ y, xs[i]? = some y := fun i hi => ⟨xs[i]'(by rw [hxl]; exact hi), List.getElem?_eq_getElem _⟩
    obtain ⟨y0, e0⟩ := g 0 (by omega)
    obtain ⟨y1, e1⟩ := g 1 (by omega)
    rw [e0] at f0
    rw [e1] at f1
    obtain ⟨A, row, cap, hcs, hv, hl, hb⟩ := vals_cells f0
    obtain ⟨m, hm, _, wm⟩ := DataW.trod_int Try.underlying2 f1
    have c0 : Try.prog.cellsOf 37 = 1 := by kernel_rfl
    have c1 : Try.prog.cellsOf 2 = 1 := by kernel_rfl
    simp [c0] at hcs
    simp [c1] at hm
    exact ⟨⟨A, row, cap, m⟩, by simp [hcs, hm], hv, hl, hb, wf_i64 wm⟩
theorem zrows_cells {fuel : Nat} {cs : List Value} {x : DataW H × List MemPlace} (h : DataW.trod enc Try.prog w base spare held fuel 24 cs = some x) :
    ∃ (A : Option Addr) (xs : List I) (cap : Nat), cs = [.slice A xs.length cap] ∧ ZIn w A xs ∧ xs.length ≤ maxLen ∧ SlOk A xs.length cap ∧ ∀ x ∈ xs, IB x := by
  obtain ⟨A, len, cap, n, D, hcs, hl, hcap, hi⟩ := slice_cells (c := 2) Try.underlying24 (by kernel_rfl) (by omega) h
  obtain ⟨xs, hxl, hx⟩ := list_of (α := I) (P := fun i x => IB x ∧ ∃ g o, A = some ⟨g, o, none⟩ ∧ w.cell? ⟨g, o + i * 2, none⟩ = some (.slice x.A x.row.length x.cap) ∧ w.cell? ⟨g, o + i * 2 + 1, none⟩ = some (.int .i64 x.w) ∧ VSl w x.A x.row) len (fun i hlt => by
    obtain ⟨g, o, ys, hA, hyl, hat, hd⟩ := hi i hlt
    obtain ⟨x, hx, hv, hb⟩ := zrow_cells hd
    subst hx
    exact ⟨x, hb, g, o, hA, hat 0 _ rfl, hat 1 _ rfl, hv⟩)
  have hn : A = none → cap = 0 := by
    rcases DataW.trod_slice Try.underlying24 h with ⟨h0, _⟩ | ⟨a, len', cap', elems, rest, n', _, hcs', _⟩
    · rw [h0] at hcs; simp at hcs; exact fun _ => hcs.2.2.symm
    · rw [hcs'] at hcs; simp at hcs; exact fun e => by rw [e] at hcs; simp at hcs
  refine ⟨A, xs, cap, by rw [hcs, hxl], fun i x h => (hx i x h).2, by omega, ⟨by omega, hn⟩, fun x h => ?_⟩
  obtain ⟨i, h1, h2⟩ := List.mem_iff_getElem.1 h
  exact (hx i x (by rw [← h2]; exact List.getElem?_eq_getElem h1)).1
theorem zrows_read {r : Reach} {b0 : Nat} {v : Value} {d : DataW H} {p : List MemPlace} (hv : Value.okWide Try.prog w r b0 24 v) (h : DataW.Trod enc Try.prog w base spare held 24 v d p) :
    ∃ (A : Option Addr) (xs : List I) (cap : Nat), v = .slice A xs.length cap ∧ ZIn w A xs ∧ xs.length ≤ maxLen ∧ SlOk A xs.length cap ∧ ∀ x ∈ xs, IB x := by
  obtain ⟨a, len, cap, rfl⟩ := okWide_slice Try.underlying24 hv
  obtain ⟨fuel, hf⟩ := h
  obtain ⟨A, xs, c, hcs, h1, h2, h3, h4⟩ := zrows_cells hf
  simp [Value.cells] at hcs
  obtain ⟨rfl, rfl, rfl⟩ := hcs
  exact ⟨_, xs, _, rfl, h1, h2, h3, h4⟩
end
end Go.Proofs.Ytamfpppbjaelaaa
