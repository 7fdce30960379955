/-
  Joined texts of this claim: Ag0, Ag1, Ag3, Ag4, Ag5, Ag6. What each proves its own head says; no condition beside those that each theorem names.
-/
import Derived.Test.YtamfpppbjaelaaaGS
import Derived.Test.YtamfpppbjaelaaaGT
import Derived.Test.YtamfpppbjaelaaaGQ
import Derived.Test.YtamfpppbjaelaaaGJ
set_option maxRecDepth 100000
set_option maxHeartbeats 16000000
namespace Go.Proofs.Ytamfpppbjaelaaa
open Go.RowKit Go.Calm
set_option linter.unusedSimpArgs false
set_option linter.unusedVariables false
structure Ag where
  k : Int
  x : E
instance : Inhabited Ag := ⟨⟨0, .leaf⟩⟩
structure AgCells (w : World) (g o : Nat) (a : Ag) : Prop where
  k : w.cell? ⟨g, o, none⟩ = some (.int .i64 a.k)
  c0 : w.cell? ⟨g, o + 1, none⟩ = some (.int .i64 a.x.kind)
  c1 : w.cell? ⟨g, o + 2, none⟩ = some (.int .i64 a.x.v.k)
  c2 : w.cell? ⟨g, o + 3, none⟩ = some (.int .i64 a.x.v.n)
  c3 : w.cell? ⟨g, o + 4, none⟩ = some (.string a.x.v.s)
  c4 : w.cell? ⟨g, o + 5, none⟩ = some (.int .i64 a.x.col)
  c5 : w.cell? ⟨g, o + 6, none⟩ = some (.slice a.x.A a.x.n a.x.cap)
theorem AgCells.grow {w w' : World} (h : Grow w w') {g o : Nat} {a : Ag} (hc : AgCells w g o a) : AgCells w' g o a :=
  ⟨h.cell hc.k, h.cell hc.c0, h.cell hc.c1, h.cell hc.c2, h.cell hc.c3, h.cell hc.c4, h.cell hc.c5⟩
theorem AgCells.e {w : World} {g o : Nat} {a : Ag} (h : AgCells w g o a) : ECells w g (o + 1) a.x := ⟨h.c0, h.c1, h.c2, h.c3, h.c4, h.c5⟩
abbrev Ag.val (a : Ag) : Value := .agg #[.int .i64 a.k, .int .i64 a.x.kind, .int .i64 a.x.v.k, .int .i64 a.x.v.n, .string a.x.v.s, .int .i64 a.x.col, .slice a.x.A a.x.n a.x.cap]
def AgSl (w : World) (A : Option Addr) (xs : List Ag) : Prop := ∀ i x, xs[i]? = some x → ∃ g o, A = some ⟨g, o, none⟩ ∧ AgCells w g (o + i * 7) x ∧ EX w x.x
theorem AgSl.grow {w w' : World} {A : Option Addr} {xs : List Ag} (h : AgSl w A xs) (hg : Grow w w') : AgSl w' A xs := fun i x hx => by
  obtain ⟨g, o, a, b, c⟩ := h i x hx
  exact ⟨g, o, a, b.grow hg, c.grow hg⟩
def agT (cols : List Int) (a : Ag) : Int := if a.k < 1 ∨ 5 < a.k then 1 else if a.k = 1 then 0 else if (typeE cols a.x).2 ≠ 0 then (typeE cols a.x).2 else if a.k = 3 ∧ (typeE cols a.x).1 ≠ 3 ∧ (typeE cols a.x).1 ≠ 1 then 9 else 0
def aggE (cols : List Int) : List Ag → Int
  | [] => 0
  | x :: l => if agT cols x ≠ 0 then agT cols x else aggE cols l
theorem aggE_ok (cols : List Int) : ∀ xs : List Ag, (∀ x ∈ xs, agT cols x = 0) → aggE cols xs = 0
  | [], _ => rfl
  | x :: l, h => by
    unfold aggE
    rw [if_neg (by rw [h x (List.mem_cons_self ..)]; simp)]
    exact aggE_ok cols l (fun y hy => h y (List.mem_cons_of_mem _ hy))
theorem aggE_bad (cols : List Int) : ∀ (xs : List Ag) (k : Nat) (x : Ag), xs[k]? = some x → (∀ y ∈ xs.take k, agT cols y = 0) → agT cols x ≠ 0 → aggE cols xs = agT cols x
  | [], k, x, h, _, _ => by simp at h
  | y :: l, 0, x, h, _, h2 => by
    simp at h; subst h
    unfold aggE
    rw [if_pos h2]
  | y :: l, k + 1, x, h, h1, h2 => by
    unfold aggE
    rw [if_neg (by rw [h1 y (by rw [List.take_succ_cons]; exact List.mem_cons_self ..)]; simp)]
    exact aggE_bad cols l k x (by simpa using h) (fun u hu => h1 u (by rw [List.take_succ_cons]; exact List.mem_cons_of_mem _ hu)) h2
theorem aggE_zero {cols : List Int} : ∀ {xs : List Ag}, aggE cols xs = 0 → ∀ x ∈ xs, agT cols x = 0
  | [], _, x, hx => by simp at hx
  | y :: l, h, x, hx => by
    unfold aggE at h
    split at h
    · rename_i h1; exact absurd h h1
    · rename_i h1
      rcases List.mem_cons.1 hx with rfl | hx
      · simpa using h1
      · exact aggE_zero h x hx
def agTy (cols : List Int) (a : Ag) : Int := if a.k ≤ 3 then 3 else (typeE cols a.x).1
def AggP (R : Int) (ts : List Int) (w w' : World) (en : Ending) : Prop := ∃ (B : Option Addr) (cap : Nat), en = .returned (.tuple #[.slice B (if R = 0 then ts else []).length cap, .int .i64 R]) ∧ ISl w' B (if R = 0 then ts else []) ∧ NewA w B ∧ Grow w w'
theorem AggP.bad {R : Int} {ts : List Int} {w w' : World} (h : R ≠ 0) (hg : Grow w w') : AggP R ts w w' (.returned (.tuple #[.slice none 0 0, .int .i64 R])) := ⟨none, 0, by rw [if_neg h]; rfl, by rw [if_neg h]; exact isl_nil _ _, (fun a ha => by cases ha), hg⟩
theorem srcN_one {w : World} {g : Nat} {x : Int} (h : Blk w g 3 #[.int .i64 x]) : SrcN w (.slice (some ⟨g, 0, none⟩) 1 1) [x] := by
  refine .inr ⟨⟨g, 0, none⟩, 1, rfl, fun j u hj => ?_⟩
  rw [addr_add, h.cell]
  match j, hj with
  | 0, hj => simp [flatN] at hj; subst hj; rfl
theorem aggtypesT_any (cols : List Int) (Ac : Option Addr) (cc : Nat) (xs : List Ag) (A : Option Addr) (c : Nat) (w : World) (hlen : cols.length ≤ 9223372036854775807) (hl : xs.length ≤ 8) (hc : ISl w Ac cols) (hx : AgSl w A xs) :
    Calls Try.prog 37 #[.slice Ac cols.length cc, .slice A xs.length c] w fun en w' => AggP (aggE cols xs) (xs.map (agTy cols)) w w' en := by
  have Hx := Lib.hid hx
  have Hc := Lib.hid hc
  have Ti := Lib.hid info_int'
  clear hx hc
  obtain ⟨R, hR⟩ : ∃ R, aggE cols xs = R := ⟨_, rfl⟩
  rw [hR]
  have Re := Lib.hid hR
  clear hR
  go_enter Try.func37, Try.ntmps37
  go_wp2
  go_loopw [6, 14] (fun t i wr => ∃ (k : Nat) (ts : List Int), (ts.length = k ∧ ts = (xs.take k).map (agTy cols)) ∧ k ≤ xs.length ∧ i = .int .i64 k ∧ wr.ownsRow w.heap.size 3 1 t k (flatN ts) ∧ (∀ x ∈ xs.take k, agT cols x = 0) ∧ Grow w wr) (fun _ i _ => xs.length - (intOf i).toNat)
  case atStart => exact ⟨0, [], ⟨rfl, rfl⟩, Nat.zero_le _, rfl, World.ownsRow_nil _ _ _ _, fun x hx => by simp at hx, Grow.refl w⟩
  case round =>
    obtain ⟨k, ts, ⟨hts, hTs⟩, hk, rfl, hown, hz, hg⟩ := hrel
    have Own := Lib.hid hown
    have HTs := Lib.hid hTs
    clear hTs
    have Hz := Lib.hid hz
    clear hown hz
    by_cases hlt : k < xs.length
    · obtain ⟨x, hxk⟩ : ∃ x, xs[k]? = some x := ⟨_, List.getElem?_eq_getElem hlt⟩
      obtain ⟨gx, ox, rfl, ⟨ck, c0, c1, c2, c3, c4, c5⟩, hex⟩ := (Hx.out.grow hg) k x hxk
      obtain ⟨T, F, hTF⟩ : ∃ T F, typeE cols x.x = (T, F) := ⟨_, _, rfl⟩
      have ct := fun W (h : Grow wr W) => type_any cols Ac cc x.x W hlen (Hc.out.grow (hg.trans h)) (hex.grow h)
      rw [hTF] at ct
      simp only at ct
      have Hxk := Lib.hid hxk
      have bad : ∀ e : Int, e ≠ 0 → agT cols x = e → R = e := fun e h1 h2 => by rw [← Re.out, aggE_bad cols xs k x Hxk.out Hz.out (by rw [h2]; exact h1), h2]
      have good : agT cols x = 0 → ∀ y ∈ xs.take (k + 1), agT cols y = 0 := fun h y hy => by
        obtain ⟨h1, e1⟩ := List.getElem?_eq_some_iff.1 Hxk.out
        rw [List.take_succ_eq_append_getElem h1, e1] at hy
        rcases List.mem_append.1 hy with hy | hy
        · exact Hz.out y hy
        · simp at hy; subst hy; exact h
      have at0 : agT cols x = if x.k < 1 ∨ 5 < x.k then 1 else if x.k = 1 then 0 else if F ≠ 0 then F else if x.k = 3 ∧ T ≠ 3 ∧ T ≠ 1 then 9 else 0 := by unfold agT; rw [hTF]
      have aty : agTy cols x = if x.k ≤ 3 then 3 else T := by unfold agTy; rw [hTF]
      have ATy := Lib.hid aty
      clear aty
      have hl2 := Own.out.lt
      have HL2 := Lib.hid hl2
      have Bad := Lib.hid bad
      have Good := Lib.hid good
      have At := Lib.hid at0
      clear hxk hex hTF hl2 bad good at0
      obtain ⟨ti, hti, hz0, hz1, hz2⟩ := Ti.out
      go_upto_region 5 with fail
      refine wp_forget (fun X => Blk X wr.heap.size 51 #[.int .i64 x.k, .int .i64 x.x.kind, .int .i64 x.x.v.k, .int .i64 x.x.v.n, .string x.x.v.s, .int .i64 x.x.col, .slice x.x.A x.x.n x.x.cap] ∧ Grow wr X) ⟨Blk.new _ _ _, (Grow.refl wr).al _⟩ ?_
      rintro X ⟨Bx, Gx⟩
      have BX := Lib.hid Bx
      obtain ⟨bx, fx⟩ := Bx.rules
      have Own1 := Lib.hid (own_grow Own.out Gx)
      have G1 := hg.trans Gx
      clear ck c0 c1 c2 c3 c4 c5 Bx
      unfold E.val at ct
      by_cases ha : x.k < 1
      · have d1 : decide (x.k < 1) = true := decide_eq_true ha
        have e : R = 1 := Bad.out _ (by decide) (by rw [At.out]; rw [if_pos (.inl ha)])
        subst e
        go_wp2
        refine bodyPost_ret (by simp [results, Try.results37, go_sem] <;> rfl) rfl ?_
        exact AggP.bad (by first | decide | assumption) G1
      · have d1 : decide (x.k < 1) = false := decide_eq_false ha
        by_cases hb : 5 < x.k
        · have d2 : decide (5 < x.k) = true := decide_eq_true hb
          have e : R = 1 := Bad.out _ (by decide) (by rw [At.out]; rw [if_pos (.inr hb)])
          subst e
          go_wp2
          refine bodyPost_ret (by simp [results, Try.results37, go_sem] <;> rfl) rfl ?_
          exact AggP.bad (by first | decide | assumption) G1
        · have d2 : decide (5 < x.k) = false := decide_eq_false hb
          have n5 : ¬ (x.k < 1 ∨ 5 < x.k) := by omega
          by_cases h1 : x.k = 1
          · have d3 : (x.k == 1) = true := by simpa using h1
            have d3' : (x.k != 1) = false := by simpa using h1
            have d4 : decide (4 ≤ x.k) = false := decide_eq_false (by omega)
            go_wp2_with (at_builtin; refine wpList_append_srcN rfl _ _ rfl w.heap.size _ _ _ rfl (Own1.out.alloc _) _ [3] rfl (srcN_one (Blk.new _ _ _)) (by simp; omega) (by have := G1.size; simp; omega) ?_; intro v7 w7 own7 gr7)
            have hg7 : Grow w w7 := grow_own (G1.al _) gr7 (Own1.out.alloc _)
            have Own7 := Lib.hid own7
            clear own7 gr7
            go_wp2
            go_roundw
            case rel => exact ⟨k + 1, ts ++ [3], ⟨by simp [hts], by first | rw [take_sn _ Hxk.out, ← HTs.out, ATy.out, if_pos (by omega)] | rw [take_sn _ Hxk.out, ← HTs.out, ATy.out, if_neg (by omega)]⟩, by omega, by go_num, by simpa [hts] using Own7.out, Good.out (by rw [At.out, if_neg n5, if_pos h1]), hg7⟩
            case measure => simp [intOf]; omega
          · have d3 : (x.k == 1) = false := by simpa using h1
            have d3' : (x.k != 1) = true := by simpa using h1
            by_cases h0 : F = 0
            · have d0 : (F != 0) = false := by simpa using h0
              subst h0
              by_cases h3 : x.k = 3
              · have d5 : (x.k == 3) = true := by simpa using h3
                have d4 : decide (4 ≤ x.k) = false := decide_eq_false (by omega)
                have d2' : (x.k == 2) = false := by simp; omega
                by_cases t3 : T = 3
                · have e3 : (T != 3) = false := by simpa using t3
                  have e1 : (T != 1) = true := by simp; omega
                  go_wp2_with (first | (go_at_call 39; ((with_reducible refine (ct _ Gx).mono ?_); rintro e w2 ⟨rfl, hg2⟩; obtain ⟨bx2, fx2⟩ := (BX.out.grow hg2).rules; have Own2 := Lib.hid (own_grow Own1.out hg2); have G2 := G1.trans hg2; clear hg2)) | (at_builtin; refine wpList_append_srcN rfl _ _ rfl w.heap.size _ _ _ rfl (Own2.out.alloc _) _ [3] rfl (srcN_one (Blk.new _ _ _)) (by simp; omega) (by have := G2.size; simp; omega) ?_; intro v7 w7 own7 gr7))
                  have hg7 : Grow w w7 := grow_own (G2.al _) gr7 (Own2.out.alloc _)
                  have Own7 := Lib.hid own7
                  clear own7 gr7
                  go_wp2
                  go_roundw
                  case rel => exact ⟨k + 1, ts ++ [3], ⟨by simp [hts], by first | rw [take_sn _ Hxk.out, ← HTs.out, ATy.out, if_pos (by omega)] | rw [take_sn _ Hxk.out, ← HTs.out, ATy.out, if_neg (by omega)]⟩, by omega, by go_num, by simpa [hts] using Own7.out, Good.out (by rw [At.out, if_neg n5, if_neg h1, if_neg (by simp), if_neg (by omega)]), hg7⟩
                  case measure => simp [intOf]; omega
                · have e3 : (T != 3) = true := by simpa using t3
                  by_cases t1 : T = 1
                  · have e1 : (T != 1) = false := by simpa using t1
                    go_wp2_with (first | (go_at_call 39; ((with_reducible refine (ct _ Gx).mono ?_); rintro e w2 ⟨rfl, hg2⟩; obtain ⟨bx2, fx2⟩ := (BX.out.grow hg2).rules; have Own2 := Lib.hid (own_grow Own1.out hg2); have G2 := G1.trans hg2; clear hg2)) | (at_builtin; refine wpList_append_srcN rfl _ _ rfl w.heap.size _ _ _ rfl (Own2.out.alloc _) _ [3] rfl (srcN_one (Blk.new _ _ _)) (by simp; omega) (by have := G2.size; simp; omega) ?_; intro v7 w7 own7 gr7))
                    have hg7 : Grow w w7 := grow_own (G2.al _) gr7 (Own2.out.alloc _)
                    have Own7 := Lib.hid own7
                    clear own7 gr7
                    go_wp2
                    go_roundw
                    case rel => exact ⟨k + 1, ts ++ [3], ⟨by simp [hts], by first | rw [take_sn _ Hxk.out, ← HTs.out, ATy.out, if_pos (by omega)] | rw [take_sn _ Hxk.out, ← HTs.out, ATy.out, if_neg (by omega)]⟩, by omega, by go_num, by simpa [hts] using Own7.out, Good.out (by rw [At.out, if_neg n5, if_neg h1, if_neg (by simp), if_neg (by omega)]), hg7⟩
                    case measure => simp [intOf]; omega
                  · have e1 : (T != 1) = true := by simpa using t1
                    have e : R = 9 := Bad.out _ (by decide) (by rw [At.out]; rw [if_neg n5, if_neg h1, if_neg (by simp), if_pos ⟨h3, t3, t1⟩])
                    subst e
                    go_wp2_with (go_at_call 39; ((with_reducible refine (ct _ Gx).mono ?_); rintro e w2 ⟨rfl, hg2⟩; obtain ⟨bx2, fx2⟩ := (BX.out.grow hg2).rules; have Own2 := Lib.hid (own_grow Own1.out hg2); have G2 := G1.trans hg2; clear hg2))
                    refine bodyPost_ret (by simp [results, Try.results37, go_sem] <;> rfl) rfl ?_
                    exact AggP.bad (by first | decide | assumption) G2
              · have d5 : (x.k == 3) = false := by simpa using h3
                by_cases h2 : x.k = 2
                · have d4 : decide (4 ≤ x.k) = false := decide_eq_false (by omega)
                  have d2' : (x.k == 2) = true := by simpa using h2
                  go_wp2_with (first | (go_at_call 39; ((with_reducible refine (ct _ Gx).mono ?_); rintro e w2 ⟨rfl, hg2⟩; obtain ⟨bx2, fx2⟩ := (BX.out.grow hg2).rules; have Own2 := Lib.hid (own_grow Own1.out hg2); have G2 := G1.trans hg2; clear hg2)) | (at_builtin; refine wpList_append_srcN rfl _ _ rfl w.heap.size _ _ _ rfl (Own2.out.alloc _) _ [3] rfl (srcN_one (Blk.new _ _ _)) (by simp; omega) (by have := G2.size; simp; omega) ?_; intro v7 w7 own7 gr7))
                  have hg7 : Grow w w7 := grow_own (G2.al _) gr7 (Own2.out.alloc _)
                  have Own7 := Lib.hid own7
                  clear own7 gr7
                  go_wp2
                  go_roundw
                  case rel => exact ⟨k + 1, ts ++ [3], ⟨by simp [hts], by first | rw [take_sn _ Hxk.out, ← HTs.out, ATy.out, if_pos (by omega)] | rw [take_sn _ Hxk.out, ← HTs.out, ATy.out, if_neg (by omega)]⟩, by omega, by go_num, by simpa [hts] using Own7.out, Good.out (by rw [At.out, if_neg n5, if_neg h1, if_neg (by simp), if_neg (by omega)]), hg7⟩
                  case measure => simp [intOf]; omega
                · have d4 : decide (4 ≤ x.k) = true := decide_eq_true (by omega)
                  have d2' : (x.k == 2) = false := by simpa using h2
                  go_wp2_with (first | (go_at_call 39; ((with_reducible refine (ct _ Gx).mono ?_); rintro e w2 ⟨rfl, hg2⟩; obtain ⟨bx2, fx2⟩ := (BX.out.grow hg2).rules; have Own2 := Lib.hid (own_grow Own1.out hg2); have G2 := G1.trans hg2; clear hg2)) | (at_builtin; refine wpList_append_srcN rfl _ _ rfl w.heap.size _ _ _ rfl (Own2.out.alloc _) _ [T] rfl (srcN_one (Blk.new _ _ _)) (by simp; omega) (by have := G2.size; simp; omega) ?_; intro v7 w7 own7 gr7))
                  have hg7 : Grow w w7 := grow_own (G2.al _) gr7 (Own2.out.alloc _)
                  have Own7 := Lib.hid own7
                  clear own7 gr7
                  go_wp2
                  go_roundw
                  case rel => exact ⟨k + 1, ts ++ [T], ⟨by simp [hts], by first | rw [take_sn _ Hxk.out, ← HTs.out, ATy.out, if_pos (by omega)] | rw [take_sn _ Hxk.out, ← HTs.out, ATy.out, if_neg (by omega)]⟩, by omega, by go_num, by simpa [hts] using Own7.out, Good.out (by rw [At.out, if_neg n5, if_neg h1, if_neg (by simp), if_neg (by omega)]), hg7⟩
                  case measure => simp [intOf]; omega
            · have d0 : (F != 0) = true := by simpa using h0
              have e : R = F := Bad.out _ h0 (by rw [At.out]; rw [if_neg n5, if_neg h1, if_pos h0])
              subst e
              go_wp2_with (go_at_call 39; ((with_reducible refine (ct _ Gx).mono ?_); rintro e w2 ⟨rfl, hg2⟩; obtain ⟨bx2, fx2⟩ := (BX.out.grow hg2).rules; have Own2 := Lib.hid (own_grow Own1.out hg2); have G2 := G1.trans hg2; clear hg2))
              refine bodyPost_ret (by simp [results, Try.results37, go_sem] <;> rfl) rfl ?_
              exact AggP.bad (by first | decide | assumption) G2
    · obtain rfl : k = xs.length := by omega
      have e9 : ts = xs.map (agTy cols) := by have := HTs.out; rwa [List.take_length] at this
      subst e9
      obtain ⟨B9, cap9, rfl, hi9, _⟩ := own_isl (ys := xs.map (agTy cols)) (w := wr) Own.out
      have Fin9 := Lib.hid (And.intro hi9 (own_new Own.out))
      clear hi9
      have e : R = 0 := by rw [← Re.out, aggE_ok cols xs (by have := Hz.out; rw [List.take_length] at this; exact this)]
      subst e
      go_wp2
      refine bodyPost_ret (by simp [results, Try.results37, go_sem] <;> rfl) rfl ?_
      exact ⟨B9, cap9, by simp, by simpa using Fin9.out.1, Fin9.out.2, hg⟩
theorem aggtypes_any (cols : List Int) (Ac : Option Addr) (cc : Nat) (xs : List Ag) (A : Option Addr) (c : Nat) (w : World) (hlen : cols.length ≤ 9223372036854775807) (hl : xs.length ≤ 8) (hc : ISl w Ac cols) (hx : AgSl w A xs) :
    Calls Try.prog 37 #[.slice Ac cols.length cc, .slice A xs.length c] w fun en w' => ∃ v : Value, en = .returned (.tuple #[v, .int .i64 (aggE cols xs)]) ∧ Grow w w' := (aggtypesT_any cols Ac cc xs A c w hlen hl hc hx).mono fun e w' ⟨B, cap, h1, _, _, h2⟩ => ⟨_, h1, h2⟩

theorem mul_bd {a b A B : Int} (ha : -A ≤ a ∧ a ≤ A) (hb : -B ≤ b ∧ b ≤ B) : -(A * B) ≤ a * b ∧ a * b ≤ A * B := by
  have hA : 0 ≤ A := by omega
  have hB : 0 ≤ B := by omega
  have h1 : a.natAbs ≤ A.natAbs := by omega
  have h2 : b.natAbs ≤ B.natAbs := by omega
  have h3 : (a * b).natAbs ≤ (A * B).natAbs := by rw [Int.natAbs_mul, Int.natAbs_mul]; exact Nat.mul_le_mul h1 h2
  have h4 : 0 ≤ A * B := Int.mul_nonneg hA hB
  omega
theorem tq_eq (n : Int) (P : Int) : P * n.tdiv P + n.tmod P = n := Int.mul_tdiv_add_tmod n P
theorem tm_bd (n P : Int) (hP : 0 < P) : -(P - 1) ≤ n.tmod P ∧ n.tmod P ≤ P - 1 := by
  have h1 := Int.tmod_lt_of_pos n hP
  have h2 := Int.lt_tmod_of_pos n hP
  omega
theorem tq_bd {n P K : Int} (hP : 0 < P) (hn : -(P * K) ≤ n ∧ n ≤ P * K) : -K ≤ n.tdiv P ∧ n.tdiv P ≤ K := by
  have h1 := tq_eq n P
  have h2 := tm_bd n P hP
  constructor
  · refine Int.not_lt.1 (fun h => ?_)
    have h3 : P * n.tdiv P ≤ P * (-K - 1) := Int.mul_le_mul_of_nonneg_left (by omega) (by omega)
    have h4 : P * (-K - 1) = -(P * K) - P := by rw [Int.mul_sub, Int.mul_neg, Int.mul_one]
    omega
  · refine Int.not_lt.1 (fun h => ?_)
    have h3 : P * (K + 1) ≤ P * n.tdiv P := Int.mul_le_mul_of_nonneg_left (by omega) (by omega)
    have h4 : P * (K + 1) = P * K + P := by rw [Int.mul_add, Int.mul_one]
    omega

theorem tot_say (h l : Int) : (if h + l.tdiv 100000000 > 200000000 ∨ h + l.tdiv 100000000 < -200000000 then nullV' else intV ((h + l.tdiv 100000000) * 100000000 + l.tmod 100000000)) = intV (h * 100000000 + l) := by
  have h1 := tq_eq l 100000000
  have h2 := tm_bd l 100000000 (by decide)
  have e : (h + l.tdiv 100000000) * 100000000 + l.tmod 100000000 = h * 100000000 + l := by omega
  split
  · rename_i hh
    unfold intV
    rw [if_neg (by omega)]; rfl
  · rw [e]

abbrev BdD (K : Int) (ds : List Int) : Prop := ∀ d ∈ ds, -K ≤ d ∧ d ≤ K
theorem BdD.get {K : Int} {ds : List Int} (h : BdD K ds) {k : Nat} {d : Int} (hd : ds[k]? = some d) : -K ≤ d ∧ d ≤ K := h d (List.mem_of_getElem? hd)
theorem tadd_any (h l n t : Int) (g : Nat) (w : World) (hb : Blk w g 129 #[.int .i64 h, .int .i64 l]) (hh : -4000000000000000 ≤ h ∧ h ≤ 4000000000000000) (hl : -40000000000000000 ≤ l ∧ l ≤ 40000000000000000) (hn : -1000000000000000 ≤ n ∧ n ≤ 1000000000000000) (ht : -1000000 ≤ t ∧ t ≤ 1000000) :
    Calls Try.prog 83 #[.pointer (some ⟨g, 0, none⟩), .int .i64 n, .int .i64 t] w fun en w' => en = .returned (.tuple #[]) ∧ Blk w' g 129 #[.int .i64 (h + t * n.tdiv 100000000), .int .i64 (l + t * n.tmod 100000000)] ∧ GX g w w' := by
  have b1 := tq_bd (n := n) (P := 100000000) (K := 10000000) (by decide) (by omega)
  have b2 := tm_bd n 100000000 (by decide)
  have m1 := mul_bd (a := t) (b := n.tdiv 100000000) (A := 1000000) (B := 10000000) ht b1
  have m2 := mul_bd (a := t) (b := n.tmod 100000000) (A := 1000000) (B := 99999999) ht (by omega)
  obtain ⟨q, hq⟩ : ∃ q, n.tdiv 100000000 = q := ⟨_, rfl⟩
  obtain ⟨m, hm⟩ : ∃ m, n.tmod 100000000 = m := ⟨_, rfl⟩
  rw [hq] at b1 m1 ⊢
  rw [hm] at b2 m2 ⊢
  have w1 : IntKind.i64.wrap q = q := by rw [IntKind.wrap_i64]; omega
  have w2 : IntKind.i64.wrap m = m := by rw [IntKind.wrap_i64]; omega
  have w3 : IntKind.i64.wrap (t * q) = t * q := by rw [IntKind.wrap_i64]; omega
  have w4 : IntKind.i64.wrap (t * m) = t * m := by rw [IntKind.wrap_i64]; omega
  have w5 : IntKind.i64.wrap (h + t * q) = h + t * q := by rw [IntKind.wrap_i64]; omega
  have w6 : IntKind.i64.wrap (l + t * m) = l + t * m := by rw [IntKind.wrap_i64]; omega
  have BB := Lib.hid hb
  have GG := Lib.hid (GX.refl g w)
  obtain ⟨b0, f0⟩ := hb.rules
  clear hb
  go_enter Try.func83, Try.ntmps83
  go_wp2
  go_end0
  refine ⟨rfl, ?_, ((GX.refl g w).set _ _).set _ _⟩
  have := ((BB.out.set 0 (.int .i64 (h + t * q))).set 1 (.int .i64 (l + t * m)))
  simpa using this

theorem tval_any (h l : Int) (g : Nat) (w : World) (hb : Blk w g 129 #[.int .i64 h, .int .i64 l]) (hh : -4000000000000000 ≤ h ∧ h ≤ 4000000000000000) (hl : -40000000000000000 ≤ l ∧ l ≤ 40000000000000000) :
    Calls Try.prog 84 #[.pointer (some ⟨g, 0, none⟩)] w fun en w' => en = .returned (intV (h * 100000000 + l)).val ∧ Grow w w' := by
  have e := tot_say h l
  have b1 := tq_bd (n := l) (P := 100000000) (K := 400000000) (by decide) (by omega)
  have b2 := tm_bd l 100000000 (by decide)
  obtain ⟨q, hq⟩ : ∃ q, l.tdiv 100000000 = q := ⟨_, rfl⟩
  obtain ⟨m, hm⟩ : ∃ m, l.tmod 100000000 = m := ⟨_, rfl⟩
  rw [hq] at b1 e
  rw [hm] at b2 e
  have w1 : IntKind.i64.wrap q = q := by rw [IntKind.wrap_i64]; omega
  have w2 : IntKind.i64.wrap m = m := by rw [IntKind.wrap_i64]; omega
  have w3 : IntKind.i64.wrap (h + q) = h + q := by rw [IntKind.wrap_i64]; omega
  have ci := fun n W => int_any n W
  have cn := fun W => null W
  obtain ⟨R, hR⟩ : ∃ R, intV (h * 100000000 + l) = R := ⟨_, rfl⟩
  rw [hR] at e ⊢
  have BB := Lib.hid hb
  clear hb hR
  by_cases h1 : 200000000 < h + q
  · have d1 : decide (200000000 < h + q) = true := decide_eq_true h1
    rw [if_pos (.inl h1)] at e
    subst e
    go_enter Try.func84, Try.ntmps84
    go_upto_region 1 with fail
    refine wp_forget (fun X => Blk X g 129 #[.int .i64 h, .int .i64 l] ∧ Blk X w.heap.size 30 #[.int .i64 0, .int .i64 0, .string ⟨#[]⟩] ∧ Grow w X) ⟨BB.out.al _, Blk.new _ _ _, (Grow.refl w).al _⟩ ?_
    rintro X ⟨BX, BR, Gx⟩
    obtain ⟨b0, f0⟩ := BX.rules
    obtain ⟨b1r, f1r⟩ := BR.rules
    go_quiet (fail)
    go_wp2_with (go_at_call 47; ((with_reducible refine (null _).mono ?_); rintro e w' ⟨rfl, hg⟩; obtain ⟨b2r, f2r⟩ := (BR.grow (((Grow.refl X).drewN _).trans hg)).rules))
    exact bodyPost_ret (by simp [results, Try.results84, go_sem, nullV', b2r, f2r] <;> rfl) rfl ⟨rfl, growW⟩
  · have d1 : decide (200000000 < h + q) = false := decide_eq_false h1
    by_cases h2 : h + q < -200000000
    · have d2 : decide (h + q < -200000000) = true := decide_eq_true h2
      rw [if_pos (.inr h2)] at e
      subst e
      go_enter Try.func84, Try.ntmps84
      go_upto_region 1 with fail
      refine wp_forget (fun X => Blk X g 129 #[.int .i64 h, .int .i64 l] ∧ Blk X w.heap.size 30 #[.int .i64 0, .int .i64 0, .string ⟨#[]⟩] ∧ Grow w X) ⟨BB.out.al _, Blk.new _ _ _, (Grow.refl w).al _⟩ ?_
      rintro X ⟨BX, BR, Gx⟩
      obtain ⟨b0, f0⟩ := BX.rules
      obtain ⟨b1r, f1r⟩ := BR.rules
      go_quiet (fail)
      go_wp2_with (go_at_call 47; ((with_reducible refine (null _).mono ?_); rintro e w' ⟨rfl, hg⟩; obtain ⟨b2r, f2r⟩ := (BR.grow (((Grow.refl X).drewN _).trans hg)).rules))
      exact bodyPost_ret (by simp [results, Try.results84, go_sem, nullV', b2r, f2r] <;> rfl) rfl ⟨rfl, growW⟩
    · have d2 : decide (h + q < -200000000) = false := decide_eq_false h2
      rw [if_neg (by omega)] at e
      subst e
      have w4 : IntKind.i64.wrap ((h + q) * 100000000) = (h + q) * 100000000 := by rw [IntKind.wrap_i64]; omega
      have w5 : IntKind.i64.wrap ((h + q) * 100000000 + m) = (h + q) * 100000000 + m := by rw [IntKind.wrap_i64]; omega
      go_enter Try.func84, Try.ntmps84
      go_upto_region 1 with fail
      refine wp_forget (fun X => Blk X g 129 #[.int .i64 h, .int .i64 l] ∧ Blk X w.heap.size 30 #[.int .i64 0, .int .i64 0, .string ⟨#[]⟩] ∧ Grow w X) ⟨BB.out.al _, Blk.new _ _ _, (Grow.refl w).al _⟩ ?_
      rintro X ⟨BX, BR, Gx⟩
      obtain ⟨b0, f0⟩ := BX.rules
      obtain ⟨b1r, f1r⟩ := BR.rules
      go_quiet (fail)
      go_wp2_with (go_at_call 46; ((with_reducible refine (int_any _ _).mono ?_); rintro e w' ⟨rfl, hg⟩; obtain ⟨b2r, f2r⟩ := (BR.grow (((Grow.refl X).drewN _).trans hg)).rules))
      exact bodyPost_ret (by simp [results, Try.results84, go_sem, nullV', b2r, f2r] <;> rfl) rfl ⟨rfl, growW⟩

theorem GX.far {g g2 : Nat} {a b : World} (h : GX g a b) (hg : a.heap.size ≤ g2) (o : Nat) (u : Value) : GX g a (b.setCell ⟨g2, o, none⟩ u) := GX.own h (GX.set (GX.refl g2 b) o u) (fun i hi => by cases hi; exact hg)
theorem bare_truth (b : Bool) : bare (truth b) = truth b := by cases b <;> decide
theorem bare_ranked (n : Int) : bare (rankedV n) = rankedV n := by
  unfold rankedV
  split
  · decide
  · exact bare_truth _
theorem bare_intV (n : Int) : bare (intV n) = intV n := by
  unfold intV
  split
  · simp [bare]
  · decide
theorem bare_one : bare (⟨1, 0, es⟩ : V) = ⟨1, 0, es⟩ := by decide
theorem bare_eqV (a b : V) : bare (eqV a b) = eqV a b := by unfold eqV; split; exact bare_truth _; exact bare_one
theorem bare_lessV (a b : V) : bare (lessV a b) = lessV a b := by unfold lessV; split; exact bare_truth _; exact bare_one
theorem bare_notV (a : V) : bare (notV a) = notV a := bare_ranked _
theorem bare_cmpV (k : Int) (a b : V) : bare (comparedV k a b) = comparedV k a b := by
  unfold comparedV
  repeat' split
  all_goals first | exact bare_eqV _ _ | exact bare_lessV _ _ | exact bare_notV _
theorem bare_reckon (s : Int) (a b : V) : bare (reckonV s a b) = reckonV s a b := by
  unfold reckonV
  repeat' split
  all_goals first | exact bare_intV _ | exact bare_one
theorem bare_join (a b : V) : bare (joinV a b) = joinV a b := by
  unfold joinV
  split
  · simp [bare]
  · exact bare_one
theorem bare_op (k : Int) (a b d : V) (ha : bare a = a) (hb : bare b = b) (hd : bare d = d) : bare (opV k a b d) = opV k a b d := by
  unfold opV
  repeat' split
  all_goals first | assumption | exact bare_notV _ | exact bare_ranked _ | exact bare_reckon _ _ _ | exact bare_join _ _ | exact bare_truth _ | exact bare_cmpV _ _ _
theorem of_isbare (row : List V) (e : E) : bare (ofE row e) = ofE row e := by
  induction e with
  | leaf => exact bare_null
  | mk k v c A n cap kid ih =>
    unfold ofE
    split
    · exact bare_bare _
    · split
      · exact bare_bare _
      · exact bare_op _ _ _ _ (ih 0) (ih 1) (ih 2)
theorem num_of {v : V} (h : RV v) (hb : bare v = v) : -1000000000000000 ≤ v.n ∧ v.n ≤ 1000000000000000 := by
  rcases h.kind with k | k | k | k
  · have : v.n = 0 := by rw [← hb]; simp [bare, k]
    omega
  · have := h.bool k; omega
  · exact h.int k
  · have : v.n = 0 := by rw [← hb]; simp [bare, k]
    omega

structure AS where
  n : Int
  s : Int
  known : Bool
  lo : V
  hi : V
def as0 : AS := ⟨0, 0, false, nullV', nullV'⟩
def asStep (a : Ag) (st : AS) (r : Z) : AS :=
  if a.k = 1 then { st with n := st.n + r.2 }
  else if (ofE r.1 a.x).k = 1 then st
  else ⟨st.n + r.2, st.s + r.2 * (ofE r.1 a.x).n, true, if st.known = false ∨ ordV (ofE r.1 a.x) st.lo < 0 then ofE r.1 a.x else st.lo, if st.known = false ∨ 0 < ordV (ofE r.1 a.x) st.hi then ofE r.1 a.x else st.hi⟩
def asOf (a : Ag) (l : List Z) : AS := l.foldl (asStep a) as0
theorem asOf_snoc (a : Ag) (l : List Z) (r : Z) : asOf a (l ++ [r]) = asStep a (asOf a l) r := by unfold asOf; rw [List.foldl_append]; rfl
def aggV (a : Ag) (l : List Z) : V :=
  if a.k ≤ 2 then intV (asOf a l).n
  else if (asOf a l).known = false then nullV'
  else if a.k = 3 then intV (asOf a l).s
  else if a.k = 4 then (asOf a l).lo else (asOf a l).hi
structure AgOk (a : Ag) (l : List Z) : Prop where
  k : 1 ≤ a.k ∧ a.k ≤ 5
  rv : a.k ≠ 1 → ∀ r ∈ l, RV (ofE r.1 a.x)
  w : ∀ r ∈ l, -1000000 ≤ r.2 ∧ r.2 ≤ 1000000
theorem AgOk.take {a : Ag} {l m : List Z} (h : AgOk a (l ++ m)) : AgOk a l := ⟨h.k, fun h1 r hr => h.rv h1 r (by simp [hr]), fun r hr => h.w r (by simp [hr])⟩
theorem snoc_ind {α : Type} {P : List α → Prop} (h0 : P []) (hs : ∀ l x, P l → P (l ++ [x])) (l : List α) : P l := by
  have : ∀ m : List α, P m.reverse := fun m => by
    induction m with
    | nil => exact h0
    | cons x m ih => rw [List.reverse_cons]; exact hs _ _ ih
  rw [← List.reverse_reverse l]; exact this _
theorem as_facts (a : Ag) (l : List Z) : AgOk a l → (-(1000000 * (l.length : Int)) ≤ (asOf a l).n ∧ (asOf a l).n ≤ 1000000 * (l.length : Int)) ∧ RV (asOf a l).lo ∧ RV (asOf a l).hi ∧ ((asOf a l).known = false → (asOf a l).lo = nullV' ∧ (asOf a l).hi = nullV' ∧ (asOf a l).s = 0) := by
  refine snoc_ind (P := fun l => AgOk a l → (-(1000000 * (l.length : Int)) ≤ (asOf a l).n ∧ (asOf a l).n ≤ 1000000 * (l.length : Int)) ∧ RV (asOf a l).lo ∧ RV (asOf a l).hi ∧ ((asOf a l).known = false → (asOf a l).lo = nullV' ∧ (asOf a l).hi = nullV' ∧ (asOf a l).s = 0)) (fun _ => ⟨by simp [asOf, as0], rv_null, rv_null, fun _ => ⟨rfl, rfl, rfl⟩⟩) (fun l r ih h => ?_) l
  obtain ⟨⟨i1, i2⟩, i3, i4, i5⟩ := ih h.take
  have hw := h.w r (by simp)
  rw [asOf_snoc]
  simp only [List.length_append, List.length_singleton]
  unfold asStep
  split
  · exact ⟨by simp only; omega, i3, i4, i5⟩
  · rename_i h1
    have hv := h.rv h1 r (by simp)
    split
    · exact ⟨by omega, i3, i4, i5⟩
    · refine ⟨by simp only; omega, ?_, ?_, fun h => by simp at h⟩
      · simp only; split
        · exact hv
        · exact i3
      · simp only; split
        · exact hv
        · exact i4
theorem agg_rv {a : Ag} {l : List Z} (h : AgOk a l) : RV (aggV a l) := by
  obtain ⟨_, h1, h2, _⟩ := as_facts a l h
  unfold aggV
  repeat' split
  all_goals first | exact rv_intV _ | exact rv_null | assumption
theorem take_snz {xs : List I} {k : Nat} {x : I} (h : xs[k]? = some x) : (xs.take (k + 1)).map zOf = (xs.take k).map zOf ++ [zOf x] := take_sn zOf h
abbrev put3 (w : World) (g : Nat) (u0 u1 u2 : Value) : World := ((w.setCell ⟨g, 0, none⟩ u0).setCell ⟨g, 1, none⟩ u1).setCell ⟨g, 2, none⟩ u2
theorem bfar3 {w : World} {g : Nat} {t : TypeId} {cs : Array Value} (h : Blk w g t cs) {q : Nat} (hne : g ≠ q) (u0 u1 u2 : Value) : Blk (put3 w q u0 u1 u2) g t cs := ((h.far (p := ⟨q, 0, none⟩) hne _).far (p := ⟨q, 1, none⟩) hne _).far (p := ⟨q, 2, none⟩) hne _
theorem bput3 {w : World} {g : Nat} {t : TypeId} {a b c : Value} (h : Blk w g t #[a, b, c]) (u0 u1 u2 : Value) : Blk (put3 w g u0 u1 u2) g t #[u0, u1, u2] := by
  have := ((h.set 0 u0).set 1 u1).set 2 u2
  simpa using this
theorem gput3 {a w : World} (h : Grow a w) {g : Nat} (hg : a.heap.size ≤ g) (u0 u1 u2 : Value) : Grow a (put3 w g u0 u1 u2) := ((h.set (p := ⟨g, 0, none⟩) hg _).set (p := ⟨g, 1, none⟩) hg _).set (p := ⟨g, 2, none⟩) hg _
structure AgX (a : Ag) (xs : List I) : Prop where
  k : 1 ≤ a.k ∧ a.k ≤ 5
  len : xs.length ≤ 400
  rl : ∀ x ∈ xs, x.row.length ≤ 1000
  rv : ∀ x ∈ xs, ∀ v ∈ x.row, RV v
  re : a.k ≠ 1 → ∀ x ∈ xs, RE x.row.length a.x
  w : ∀ x ∈ xs, -1000000 ≤ x.w ∧ x.w ≤ 1000000
theorem AgX.ok {a : Ag} {xs : List I} (h : AgX a xs) (k : Nat) : AgOk a ((xs.take k).map zOf) := ⟨h.k, fun h1 r hr => by
  obtain ⟨x, hx, rfl⟩ := List.mem_map.1 hr
  have hx := List.mem_of_mem_take hx
  exact rv_of x.row (h.rv x hx) _ (h.re h1 x hx), fun r hr => by
  obtain ⟨x, hx, rfl⟩ := List.mem_map.1 hr
  exact h.w x (List.mem_of_mem_take hx)⟩
structure AgSt (w : World) (gs gl gh : Nat) (st : AS) (k : Nat) (t : TypeId) : Prop where
  sum : ∃ h l : Int, Blk w gs t #[.int .i64 h, .int .i64 l] ∧ h * 100000000 + l = st.s ∧ -(10000000000000 * (k : Int)) ≤ h ∧ h ≤ 10000000000000 * (k : Int) ∧ -(100000000000000 * (k : Int)) ≤ l ∧ l ≤ 100000000000000 * (k : Int)
  lo : ∃ L : V, Blk w gl 30 #[.int .i64 L.k, .int .i64 L.n, .string L.s] ∧ (st.known = true → L = st.lo)
  hi : ∃ L : V, Blk w gh 30 #[.int .i64 L.k, .int .i64 L.n, .string L.s] ∧ (st.known = true → L = st.hi)
theorem AgSt.grow {w w' : World} {gs gl gh : Nat} {st : AS} {k : Nat} {t : TypeId} (h : AgSt w gs gl gh st k t) (hg : Grow w w') : AgSt w' gs gl gh st k t := by
  obtain ⟨⟨a, b, h1, h2⟩, ⟨L, h3, h4⟩, ⟨M, h5, h6⟩⟩ := h
  exact ⟨⟨a, b, h1.grow hg, h2⟩, ⟨L, h3.grow hg, h4⟩, ⟨M, h5.grow hg, h6⟩⟩
theorem AgSt.same {w : World} {gs gl gh : Nat} {st st' : AS} {k : Nat} {t : TypeId} (h : AgSt w gs gl gh st k t) (e1 : st'.s = st.s) (e2 : st'.known = st.known) (e3 : st'.lo = st.lo) (e4 : st'.hi = st.hi) : AgSt w gs gl gh st' (k + 1) t := by
  obtain ⟨⟨a, b, h1, h2, h3⟩, ⟨L, h4, h5⟩, ⟨M, h6, h7⟩⟩ := h
  exact ⟨⟨a, b, h1, by rw [e1]; exact h2, by omega⟩, ⟨L, h4, by rw [e2, e3]; exact h5⟩, ⟨M, h6, by rw [e2, e4]; exact h7⟩⟩

theorem aggregate_any (a : Ag) (ga oa : Nat) (xs : List I) (B : Option Addr) (cap : Nat) (w : World) (hc : AgCells w ga oa a) (hx : EX w a.x) (hz : ZIn w B xs) (ho : AgX a xs) :
    Calls Try.prog 66 #[.pointer (some ⟨ga, oa, none⟩), .slice B xs.length cap] w fun en w' => en = .returned (aggV a (xs.map zOf)).val ∧ Grow w w' := by
  have HC := Lib.hid hc
  have HX := Lib.hid hx
  have HZ := Lib.hid hz
  have HO := Lib.hid ho
  have hlen := ho.len
  obtain ⟨k1, k5⟩ := ho.k
  obtain ⟨R, hR⟩ : ∃ R, aggV a (xs.map zOf) = R := ⟨_, rfl⟩
  rw [hR]
  have HR := Lib.hid hR
  clear hc hx hz ho hR
  go_enter Try.func66, Try.ntmps66
  go_upto_region 5 with fail
  refine wp_forget (fun X => Blk X w.heap.size 30 #[.int .i64 0, .int .i64 0, .string ⟨#[]⟩] ∧ Blk X (w.heap.size + 1) 129 #[.int .i64 0, .int .i64 0] ∧ Blk X (w.heap.size + 1 + 1) 30 #[.int .i64 0, .int .i64 0, .string ⟨#[]⟩] ∧ Blk X (w.heap.size + 1 + 1 + 1) 30 #[.int .i64 0, .int .i64 0, .string ⟨#[]⟩] ∧ Grow w X) ⟨(((Blk.new _ _ _).al _).al _).al _, ((Blk.new' _ _ _ (by simp)).al _).al _, (Blk.new' _ _ _ (by simp)).al _, Blk.new' _ _ _ (by simp), growW⟩ ?_
  have hh : w.heap.size < w.heap.size + 1 ∧ w.heap.size + 1 < w.heap.size + 1 + 1 ∧ w.heap.size + 1 + 1 < w.heap.size + 1 + 1 + 1 := by omega
  generalize w.heap.size + 1 + 1 + 1 = g8 at *
  generalize w.heap.size + 1 + 1 = g7 at *
  generalize w.heap.size + 1 = g6 at *
  generalize hg4 : w.heap.size = g4 at *
  rintro X ⟨B4, B6, B7, B8, G⟩
  have BX := Lib.hid (And.intro B4 (And.intro B6 (And.intro B7 B8)))
  have HG := Lib.hid (And.intro hg4 hh)
  have n67 : g6 ≠ g7 := by omega
  have n68 : g6 ≠ g8 := by omega
  have n78 : g7 ≠ g8 := by omega
  clear B4 B6 B7 B8 hg4 hh
  go_wp2
  go_loopw [5, 9, 15] (fun n kn i wr => ∃ k : Nat, k ≤ xs.length ∧ i = .int .i64 k ∧ n = .int .i64 (asOf a ((xs.take k).map zOf)).n ∧ kn = .bool (asOf a ((xs.take k).map zOf)).known ∧ AgSt wr g6 g7 g8 (asOf a ((xs.take k).map zOf)) k 129 ∧ Blk wr g4 30 #[.int .i64 0, .int .i64 0, .string ⟨#[]⟩] ∧ Grow w wr) (fun _ _ i _ => xs.length - (intOf i).toNat)
  case atStart =>
    obtain ⟨b4, b6, b7, b8⟩ := BX.out
    exact ⟨0, Nat.zero_le _, rfl, rfl, rfl, ⟨⟨0, 0, b6, rfl, by omega, by omega, by omega, by omega⟩, ⟨⟨0, 0, es⟩, b7, fun h => by simp [asOf, as0] at h⟩, ⟨⟨0, 0, es⟩, b8, fun h => by simp [asOf, as0] at h⟩⟩, b4, G⟩
  case round =>
    obtain ⟨k, hk, rfl, rfl, rfl, hst, hb4, hg⟩ := hrel
    have St := Lib.hid hst
    have B4 := Lib.hid hb4
    have ok := HO.out.ok k
    obtain ⟨⟨n1, n2⟩, rlo, rhi, hkn⟩ := as_facts a _ ok
    have HR2 := Lib.hid (And.intro rlo rhi)
    have lk : ((xs.take k).map zOf).length = k := by simp; omega
    rw [lk] at n1 n2
    clear hst hb4 ok lk rlo rhi
    by_cases hlt : k < xs.length
    · obtain ⟨x, hxk⟩ : ∃ x, xs[k]? = some x := ⟨_, List.getElem?_eq_getElem hlt⟩
      obtain ⟨gx, ox, rfl, c1, c2, hxv⟩ := (HZ.out.grow hg) k x hxk
      have hm := List.mem_of_getElem? hxk
      have hw := HO.out.w x hm
      have e1 := take_snz hxk
      have E1 := Lib.hid e1
      obtain ⟨st, hst⟩ : ∃ st, asOf a ((xs.take k).map zOf) = st := ⟨_, rfl⟩
      have es1 : asOf a ((xs.take (k + 1)).map zOf) = asStep a st (zOf x) := by rw [e1, asOf_snoc, hst]
      have ES := Lib.hid es1
      rw [hst] at St n1 n2 hkn HR2 ⊢
      have Hkn := Lib.hid hkn
      clear e1 es1 hst hkn hxk
      go_upto_region 8 with fail
      refine wp_forget (fun Z => Blk Z wr.heap.size 39 #[.slice x.A x.row.length x.cap, .int .i64 x.w] ∧ Grow wr Z) ⟨Blk.new _ _ _, (Grow.refl wr).al _⟩ ?_
      have HL := Lib.hid (show g4 < wr.heap.size from B4.out.lt)
      have hn11 : wr.heap.size ≠ g6 ∧ wr.heap.size ≠ g7 ∧ wr.heap.size ≠ g8 ∧ wr.heap.size ≠ g4 := by
        obtain ⟨⟨_, _, q6, _⟩, ⟨_, q7, _⟩, ⟨_, q8, _⟩⟩ := St.out
        have := q6.lt; have := q7.lt; have := q8.lt; have := B4.out.lt
        omega
      generalize wr.heap.size = g11 at *
      rintro Z ⟨Bz, Gz⟩
      have N11 := Lib.hid hn11
      clear hn11
      have BZ := Lib.hid Bz
      obtain ⟨bz, fz⟩ := Bz.rules
      have ck := (HC.out.grow (hg.trans Gz)).k
      have wn : IntKind.i64.wrap (st.n + x.w) = st.n + x.w := by rw [IntKind.wrap_i64]; omega
      clear c1 c2 Bz
      by_cases h1 : a.k = 1
      · have d1 : (a.k == 1) = true := by simpa using h1
        have es2 : asStep a st (zOf x) = { st with n := st.n + x.w } := by unfold asStep; rw [if_pos h1]; rfl
        have ES2 := Lib.hid (ES.out.trans es2)
        clear es2
        go_wp2
        go_roundw
        case rel => exact ⟨k + 1, by omega, by go_num, by rw [ES2.out], by rw [ES2.out], (by rw [ES2.out]; exact (St.out.grow Gz).same rfl rfl rfl rfl), B4.out.grow Gz, hg.trans Gz⟩
        case measure => simp [intOf]; omega
      · have d1 : (a.k == 1) = false := by simpa using h1
        have hre := HO.out.re h1 x hm
        have hrv := HO.out.rv x hm
        have hrl := HO.out.rl x hm
        have vr := rv_of x.row hrv a.x hre
        have vb := num_of vr (of_isbare x.row a.x)
        have co := fun W (h : Grow wr W) => of_any x.row x.A x.cap (by omega) hrv a.x hre ga (oa + 1) wr W (HX.out.grow hg) (HC.out.grow hg).e hxv h
        have es2 : asStep a st (zOf x) = if (ofE x.row a.x).k = 1 then st else ⟨st.n + x.w, st.s + x.w * (ofE x.row a.x).n, true, if st.known = false ∨ ordV (ofE x.row a.x) st.lo < 0 then ofE x.row a.x else st.lo, if st.known = false ∨ 0 < ordV (ofE x.row a.x) st.hi then ofE x.row a.x else st.hi⟩ := by unfold asStep; rw [if_neg h1]; rfl
        have ES2 := Lib.hid (ES.out.trans es2)
        obtain ⟨v, hv⟩ : ∃ v, ofE x.row a.x = v := ⟨_, rfl⟩
        rw [hv] at vr vb co ES2
        have VR := Lib.hid vr
        clear es2 hre hrv hv vr hxv
        go_upto_region 10 with fail
        apply wp_region_calm 7 (by kernel_rfl) (by kernel_rfl)
        case h' =>
          intro Q0 hQ0
          simp only [List.take_succ_cons, List.take_zero]
          repeat ((first | ((first | apply calm_p rfl | apply calm_y rfl rfl rfl); case h1 => (intro w1 hw1 hF K hK; obtain ⟨bz, fz⟩ := (BZ.out.grow hw1).rules; go_simp; first | exact hK _ (Grow.refl _) | (go_at_call 30; ((with_reducible refine (co w1 (Gz.trans hw1)).mono ?_); rintro e w' ⟨rfl, hg⟩; exact ⟨_, rfl, hK _ hg⟩)))) | apply calm_n rfl rfl rfl rfl); intro K hK; go_simp; apply hK; clear hK K)
          apply calm_fp (fun v W => ∃ g, v = .pointer (some ⟨g, 0, none⟩) ∧ Z.heap.size ≤ g ∧ Blk W g 30 #[.int .i64 0, .int .i64 0, .string ⟨#[]⟩]) rfl
          case h1 =>
            intro w1 hw1 hF K hK
            go_simp
            exact hK _ _ ((Grow.refl _).al _) ⟨_, rfl, hw1.size, Blk.new _ _ _⟩
          intro v12 K hK
          go_simp
          apply hK
          clear hK K
          refine calm_nil ?_
          intro w1 hw1 hF
          apply hQ0
          clear hQ0
          simp only [List.drop_succ_cons, List.drop_zero]
          obtain ⟨g12, rfl, hg12, B12⟩ := hF _ (List.mem_cons_self ..)
          clear hF bz fz
          have B12' := bput3 B12 (.int .i64 v.k) (.int .i64 v.n) (.string v.s)
          have G12 := gput3 hw1 hg12 (.int .i64 v.k) (.int .i64 v.n) (.string v.s)
          obtain ⟨b12, f12⟩ := B12.rules
          clear B12
          go_upto_region 11 with fail
          refine wp_forget (fun W => Blk W g12 30 #[.int .i64 v.k, .int .i64 v.n, .string v.s] ∧ Grow Z W) ⟨B12', G12⟩ ?_
          clear B12' G12 b12 f12 hw1 w1
          rintro X3 ⟨B12, G3⟩
          have B12 := Lib.hid B12
          obtain ⟨b12, f12⟩ := B12.out.rules
          by_cases hk1 : v.k = 1
          · have d2 : (v.k == 1) = true := by simpa using hk1
            have e3 : asOf a ((xs.take (k + 1)).map zOf) = st := by rw [ES2.out, if_pos hk1]
            have E3 := Lib.hid e3
            clear e3
            go_wp2
            go_roundw
            case rel => exact ⟨k + 1, by omega, by go_num, by rw [E3.out], by rw [E3.out], (by rw [E3.out]; exact ((St.out.grow (Gz.trans G3)).same rfl rfl rfl rfl)), B4.out.grow (Gz.trans G3), hg.trans (Gz.trans G3)⟩
            case measure => simp [intOf]; omega
          · have d2 : (v.k == 1) = false := by simpa using hk1
            obtain ⟨⟨h, l, B6, e6, i1, i2, i3, i4⟩, ⟨L, B7, e7⟩, ⟨M, B8, e8⟩⟩ := St.out.grow (Gz.trans G3)
            have EE := Lib.hid (And.intro e7 e8)
            clear e7 e8
            have BZ3 := BZ.out.grow G3
            have B43 := B4.out.grow (Gz.trans G3)
            obtain ⟨l4, l6, l7, l8, l11⟩ : g4 < Z.heap.size ∧ g6 < Z.heap.size ∧ g7 < Z.heap.size ∧ g8 < Z.heap.size ∧ g11 < Z.heap.size := by
              obtain ⟨⟨_, _, q6, _⟩, ⟨_, q7, _⟩, ⟨_, q8, _⟩⟩ := St.out.grow Gz
              exact ⟨(B4.out.grow Gz).lt, q6.lt, q7.lt, q8.lt, BZ.out.lt⟩
            have o11 : g11 ≠ g6 ∧ g11 ≠ g7 ∧ g11 ≠ g8 ∧ g11 ≠ g4 := N11.out
            obtain ⟨m46, m67, m78⟩ := HG.out.2
            have ct := tadd_any h l v.n x.w g6 X3 B6 (by omega) (by omega) vb hw
            obtain ⟨h2, hh2⟩ : ∃ q, h + x.w * v.n.tdiv 100000000 = q := ⟨_, rfl⟩
            obtain ⟨l2, hl2⟩ : ∃ q, l + x.w * v.n.tmod 100000000 = q := ⟨_, rfl⟩
            have t1 := tq_eq v.n 100000000
            have t2 := tm_bd v.n 100000000 (by decide)
            have t3 := tq_bd (n := v.n) (P := 100000000) (K := 10000000) (by decide) (by omega)
            have t4 := mul_bd (a := x.w) (b := v.n.tdiv 100000000) (A := 1000000) (B := 10000000) hw t3
            have t5 := mul_bd (a := x.w) (b := v.n.tmod 100000000) (A := 1000000) (B := 100000000) hw (by omega)
            have t6 : x.w * v.n = x.w * v.n.tdiv 100000000 * 100000000 + x.w * v.n.tmod 100000000 := by
              rw [Int.mul_assoc, ← Int.mul_add, Int.mul_comm (v.n.tdiv 100000000)]; congr 1; exact t1.symm
            have e62 : h2 * 100000000 + l2 = st.s + x.w * v.n := by omega
            rw [hh2, hl2] at ct
            have S6 := Lib.hid (And.intro e62 (show (-(10000000000000 * ((k + 1 : Nat) : Int)) ≤ h2 ∧ h2 ≤ 10000000000000 * ((k + 1 : Nat) : Int)) ∧ -(100000000000000 * ((k + 1 : Nat) : Int)) ≤ l2 ∧ l2 ≤ 100000000000000 * ((k + 1 : Nat) : Int) by omega))
            clear t1 t2 t3 t4 t5 t6 e62 hh2 hl2 i1 i2 i3 i4 e6
            obtain ⟨bz3, fz3⟩ := BZ3.rules
            go_upto_region 14 with (go_at_call 83; ((with_reducible refine ct.mono ?_); rintro e X4 ⟨rfl, B64, gx4⟩))
            have G4 : Grow w X4 := GX.base ((hg.trans Gz).trans G3) (by have := HG.out.1; omega) gx4
            have C := Lib.hid (show Blk X4 g6 129 #[.int .i64 h2, .int .i64 l2] ∧ Blk X4 g4 30 #[.int .i64 0, .int .i64 0, .string ⟨#[]⟩] from ⟨B64, gx4.blk (by omega) B43⟩)
            have D := Lib.hid (show Blk X4 g12 30 #[.int .i64 v.k, .int .i64 v.n, .string v.s] ∧ Blk X4 g7 30 #[.int .i64 L.k, .int .i64 L.n, .string L.s] ∧ Blk X4 g8 30 #[.int .i64 M.k, .int .i64 M.n, .string M.s] from ⟨gx4.blk (by omega) B12.out, gx4.blk (by omega) B7, gx4.blk (by omega) B8⟩)
            have o7 : g12 ≠ g7 := by omega
            have o8 : g12 ≠ g8 := by omega
            have o4 : g4 ≠ g7 := by omega
            have o4' : g4 ≠ g8 := by omega
            have sz : w.heap.size ≤ g7 ∧ w.heap.size ≤ g8 := by have := HG.out.1; omega
            have SZ := Lib.hid sz
            clear gx4 B64 B6 B7 B8 BZ3 B43 ct bz3 fz3 b12 f12 sz l4 l6 l7 l8 l11 o11 m46 m67 m78
            cases hkn : st.known with
            | false =>
              have e3 : asOf a ((xs.take (k + 1)).map zOf) = ⟨st.n + x.w, st.s + x.w * v.n, true, v, v⟩ := by rw [ES2.out, if_neg hk1, if_pos (.inl hkn), if_pos (.inl hkn)]
              have E3 := Lib.hid e3
              clear e3
              obtain ⟨⟨b12, f12⟩, ⟨b7, f7⟩, ⟨b8, f8⟩⟩ := And.intro D.out.1.rules (And.intro D.out.2.1.rules D.out.2.2.rules)
              go_upto_region 16 with fail
              refine wp_forget (fun W => (Blk W g6 129 #[.int .i64 h2, .int .i64 l2] ∧ Blk W g4 30 #[.int .i64 0, .int .i64 0, .string ⟨#[]⟩]) ∧ Blk W g12 30 #[.int .i64 v.k, .int .i64 v.n, .string v.s] ∧ Blk W g7 30 #[.int .i64 v.k, .int .i64 v.n, .string v.s] ∧ Blk W g8 30 #[.int .i64 M.k, .int .i64 M.n, .string M.s] ∧ Grow w W) ⟨⟨(bfar3 (C.out.1.grow (Grow.refl X4)) (by omega) _ _ _), (bfar3 (C.out.2.grow (Grow.refl X4)) (by omega) _ _ _)⟩, (bfar3 (D.out.1.grow (Grow.refl X4)) (by omega) _ _ _), (bput3 (D.out.2.1.grow (Grow.refl X4)) _ _ _), (bfar3 (D.out.2.2.grow (Grow.refl X4)) (by omega) _ _ _), (gput3 (G4.trans (Grow.refl X4)) SZ.out.1 _ _ _)⟩ ?_
              clear b12 f12 b7 f7 b8 f8
              rintro X6 ⟨C6, d61, d62, d63, G6⟩
              have C6 := Lib.hid C6
              have D6 := Lib.hid (And.intro d61 (And.intro d62 d63))
              obtain ⟨⟨b12, f12⟩, ⟨b8, f8⟩⟩ := And.intro d61.rules d63.rules
              clear d61 d62 d63
              go_upto_region 18 with fail
              refine wp_forget (fun W => (Blk W g6 129 #[.int .i64 h2, .int .i64 l2] ∧ Blk W g4 30 #[.int .i64 0, .int .i64 0, .string ⟨#[]⟩]) ∧ Blk W g7 30 #[.int .i64 v.k, .int .i64 v.n, .string v.s] ∧ Blk W g8 30 #[.int .i64 v.k, .int .i64 v.n, .string v.s] ∧ Grow w W) ⟨⟨(bfar3 (C6.out.1.grow (Grow.refl X6)) (by omega) _ _ _), (bfar3 (C6.out.2.grow (Grow.refl X6)) (by omega) _ _ _)⟩, (bfar3 (D6.out.2.1.grow (Grow.refl X6)) (by omega) _ _ _), (bput3 (D6.out.2.2.grow (Grow.refl X6)) _ _ _), (gput3 (G6.trans (Grow.refl X6)) SZ.out.2 _ _ _)⟩ ?_
              clear b12 f12 b8 f8
              rintro X8 ⟨⟨c81, c82⟩, d87, d88, G8⟩
              have F8 := Lib.hid (show AgSt X8 g6 g7 g8 (asOf a ((xs.take (k + 1)).map zOf)) (k + 1) 129 by rw [E3.out]; exact ⟨⟨h2, l2, c81, S6.out.1, S6.out.2.1.1, S6.out.2.1.2, S6.out.2.2.1, S6.out.2.2.2⟩, ⟨v, d87, fun _ => rfl⟩, ⟨v, d88, fun _ => rfl⟩⟩)
              have C82 := Lib.hid c82
              clear c81 c82 d87 d88
              go_wp2
              go_roundw
              case rel => exact ⟨k + 1, by omega, by go_num, by rw [E3.out], by rw [E3.out], F8.out, C82.out, G8⟩
              case measure => simp [intOf]; omega
            | true =>
              have vlo := VR.out
              have cv1 := fun W => compare_any v L W
              have cv2 := fun W => compare_any v M W
              rw [cmp_ord v L VR.out (by rw [EE.out.1 hkn]; exact HR2.out.1)] at cv1
              rw [cmp_ord v M VR.out (by rw [EE.out.2 hkn]; exact HR2.out.2)] at cv2
              skip
              unfold V.val at cv1 cv2
              obtain ⟨r1, hr1⟩ : ∃ r, ordV v L = r := ⟨_, rfl⟩
              obtain ⟨r2, hr2⟩ : ∃ r, ordV v M = r := ⟨_, rfl⟩
              rw [hr1] at cv1
              rw [hr2] at cv2
              rw [EE.out.1 hkn] at hr1
              rw [EE.out.2 hkn] at hr2
              have Hr := Lib.hid (And.intro hr1 hr2)
              clear hr1 hr2 vlo
              by_cases w1 : r1 < 0
              · have d3 : decide (r1 < 0) = true := decide_eq_true w1
                by_cases w2 : 0 < r2
                · have d4 : decide (0 < r2) = true := decide_eq_true w2
                  have q1 : (ordV v st.lo < 0) := by rw [Hr.out.1]; exact w1
                  have q2 : (0 < ordV v st.hi) := by rw [Hr.out.2]; exact w2
                  have QQ := Lib.hid (And.intro q1 q2)
                  have e3 : asOf a ((xs.take (k + 1)).map zOf) = ⟨st.n + x.w, st.s + x.w * v.n, true, v, v⟩ := by rw [ES2.out, if_neg hk1, if_pos (.inr q1), if_pos (.inr q2)]
                  have E3 := Lib.hid e3
                  clear e3
                  obtain ⟨⟨b12, f12⟩, ⟨b7, f7⟩, ⟨b8, f8⟩⟩ := And.intro D.out.1.rules (And.intro D.out.2.1.rules D.out.2.2.rules)
                  go_upto_region 16 with (go_at_call 43; (with_reducible refine (cv1 _).mono ?_); rintro e w5 ⟨rfl, hg5⟩; obtain ⟨⟨b12, f12⟩, ⟨b7, f7⟩⟩ := And.intro (D.out.1.grow hg5).rules (D.out.2.1.grow hg5).rules)
                  refine wp_forget (fun W => (Blk W g6 129 #[.int .i64 h2, .int .i64 l2] ∧ Blk W g4 30 #[.int .i64 0, .int .i64 0, .string ⟨#[]⟩]) ∧ Blk W g12 30 #[.int .i64 v.k, .int .i64 v.n, .string v.s] ∧ Blk W g7 30 #[.int .i64 v.k, .int .i64 v.n, .string v.s] ∧ Blk W g8 30 #[.int .i64 M.k, .int .i64 M.n, .string M.s] ∧ Grow w W) ⟨⟨(bfar3 (C.out.1.grow hg5) (by omega) _ _ _), (bfar3 (C.out.2.grow hg5) (by omega) _ _ _)⟩, (bfar3 (D.out.1.grow hg5) (by omega) _ _ _), (bput3 (D.out.2.1.grow hg5) _ _ _), (bfar3 (D.out.2.2.grow hg5) (by omega) _ _ _), (gput3 (G4.trans hg5) SZ.out.1 _ _ _)⟩ ?_
                  clear b12 f12 b7 f7 b8 f8
                  rintro X6 ⟨C6, d61, d62, d63, G6⟩
                  have C6 := Lib.hid C6
                  have D6 := Lib.hid (And.intro d61 (And.intro d62 d63))
                  obtain ⟨⟨b12, f12⟩, ⟨b8, f8⟩⟩ := And.intro d61.rules d63.rules
                  clear d61 d62 d63
                  go_upto_region 18 with (go_at_call 43; (with_reducible refine (cv2 _).mono ?_); rintro e w7 ⟨rfl, hg7⟩; obtain ⟨⟨b12, f12⟩, ⟨b8, f8⟩⟩ := And.intro (D6.out.1.grow hg7).rules (D6.out.2.2.grow hg7).rules)
                  refine wp_forget (fun W => (Blk W g6 129 #[.int .i64 h2, .int .i64 l2] ∧ Blk W g4 30 #[.int .i64 0, .int .i64 0, .string ⟨#[]⟩]) ∧ Blk W g7 30 #[.int .i64 v.k, .int .i64 v.n, .string v.s] ∧ Blk W g8 30 #[.int .i64 v.k, .int .i64 v.n, .string v.s] ∧ Grow w W) ⟨⟨(bfar3 (C6.out.1.grow hg7) (by omega) _ _ _), (bfar3 (C6.out.2.grow hg7) (by omega) _ _ _)⟩, (bfar3 (D6.out.2.1.grow hg7) (by omega) _ _ _), (bput3 (D6.out.2.2.grow hg7) _ _ _), (gput3 (G6.trans hg7) SZ.out.2 _ _ _)⟩ ?_
                  clear b12 f12 b8 f8
                  rintro X8 ⟨⟨c81, c82⟩, d87, d88, G8⟩
                  have F8 := Lib.hid (show AgSt X8 g6 g7 g8 (asOf a ((xs.take (k + 1)).map zOf)) (k + 1) 129 by rw [E3.out]; exact ⟨⟨h2, l2, c81, S6.out.1, S6.out.2.1.1, S6.out.2.1.2, S6.out.2.2.1, S6.out.2.2.2⟩, ⟨v, d87, fun _ => rfl⟩, ⟨v, d88, fun _ => rfl⟩⟩)
                  have C82 := Lib.hid c82
                  clear c81 c82 d87 d88
                  go_wp2
                  go_roundw
                  case rel => exact ⟨k + 1, by omega, by go_num, by rw [E3.out], by rw [E3.out], F8.out, C82.out, G8⟩
                  case measure => simp [intOf]; omega
                · have d4 : decide (0 < r2) = false := decide_eq_false w2
                  have q1 : (ordV v st.lo < 0) := by rw [Hr.out.1]; exact w1
                  have q2 : ¬ (0 < ordV v st.hi) := by rw [Hr.out.2]; exact w2
                  have QQ := Lib.hid (And.intro q1 q2)
                  have e3 : asOf a ((xs.take (k + 1)).map zOf) = ⟨st.n + x.w, st.s + x.w * v.n, true, v, st.hi⟩ := by rw [ES2.out, if_neg hk1, if_pos (.inr q1), if_neg (by rw [hkn]; simpa using q2)]
                  have E3 := Lib.hid e3
                  clear e3
                  obtain ⟨⟨b12, f12⟩, ⟨b7, f7⟩, ⟨b8, f8⟩⟩ := And.intro D.out.1.rules (And.intro D.out.2.1.rules D.out.2.2.rules)
                  go_upto_region 16 with (go_at_call 43; (with_reducible refine (cv1 _).mono ?_); rintro e w5 ⟨rfl, hg5⟩; obtain ⟨⟨b12, f12⟩, ⟨b7, f7⟩⟩ := And.intro (D.out.1.grow hg5).rules (D.out.2.1.grow hg5).rules)
                  refine wp_forget (fun W => (Blk W g6 129 #[.int .i64 h2, .int .i64 l2] ∧ Blk W g4 30 #[.int .i64 0, .int .i64 0, .string ⟨#[]⟩]) ∧ Blk W g12 30 #[.int .i64 v.k, .int .i64 v.n, .string v.s] ∧ Blk W g7 30 #[.int .i64 v.k, .int .i64 v.n, .string v.s] ∧ Blk W g8 30 #[.int .i64 M.k, .int .i64 M.n, .string M.s] ∧ Grow w W) ⟨⟨(bfar3 (C.out.1.grow hg5) (by omega) _ _ _), (bfar3 (C.out.2.grow hg5) (by omega) _ _ _)⟩, (bfar3 (D.out.1.grow hg5) (by omega) _ _ _), (bput3 (D.out.2.1.grow hg5) _ _ _), (bfar3 (D.out.2.2.grow hg5) (by omega) _ _ _), (gput3 (G4.trans hg5) SZ.out.1 _ _ _)⟩ ?_
                  clear b12 f12 b7 f7 b8 f8
                  rintro X6 ⟨C6, d61, d62, d63, G6⟩
                  have C6 := Lib.hid C6
                  have D6 := Lib.hid (And.intro d61 (And.intro d62 d63))
                  obtain ⟨⟨b12, f12⟩, ⟨b8, f8⟩⟩ := And.intro d61.rules d63.rules
                  clear d61 d62 d63
                  go_upto_region 18 with (go_at_call 43; (with_reducible refine (cv2 _).mono ?_); rintro e w7 ⟨rfl, hg7⟩; obtain ⟨⟨b12, f12⟩, ⟨b8, f8⟩⟩ := And.intro (D6.out.1.grow hg7).rules (D6.out.2.2.grow hg7).rules)
                  refine wp_forget (fun W => (Blk W g6 129 #[.int .i64 h2, .int .i64 l2] ∧ Blk W g4 30 #[.int .i64 0, .int .i64 0, .string ⟨#[]⟩]) ∧ Blk W g7 30 #[.int .i64 v.k, .int .i64 v.n, .string v.s] ∧ Blk W g8 30 #[.int .i64 M.k, .int .i64 M.n, .string M.s] ∧ Grow w W) ⟨⟨(C6.out.1.grow hg7), (C6.out.2.grow hg7)⟩, (D6.out.2.1.grow hg7), (D6.out.2.2.grow hg7), (G6.trans hg7)⟩ ?_
                  clear b12 f12 b8 f8
                  rintro X8 ⟨⟨c81, c82⟩, d87, d88, G8⟩
                  have F8 := Lib.hid (show AgSt X8 g6 g7 g8 (asOf a ((xs.take (k + 1)).map zOf)) (k + 1) 129 by rw [E3.out]; exact ⟨⟨h2, l2, c81, S6.out.1, S6.out.2.1.1, S6.out.2.1.2, S6.out.2.2.1, S6.out.2.2.2⟩, ⟨v, d87, fun _ => rfl⟩, ⟨M, d88, fun _ => EE.out.2 hkn⟩⟩)
                  have C82 := Lib.hid c82
                  clear c81 c82 d87 d88
                  go_wp2
                  go_roundw
                  case rel => exact ⟨k + 1, by omega, by go_num, by rw [E3.out], by rw [E3.out], F8.out, C82.out, G8⟩
                  case measure => simp [intOf]; omega
              · have d3 : decide (r1 < 0) = false := decide_eq_false w1
                by_cases w2 : 0 < r2
                · have d4 : decide (0 < r2) = true := decide_eq_true w2
                  have q1 : ¬ (ordV v st.lo < 0) := by rw [Hr.out.1]; exact w1
                  have q2 : (0 < ordV v st.hi) := by rw [Hr.out.2]; exact w2
                  have QQ := Lib.hid (And.intro q1 q2)
                  have e3 : asOf a ((xs.take (k + 1)).map zOf) = ⟨st.n + x.w, st.s + x.w * v.n, true, st.lo, v⟩ := by rw [ES2.out, if_neg hk1, if_neg (by rw [hkn]; simpa using q1), if_pos (.inr q2)]
                  have E3 := Lib.hid e3
                  clear e3
                  obtain ⟨⟨b12, f12⟩, ⟨b7, f7⟩, ⟨b8, f8⟩⟩ := And.intro D.out.1.rules (And.intro D.out.2.1.rules D.out.2.2.rules)
                  go_upto_region 16 with (go_at_call 43; (with_reducible refine (cv1 _).mono ?_); rintro e w5 ⟨rfl, hg5⟩; obtain ⟨⟨b12, f12⟩, ⟨b7, f7⟩⟩ := And.intro (D.out.1.grow hg5).rules (D.out.2.1.grow hg5).rules)
                  refine wp_forget (fun W => (Blk W g6 129 #[.int .i64 h2, .int .i64 l2] ∧ Blk W g4 30 #[.int .i64 0, .int .i64 0, .string ⟨#[]⟩]) ∧ Blk W g12 30 #[.int .i64 v.k, .int .i64 v.n, .string v.s] ∧ Blk W g7 30 #[.int .i64 L.k, .int .i64 L.n, .string L.s] ∧ Blk W g8 30 #[.int .i64 M.k, .int .i64 M.n, .string M.s] ∧ Grow w W) ⟨⟨(C.out.1.grow hg5), (C.out.2.grow hg5)⟩, (D.out.1.grow hg5), (D.out.2.1.grow hg5), (D.out.2.2.grow hg5), (G4.trans hg5)⟩ ?_
                  clear b12 f12 b7 f7 b8 f8
                  rintro X6 ⟨C6, d61, d62, d63, G6⟩
                  have C6 := Lib.hid C6
                  have D6 := Lib.hid (And.intro d61 (And.intro d62 d63))
                  obtain ⟨⟨b12, f12⟩, ⟨b8, f8⟩⟩ := And.intro d61.rules d63.rules
                  clear d61 d62 d63
                  go_upto_region 18 with (go_at_call 43; (with_reducible refine (cv2 _).mono ?_); rintro e w7 ⟨rfl, hg7⟩; obtain ⟨⟨b12, f12⟩, ⟨b8, f8⟩⟩ := And.intro (D6.out.1.grow hg7).rules (D6.out.2.2.grow hg7).rules)
                  refine wp_forget (fun W => (Blk W g6 129 #[.int .i64 h2, .int .i64 l2] ∧ Blk W g4 30 #[.int .i64 0, .int .i64 0, .string ⟨#[]⟩]) ∧ Blk W g7 30 #[.int .i64 L.k, .int .i64 L.n, .string L.s] ∧ Blk W g8 30 #[.int .i64 v.k, .int .i64 v.n, .string v.s] ∧ Grow w W) ⟨⟨(bfar3 (C6.out.1.grow hg7) (by omega) _ _ _), (bfar3 (C6.out.2.grow hg7) (by omega) _ _ _)⟩, (bfar3 (D6.out.2.1.grow hg7) (by omega) _ _ _), (bput3 (D6.out.2.2.grow hg7) _ _ _), (gput3 (G6.trans hg7) SZ.out.2 _ _ _)⟩ ?_
                  clear b12 f12 b8 f8
                  rintro X8 ⟨⟨c81, c82⟩, d87, d88, G8⟩
                  have F8 := Lib.hid (show AgSt X8 g6 g7 g8 (asOf a ((xs.take (k + 1)).map zOf)) (k + 1) 129 by rw [E3.out]; exact ⟨⟨h2, l2, c81, S6.out.1, S6.out.2.1.1, S6.out.2.1.2, S6.out.2.2.1, S6.out.2.2.2⟩, ⟨L, d87, fun _ => EE.out.1 hkn⟩, ⟨v, d88, fun _ => rfl⟩⟩)
                  have C82 := Lib.hid c82
                  clear c81 c82 d87 d88
                  go_wp2
                  go_roundw
                  case rel => exact ⟨k + 1, by omega, by go_num, by rw [E3.out], by rw [E3.out], F8.out, C82.out, G8⟩
                  case measure => simp [intOf]; omega
                · have d4 : decide (0 < r2) = false := decide_eq_false w2
                  have q1 : ¬ (ordV v st.lo < 0) := by rw [Hr.out.1]; exact w1
                  have q2 : ¬ (0 < ordV v st.hi) := by rw [Hr.out.2]; exact w2
                  have QQ := Lib.hid (And.intro q1 q2)
                  have e3 : asOf a ((xs.take (k + 1)).map zOf) = ⟨st.n + x.w, st.s + x.w * v.n, true, st.lo, st.hi⟩ := by rw [ES2.out, if_neg hk1, if_neg (by rw [hkn]; simpa using q1), if_neg (by rw [hkn]; simpa using q2)]
                  have E3 := Lib.hid e3
                  clear e3
                  obtain ⟨⟨b12, f12⟩, ⟨b7, f7⟩, ⟨b8, f8⟩⟩ := And.intro D.out.1.rules (And.intro D.out.2.1.rules D.out.2.2.rules)
                  go_upto_region 16 with (go_at_call 43; (with_reducible refine (cv1 _).mono ?_); rintro e w5 ⟨rfl, hg5⟩; obtain ⟨⟨b12, f12⟩, ⟨b7, f7⟩⟩ := And.intro (D.out.1.grow hg5).rules (D.out.2.1.grow hg5).rules)
                  refine wp_forget (fun W => (Blk W g6 129 #[.int .i64 h2, .int .i64 l2] ∧ Blk W g4 30 #[.int .i64 0, .int .i64 0, .string ⟨#[]⟩]) ∧ Blk W g12 30 #[.int .i64 v.k, .int .i64 v.n, .string v.s] ∧ Blk W g7 30 #[.int .i64 L.k, .int .i64 L.n, .string L.s] ∧ Blk W g8 30 #[.int .i64 M.k, .int .i64 M.n, .string M.s] ∧ Grow w W) ⟨⟨(C.out.1.grow hg5), (C.out.2.grow hg5)⟩, (D.out.1.grow hg5), (D.out.2.1.grow hg5), (D.out.2.2.grow hg5), (G4.trans hg5)⟩ ?_
                  clear b12 f12 b7 f7 b8 f8
                  rintro X6 ⟨C6, d61, d62, d63, G6⟩
                  have C6 := Lib.hid C6
                  have D6 := Lib.hid (And.intro d61 (And.intro d62 d63))
                  obtain ⟨⟨b12, f12⟩, ⟨b8, f8⟩⟩ := And.intro d61.rules d63.rules
                  clear d61 d62 d63
                  go_upto_region 18 with (go_at_call 43; (with_reducible refine (cv2 _).mono ?_); rintro e w7 ⟨rfl, hg7⟩; obtain ⟨⟨b12, f12⟩, ⟨b8, f8⟩⟩ := And.intro (D6.out.1.grow hg7).rules (D6.out.2.2.grow hg7).rules)
                  refine wp_forget (fun W => (Blk W g6 129 #[.int .i64 h2, .int .i64 l2] ∧ Blk W g4 30 #[.int .i64 0, .int .i64 0, .string ⟨#[]⟩]) ∧ Blk W g7 30 #[.int .i64 L.k, .int .i64 L.n, .string L.s] ∧ Blk W g8 30 #[.int .i64 M.k, .int .i64 M.n, .string M.s] ∧ Grow w W) ⟨⟨(C6.out.1.grow hg7), (C6.out.2.grow hg7)⟩, (D6.out.2.1.grow hg7), (D6.out.2.2.grow hg7), (G6.trans hg7)⟩ ?_
                  clear b12 f12 b8 f8
                  rintro X8 ⟨⟨c81, c82⟩, d87, d88, G8⟩
                  have F8 := Lib.hid (show AgSt X8 g6 g7 g8 (asOf a ((xs.take (k + 1)).map zOf)) (k + 1) 129 by rw [E3.out]; exact ⟨⟨h2, l2, c81, S6.out.1, S6.out.2.1.1, S6.out.2.1.2, S6.out.2.2.1, S6.out.2.2.2⟩, ⟨L, d87, fun _ => EE.out.1 hkn⟩, ⟨M, d88, fun _ => EE.out.2 hkn⟩⟩)
                  have C82 := Lib.hid c82
                  clear c81 c82 d87 d88
                  go_wp2
                  go_roundw
                  case rel => exact ⟨k + 1, by omega, by go_num, by rw [E3.out], by rw [E3.out], F8.out, C82.out, G8⟩
                  case measure => simp [intOf]; omega
        case hp' => exact ⟨fun v w w' hg ⟨g, a, b, c⟩ => ⟨g, a, b, c.grow hg⟩, trivial⟩
    · have et : (xs.take k).map zOf = xs.map zOf := by rw [show k = xs.length by omega, List.take_length]
      obtain ⟨st, hst⟩ : ∃ st, asOf a (xs.map zOf) = st := ⟨_, rfl⟩
      rw [et, hst] at St n1 n2 hkn HR2 ⊢
      have eR : R = if a.k ≤ 2 then intV st.n else if st.known = false then nullV' else if a.k = 3 then intV st.s else if a.k = 4 then st.lo else st.hi := by rw [← HR.out]; unfold aggV; rw [hst]
      have ER := Lib.hid eR
      have ck := (HC.out.grow hg).k
      obtain ⟨b4, f4⟩ := B4.out.rules
      have sz : w.heap.size ≤ g4 := Nat.le_of_eq HG.out.1
      have SZ := Lib.hid sz
      clear eR hst et sz hkn
      by_cases h2 : a.k ≤ 2
      · have d2 : decide (a.k ≤ 2) = true := decide_eq_true h2
        have e : R = intV st.n := by rw [ER.out, if_pos h2]
        subst e
        go_wp2_with (go_at_call 46; ((with_reducible refine (int_any _ _).mono ?_); rintro e w2 ⟨rfl, hg2⟩; obtain ⟨b4, f4⟩ := (B4.out.grow hg2).rules))
        refine bodyPost_ret (by simp [results, Try.results66, go_sem, b4, f4] <;> rfl) rfl ?_
        exact ⟨rfl, gput3 (hg.trans hg2) SZ.out _ _ _⟩
      · have d2 : decide (a.k ≤ 2) = false := decide_eq_false h2
        cases hkn : st.known with
        | false =>
          have e : R = nullV' := by rw [ER.out, if_neg h2, if_pos hkn]
          subst e
          go_wp2_with (go_at_call 47; ((with_reducible refine (null _).mono ?_); rintro e w2 ⟨rfl, hg2⟩; obtain ⟨b4, f4⟩ := (B4.out.grow hg2).rules))
          refine bodyPost_ret (by simp [results, Try.results66, go_sem, nullV', b4, f4] <;> rfl) rfl ?_
          exact ⟨rfl, gput3 (hg.trans hg2) SZ.out _ _ _⟩
        | true =>
          obtain ⟨⟨h, l, B6, e6, i1, i2, i3, i4⟩, ⟨L, B7, e7⟩, ⟨M, B8, e8⟩⟩ := St.out
          have e7 := e7 hkn
          have e8 := e8 hkn
          by_cases h3 : a.k = 3
          · have d3 : (a.k == 3) = true := by simpa using h3
            have e : R = intV st.s := by rw [ER.out, if_neg h2, if_neg (by rw [hkn]; simp), if_pos h3]
            subst e
            have ct := tval_any h l g6 wr B6 (by omega) (by omega)
            rw [e6] at ct
            clear B6 B7 B8 e6 i1 i2 i3 i4 e7 e8
            go_wp2_with (go_at_call 84; ((with_reducible refine ct.mono ?_); rintro e w2 ⟨rfl, hg2⟩; obtain ⟨b4, f4⟩ := (B4.out.grow hg2).rules))
            refine bodyPost_ret (by simp [results, Try.results66, go_sem, b4, f4] <;> rfl) rfl ?_
            exact ⟨rfl, gput3 (hg.trans hg2) SZ.out _ _ _⟩
          · have d3 : (a.k == 3) = false := by simpa using h3
            by_cases h4 : a.k = 4
            · have d4 : (a.k == 4) = true := by simpa using h4
              have e : R = L := by rw [ER.out, if_neg h2, if_neg (by rw [hkn]; simp), if_neg h3, if_pos h4, e7]
              subst e
              obtain ⟨b7, f7⟩ := B7.rules
              clear B6 B7 B8 e6 i1 i2 i3 i4 e7 e8 St HR2
              go_wp2
              refine bodyPost_ret (by simp [results, Try.results66, go_sem, b4, f4] <;> rfl) rfl ?_
              exact ⟨rfl, gput3 hg SZ.out _ _ _⟩
            · have d4 : (a.k == 4) = false := by simpa using h4
              have e : R = M := by rw [ER.out, if_neg h2, if_neg (by rw [hkn]; simp), if_neg h3, if_neg h4, e8]
              subst e
              obtain ⟨b7, f7⟩ := B8.rules
              clear B6 B7 B8 e6 i1 i2 i3 i4 e7 e8 St HR2
              go_wp2
              refine bodyPost_ret (by simp [results, Try.results66, go_sem, b4, f4] <;> rfl) rfl ?_
              exact ⟨rfl, gput3 hg SZ.out _ _ _⟩
end Go.Proofs.Ytamfpppbjaelaaa
