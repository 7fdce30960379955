/-
  Joined texts of this claim: Ag2, Ag7. What each proves its own head says; no condition beside those that each theorem names.
-/
import Derived.Test.YtigpbihjjadmlaaGreatGAa
import Derived.Test.YtigpbihjjadmlaaGreatGZ
namespace Go.Proofs.YtigpbihjjadmlaaGreat
open Go.RowKit Go.Calm
set_option linter.unusedSimpArgs false
set_option linter.unusedVariables false

set_option maxRecDepth 100000 in
set_option maxHeartbeats 4000000 in
theorem raggtypes_any (cols : List Int) (Ac : Option Addr) (cc : Nat) (xs : List Ag) (A : Option Addr) (c : Nat) (w : World) (hlen : cols.length ≤ 9223372036854775807) (hl : xs.length ≤ 8) (hc : ISl w Ac cols) (hx : AgSl w A xs) :
    Calls Tryz.prog 32 #[.slice Ac cols.length cc, .slice A xs.length c] w fun en w' => ∃ v : Value, en = .returned (.tuple #[v, .int .i64 (aggE cols xs)]) ∧ Grow w w' := by
  have Hx := Lib.hid hx
  have Hc := Lib.hid hc
  have Ti := Lib.hid info_int'
  clear hx hc
  obtain ⟨R, hR⟩ : ∃ R, aggE cols xs = R := ⟨_, rfl⟩
  rw [hR]
  have Re := Lib.hid hR
  clear hR
  go_enter Tryz.func32, Tryz.ntmps32
  go_wp2
  go_loopw [6, 13] (fun t i wr => ∃ (k : Nat) (ts : List Int), ts.length = k ∧ k ≤ xs.length ∧ i = .int .i64 k ∧ wr.ownsRow w.heap.size 3 1 t k (flatN ts) ∧ (∀ x ∈ xs.take k, agT cols x = 0) ∧ Grow w wr) (fun _ i _ => xs.length - (intOf i).toNat)
  case atStart => exact ⟨0, [], rfl, Nat.zero_le _, rfl, World.ownsRow_nil _ _ _ _, fun x hx => by simp at hx, Grow.refl w⟩
  case round =>
    obtain ⟨k, ts, hts, hk, rfl, hown, hz, hg⟩ := hrel
    have Own := Lib.hid hown
    have Hz := Lib.hid hz
    clear hown hz
    by_cases hlt : k < xs.length
    · obtain ⟨x, hxk⟩ : ∃ x, xs[k]? = some x := ⟨_, List.getElem?_eq_getElem hlt⟩
      obtain ⟨gx, ox, rfl, ⟨ck, c0, c1, c2, c3, c4, c5⟩, hex⟩ := (Hx.out.grow hg) k x hxk
      obtain ⟨T, F, hTF⟩ : ∃ T F, typeE cols x.x = (T, F) := ⟨_, _, rfl⟩
      have ct := fun W (h : Grow wr W) => typeof_any cols Ac cc x.x W hlen (Hc.out.grow (hg.trans h)) (hex.grow h)
      rw [hTF] at ct
      simp only at ct
      have Hxk := Lib.hid hxk
      have bad : ∀ e : Int, e ≠ 0 → agT cols x = e → R = e := fun e h1 h2 => by rw [← Re.out, aggE_bad cols xs k x Hxk.out Hz.out (by rw [h2]; exact h1), h2]
      have good : agT cols x = 0 → ∀ y ∈ xs.take (k + 1), agT cols y = 0 := fun h y hy => by
        obtain ⟨h1, e1⟩ := List.getElem?_eq_some_iff.1 Hxk.out
        rw [List.take_succ_eq_append_getElem h1, e1] at hy
        rcases List.mem_append.1 hy with hy | hy
        · exact Hz.out y hy
        · simp at hy; subst hy; exact h
      have at0 : agT cols x = if x.k < 1 ∨ 5 < x.k then 1 else if x.k = 1 then 0 else if F ≠ 0 then F else if x.k = 3 ∧ T ≠ 3 ∧ T ≠ 1 then 9 else 0 := by unfold agT; rw [hTF]
      have hl2 := Own.out.lt
      have HL2 := Lib.hid hl2
      have Bad := Lib.hid bad
      have Good := Lib.hid good
      have At := Lib.hid at0
      clear hxk hex hTF hl2 bad good at0
      obtain ⟨ti, hti, hz0, hz1, hz2⟩ := Ti.out
      go_upto_region 5 with fail
      refine wp_forget (fun X => Blk X wr.heap.size 68 #[.int .i64 x.k, .int .i64 x.x.kind, .int .i64 x.x.v.k, .int .i64 x.x.v.n, .string x.x.v.s, .int .i64 x.x.col, .slice x.x.A x.x.n x.x.cap] ∧ Grow wr X) ⟨Blk.new _ _ _, (Grow.refl wr).al _⟩ ?_
      rintro X ⟨Bx, Gx⟩
      have BX := Lib.hid Bx
      obtain ⟨bx, fx⟩ := Bx.rules
      have Own1 := Lib.hid (own_grow Own.out Gx)
      have G1 := hg.trans Gx
      clear ck c0 c1 c2 c3 c4 c5 Bx
      unfold E.val at ct
      by_cases ha : x.k < 1
      · have d1 : decide (x.k < 1) = true := decide_eq_true ha
        have e : R = 1 := Bad.out _ (by decide) (by rw [At.out]; rw [if_pos (.inl ha)])
        subst e
        go_wp2
        refine bodyPost_ret (by simp [results, Tryz.results32, go_sem] <;> rfl) rfl ?_
        first | exact ⟨_, rfl, G1⟩ | exact ⟨⟨_, rfl⟩, G1⟩
      · have d1 : decide (x.k < 1) = false := decide_eq_false ha
        by_cases hb : 5 < x.k
        · have d2 : decide (5 < x.k) = true := decide_eq_true hb
          have e : R = 1 := Bad.out _ (by decide) (by rw [At.out]; rw [if_pos (.inr hb)])
          subst e
          go_wp2
          refine bodyPost_ret (by simp [results, Tryz.results32, go_sem] <;> rfl) rfl ?_
          first | exact ⟨_, rfl, G1⟩ | exact ⟨⟨_, rfl⟩, G1⟩
        · have d2 : decide (5 < x.k) = false := decide_eq_false hb
          have n5 : ¬ (x.k < 1 ∨ 5 < x.k) := by omega
          by_cases h1 : x.k = 1
          · have d3 : (x.k == 1) = true := by simpa using h1
            have d3' : (x.k != 1) = false := by simpa using h1
            have d4 : decide (4 ≤ x.k) = false := decide_eq_false (by omega)
            go_wp2_with (at_builtin; refine wpList_append_srcN rfl _ _ rfl w.heap.size _ _ _ rfl (Own1.out.alloc _) _ [3] rfl (srcN_one (Blk.new _ _ _)) (by simp; omega) (by have := G1.size; simp; omega) ?_; intro v7 w7 own7 gr7)
            have hg7 : Grow w w7 := grow_own (G1.al _) gr7 (Own1.out.alloc _)
            have Own7 := Lib.hid own7
            clear own7 gr7
            go_wp2
            go_roundw
            case rel => exact ⟨k + 1, ts ++ [3], by simp [hts], by omega, by go_num, by simpa [hts] using Own7.out, Good.out (by rw [At.out, if_neg n5, if_pos h1]), hg7⟩
            case measure => simp [intOf]; omega
          · have d3 : (x.k == 1) = false := by simpa using h1
            have d3' : (x.k != 1) = true := by simpa using h1
            by_cases h0 : F = 0
            · have d0 : (F != 0) = false := by simpa using h0
              subst h0
              by_cases h3 : x.k = 3
              · have d5 : (x.k == 3) = true := by simpa using h3
                have d4 : decide (4 ≤ x.k) = false := decide_eq_false (by omega)
                have d2' : (x.k == 2) = false := by simp; omega
                by_cases t3 : T = 3
                · have e3 : (T != 3) = false := by simpa using t3
                  have e1 : (T != 1) = true := by simp; omega
                  go_wp2_with (first | (go_at_call 46; ((with_reducible refine (ct _ Gx).mono ?_); rintro e w2 ⟨rfl, hg2⟩; obtain ⟨bx2, fx2⟩ := (BX.out.grow hg2).rules; have Own2 := Lib.hid (own_grow Own1.out hg2); have G2 := G1.trans hg2; clear hg2)) | (at_builtin; refine wpList_append_srcN rfl _ _ rfl w.heap.size _ _ _ rfl (Own2.out.alloc _) _ [3] rfl (srcN_one (Blk.new _ _ _)) (by simp; omega) (by have := G2.size; simp; omega) ?_; intro v7 w7 own7 gr7))
                  have hg7 : Grow w w7 := grow_own (G2.al _) gr7 (Own2.out.alloc _)
                  have Own7 := Lib.hid own7
                  clear own7 gr7
                  go_wp2
                  go_roundw
                  case rel => exact ⟨k + 1, ts ++ [3], by simp [hts], by omega, by go_num, by simpa [hts] using Own7.out, Good.out (by rw [At.out, if_neg n5, if_neg h1, if_neg (by simp), if_neg (by omega)]), hg7⟩
                  case measure => simp [intOf]; omega
                · have e3 : (T != 3) = true := by simpa using t3
                  by_cases t1 : T = 1
                  · have e1 : (T != 1) = false := by simpa using t1
                    go_wp2_with (first | (go_at_call 46; ((with_reducible refine (ct _ Gx).mono ?_); rintro e w2 ⟨rfl, hg2⟩; obtain ⟨bx2, fx2⟩ := (BX.out.grow hg2).rules; have Own2 := Lib.hid (own_grow Own1.out hg2); have G2 := G1.trans hg2; clear hg2)) | (at_builtin; refine wpList_append_srcN rfl _ _ rfl w.heap.size _ _ _ rfl (Own2.out.alloc _) _ [3] rfl (srcN_one (Blk.new _ _ _)) (by simp; omega) (by have := G2.size; simp; omega) ?_; intro v7 w7 own7 gr7))
                    have hg7 : Grow w w7 := grow_own (G2.al _) gr7 (Own2.out.alloc _)
                    have Own7 := Lib.hid own7
                    clear own7 gr7
                    go_wp2
                    go_roundw
                    case rel => exact ⟨k + 1, ts ++ [3], by simp [hts], by omega, by go_num, by simpa [hts] using Own7.out, Good.out (by rw [At.out, if_neg n5, if_neg h1, if_neg (by simp), if_neg (by omega)]), hg7⟩
                    case measure => simp [intOf]; omega
                  · have e1 : (T != 1) = true := by simpa using t1
                    have e : R = 9 := Bad.out _ (by decide) (by rw [At.out]; rw [if_neg n5, if_neg h1, if_neg (by simp), if_pos ⟨h3, t3, t1⟩])
                    subst e
                    go_wp2_with (go_at_call 46; ((with_reducible refine (ct _ Gx).mono ?_); rintro e w2 ⟨rfl, hg2⟩; obtain ⟨bx2, fx2⟩ := (BX.out.grow hg2).rules; have Own2 := Lib.hid (own_grow Own1.out hg2); have G2 := G1.trans hg2; clear hg2))
                    refine bodyPost_ret (by simp [results, Tryz.results32, go_sem] <;> rfl) rfl ?_
                    first | exact ⟨_, rfl, G2⟩ | exact ⟨⟨_, rfl⟩, G2⟩
              · have d5 : (x.k == 3) = false := by simpa using h3
                by_cases h2 : x.k = 2
                · have d4 : decide (4 ≤ x.k) = false := decide_eq_false (by omega)
                  have d2' : (x.k == 2) = true := by simpa using h2
                  go_wp2_with (first | (go_at_call 46; ((with_reducible refine (ct _ Gx).mono ?_); rintro e w2 ⟨rfl, hg2⟩; obtain ⟨bx2, fx2⟩ := (BX.out.grow hg2).rules; have Own2 := Lib.hid (own_grow Own1.out hg2); have G2 := G1.trans hg2; clear hg2)) | (at_builtin; refine wpList_append_srcN rfl _ _ rfl w.heap.size _ _ _ rfl (Own2.out.alloc _) _ [3] rfl (srcN_one (Blk.new _ _ _)) (by simp; omega) (by have := G2.size; simp; omega) ?_; intro v7 w7 own7 gr7))
                  have hg7 : Grow w w7 := grow_own (G2.al _) gr7 (Own2.out.alloc _)
                  have Own7 := Lib.hid own7
                  clear own7 gr7
                  go_wp2
                  go_roundw
                  case rel => exact ⟨k + 1, ts ++ [3], by simp [hts], by omega, by go_num, by simpa [hts] using Own7.out, Good.out (by rw [At.out, if_neg n5, if_neg h1, if_neg (by simp), if_neg (by omega)]), hg7⟩
                  case measure => simp [intOf]; omega
                · have d4 : decide (4 ≤ x.k) = true := decide_eq_true (by omega)
                  have d2' : (x.k == 2) = false := by simpa using h2
                  go_wp2_with (first | (go_at_call 46; ((with_reducible refine (ct _ Gx).mono ?_); rintro e w2 ⟨rfl, hg2⟩; obtain ⟨bx2, fx2⟩ := (BX.out.grow hg2).rules; have Own2 := Lib.hid (own_grow Own1.out hg2); have G2 := G1.trans hg2; clear hg2)) | (at_builtin; refine wpList_append_srcN rfl _ _ rfl w.heap.size _ _ _ rfl (Own2.out.alloc _) _ [T] rfl (srcN_one (Blk.new _ _ _)) (by simp; omega) (by have := G2.size; simp; omega) ?_; intro v7 w7 own7 gr7))
                  have hg7 : Grow w w7 := grow_own (G2.al _) gr7 (Own2.out.alloc _)
                  have Own7 := Lib.hid own7
                  clear own7 gr7
                  go_wp2
                  go_roundw
                  case rel => exact ⟨k + 1, ts ++ [T], by simp [hts], by omega, by go_num, by simpa [hts] using Own7.out, Good.out (by rw [At.out, if_neg n5, if_neg h1, if_neg (by simp), if_neg (by omega)]), hg7⟩
                  case measure => simp [intOf]; omega
            · have d0 : (F != 0) = true := by simpa using h0
              have e : R = F := Bad.out _ h0 (by rw [At.out]; rw [if_neg n5, if_neg h1, if_pos h0])
              subst e
              go_wp2_with (go_at_call 46; ((with_reducible refine (ct _ Gx).mono ?_); rintro e w2 ⟨rfl, hg2⟩; obtain ⟨bx2, fx2⟩ := (BX.out.grow hg2).rules; have Own2 := Lib.hid (own_grow Own1.out hg2); have G2 := G1.trans hg2; clear hg2))
              refine bodyPost_ret (by simp [results, Tryz.results32, go_sem] <;> rfl) rfl ?_
              first | exact ⟨_, rfl, G2⟩ | exact ⟨⟨_, rfl⟩, G2⟩
    · obtain rfl : k = xs.length := by omega
      have e : R = 0 := by rw [← Re.out, aggE_ok cols xs (by have := Hz.out; rw [List.take_length] at this; exact this)]
      subst e
      go_wp2
      refine bodyPost_ret (by simp [results, Tryz.results32, go_sem] <;> rfl) rfl ?_
      exact ⟨_, rfl, hg⟩
end Go.Proofs.YtigpbihjjadmlaaGreat

namespace Go.Proofs.YtigpbihjjadmlaaGreat
open Go.RowKit Go.Calm
set_option linter.unusedSimpArgs false
set_option linter.unusedVariables false

structure RgSt (w : World) (gs gb : Nat) (a : Ag) (st : AS) (k : Nat) (t : TypeId) : Prop where
  sum : ∃ ds : List Int, ds.length = 9 ∧ Blk w gs t (ds.map (Value.int .i64)).toArray ∧ sumD ds = st.s ∧ BdD (999000000 * (k : Int)) ds
  best : ∃ L : V, Blk w gb 61 #[.int .i64 L.k, .int .i64 L.n, .string L.s] ∧ (st.known = false → L = nullV') ∧ (st.known = true → (a.k = 4 → L = st.lo) ∧ (a.k = 5 → L = st.hi))
theorem RgSt.grow {w w' : World} {gs gb : Nat} {a : Ag} {st : AS} {k : Nat} {t : TypeId} (h : RgSt w gs gb a st k t) (hg : Grow w w') : RgSt w' gs gb a st k t := by
  obtain ⟨⟨ds, h1, h2, h3, h4⟩, ⟨L, h5, h6⟩⟩ := h
  exact ⟨⟨ds, h1, h2.grow hg, h3, h4⟩, ⟨L, h5.grow hg, h6⟩⟩
theorem RgSt.same {w : World} {gs gb : Nat} {a : Ag} {st st' : AS} {k : Nat} {t : TypeId} (h : RgSt w gs gb a st k t) (e1 : st'.s = st.s) (e2 : st'.known = st.known) (e3 : st'.lo = st.lo) (e4 : st'.hi = st.hi) : RgSt w gs gb a st' (k + 1) t := by
  obtain ⟨⟨ds, h1, h2, h3, h4⟩, ⟨L, h5, h6⟩⟩ := h
  exact ⟨⟨ds, h1, h2, by rw [e1]; exact h3, fun d hd => by have := h4 d hd; omega⟩, ⟨L, h5, by rw [e2, e3, e4]; exact h6⟩⟩

set_option maxRecDepth 100000 in
set_option maxHeartbeats 16000000 in
theorem ragg_any (cols : List Int) (a : Ag) (xs : List I) (B : Option Addr) (cap : Nat) (w : World) (hx : EX w a.x) (hz : ZIn w B xs) (ho : AgX a xs) (hf : ∀ x ∈ xs, FitR cols x.row) (hwt : a.k ≠ 1 → ∃ T, wt cols a.x T) :
    Calls Tryz.prog 26 #[a.val, .slice B xs.length cap] w fun en w' => en = .returned (aggV a (xs.map zOf)).val ∧ Grow w w' := by
  have HX := Lib.hid hx
  have HZ := Lib.hid hz
  have HO := Lib.hid ho
  have HF := Lib.hid hf
  have HW := Lib.hid hwt
  have hlen := ho.len
  obtain ⟨k1, k5⟩ := ho.k
  obtain ⟨R, hR⟩ : ∃ R, aggV a (xs.map zOf) = R := ⟨_, rfl⟩
  rw [hR]
  have HR := Lib.hid hR
  clear hx hz ho hR hf hwt
  go_enter Tryz.func26, Tryz.ntmps26
  go_upto_region 3 with fail
  refine wp_forget (fun X => Blk X w.heap.size 68 #[.int .i64 a.k, .int .i64 a.x.kind, .int .i64 a.x.v.k, .int .i64 a.x.v.n, .string a.x.v.s, .int .i64 a.x.col, .slice a.x.A a.x.n a.x.cap] ∧ Blk X (w.heap.size + 1) 61 #[.int .i64 0, .int .i64 0, .string ⟨#[]⟩] ∧ Blk X (w.heap.size + 1 + 1) 87 #[.int .i64 0, .int .i64 0, .int .i64 0, .int .i64 0, .int .i64 0, .int .i64 0, .int .i64 0, .int .i64 0, .int .i64 0] ∧ Grow w X) ⟨((Blk.new _ _ _).al _).al _, (Blk.new' _ _ _ (by simp)).al _, Blk.new' _ _ _ (by simp), (by repeat (first | (with_reducible exact Grow.refl _) | (with_reducible assumption) | (with_reducible refine Grow.set ?_ (by first | (simp; done) | (simp; omega)) _) | (with_reducible refine Grow.al ?_ _) | (with_reducible refine Grow.drew ?_) | (with_reducible refine Grow.drewN ?_ _) | (with_reducible refine Grow.trans ?_ (by assumption))))⟩ ?_
  have hh : w.heap.size < w.heap.size + 1 ∧ w.heap.size + 1 < w.heap.size + 1 + 1 := by omega
  generalize w.heap.size + 1 + 1 = g6 at *
  generalize w.heap.size + 1 = g4 at *
  generalize hg2 : w.heap.size = g2 at *
  rintro X ⟨B2, B4, B6, G⟩
  have BX := Lib.hid (And.intro B2 (And.intro B4 B6))
  have HG := Lib.hid (And.intro hg2 hh)
  have n64 : g6 ≠ g4 := by omega
  clear B2 B4 B6 hg2 hh
  go_upto_region 4 with (go_at_call 25; ((with_reducible refine (rnull_any _).mono ?_); rintro e X1 ⟨rfl, hg1⟩))
  refine wp_forget (fun W => Blk W X1.heap.size 61 #[.int .i64 1, .int .i64 0, .string es] ∧ Grow X1 W) ⟨Blk.new _ _ _, (Grow.refl X1).al _⟩ ?_
  have hl7 : g6 < X1.heap.size := (BX.out.2.2.grow hg1).lt
  generalize X1.heap.size = g7 at *
  rintro X2 ⟨B7, G2⟩
  have HL7 := Lib.hid hl7
  have B7 := Lib.hid B7
  have GX2 := hg1.trans G2
  have G := G.trans GX2
  clear hl7 hg1 G2
  go_wp2
  go_loopw [5, 8, 16] (fun n kn i wr => ∃ k : Nat, k ≤ xs.length ∧ i = .int .i64 k ∧ n = .int .i64 (asOf a ((xs.take k).map zOf)).n ∧ kn = .bool (asOf a ((xs.take k).map zOf)).known ∧ RgSt wr g6 g7 a (asOf a ((xs.take k).map zOf)) k 87 ∧ Blk wr g2 68 #[.int .i64 a.k, .int .i64 a.x.kind, .int .i64 a.x.v.k, .int .i64 a.x.v.n, .string a.x.v.s, .int .i64 a.x.col, .slice a.x.A a.x.n a.x.cap] ∧ Blk wr g4 61 #[.int .i64 0, .int .i64 0, .string ⟨#[]⟩] ∧ Grow w wr) (fun _ _ i _ => xs.length - (intOf i).toNat)
  case atStart =>
    obtain ⟨b2, b4, b6⟩ := BX.out
    exact ⟨0, Nat.zero_le _, rfl, rfl, rfl, ⟨⟨[0, 0, 0, 0, 0, 0, 0, 0, 0], rfl, b6.grow GX2, rfl, fun d hd => by simp at hd; omega⟩, ⟨⟨1, 0, es⟩, B7.out, fun _ => rfl, fun h => by simp [asOf, as0] at h⟩⟩, b2.grow GX2, b4.grow GX2, G⟩
  case round =>
    obtain ⟨k, hk, rfl, rfl, rfl, hst, hb2, hb4, hg⟩ := hrel
    have St := Lib.hid hst
    have B24 := Lib.hid (And.intro hb2 hb4)
    have ok := HO.out.ok k
    obtain ⟨⟨n1, n2⟩, rlo, rhi, hkn⟩ := as_facts a _ ok
    have lk : ((xs.take k).map zOf).length = k := by simp; omega
    rw [lk] at n1 n2
    clear hst ok lk rlo rhi hkn
    by_cases hlt : k < xs.length
    · obtain ⟨x, hxk⟩ : ∃ x, xs[k]? = some x := ⟨_, List.getElem?_eq_getElem hlt⟩
      obtain ⟨gx, ox, rfl, c1, c2, hxv⟩ := (HZ.out.grow hg) k x hxk
      have hm := List.mem_of_getElem? hxk
      have hw := HO.out.w x hm
      have e1 := take_snz hxk
      obtain ⟨st, hst⟩ : ∃ st, asOf a ((xs.take k).map zOf) = st := ⟨_, rfl⟩
      have es1 : asOf a ((xs.take (k + 1)).map zOf) = asStep a st (zOf x) := by rw [e1, asOf_snoc, hst]
      have ES := Lib.hid es1
      rw [hst] at St n1 n2 ⊢
      clear e1 es1 hst hxk
      go_upto_region 8 with fail
      refine wp_forget (fun Z => Blk Z wr.heap.size 42 #[.slice x.A x.row.length x.cap, .int .i64 x.w] ∧ Grow wr Z) ⟨Blk.new _ _ _, (Grow.refl wr).al _⟩ ?_
      have hn11 : wr.heap.size ≠ g6 ∧ wr.heap.size ≠ g7 ∧ wr.heap.size ≠ g2 ∧ wr.heap.size ≠ g4 := by
        obtain ⟨⟨_, _, q6, _⟩, ⟨_, q7, _⟩⟩ := St.out
        have := q6.lt; have := q7.lt; have := B24.out.1.lt; have := B24.out.2.lt
        omega
      generalize wr.heap.size = g11 at *
      rintro Z ⟨Bz, Gz⟩
      have N11 := Lib.hid hn11
      have BZ := Lib.hid Bz
      obtain ⟨bz, fz⟩ := Bz.rules
      obtain ⟨b2, f2⟩ := (hb2.grow Gz).rules
      have wn : IntKind.i64.wrap (st.n + x.w) = st.n + x.w := by rw [IntKind.wrap_i64]; omega
      clear c1 c2 Bz hn11 hb2 hb4
      by_cases h1 : a.k = 1
      · have d1 : (a.k == 1) = true := by simpa using h1
        have es2 : asStep a st (zOf x) = { st with n := st.n + x.w } := by unfold asStep; rw [if_pos h1]; rfl
        have ES2 := Lib.hid (ES.out.trans es2)
        clear es2
        go_wp2
        go_roundw
        case rel => exact ⟨k + 1, by omega, by go_num, by rw [ES2.out], by rw [ES2.out], (by rw [ES2.out]; exact (St.out.grow Gz).same rfl rfl rfl rfl), B24.out.1.grow Gz, B24.out.2.grow Gz, hg.trans Gz⟩
        case measure => simp [intOf]; omega
      · have d1 : (a.k == 1) = false := by simpa using h1
        have hre := HO.out.re h1 x hm
        have hrv := HO.out.rv x hm
        have hrl := HO.out.rl x hm
        obtain ⟨T, hT⟩ := HW.out h1
        have vr := rv_of x.row hrv a.x hre
        have vb := num_of vr (of_isbare x.row a.x)
        have co := fun W (h : Grow wr W) => rof_any cols x.row x.A x.cap (by omega) (HF.out x hm) a.x hT wr W (HX.out.grow hg) hxv h
        have es2 : asStep a st (zOf x) = if (ofE x.row a.x).k = 1 then st else ⟨st.n + x.w, st.s + x.w * (ofE x.row a.x).n, true, if st.known = false ∨ ordV (ofE x.row a.x) st.lo < 0 then ofE x.row a.x else st.lo, if st.known = false ∨ 0 < ordV (ofE x.row a.x) st.hi then ofE x.row a.x else st.hi⟩ := by unfold asStep; rw [if_neg h1]; rfl
        have ES2 := Lib.hid (ES.out.trans es2)
        obtain ⟨v, hv⟩ : ∃ v, ofE x.row a.x = v := ⟨_, rfl⟩
        rw [hv] at vr vb co ES2
        have VR := Lib.hid vr
        unfold V.val Go.Proofs.YtigpbihjjadmlaaGreat.E.val at co
        clear es2 hre hrv hv vr hxv hT
        go_upto_region 11 with (go_at_call 27; ((with_reducible refine (co _ Gz).mono ?_); rintro e X2 ⟨rfl, hgo⟩))
        refine wp_forget (fun W => Blk W X2.heap.size 61 #[.int .i64 v.k, .int .i64 v.n, .string v.s] ∧ Grow Z W) ⟨Blk.new _ _ _, hgo.al _⟩ ?_
        have hg12 : Z.heap.size ≤ X2.heap.size := hgo.size
        generalize X2.heap.size = g12 at *
        clear hgo
        rintro X3 ⟨B12, G3⟩
        have B12 := Lib.hid B12
        obtain ⟨b12, f12⟩ := B12.out.rules
        clear bz fz b2 f2 co
        by_cases hk1 : v.k = 1
        · have d2 : (v.k == 1) = true := by simpa using hk1
          have e3 : asOf a ((xs.take (k + 1)).map zOf) = st := by rw [ES2.out, if_pos hk1]
          have E3 := Lib.hid e3
          clear e3
          go_wp2
          go_roundw
          case rel => exact ⟨k + 1, by omega, by go_num, by rw [E3.out], by rw [E3.out], (by rw [E3.out]; exact ((St.out.grow (Gz.trans G3)).same rfl rfl rfl rfl)), B24.out.1.grow (Gz.trans G3), B24.out.2.grow (Gz.trans G3), hg.trans (Gz.trans G3)⟩
          case measure => simp [intOf]; omega
        · have d2 : (v.k == 1) = false := by simpa using hk1
          obtain ⟨⟨ds, l9, B6, e6, bd⟩, ⟨L, Bb, eb⟩⟩ := St.out.grow (Gz.trans G3)
          have EB := Lib.hid eb
          clear eb
          have BZ3 := BZ.out.grow G3
          have B23 := B24.out.1.grow (Gz.trans G3)
          have B43 := B24.out.2.grow (Gz.trans G3)
          obtain ⟨l2, l4, l6, l7, l11⟩ : g2 < Z.heap.size ∧ g4 < Z.heap.size ∧ g6 < Z.heap.size ∧ g7 < Z.heap.size ∧ g11 < Z.heap.size := by
            obtain ⟨⟨_, _, q6, _⟩, ⟨_, q7, _⟩⟩ := St.out.grow Gz
            exact ⟨(B24.out.1.grow Gz).lt, (B24.out.2.grow Gz).lt, q6.lt, q7.lt, BZ.out.lt⟩
          have o11 := N11.out
          obtain ⟨m24, m46⟩ := HG.out.2
          have m67 := HL7.out
          have ct := sput_any ds v.n x.w (999000000 * (k : Int)) g6 X3 l9 B6 (by omega) bd vb hw
          have bd2 := putK_bd (ds := ds) (n := v.n) (t := x.w) (K := 999000000 * (k : Int)) (by omega) bd hw 9
          have sm := putK_sum ds v.n x.w 9 (by omega)
          rw [(itd_bd v.n vb).2, Int.zero_mul, Int.mul_zero, Int.add_zero, e6] at sm
          have l92 := putK_len ds v.n x.w 9
          obtain ⟨dt, hdt⟩ : ∃ dt, putK ds v.n x.w 9 = dt := ⟨_, rfl⟩
          rw [hdt] at ct bd2 sm l92
          have bd3 : BdD (999000000 * ((k + 1 : Nat) : Int)) dt := fun d hd => by have := bd2 d hd; omega
          have S6 := Lib.hid (And.intro (l92.trans l9) (And.intro sm bd3))
          clear hdt bd2 sm l92 bd3 e6 bd
          obtain ⟨bz3, fz3⟩ := BZ3.rules
          go_upto_region 14 with (go_at_call 51; ((with_reducible refine ct.mono ?_); rintro e X4 ⟨rfl, B64, gx4⟩))
          have G4 : Grow w X4 := GX.base ((hg.trans Gz).trans G3) (by have := HG.out.1; omega) gx4
          have C := Lib.hid (show Blk X4 g6 87 (dt.map (Value.int .i64)).toArray ∧ Blk X4 g2 68 #[.int .i64 a.k, .int .i64 a.x.kind, .int .i64 a.x.v.k, .int .i64 a.x.v.n, .string a.x.v.s, .int .i64 a.x.col, .slice a.x.A a.x.n a.x.cap] ∧ Blk X4 g4 61 #[.int .i64 0, .int .i64 0, .string ⟨#[]⟩] from ⟨B64, gx4.blk (by omega) B23, gx4.blk (by omega) B43⟩)
          have D := Lib.hid (show Blk X4 g12 61 #[.int .i64 v.k, .int .i64 v.n, .string v.s] ∧ Blk X4 g7 61 #[.int .i64 L.k, .int .i64 L.n, .string L.s] from ⟨gx4.blk (by omega) B12.out, gx4.blk (by omega) Bb⟩)
          have o7 : g12 ≠ g7 := by omega
          have o4 : g4 ≠ g7 := by omega
          have o2 : g2 ≠ g7 := by omega
          have o6 : g6 ≠ g7 := by omega
          have SZ := Lib.hid (show w.heap.size ≤ g7 by have := HG.out.1; omega)
          clear gx4 B64 B6 Bb BZ3 B43 B23 ct bz3 fz3 b12 f12 l2 l4 l6 l7 l11 o11 m24 m46 m67
          obtain ⟨⟨b12, f12⟩, ⟨b7, f7⟩⟩ := And.intro D.out.1.rules D.out.2.rules
          have cv := fun W => order_any v L W
          unfold V.val at cv
          obtain ⟨r, hr⟩ : ∃ r, ordV v L = r := ⟨_, rfl⟩
          rw [hr] at cv
          have Hr := Lib.hid hr
          clear hr
          go_upto_region 15 with (go_at_call 49; (with_reducible refine (cv _).mono ?_); rintro e X5 ⟨rfl, hg5⟩)
          have G5 := G4.trans hg5
          have C := Lib.hid (show Blk X5 g6 87 (dt.map (Value.int .i64)).toArray ∧ Blk X5 g2 68 #[.int .i64 a.k, .int .i64 a.x.kind, .int .i64 a.x.v.k, .int .i64 a.x.v.n, .string a.x.v.s, .int .i64 a.x.col, .slice a.x.A a.x.n a.x.cap] ∧ Blk X5 g4 61 #[.int .i64 0, .int .i64 0, .string ⟨#[]⟩] from ⟨C.out.1.grow hg5, C.out.2.1.grow hg5, C.out.2.2.grow hg5⟩)
          have D := Lib.hid (show Blk X5 g12 61 #[.int .i64 v.k, .int .i64 v.n, .string v.s] ∧ Blk X5 g7 61 #[.int .i64 L.k, .int .i64 L.n, .string L.s] from ⟨D.out.1.grow hg5, D.out.2.grow hg5⟩)
          clear hg5 b12 f12 b7 f7 cv G4
          obtain ⟨⟨b12, f12⟩, ⟨b7, f7⟩, ⟨b2, f2⟩⟩ := And.intro D.out.1.rules (And.intro D.out.2.rules C.out.2.1.rules)
          cases hkn : st.known with
          | false =>
            have e3 : ∃ lo hi, asOf a ((xs.take (k + 1)).map zOf) = ⟨st.n + x.w, st.s + x.w * v.n, true, lo, hi⟩ ∧ (a.k = 4 → v = lo) ∧ (a.k = 5 → v = hi) := ⟨_, _, by rw [ES2.out, if_neg hk1], fun _ => by rw [if_pos (.inl hkn)], fun _ => by rw [if_pos (.inl hkn)]⟩
            obtain ⟨lo, hi, e3, e4⟩ := e3
            have E3 := Lib.hid e3
            have E4 := Lib.hid e4
            clear e3 e4
            go_upto_region 17 with fail
            refine wp_forget (fun W => (Blk W g6 87 (dt.map (Value.int .i64)).toArray ∧ Blk W g2 68 #[.int .i64 a.k, .int .i64 a.x.kind, .int .i64 a.x.v.k, .int .i64 a.x.v.n, .string a.x.v.s, .int .i64 a.x.col, .slice a.x.A a.x.n a.x.cap] ∧ Blk W g4 61 #[.int .i64 0, .int .i64 0, .string ⟨#[]⟩]) ∧ Blk W g7 61 #[.int .i64 v.k, .int .i64 v.n, .string v.s] ∧ Grow w W) ⟨⟨bfar3 C.out.1 o6 _ _ _, bfar3 C.out.2.1 o2 _ _ _, bfar3 C.out.2.2 o4 _ _ _⟩, bput3 D.out.2 _ _ _, gput3 G5 SZ.out _ _ _⟩ ?_
            clear b12 f12 b7 f7 b2 f2
            rintro X8 ⟨⟨c86, c82, c84⟩, d87, G8⟩
            have F8 := Lib.hid (show RgSt X8 g6 g7 a (asOf a ((xs.take (k + 1)).map zOf)) (k + 1) 87 by rw [E3.out]; exact ⟨⟨dt, S6.out.1, c86, S6.out.2.1, S6.out.2.2⟩, ⟨v, d87, fun h => by simp at h, fun _ => E4.out⟩⟩)
            have C8 := Lib.hid (And.intro c82 c84)
            clear c86 c82 c84 d87
            go_wp2
            go_roundw
            case rel => exact ⟨k + 1, by omega, by go_num, by rw [E3.out], by rw [E3.out], F8.out, C8.out.1, C8.out.2, G8⟩
            case measure => simp [intOf]; omega
          | true =>
            have n0 : ∀ P : Prop, (st.known = false ∨ P) ↔ P := fun P => by rw [hkn]; simp
            have NN := Lib.hid n0
            have EB2 := Lib.hid (EB.out.2 hkn)
            clear n0
            by_cases h4 : a.k = 4
            · have d4 : (a.k == 4) = true := by simpa using h4
              have d5 : (a.k == 5) = false := by simp; omega
              by_cases w1 : r < 0
              · have d6 : decide (r < 0) = true := decide_eq_true w1
                have e3 : ∃ lo hi, asOf a ((xs.take (k + 1)).map zOf) = ⟨st.n + x.w, st.s + x.w * v.n, true, lo, hi⟩ ∧ (a.k = 4 → v = lo) ∧ (a.k = 5 → v = hi) := ⟨_, _, by rw [ES2.out, if_neg hk1], fun _ => by rw [if_pos ((NN.out _).2 (by rw [← EB2.out.1 h4, Hr.out]; exact w1))], fun h => by omega⟩
                obtain ⟨lo, hi, e3, e4⟩ := e3
                have E3 := Lib.hid e3
                have E4 := Lib.hid e4
                clear e3 e4
                go_upto_region 17 with fail
                refine wp_forget (fun W => (Blk W g6 87 (dt.map (Value.int .i64)).toArray ∧ Blk W g2 68 #[.int .i64 a.k, .int .i64 a.x.kind, .int .i64 a.x.v.k, .int .i64 a.x.v.n, .string a.x.v.s, .int .i64 a.x.col, .slice a.x.A a.x.n a.x.cap] ∧ Blk W g4 61 #[.int .i64 0, .int .i64 0, .string ⟨#[]⟩]) ∧ Blk W g7 61 #[.int .i64 v.k, .int .i64 v.n, .string v.s] ∧ Grow w W) ⟨⟨bfar3 C.out.1 o6 _ _ _, bfar3 C.out.2.1 o2 _ _ _, bfar3 C.out.2.2 o4 _ _ _⟩, bput3 D.out.2 _ _ _, gput3 G5 SZ.out _ _ _⟩ ?_
                clear b12 f12 b7 f7 b2 f2
                rintro X8 ⟨⟨c86, c82, c84⟩, d87, G8⟩
                have F8 := Lib.hid (show RgSt X8 g6 g7 a (asOf a ((xs.take (k + 1)).map zOf)) (k + 1) 87 by rw [E3.out]; exact ⟨⟨dt, S6.out.1, c86, S6.out.2.1, S6.out.2.2⟩, ⟨v, d87, fun h => by simp at h, fun _ => E4.out⟩⟩)
                have C8 := Lib.hid (And.intro c82 c84)
                clear c86 c82 c84 d87
                go_wp2
                go_roundw
                case rel => exact ⟨k + 1, by omega, by go_num, by rw [E3.out], by rw [E3.out], F8.out, C8.out.1, C8.out.2, G8⟩
                case measure => simp [intOf]; omega
              · have d6 : decide (r < 0) = false := decide_eq_false w1
                have e3 : ∃ lo hi, asOf a ((xs.take (k + 1)).map zOf) = ⟨st.n + x.w, st.s + x.w * v.n, true, lo, hi⟩ ∧ (a.k = 4 → L = lo) ∧ (a.k = 5 → L = hi) := ⟨_, _, by rw [ES2.out, if_neg hk1], fun _ => by rw [if_neg (fun h => w1 (by have := (NN.out _).1 h; rw [← EB2.out.1 h4, Hr.out] at this; exact this))]; exact EB2.out.1 h4, fun h => by omega⟩
                obtain ⟨lo, hi, e3, e4⟩ := e3
                have E3 := Lib.hid e3
                have E4 := Lib.hid e4
                clear e3 e4
                go_upto_region 17 with fail
                refine wp_forget (fun W => (Blk W g6 87 (dt.map (Value.int .i64)).toArray ∧ Blk W g2 68 #[.int .i64 a.k, .int .i64 a.x.kind, .int .i64 a.x.v.k, .int .i64 a.x.v.n, .string a.x.v.s, .int .i64 a.x.col, .slice a.x.A a.x.n a.x.cap] ∧ Blk W g4 61 #[.int .i64 0, .int .i64 0, .string ⟨#[]⟩]) ∧ Blk W g7 61 #[.int .i64 L.k, .int .i64 L.n, .string L.s] ∧ Grow w W) ⟨C.out, D.out.2, G5⟩ ?_
                clear b12 f12 b7 f7 b2 f2
                rintro X8 ⟨⟨c86, c82, c84⟩, d87, G8⟩
                have F8 := Lib.hid (show RgSt X8 g6 g7 a (asOf a ((xs.take (k + 1)).map zOf)) (k + 1) 87 by rw [E3.out]; exact ⟨⟨dt, S6.out.1, c86, S6.out.2.1, S6.out.2.2⟩, ⟨L, d87, fun h => by simp at h, fun _ => E4.out⟩⟩)
                have C8 := Lib.hid (And.intro c82 c84)
                clear c86 c82 c84 d87
                go_wp2
                go_roundw
                case rel => exact ⟨k + 1, by omega, by go_num, by rw [E3.out], by rw [E3.out], F8.out, C8.out.1, C8.out.2, G8⟩
                case measure => simp [intOf]; omega
            · have d4 : (a.k == 4) = false := by simpa using h4
              by_cases h5 : a.k = 5
              · have d5 : (a.k == 5) = true := by simpa using h5
                by_cases w1 : 0 < r
                · have d6 : decide (0 < r) = true := decide_eq_true w1
                  have e3 : ∃ lo hi, asOf a ((xs.take (k + 1)).map zOf) = ⟨st.n + x.w, st.s + x.w * v.n, true, lo, hi⟩ ∧ (a.k = 4 → v = lo) ∧ (a.k = 5 → v = hi) := ⟨_, _, by rw [ES2.out, if_neg hk1], fun h => by omega, fun _ => by rw [if_pos ((NN.out _).2 (by rw [← EB2.out.2 h5, Hr.out]; exact w1))]⟩
                  obtain ⟨lo, hi, e3, e4⟩ := e3
                  have E3 := Lib.hid e3
                  have E4 := Lib.hid e4
                  clear e3 e4
                  go_upto_region 17 with fail
                  refine wp_forget (fun W => (Blk W g6 87 (dt.map (Value.int .i64)).toArray ∧ Blk W g2 68 #[.int .i64 a.k, .int .i64 a.x.kind, .int .i64 a.x.v.k, .int .i64 a.x.v.n, .string a.x.v.s, .int .i64 a.x.col, .slice a.x.A a.x.n a.x.cap] ∧ Blk W g4 61 #[.int .i64 0, .int .i64 0, .string ⟨#[]⟩]) ∧ Blk W g7 61 #[.int .i64 v.k, .int .i64 v.n, .string v.s] ∧ Grow w W) ⟨⟨bfar3 C.out.1 o6 _ _ _, bfar3 C.out.2.1 o2 _ _ _, bfar3 C.out.2.2 o4 _ _ _⟩, bput3 D.out.2 _ _ _, gput3 G5 SZ.out _ _ _⟩ ?_
                  clear b12 f12 b7 f7 b2 f2
                  rintro X8 ⟨⟨c86, c82, c84⟩, d87, G8⟩
                  have F8 := Lib.hid (show RgSt X8 g6 g7 a (asOf a ((xs.take (k + 1)).map zOf)) (k + 1) 87 by rw [E3.out]; exact ⟨⟨dt, S6.out.1, c86, S6.out.2.1, S6.out.2.2⟩, ⟨v, d87, fun h => by simp at h, fun _ => E4.out⟩⟩)
                  have C8 := Lib.hid (And.intro c82 c84)
                  clear c86 c82 c84 d87
                  go_wp2
                  go_roundw
                  case rel => exact ⟨k + 1, by omega, by go_num, by rw [E3.out], by rw [E3.out], F8.out, C8.out.1, C8.out.2, G8⟩
                  case measure => simp [intOf]; omega
                · have d6 : decide (0 < r) = false := decide_eq_false w1
                  have e3 : ∃ lo hi, asOf a ((xs.take (k + 1)).map zOf) = ⟨st.n + x.w, st.s + x.w * v.n, true, lo, hi⟩ ∧ (a.k = 4 → L = lo) ∧ (a.k = 5 → L = hi) := ⟨_, _, by rw [ES2.out, if_neg hk1], fun h => by omega, fun _ => by rw [if_neg (fun h => w1 (by have := (NN.out _).1 h; rw [← EB2.out.2 h5, Hr.out] at this; exact this))]; exact EB2.out.2 h5⟩
                  obtain ⟨lo, hi, e3, e4⟩ := e3
                  have E3 := Lib.hid e3
                  have E4 := Lib.hid e4
                  clear e3 e4
                  go_upto_region 17 with fail
                  refine wp_forget (fun W => (Blk W g6 87 (dt.map (Value.int .i64)).toArray ∧ Blk W g2 68 #[.int .i64 a.k, .int .i64 a.x.kind, .int .i64 a.x.v.k, .int .i64 a.x.v.n, .string a.x.v.s, .int .i64 a.x.col, .slice a.x.A a.x.n a.x.cap] ∧ Blk W g4 61 #[.int .i64 0, .int .i64 0, .string ⟨#[]⟩]) ∧ Blk W g7 61 #[.int .i64 L.k, .int .i64 L.n, .string L.s] ∧ Grow w W) ⟨C.out, D.out.2, G5⟩ ?_
                  clear b12 f12 b7 f7 b2 f2
                  rintro X8 ⟨⟨c86, c82, c84⟩, d87, G8⟩
                  have F8 := Lib.hid (show RgSt X8 g6 g7 a (asOf a ((xs.take (k + 1)).map zOf)) (k + 1) 87 by rw [E3.out]; exact ⟨⟨dt, S6.out.1, c86, S6.out.2.1, S6.out.2.2⟩, ⟨L, d87, fun h => by simp at h, fun _ => E4.out⟩⟩)
                  have C8 := Lib.hid (And.intro c82 c84)
                  clear c86 c82 c84 d87
                  go_wp2
                  go_roundw
                  case rel => exact ⟨k + 1, by omega, by go_num, by rw [E3.out], by rw [E3.out], F8.out, C8.out.1, C8.out.2, G8⟩
                  case measure => simp [intOf]; omega
              · have d5 : (a.k == 5) = false := by simpa using h5
                have e3 : ∃ lo hi, asOf a ((xs.take (k + 1)).map zOf) = ⟨st.n + x.w, st.s + x.w * v.n, true, lo, hi⟩ ∧ (a.k = 4 → L = lo) ∧ (a.k = 5 → L = hi) := ⟨_, _, by rw [ES2.out, if_neg hk1], fun h => by omega, fun h => by omega⟩
                obtain ⟨lo, hi, e3, e4⟩ := e3
                have E3 := Lib.hid e3
                have E4 := Lib.hid e4
                clear e3 e4
                go_upto_region 17 with fail
                refine wp_forget (fun W => (Blk W g6 87 (dt.map (Value.int .i64)).toArray ∧ Blk W g2 68 #[.int .i64 a.k, .int .i64 a.x.kind, .int .i64 a.x.v.k, .int .i64 a.x.v.n, .string a.x.v.s, .int .i64 a.x.col, .slice a.x.A a.x.n a.x.cap] ∧ Blk W g4 61 #[.int .i64 0, .int .i64 0, .string ⟨#[]⟩]) ∧ Blk W g7 61 #[.int .i64 L.k, .int .i64 L.n, .string L.s] ∧ Grow w W) ⟨C.out, D.out.2, G5⟩ ?_
                clear b12 f12 b7 f7 b2 f2
                rintro X8 ⟨⟨c86, c82, c84⟩, d87, G8⟩
                have F8 := Lib.hid (show RgSt X8 g6 g7 a (asOf a ((xs.take (k + 1)).map zOf)) (k + 1) 87 by rw [E3.out]; exact ⟨⟨dt, S6.out.1, c86, S6.out.2.1, S6.out.2.2⟩, ⟨L, d87, fun h => by simp at h, fun _ => E4.out⟩⟩)
                have C8 := Lib.hid (And.intro c82 c84)
                clear c86 c82 c84 d87
                go_wp2
                go_roundw
                case rel => exact ⟨k + 1, by omega, by go_num, by rw [E3.out], by rw [E3.out], F8.out, C8.out.1, C8.out.2, G8⟩
                case measure => simp [intOf]; omega
    · have et : (xs.take k).map zOf = xs.map zOf := by rw [show k = xs.length by omega, List.take_length]
      obtain ⟨st, hst⟩ : ∃ st, asOf a (xs.map zOf) = st := ⟨_, rfl⟩
      rw [et, hst] at St n1 n2 ⊢
      have eR : R = if a.k ≤ 2 then intV st.n else if st.known = false then nullV' else if a.k = 3 then intV st.s else if a.k = 4 then st.lo else st.hi := by rw [← HR.out]; unfold aggV; rw [hst]
      have ER := Lib.hid eR
      obtain ⟨b2, f2⟩ := hb2.rules
      have m6 := HG.out.2.2
      have sz : w.heap.size ≤ g4 := by have := HG.out.2.1; have := HG.out.1; omega
      have SZ := Lib.hid sz
      clear eR hst et sz hb2 hb4
      obtain ⟨⟨ds, l9, B6, e6, bd⟩, ⟨L, Bb, eb⟩⟩ := St.out
      have EB := Lib.hid eb
      clear eb
      obtain ⟨b4, f4⟩ := B24.out.2.rules
      by_cases h1 : a.k = 1
      · have d1 : (a.k == 1) = true := by simpa using h1
        have e : R = intV st.n := by rw [ER.out, if_pos (by omega)]
        subst e
        go_wp2_with (go_at_call 52; ((with_reducible refine (number_any _ _).mono ?_); rintro e w2 ⟨rfl, hg2⟩; obtain ⟨b4, f4⟩ := (B24.out.2.grow hg2).rules))
        refine bodyPost_ret (by simp [results, Tryz.results26, go_sem, b4, f4] <;> rfl) rfl ?_
        exact ⟨rfl, gput3 (hg.trans hg2) SZ.out _ _ _⟩
      · have d1 : (a.k == 1) = false := by simpa using h1
        by_cases h2 : a.k = 2
        · have d2 : (a.k == 2) = true := by simpa using h2
          have e : R = intV st.n := by rw [ER.out, if_pos (by omega)]
          subst e
          go_wp2_with (go_at_call 52; ((with_reducible refine (number_any _ _).mono ?_); rintro e w2 ⟨rfl, hg2⟩; obtain ⟨b4, f4⟩ := (B24.out.2.grow hg2).rules))
          refine bodyPost_ret (by simp [results, Tryz.results26, go_sem, b4, f4] <;> rfl) rfl ?_
          exact ⟨rfl, gput3 (hg.trans hg2) SZ.out _ _ _⟩
        · have d2 : (a.k == 2) = false := by simpa using h2
          cases hkn : st.known with
          | false =>
            have e : R = L := by rw [ER.out, if_neg (by omega), if_pos hkn, EB.out.1 hkn]
            subst e
            obtain ⟨b7, f7⟩ := Bb.rules
            clear B6 Bb
            cases h3 : (a.k == 3)
            · go_wp2
              refine bodyPost_ret (by simp [results, Tryz.results26, go_sem, b4, f4] <;> rfl) rfl ?_
              exact ⟨rfl, gput3 hg SZ.out _ _ _⟩
            · go_wp2
              refine bodyPost_ret (by simp [results, Tryz.results26, go_sem, b4, f4] <;> rfl) rfl ?_
              exact ⟨rfl, gput3 hg SZ.out _ _ _⟩
          | true =>
            by_cases h3 : a.k = 3
            · have d3 : (a.k == 3) = true := by simpa using h3
              have e : R = intV st.s := by rw [ER.out, if_neg (by omega), if_neg (by rw [hkn]; simp), if_pos h3]
              subst e
              have ct := sval_any ds (999000000 * (k : Int)) g6 wr l9 B6 (by omega) bd
              rw [e6] at ct
              clear B6 Bb bd e6
              go_wp2_with (go_at_call 53; ((with_reducible refine ct.mono ?_); rintro e w2 ⟨rfl, gx2⟩; have G2 : Grow w w2 := GX.base hg (by have := SZ.out; omega) gx2; obtain ⟨b4, f4⟩ := (gx2.blk (by omega) B24.out.2).rules))
              refine bodyPost_ret (by simp [results, Tryz.results26, go_sem, b4, f4] <;> rfl) rfl ?_
              exact ⟨rfl, gput3 G2 SZ.out _ _ _⟩
            · have d3 : (a.k == 3) = false := by simpa using h3
              have e : R = L := by
                rw [ER.out, if_neg (by omega), if_neg (by rw [hkn]; simp), if_neg h3]
                split
                · exact ((EB.out.2 hkn).1 (by assumption)).symm
                · exact ((EB.out.2 hkn).2 (by omega)).symm
              subst e
              obtain ⟨b7, f7⟩ := Bb.rules
              clear B6 Bb
              go_wp2
              refine bodyPost_ret (by simp [results, Tryz.results26, go_sem, b4, f4] <;> rfl) rfl ?_
              exact ⟨rfl, gput3 hg SZ.out _ _ _⟩
end Go.Proofs.YtigpbihjjadmlaaGreat
