/-
  A text of the proof of the law OpsLinear; no condition beside the row's own.
-/
import Derived.Test.YtlgkenhemflmgaaGR
/-
  The law OpsOnce, walked.
-/
namespace Go.Proofs.Ytlgkenhemflmgaa
open Go.RowKit Go.Calm
set_option linter.unusedSimpArgs false
set_option linter.unusedVariables false

abbrev exCells (x : E) : Array Value := #[.int .i64 x.kind, .int .i64 x.v.k, .int .i64 x.v.n, .string x.v.s, .int .i64 x.col, .slice x.A x.n x.cap]
abbrev exTwo (x y : E) : Array Value := #[.int .i64 x.kind, .int .i64 x.v.k, .int .i64 x.v.n, .string x.v.s, .int .i64 x.col, .slice x.A x.n x.cap, .int .i64 y.kind, .int .i64 y.v.k, .int .i64 y.v.n, .string y.v.s, .int .i64 y.col, .slice y.A y.n y.cap]
set_option maxRecDepth 100000 in
set_option maxHeartbeats 16000000 in
theorem law_oonce (cols : List Int) (Ac : Option Addr) (cc : Nat) (x y : E) (xs : List I) (A : Option Addr) (c : Nat) (w : World) (hlen : cols.length ≤ 9223372036854775807) (hc : ISl w Ac cols) (hx : EX w x) (hy : EX w y) (ha : In w ⟨A, xs, c⟩) :
    Calls Try.prog 5 #[.slice Ac cols.length cc, x.val, y.val, .slice A xs.length c] w fun en w' => en = .returned (.bool true) ∧ Grow w w' := by
  have Ha := Lib.hid ha
  have Hc := Lib.hid hc
  have Hx := Lib.hid hx
  have Hy := Lib.hid hy
  have cf := fun (e : E) (s : S) W (h : Grow w W) (he : EX W e) (hs : In W s) => filter_any cols Ac cc e s.xs s.A s.cap W hlen (Hc.out.grow h) he hs
  clear hc hx hy ha
  obtain ⟨a, ea, hfa⟩ : ∃ a ea, filterZ cols x (xs.map zOf) = (a, ea) := ⟨_, _, rfl⟩
  obtain ⟨b, eb, hfb⟩ : ∃ b eb, filterZ cols y a = (b, eb) := ⟨_, _, rfl⟩
  obtain ⟨d, ed, hfc⟩ : ∃ d ed, filterZ cols x a = (d, ed) := ⟨_, _, rfl⟩
  have sa := Lib.hid (show smlZ a by have := filter_sml cols x (xs.map zOf); rw [hfa] at this; exact this)
  have sb := Lib.hid (show smlZ b by have := filter_sml cols y a; rw [hfb] at this; exact this)
  have Fa := Lib.hid hfa
  have Fb := Lib.hid hfb
  have Fc := Lib.hid hfc
  clear hfa hfb hfc
  unfold E.val at *
  go_enter Try.func5, Try.ntmps5
  go_upto_region 1 with fail
  refine wp_forget (fun X => Blk X w.heap.size 27 (exCells x) ∧ Blk X (w.heap.size + 1) 27 (exCells y) ∧ Grow w X) ⟨(Blk.new _ _ _).grow ((Grow.refl _).al _), Blk.new' _ _ _ (by simp), ((Grow.refl _).al _).al _⟩ ?_
  generalize w.heap.size + 1 = g2
  generalize w.heap.size = g1
  rintro X ⟨B1, B2, G⟩
  go_upto_region 3 with (go_at_call 17; ((with_reducible refine (alive4 _).mono ?_); rintro e w2 ⟨rfl, hg2⟩))
  have G2 := G.trans hg2
  obtain ⟨bx, fx⟩ := (B1.grow hg2).rules
  have c1 := cf x ⟨A, xs, c⟩ w2 G2 (Hx.out.grow G2) (Ha.out.grow G2)
  rw [show (S.mk A xs c).xs.map zOf = xs.map zOf from rfl, Fa.out] at c1
  go_upto_region 4 with (go_at_call 18; ((with_reducible refine c1.mono ?_); rintro e w3 ⟨F, as1, ca, rfl, hz3, hm3, hk3, hg3⟩))
  have I3 := Lib.hid (In.sml hz3 hk3 (by rw [hm3]; exact sa.out))
  have G3 := G2.trans hg3
  have M3 := Lib.hid (show as1.map zOf = a from hm3)
  clear hz3 hk3 hm3 bx fx c1
  obtain ⟨bx, fx⟩ := (B2.grow (hg2.trans hg3)).rules
  have c1 := cf y ⟨F, as1, ca⟩ w3 G3 (Hy.out.grow G3) I3.out
  rw [show (S.mk F as1 ca).xs.map zOf = a from M3.out, Fb.out] at c1
  go_upto_region 5 with (go_at_call 18; ((with_reducible refine c1.mono ?_); rintro e w4 ⟨H, bs, cb, rfl, hz4, hm4, hk4, hg4⟩))
  have G4 := G3.trans hg4
  have Z4 := Lib.hid hz4
  have M4 := Lib.hid (show bs.map zOf = b from hm4)
  clear hz4 hk4 hm4 bx fx c1
  obtain ⟨bx, fx⟩ := (B1.grow (hg2.trans (hg3.trans hg4))).rules
  have c1 := cf x ⟨F, as1, ca⟩ w4 G4 (Hx.out.grow G4) (I3.out.grow hg4)
  rw [show (S.mk F as1 ca).xs.map zOf = a from M3.out, Fc.out] at c1
  go_upto_region 6 with (go_at_call 18; ((with_reducible refine c1.mono ?_); rintro e w5 ⟨K, ds, cd, rfl, hz5, hm5, hk5, hg5⟩))
  have G5 := G4.trans hg5
  have Z5 := Lib.hid hz5
  have M5 := Lib.hid (show ds.map zOf = d from hm5)
  clear hz5 hk5 hm5 bx fx c1
  obtain ⟨bx, fx⟩ := (B1.grow (hg2.trans (hg3.trans (hg4.trans hg5)))).rules
  obtain ⟨bx2, fx2⟩ := (B2.grow (hg2.trans (hg3.trans (hg4.trans hg5)))).rules
  obtain ⟨f, ef, hff⟩ : ∃ f ef, filterZ cols (twoK 4 x y (some ⟨w5.heap.size, 0, none⟩)) (xs.map zOf) = (f, ef) := ⟨_, _, rfl⟩
  have c1 : ∀ W, Grow w5 W → EX W (twoK 4 x y (some ⟨w5.heap.size, 0, none⟩)) → Calls Try.prog 18 #[.slice Ac cols.length cc, .agg #[.int .i64 4, .int .i64 0, .int .i64 0, .string ⟨#[]⟩, .int .i64 0, .slice (some ⟨w5.heap.size, 0, none⟩) 2 2], .slice A xs.length c] W fun en w' => Gives W w' en (f, ef) := fun W h he => by
    have := cf (twoK 4 x y (some ⟨w5.heap.size, 0, none⟩)) ⟨A, xs, c⟩ W (G5.trans h) he (Ha.out.grow (G5.trans h))
    rw [show (S.mk A xs c).xs.map zOf = xs.map zOf from rfl, hff] at this
    exact this
  have hE := fun W (hb0 : Blk W w5.heap.size 27 (exTwo x y)) (h : Grow w W) => ex_two (k := 4) x y hb0 (Hx.out.grow h) (Hy.out.grow h) ⟨by decide, by decide⟩
  have Ff := Lib.hid hff
  clear hff
  go_upto_region 7 with (go_at_call 18; ((with_reducible refine (c1 _ ((Grow.refl _).al _) (hE _ (Blk.new _ _ _) (G5.al _))).mono ?_); rintro e w6 ⟨L, fs, cf2, rfl, hz6, hm6, hk6, hg6⟩))
  have G6 := (G5.al (.cells (exTwo x y) 27)).trans hg6
  have Z6 := Lib.hid hz6
  have M6 := Lib.hid (show fs.map zOf = f from hm6)
  clear hz6 hk6 hm6 bx fx bx2 fx2 c1 hE cf
  by_cases h1 : ea = 0
  · by_cases h2 : eb = 0
    · by_cases h3 : ed = 0
      · by_cases h4 : ef = 0
        · subst h1 h2 h3 h4
          obtain ⟨e1, e2⟩ := once_filter Fa.out Fb.out Fc.out Ff.out
          have s1 := fun W (h : Grow w6 W) => same_true bs fs H L cb cf2 W (Z4.out.grow ((((hg5.al _).trans hg6)).trans h)) (Z6.out.grow h) (by rw [M4.out, M6.out, e1]) (by rw [M4.out]; exact sb.out)
          have s2 := fun W (h : Grow w6 W) => same_true as1 ds F K ca cd W (I3.out.z.grow ((hg4.trans ((hg5.al _).trans hg6)).trans h)) (Z5.out.grow ((((Grow.refl w5).al _).trans hg6).trans h)) (by rw [M3.out, M5.out, e2]) (by rw [M3.out]; exact sa.out)
          go_wp2_with (first
            | (go_at_call 19; ((with_reducible refine (s1 _ (Grow.refl _)).mono ?_); rintro e1 w8 ⟨rfl, hg8⟩))
            | (go_at_call 19; ((with_reducible refine (s2 _ hg8).mono ?_); rintro e1 w9 ⟨rfl, hg9⟩)))
          go_ret
          exact ret_bool (by simp) (G6.trans (hg8.trans hg9))
        · have d4 : (ef != 0) = true := by simpa using h4
          subst h1 h2 h3
          go_wp2
          go_ret
          exact ret_bool (by simp) G6
      · have d3 : (ed != 0) = true := by simpa using h3
        subst h1 h2
        go_wp2
        go_ret
        exact ret_bool (by simp) G6
    · have d2 : (eb != 0) = true := by simpa using h2
      subst h1
      go_wp2
      go_ret
      exact ret_bool (by simp) G6
  · have d1 : (ea != 0) = true := by simpa using h1
    go_wp2
    go_ret
    exact ret_bool (by simp) G6
end Go.Proofs.Ytlgkenhemflmgaa
