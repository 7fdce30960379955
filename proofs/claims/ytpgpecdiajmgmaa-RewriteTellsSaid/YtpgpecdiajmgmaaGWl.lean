/-
  Joined texts of this claim: RfE, RfF, RfG. What each proves its own head says; no condition beside those that each theorem names.
-/
import Derived.Test.YtpgpecdiajmgmaaGWg
import Derived.Test.YtpgpecdiajmgmaaGWh
import Derived.Test.YtpgpecdiajmgmaaGWj
import Derived.Test.YtpgpecdiajmgmaaGWk
import Derived.Test.YtpgpecdiajmgmaaGWdb
namespace Go.Proofs.Ytpgpecdiajmgmaa
open Go.RowKit Go.Calm
set_option linter.unusedSimpArgs false
set_option linter.unusedVariables false

theorem sink_any (ts : List (L2 Int)) (At : Option Addr) (nt : Nat) (p : PL) : SinkC ts At nt p := by
  induction p with
  | leaf => intro S x w _ h; exact absurd h id
  | mk k n y xs ag A m cap kid ih =>
    intro S x w hW hp hx hP hX
    have ih' : ∀ i, i < m → SinkC ts At nt (kid i) := fun i _ => ih i
    by_cases hl : litT x = true
    · exact sink_lit ts At nt k n y xs ag A m cap kid S x w hW hp hx hP hX hl
    · have hl : litT x = false := by simpa using hl
      have kx : k = 1 ∨ k = 2 ∨ k = 3 ∨ k = 4 ∨ k = 5 ∨ k = 6 ∨ k = 7 ∨ k = 8 ∨ k = 9 ∨ k = 10 ∨ k = 11 ∨ k = 12 ∨ k = 13 := by
        have hk0 : 0 ≤ kidsP k := hp.2.1
        unfold kidsP at hk0
        repeat' split at hk0
        all_goals omega
      by_cases h1 : k = 1 ∨ k = 3 ∨ k = 7 ∨ k = 12 ∨ k = 13
      · exact sink_o ts At nt k n y xs ag A m cap kid h1 S x w hW hp hx hP hX hl
      · by_cases h8 : k = 8 ∨ k = 9
        · exact sink_8 ts At nt k n y xs ag A m cap kid h8 ih' S x w hW hp hx hP hX hl
        · by_cases h10 : k = 10 ∨ k = 11
          · exact sink_10 ts At nt k n y xs ag A m cap kid h10 ih' S x w hW hp hx hP hX hl
          · by_cases h5 : k = 5
            · exact sink_5 ts At nt k n y xs ag A m cap kid h5 ih' S x w hW hp hx hP hX hl
            · by_cases h6 : k = 6
              · exact sink_6 ts At nt k n y xs ag A m cap kid h6 ih' S x w hW hp hx hP hX hl
              · by_cases h2 : k = 2
                · exact sink_2 ts At nt k n y xs ag A m cap kid h2 S x w hW hp hx hP hX hl
                · have h4 : k = 4 := by omega
                  cases ca : colsAll (fun c => decide (c < ((colsE (tabs ts) (kid 0)).1.length : Int))) x
                  · cases cb : colsAll (fun c => decide (((colsE (tabs ts) (kid 0)).1.length : Int) ≤ c)) x
                    · exact sink_4n ts At nt k n y xs ag A m cap kid h4 ih' S x w hW hp hx hP hX hl ca cb
                    · exact sink_4r ts At nt k n y xs ag A m cap kid h4 ih' S x w hW hp hx hP hX hl ca cb
                  · exact sink_4l ts At nt k n y xs ag A m cap kid h4 ih' S x w hW hp hx hP hX hl ca
end Go.Proofs.Ytpgpecdiajmgmaa

namespace Go.Proofs.Ytpgpecdiajmgmaa
open Go.RowKit Go.Calm
set_option linter.unusedSimpArgs false
set_option linter.unusedVariables false

def RecC (ts : List (L2 Int)) (At : Option Addr) (nt : Nat) (p : PL) : Prop := ∀ (S : Nat → Prop) (w : World), TbS w ts At → WfP p → PXs S w p →
  Calls Try.prog 28 #[.slice At ts.length nt, p.val] w fun en w' => RP S (planP (tabs ts) (nP p)) w w' en
def VS11 (T : Nat → Prop) (lo : Nat) (q : PL) (v : Value) (W : World) : Prop := ∃ (g : Nat) (r : PL), v = .slice (some ⟨g, 0, none⟩) 1 1 ∧ lo ≤ g ∧ Blk W g 31 (pC r) ∧ PXs T W r ∧ nP r = q
theorem VS11.pers (T : Nat → Prop) (lo : Nat) (q : PL) : Pers (VS11 T lo q) := fun v w w' hg ⟨g, r, a, b, c, d, e⟩ => ⟨g, r, a, b, c.grow hg, d.grow hg, e⟩
theorem BkP.fin {S : Nat → Prop} {w wr : World} {b : Nat} {B : Option Addr} {m cap : Nat} {Q : PL → PL} {kid F : Nat → PL} {k n : Int} {y : E} {xs : XsS} {ag : AgS} (h : BkP S w.heap.size b wr (.slice B m cap) m Q kid F) (hx : NXs S w k n y xs ag) (hm : m ≤ 10) (hg : Grow w wr) :
    PXs (Tn S w.heap.size b) wr (.mk k n y xs ag B m cap F) ∧ nP (.mk k n y xs ag B m cap F) = mkP k n (nE y) (xs.l.map nE) (ag.l.map nA) m (fun i => Q (kid i)) := by
  have hx' : NXs (Tn S w.heap.size b) wr k n y xs ag := ((hx.mono (T := fun q => S q ∧ q < w.heap.size) (fun q a b => ⟨b, a⟩)).grow hg).mono (fun q _ hq => .inl hq)
  constructor
  · intro W a
    have nx := hx' W a
    rcases own_rowP h.own with ⟨h0, rfl⟩ | ⟨g, cur, rfl, hge, hB, f, hcs⟩
    · subst h0
      exact .mk (Nat.zero_le _) (fun i hi => absurd hi (Nat.not_lt_zero _)) (fun i hi => absurd hi (Nat.not_lt_zero _)) nx.hx nx.hs nx.ha nx.hl nx.hi
    · refine .mk (by show m ≤ 140737488355328; omega) (fun i hi => ⟨g, 0, rfl, ?_⟩) (fun i hi => h.kept i hi W (a.mono (fun q _ hq => ?_))) nx.hx nx.hs nx.ha nx.hl nx.hi
      · rw [Nat.zero_add]; exact (hcs i hi).agr a (.inr hge)
      · rcases hq with hq | hq
        · exact .inl hq
        · exact .inr hq.1
  · show mkP k n (nE y) (xs.l.map nE) (ag.l.map nA) m (fun i => nP (F i)) = _
    exact mkP_congr (fun i hi => h.done i hi)
theorem RP.put3 {S : Nat → Prop} {q r : PL} {w W : World} {b gr : Nat} (hr : PXs (Tn S w.heap.size b) W r) (hn : nP r = q) (hg : Grow w W) (h0 : w.heap.size ≤ gr) (h1 : gr ≤ b) : RP S q w (st11 W gr r) (.returned r.val) := by
  refine ⟨r, rfl, ?_, hn, st11_grow hg (by omega) r⟩
  have h9 := hr.move (w' := st11 W gr r) (fun q hq _ => st11_heap W gr r (by rcases hq with h | h <;> omega)) (by rw [st11_size]; exact Nat.le_refl _)
  exact h9.mono (fun q _ hq => by rcases hq with h | h; exact .inl h.1; exact .inr (by omega))
theorem pxs_11 {T : Nat → Prop} {W : World} {fk fn : Int} {fy : E} {fxs : XsS} {fag : AgS} {fA : Option Addr} {fm fcap : Nat} {fkid : Nat → PL} (h : PXs T W (.mk fk fn fy fxs fag fA fm fcap fkid)) : PXs T W (.mk 11 0 .leaf nilX nilG fA fm fcap fkid) := fun V a => by
  cases h V a with
  | mk hm hc hk hx hs ha hl hi => exact .mk hm hc hk .leaf (fun i x h => by simp at h) (fun i x h => by simp at h) ⟨by decide, by decide⟩ ⟨⟨by decide, by decide⟩, ⟨by decide, by decide⟩⟩
set_option maxRecDepth 100000 in
set_option maxHeartbeats 16000000 in
theorem rec_mk (ts : List (L2 Int)) (At : Option Addr) (nt : Nat) (k n : Int) (y : E) (xs : XsS) (ag : AgS) (A : Option Addr) (m cap : Nat) (kid : Nat → PL) (ih : ∀ i, RecC ts At nt (kid i)) : RecC ts At nt (.mk k n y xs ag A m cap kid) := by
  intro S w hW hp hP
  have HW := Lib.hid hW
  have HP := Lib.hid hP
  have HWp := Lib.hid hp
  have IH := Lib.hid ih
  have hm2 : m ≤ 2 := by have h1 : (m : Int) = kidsP k := hp.1; have := kidsP_le k; omega
  have hkc : ∀ i, i < m → ∃ g o, A = some ⟨g, o, none⟩ ∧ PCells w g (o + i * 11) (kid i) := by
    cases hP.px with
    | mk hm hc => exact hc
  have HCK := Lib.hid hkc
  unfold PL.val
  simp only [PL.k, PL.n, PL.x, PL.xs, PL.ag, PL.A, PL.m, PL.cap]
  clear hW hP hp hkc ih
  go_enter Try.func28, Try.ntmps28
  go_upto_region 1 with fail
  refine wp_forget (fun X => Blk X w.heap.size 31 #[.int .i64 k, .int .i64 n, .int .i64 y.kind, .int .i64 y.v.k, .int .i64 y.v.n, .string y.v.s, .int .i64 y.col, .slice y.A y.n y.cap, .slice xs.A xs.l.length xs.c, .slice ag.A ag.l.length ag.c, .slice A m cap] ∧ Blk X (w.heap.size + 1) 31 #[.int .i64 0, .int .i64 0, .int .i64 0, .int .i64 0, .int .i64 0, .string ⟨#[]⟩, .int .i64 0, .slice none 0 0, .slice none 0 0, .slice none 0 0, .slice none 0 0] ∧ Grow w X ∧ X.heap.size = w.heap.size + 2) ⟨(Blk.new _ _ _).al _, Blk.new' _ _ _ (by simp), (by repeat (first | (with_reducible exact Grow.refl _) | (with_reducible assumption) | (with_reducible refine Grow.set ?_ (by first | (simp; done) | (simp; omega)) _) | (with_reducible refine Grow.al ?_ _) | (with_reducible refine Grow.drew ?_) | (with_reducible refine Grow.drewN ?_ _) | (with_reducible refine Grow.trans ?_ (by assumption)))), by simp⟩ ?_
  rintro X ⟨Bx, Br, G, hsz⟩
  obtain ⟨gx, hgx⟩ : ∃ gx, w.heap.size = gx := ⟨_, rfl⟩
  rw [hgx] at Bx Br hsz ⊢
  have lx := Bx.lt
  have lr := Br.lt
  obtain ⟨bx, fx⟩ := Bx.rules
  have HX := Lib.hid (And.intro hgx hsz)
  have BX := Lib.hid Bx
  have BR := Lib.hid Br
  clear hgx Bx Br
  go_upto_region 2 with fail
  refine wp_forget (fun Y => Blk Y (gx + 2) 31 #[.int .i64 k, .int .i64 n, .int .i64 y.kind, .int .i64 y.v.k, .int .i64 y.v.n, .string y.v.s, .int .i64 y.col, .slice y.A y.n y.cap, .slice xs.A xs.l.length xs.c, .slice ag.A ag.l.length ag.c, .slice A m cap] ∧ Grow X Y) ⟨by have h := Blk.new X 31 #[.int .i64 k, .int .i64 n, .int .i64 y.kind, .int .i64 y.v.k, .int .i64 y.v.n, .string y.v.s, .int .i64 y.col, .slice y.A y.n y.cap, .slice xs.A xs.l.length xs.c, .slice ag.A ag.l.length ag.c, .slice A m cap]; rw [hsz] at h; exact h, (Grow.refl X).al _⟩ ?_
  rintro Y ⟨BO, GY⟩
  clear bx fx lx lr hsz
  obtain ⟨bo, fo⟩ := BO.rules
  have lo := BO.lt
  go_upto_region 3 with fail
  refine wp_forget (fun Z => Blk Z (gx + 2) 31 #[.int .i64 k, .int .i64 n, .int .i64 y.kind, .int .i64 y.v.k, .int .i64 y.v.n, .string y.v.s, .int .i64 y.col, .slice y.A y.n y.cap, .slice xs.A xs.l.length xs.c, .slice ag.A ag.l.length ag.c, .slice none 0 0] ∧ Blk Z gx 31 #[.int .i64 k, .int .i64 n, .int .i64 y.kind, .int .i64 y.v.k, .int .i64 y.v.n, .string y.v.s, .int .i64 y.col, .slice y.A y.n y.cap, .slice xs.A xs.l.length xs.c, .slice ag.A ag.l.length ag.c, .slice A m cap] ∧ Blk Z (gx + 1) 31 #[.int .i64 0, .int .i64 0, .int .i64 0, .int .i64 0, .int .i64 0, .string ⟨#[]⟩, .int .i64 0, .slice none 0 0, .slice none 0 0, .slice none 0 0, .slice none 0 0] ∧ Grow w Z) ⟨by have h := BO.set 10 (.slice none 0 0); simpa only [List.setIfInBounds_toArray, List.set_cons_zero, List.set_cons_succ] using h, Blk.other (BX.out.grow GY) (show gx + 2 ≠ gx by omega) 10 _, Blk.other (BR.out.grow GY) (show gx + 2 ≠ gx + 1 by omega) 10 _, Grow.set (G.trans GY) (show w.heap.size ≤ (⟨gx + 2, 10, none⟩ : Addr).block by have := HX.out.1; show w.heap.size ≤ gx + 2; omega) _⟩ ?_
  clear bo fo lo BO BX BR GY
  rintro Z ⟨BO1, BX1, BR1, G1⟩
  obtain ⟨bx, fx⟩ := BX1.rules
  have lx := BX1.lt
  have HB := Lib.hid (And.intro BO1 (And.intro BR1 BX1))
  clear BO1 BX1 BR1
  go_wp2
  clear bx fx lx
  go_loopw [14] (fun i wr => ∃ (j : Nat) (F : Nat → PL) (B : Option Addr) (cp : Nat), j ≤ m ∧ i = .int .i64 j ∧ Blk wr (gx + 2) 31 #[.int .i64 k, .int .i64 n, .int .i64 y.kind, .int .i64 y.v.k, .int .i64 y.v.n, .string y.v.s, .int .i64 y.col, .slice y.A y.n y.cap, .slice xs.A xs.l.length xs.c, .slice ag.A ag.l.length ag.c, .slice B j cp] ∧ Blk wr (gx + 1) 31 #[.int .i64 0, .int .i64 0, .int .i64 0, .int .i64 0, .int .i64 0, .string ⟨#[]⟩, .int .i64 0, .slice none 0 0, .slice none 0 0, .slice none 0 0, .slice none 0 0] ∧ Blk wr gx 31 #[.int .i64 k, .int .i64 n, .int .i64 y.kind, .int .i64 y.v.k, .int .i64 y.v.n, .string y.v.s, .int .i64 y.col, .slice y.A y.n y.cap, .slice xs.A xs.l.length xs.c, .slice ag.A ag.l.length ag.c, .slice A m cap] ∧ BkP S gx (gx + 2) wr (.slice B j cp) j (fun q => planP (tabs ts) (nP q)) kid F ∧ Grow w wr) (fun i _ => m - (intOf i).toNat)
  case atStart => exact ⟨0, kid, none, 0, Nat.zero_le _, rfl, HB.out.1, HB.out.2.1, HB.out.2.2, BkP.nil, G1⟩
  case round =>
    clear HB
    obtain ⟨j, F, B, cp, hj, rfl, Bo, Br, Bx, bk, Gr⟩ := hrel
    have BO := Lib.hid Bo
    have BR := Lib.hid Br
    have BX := Lib.hid Bx
    have BK := Lib.hid bk
    by_cases hlt : j < m
    · obtain ⟨gk, ok, hA, hcj⟩ := HCK.out j hlt
      subst hA
      obtain ⟨c0, c1, c2, c3, c4, c5, c6, c7, c8, c9, c10⟩ := hcj.grow Gr
      clear bk Bo Br Bx hcj
      go_upto_region 6 with fail
      refine wp_forget (fun Z => Blk Z wr.heap.size 31 #[.int .i64 (kid j).k, .int .i64 (kid j).n, .int .i64 (kid j).x.kind, .int .i64 (kid j).x.v.k, .int .i64 (kid j).x.v.n, .string (kid j).x.v.s, .int .i64 (kid j).x.col, .slice (kid j).x.A (kid j).x.n (kid j).x.cap, .slice (kid j).xs.A (kid j).xs.l.length (kid j).xs.c, .slice (kid j).ag.A (kid j).ag.l.length (kid j).ag.c, .slice (kid j).A (kid j).m (kid j).cap] ∧ Grow wr Z) ⟨Blk.new _ _ _, (Grow.refl wr).al _⟩ ?_
      rintro Z ⟨BZ, gZ⟩
      have BZ' := Lib.hid BZ
      have tt : ∀ W, Grow Z W → ∀ q, Snew (fun q => S q ∧ q < w.heap.size) W.heap.size q → Tk S gx (gx + 2) (.slice B j cp) q := fun W h q hq => by
        have h1 := HX.out.1
        have h2 := BO.out.lt
        have h3 := gZ.size
        have h4 := h.size
        rcases hq with hq | hq
        · exact .inl ⟨hq.1, by omega⟩
        · exact .inr ⟨by omega, fun e => by have := (own_lt BK.out.own e).2; omega⟩
      have cj := fun W (h : Grow Z W) => (IH.out j (fun q => S q ∧ q < w.heap.size) W (HW.out.grow (Gr.trans (gZ.trans h))) (HWp.out.2.2.2 j hlt) (((HP.out.kid hlt).mono (T := fun q => S q ∧ q < w.heap.size) (fun q hq hs => ⟨hs, hq⟩)).grow (Gr.trans (gZ.trans h)))).mono (fun en w' ⟨r, h1, h2, h3, h4⟩ => (⟨r, h1, h2.mono (fun q _ hq => tt W h q hq), h3, h4⟩ : ∃ r : PL, en = Ending.returned (pV r) ∧ PXs (Tk S gx (gx + 2) (.slice B j cp)) w' r ∧ nP r = planP (tabs ts) (nP (kid j)) ∧ Grow W w'))
      unfold PL.val at cj
      have CJ := Lib.hid cj
      clear c0 c1 c2 c3 c4 c5 c6 c7 c8 c9 c10 BZ cj tt
      generalize wr.heap.size = gz at *
      apply wp_region_calm 6 (by kernel_rfl) (by kernel_rfl)
      case h' =>
        intro Q0 hQ0
        simp only [List.take_succ_cons, List.take_zero]
        repeat (
          first
            | (apply calm_p rfl; case h1 => (intro w1 hw1 hF K hK; obtain ⟨bo, fo⟩ := ((BO.out.grow gZ).grow hw1).rules; obtain ⟨bz, fz⟩ := (BZ'.out.grow hw1).rules; go_simp; first | exact hK _ (Grow.refl _) | fail))
            | (apply calm_y rfl rfl rfl; case h1 => (intro w1 hw1 hF K hK; obtain ⟨bo, fo⟩ := ((BO.out.grow gZ).grow hw1).rules; obtain ⟨bz, fz⟩ := (BZ'.out.grow hw1).rules; go_simp; first | exact hK _ (Grow.refl _) | fail))
            | apply calm_n rfl rfl rfl rfl
          intro K hK
          go_simp
          apply hK
          clear hK K)
        apply calm_fp (VP (Tk S gx (gx + 2) (.slice B j cp)) (planP (tabs ts) (nP (kid j)))) rfl
        case h1 =>
          intro w1 hw1 hF K hK
          go_simp
          go_at_call 28
          refine (CJ.out w1 hw1).mono ?_
          rintro en w' ⟨r, rfl, hr, hn, hg'⟩
          exact ⟨_, rfl, hK _ _ hg' ⟨r, rfl, hr, hn⟩⟩
        intro v22 K hK
        go_simp
        apply hK
        clear hK K
        apply calm_fp (VS11 (Tk S gx (gx + 2) (.slice B j cp)) Z.heap.size (planP (tabs ts) (nP (kid j)))) rfl
        case h1 =>
          intro w1 hw1 hF K hK
          obtain ⟨r, hv, hr, hn⟩ := hF _ (List.mem_cons_self ..) ⟨_, rfl, by decide⟩
          subst hv
          go_simp
          exact hK _ _ ((Grow.refl _).al _) ⟨w1.heap.size, r, rfl, hw1.size, Blk.new _ _ _, hr.grow ((Grow.refl _).al _), hn⟩
        intro v23 K hK
        go_simp
        apply hK
        clear hK K
        refine calm_nil ?_
        intro w1 hw1 hF
        apply hQ0
        clear hQ0
        simp only [List.drop_succ_cons, List.drop_zero]
        obtain ⟨g1, r, hv, hg1, hB1, hr, hn⟩ := hF _ (List.mem_cons_self ..)
        subst hv
        clear hF
        have bk1 := (BK.out.grow gZ).grow hw1
        have bo1 := (BO.out.grow gZ).grow hw1
        have br1 := (BR.out.grow gZ).grow hw1
        have bx1 := (BX.out.grow gZ).grow hw1
        have lb := bo1.lt
        have HR := Lib.hid (And.intro hr hn)
        have BK1 := Lib.hid bk1
        have BO1 := Lib.hid bo1
        have BR1 := Lib.hid br1
        have BX1 := Lib.hid bx1
        have hc1 : ∀ q u, r.cells[q]? = some u → w1.cell? ((⟨g1, 0, none⟩ : Addr).add q) = some u := fun q u hq => by
          rw [addr_add, hB1.cell, Nat.zero_add, ← Array.getElem?_toList]
          exact hq
        have HC1 := Lib.hid hc1
        clear hr hn bk1 bo1 br1 bx1 hc1 hB1
        refine wpList_append_new elT_plan rfl _ _ rfl (gx + 2 + 1) _ j _ rfl BK1.out.own ⟨g1, 0, none⟩ 1 1 r.cells rfl rfl HC1.out (PL.ones r) (by unfold maxLen; omega) (by omega) (by omega) ?_
        intro v' w' own' gr' at'
        obtain ⟨B', cp', rfl⟩ := own_sl own'
        have bo2 : Blk w' (gx + 2) 31 _ := (gr'.block (gx + 2) lb (fun e => by have := (own_lt BK1.out.own e.symm).1; omega)).trans BO1.out
        have br2 : Blk w' (gx + 1) 31 _ := (gr'.block (gx + 1) (by omega) (fun e => by have := (own_lt BK1.out.own e.symm).1; omega)).trans BR1.out
        have bx2 : Blk w' gx 31 _ := (gr'.block gx (by omega) (fun e => by have := (own_lt BK1.out.own e.symm).1; omega)).trans BX1.out
        have BK2 := Lib.hid (BK1.out.app (by omega) HR.out.1 HR.out.2 own' gr' at')
        have G2 := Lib.hid (Grow.own ((Gr.trans gZ).trans hw1) gr' (fun q hq => by have := (own_lt BK1.out.own hq).1; have := HX.out.1; omega))
        have BO2 := Lib.hid bo2
        have BR2 := Lib.hid br2
        have BX2 := Lib.hid bx2
        obtain ⟨bo, fo⟩ := bo2.rules
        have lo := bo2.lt
        clear own' gr' at' bo2 br2 bx2
        go_wp2
        go_roundw
        case rel => exact ⟨j + 1, _, B', cp', by omega, by go_num, by have h := BO2.out.set 10 (.slice B' (j + 1) cp'); simpa only [List.setIfInBounds_toArray, List.set_cons_zero, List.set_cons_succ] using h, Blk.other BR2.out (by omega) 10 _, Blk.other BX2.out (by omega) 10 _, BK2.out.set (by omega) (by omega) (by omega) 10 _, Grow.set G2.out (by have := HX.out.1; show w.heap.size ≤ gx + 2; omega) _⟩
        case measure => simp [intOf]; omega
      case hp' => exact ⟨VP.pers _ _, VS11.pers _ _ _, trivial⟩
    · obtain rfl : j = m := by omega
      clear hlt
      have e0 := HX.out.1
      have finp := fun k' n' (y' : E) (xs' : XsS) (ag' : AgS) (h : NXs S w k' n' y' xs' ag') => BkP.fin (w := w) (b := gx + 2) (by rw [e0]; exact bk) h (by omega) Gr
      have FINP := Lib.hid finp
      have MD := Lib.hid bk.done
      have OW := Lib.hid bk.own
      have KP' := Lib.hid bk.kept
      have GR := Lib.hid Gr
      clear finp bk Br e0
      obtain ⟨bo, fo⟩ := Bo.rules
      have lo := Bo.lt
      obtain ⟨bx, fx⟩ := Bx.rules
      have lx := Bx.lt
      clear Bo Bx
      have kx : k = 1 ∨ k = 2 ∨ k = 3 ∨ k = 4 ∨ k = 5 ∨ k = 6 ∨ k = 7 ∨ k = 8 ∨ k = 9 ∨ k = 10 ∨ k = 11 ∨ k = 12 ∨ k = 13 := by
        have hk0 := HWp.out.2.1
        unfold kidsP at hk0
        repeat' split at hk0
        all_goals omega
      rcases kx with rfl | rfl | rfl | rfl | rfl | rfl | rfl | rfl | rfl | rfl | rfl | rfl | rfl
      · obtain ⟨br, fr⟩ := BR.out.rules
        have lr := BR.out.lt
        have H := Lib.hid (FINP.out 1 n y xs ag (HP.out.nx))
        go_wp2
        have B3 := st11_blk (PL.mk 1 n y xs ag B j cp F) (BR.out)
        simp only [st11, PL.k, PL.n, PL.x, PL.xs, PL.ag, PL.A, PL.m, PL.cap] at B3
        obtain ⟨b3, f3⟩ := B3.rules
        refine bodyPost_ret (v := ((PL.mk 1 n y xs ag B j cp F)).val) (by simp [results, Try.results28, go_sem, b3, PL.val, PL.k, PL.n, PL.x, PL.xs, PL.ag, PL.A, PL.m, PL.cap]) rfl ?_
        exact RP.put3 (r := (PL.mk 1 n y xs ag B j cp F)) (b := gx + 2) H.out.1 (H.out.2.trans (planP_o (by decide)).symm) GR.out (by have := HX.out.1; omega) (by omega)
      · obtain rfl : j = 1 := (by have h1 : (j : Int) = kidsP 2 := HWp.out.1; have h2 : kidsP 2 = 1 := (by decide); omega)
        obtain ⟨gB, cur, hBe, hlo, hBB, hsz, hcs⟩ : ∃ g cur, B = some ⟨g, 0, none⟩ ∧ gx + 2 + 1 ≤ g ∧ Blk wr g 31 cur ∧ 1 * 11 ≤ cur.size ∧ ∀ i, i < 1 → PCells wr g (i * 11) (F i) := by
          rcases own_rowP OW.out with h | h
          · omega
          · exact h
        subst hBe
        have C0 := hcs 0 (by omega)
        have P0 := Lib.hid ((KP'.out 0 (by omega)).mono (T := Tn S w.heap.size (gx + 2)) (fun q _ hq => by
          have := HX.out.1
          rcases hq with h | h
          · exact .inl ⟨h.1, by omega⟩
          · exact .inr h.1))
        have N0 := Lib.hid (MD.out 0 (by omega))
        have WF0 := Lib.hid ((wfP_nP (F 0)).1 (by rw [MD.out 0 (by omega)]; exact wfP_plan _ ((wfP_nP _).2 (HWp.out.2.2.2 0 (by omega)))))
        simp only [Nat.zero_mul] at C0
        have KC0 := Lib.hid C0
        clear hcs hsz hlo hBB C0
        have hTs : ∀ (W : World), Grow wr W → ∀ q, Snew (Tn S w.heap.size (gx + 2)) W.heap.size q → Tn S w.heap.size (gx + 2) q := fun W hW q hq => by
          have l1 := BO.out.lt
          have l2 := hW.size
          rcases hq with h | h
          · exact h
          · exact .inr (by omega)
        have cp := fun W (h : Grow wr W) => (sink_any ts At nt (F 0) (Tn S w.heap.size (gx + 2)) y W (HW.out.grow (GR.out.trans h)) WF0.out (HWp.out.2.2.1 (.inl rfl)) (P0.out.grow h) ((((HP.out.nx).x.mono (T := Tn S w.heap.size (gx + 2)) (fun q hq hs => .inl ⟨hs, hq⟩)).grow GR.out).grow h)).mono (fun en w' ⟨r, h1, h2, h3, h4⟩ => (⟨r, h1, h2.mono (fun q _ hq => hTs W h q hq), h3, h4⟩ : ∃ r : PL, en = Ending.returned (pV r) ∧ PXs (Tn S w.heap.size (gx + 2)) w' r ∧ nP r = pushP (tabs ts) (nP (F 0)) (nE y) ∧ Grow W w'))
        unfold E.val PL.val at cp
        have CP := Lib.hid cp
        clear cp hTs
        go_wp2
        apply wp_region_calm 8 (by kernel_rfl) (by kernel_rfl)
        case h' =>
          intro Q0 hQ0
          simp only [List.take_succ_cons, List.take_zero]
          repeat (
            first
              | (apply calm_p rfl; case h1 => (intro w1 hw1 hF K hK; obtain ⟨bx, fx⟩ := (BX.out.grow hw1).rules; obtain ⟨bo, fo⟩ := (BO.out.grow hw1).rules; obtain ⟨q0, q1, q2, q3, q4, q5, q6, q7, q8, q9, q10⟩ := KC0.out.grow hw1; go_simp; first | exact hK _ (Grow.refl _) | fail))
              | (apply calm_y rfl rfl rfl; case h1 => (intro w1 hw1 hF K hK; obtain ⟨bx, fx⟩ := (BX.out.grow hw1).rules; obtain ⟨bo, fo⟩ := (BO.out.grow hw1).rules; obtain ⟨q0, q1, q2, q3, q4, q5, q6, q7, q8, q9, q10⟩ := KC0.out.grow hw1; go_simp; first | exact hK _ (Grow.refl _) | fail))
              | apply calm_n rfl rfl rfl rfl
            intro K hK
            go_simp
            apply hK
            clear hK K)
          apply calm_fp (VP (Tn S w.heap.size (gx + 2)) (pushP (tabs ts) (nP (F 0)) (nE y))) rfl
          case h1 =>
            intro w1 hw1 hF K hK
            go_simp
            go_at_call 57
            refine (CP.out w1 hw1).mono ?_
            rintro en w' ⟨r, rfl, hr, hn, hg'⟩
            exact ⟨_, rfl, hK _ _ hg' ⟨r, rfl, hr, hn⟩⟩
          intro v37 K hK
          go_simp
          apply hK
          clear hK K
          refine calm_nil ?_
          intro w1 hw1 hF
          apply hQ0
          clear hQ0
          simp only [List.drop_succ_cons, List.drop_zero]
          obtain ⟨r, hv, hr, hn⟩ := hF _ (List.mem_cons_self ..)
          subst hv
          clear hF bx fx lx bo fo lo
          obtain ⟨br, fr⟩ := (BR.out.grow hw1).rules
          have lr := (BR.out.grow hw1).lt
          go_wp2
          have B3 := st11_blk r (BR.out.grow hw1)
          simp only [st11, PL.k, PL.n, PL.x, PL.xs, PL.ag, PL.A, PL.m, PL.cap] at B3
          obtain ⟨b3, f3⟩ := B3.rules
          refine bodyPost_ret (v := (r).val) (by simp [results, Try.results28, go_sem, b3, PL.val, PL.k, PL.n, PL.x, PL.xs, PL.ag, PL.A, PL.m, PL.cap]) rfl ?_
          exact RP.put3 (r := r) (b := gx + 2) hr (hn.trans (by rw [N0.out]; exact planP_2.symm)) (GR.out.trans hw1) (by have := HX.out.1; omega) (by omega)
        case hp' => exact ⟨VP.pers _ _, trivial⟩
      · obtain ⟨br, fr⟩ := BR.out.rules
        have lr := BR.out.lt
        have H := Lib.hid (FINP.out 3 n y xs ag (HP.out.nx))
        go_wp2
        have B3 := st11_blk (PL.mk 3 n y xs ag B j cp F) (BR.out)
        simp only [st11, PL.k, PL.n, PL.x, PL.xs, PL.ag, PL.A, PL.m, PL.cap] at B3
        obtain ⟨b3, f3⟩ := B3.rules
        refine bodyPost_ret (v := ((PL.mk 3 n y xs ag B j cp F)).val) (by simp [results, Try.results28, go_sem, b3, PL.val, PL.k, PL.n, PL.x, PL.xs, PL.ag, PL.A, PL.m, PL.cap]) rfl ?_
        exact RP.put3 (r := (PL.mk 3 n y xs ag B j cp F)) (b := gx + 2) H.out.1 (H.out.2.trans (planP_o (by decide)).symm) GR.out (by have := HX.out.1; omega) (by omega)
      · obtain ⟨br, fr⟩ := BR.out.rules
        have lr := BR.out.lt
        have H := Lib.hid (FINP.out 4 n y xs ag (HP.out.nx))
        go_wp2
        have B3 := st11_blk (PL.mk 4 n y xs ag B j cp F) (BR.out)
        simp only [st11, PL.k, PL.n, PL.x, PL.xs, PL.ag, PL.A, PL.m, PL.cap] at B3
        obtain ⟨b3, f3⟩ := B3.rules
        refine bodyPost_ret (v := ((PL.mk 4 n y xs ag B j cp F)).val) (by simp [results, Try.results28, go_sem, b3, PL.val, PL.k, PL.n, PL.x, PL.xs, PL.ag, PL.A, PL.m, PL.cap]) rfl ?_
        exact RP.put3 (r := (PL.mk 4 n y xs ag B j cp F)) (b := gx + 2) H.out.1 (H.out.2.trans (planP_o (by decide)).symm) GR.out (by have := HX.out.1; omega) (by omega)
      · obtain ⟨br, fr⟩ := BR.out.rules
        have lr := BR.out.lt
        have H := Lib.hid (FINP.out 5 n y xs ag (HP.out.nx))
        go_wp2
        have B3 := st11_blk (PL.mk 5 n y xs ag B j cp F) (BR.out)
        simp only [st11, PL.k, PL.n, PL.x, PL.xs, PL.ag, PL.A, PL.m, PL.cap] at B3
        obtain ⟨b3, f3⟩ := B3.rules
        refine bodyPost_ret (v := ((PL.mk 5 n y xs ag B j cp F)).val) (by simp [results, Try.results28, go_sem, b3, PL.val, PL.k, PL.n, PL.x, PL.xs, PL.ag, PL.A, PL.m, PL.cap]) rfl ?_
        exact RP.put3 (r := (PL.mk 5 n y xs ag B j cp F)) (b := gx + 2) H.out.1 (H.out.2.trans (planP_o (by decide)).symm) GR.out (by have := HX.out.1; omega) (by omega)
      · obtain ⟨br, fr⟩ := BR.out.rules
        have lr := BR.out.lt
        have H := Lib.hid (FINP.out 6 n y xs ag (HP.out.nx))
        go_wp2
        have B3 := st11_blk (PL.mk 6 n y xs ag B j cp F) (BR.out)
        simp only [st11, PL.k, PL.n, PL.x, PL.xs, PL.ag, PL.A, PL.m, PL.cap] at B3
        obtain ⟨b3, f3⟩ := B3.rules
        refine bodyPost_ret (v := ((PL.mk 6 n y xs ag B j cp F)).val) (by simp [results, Try.results28, go_sem, b3, PL.val, PL.k, PL.n, PL.x, PL.xs, PL.ag, PL.A, PL.m, PL.cap]) rfl ?_
        exact RP.put3 (r := (PL.mk 6 n y xs ag B j cp F)) (b := gx + 2) H.out.1 (H.out.2.trans (planP_o (by decide)).symm) GR.out (by have := HX.out.1; omega) (by omega)
      · obtain ⟨br, fr⟩ := BR.out.rules
        have lr := BR.out.lt
        have H := Lib.hid (FINP.out 7 n y xs ag (HP.out.nx))
        go_wp2
        have B3 := st11_blk (PL.mk 7 n y xs ag B j cp F) (BR.out)
        simp only [st11, PL.k, PL.n, PL.x, PL.xs, PL.ag, PL.A, PL.m, PL.cap] at B3
        obtain ⟨b3, f3⟩ := B3.rules
        refine bodyPost_ret (v := ((PL.mk 7 n y xs ag B j cp F)).val) (by simp [results, Try.results28, go_sem, b3, PL.val, PL.k, PL.n, PL.x, PL.xs, PL.ag, PL.A, PL.m, PL.cap]) rfl ?_
        exact RP.put3 (r := (PL.mk 7 n y xs ag B j cp F)) (b := gx + 2) H.out.1 (H.out.2.trans (planP_o (by decide)).symm) GR.out (by have := HX.out.1; omega) (by omega)
      · obtain ⟨br, fr⟩ := BR.out.rules
        have lr := BR.out.lt
        have H := Lib.hid (FINP.out 8 n y xs ag (HP.out.nx))
        go_wp2
        have B3 := st11_blk (PL.mk 8 n y xs ag B j cp F) (BR.out)
        simp only [st11, PL.k, PL.n, PL.x, PL.xs, PL.ag, PL.A, PL.m, PL.cap] at B3
        obtain ⟨b3, f3⟩ := B3.rules
        refine bodyPost_ret (v := ((PL.mk 8 n y xs ag B j cp F)).val) (by simp [results, Try.results28, go_sem, b3, PL.val, PL.k, PL.n, PL.x, PL.xs, PL.ag, PL.A, PL.m, PL.cap]) rfl ?_
        exact RP.put3 (r := (PL.mk 8 n y xs ag B j cp F)) (b := gx + 2) H.out.1 (H.out.2.trans (planP_o (by decide)).symm) GR.out (by have := HX.out.1; omega) (by omega)
      · obtain ⟨br, fr⟩ := BR.out.rules
        have lr := BR.out.lt
        have H := Lib.hid (FINP.out 9 n y xs ag (HP.out.nx))
        go_wp2
        have B3 := st11_blk (PL.mk 9 n y xs ag B j cp F) (BR.out)
        simp only [st11, PL.k, PL.n, PL.x, PL.xs, PL.ag, PL.A, PL.m, PL.cap] at B3
        obtain ⟨b3, f3⟩ := B3.rules
        refine bodyPost_ret (v := ((PL.mk 9 n y xs ag B j cp F)).val) (by simp [results, Try.results28, go_sem, b3, PL.val, PL.k, PL.n, PL.x, PL.xs, PL.ag, PL.A, PL.m, PL.cap]) rfl ?_
        exact RP.put3 (r := (PL.mk 9 n y xs ag B j cp F)) (b := gx + 2) H.out.1 (H.out.2.trans (planP_o (by decide)).symm) GR.out (by have := HX.out.1; omega) (by omega)
      · obtain rfl : j = 1 := (by have h1 : (j : Int) = kidsP 10 := HWp.out.1; have h2 : kidsP 10 = 1 := (by decide); omega)
        obtain ⟨gB, cur, hBe, hlo, hBB, hsz, hcs⟩ : ∃ g cur, B = some ⟨g, 0, none⟩ ∧ gx + 2 + 1 ≤ g ∧ Blk wr g 31 cur ∧ 1 * 11 ≤ cur.size ∧ ∀ i, i < 1 → PCells wr g (i * 11) (F i) := by
          rcases own_rowP OW.out with h | h
          · omega
          · exact h
        subst hBe
        have C0 := hcs 0 (by omega)
        have P0 := Lib.hid ((KP'.out 0 (by omega)).mono (T := Tn S w.heap.size (gx + 2)) (fun q _ hq => by
          have := HX.out.1
          rcases hq with h | h
          · exact .inl ⟨h.1, by omega⟩
          · exact .inr h.1))
        have N0 := Lib.hid (MD.out 0 (by omega))
        have WF0 := Lib.hid ((wfP_nP (F 0)).1 (by rw [MD.out 0 (by omega)]; exact wfP_plan _ ((wfP_nP _).2 (HWp.out.2.2.2 0 (by omega)))))
        simp only [Nat.zero_mul] at C0
        have KC0 := Lib.hid C0
        clear hcs hsz hlo hBB C0
        have C0 := KC0.out
        clear KC0
        generalize F 0 = f at C0 P0 N0 WF0
        cases f with
        | leaf => exact absurd WF0.out id
        | mk fk fn fy fxs fag fA fm fcap fkid =>
          obtain ⟨q0, q1, q2, q3, q4, q5, q6, q7, q8, q9, q10⟩ := C0
          simp only [PL.k, PL.n, PL.x, PL.xs, PL.ag, PL.A, PL.m, PL.cap] at q0 q1 q2 q3 q4 q5 q6 q7 q8 q9 q10
          go_upto_region 12 with fail
          refine wp_forget (fun Z => Blk Z wr.heap.size 31 #[.int .i64 fk, .int .i64 fn, .int .i64 fy.kind, .int .i64 fy.v.k, .int .i64 fy.v.n, .string fy.v.s, .int .i64 fy.col, .slice fy.A fy.n fy.cap, .slice fxs.A fxs.l.length fxs.c, .slice fag.A fag.l.length fag.c, .slice fA fm fcap] ∧ Grow wr Z) ⟨Blk.new _ _ _, (Grow.refl wr).al _⟩ ?_
          rintro Z ⟨BZ, gZ⟩
          obtain ⟨gz, hgz⟩ : ∃ gz, wr.heap.size = gz := ⟨_, rfl⟩
          rw [hgz] at BZ ⊢
          clear q0 q1 q2 q3 q4 q5 q6 q7 q8 q9 q10 bx fx lx bo fo lo hgz
          obtain ⟨bz, fz⟩ := BZ.rules
          have lz := BZ.lt
          obtain ⟨bx, fx⟩ := (BX.out.grow gZ).rules
          have lx := (BX.out.grow gZ).lt
          obtain ⟨bo, fo⟩ := (BO.out.grow gZ).rules
          have lo := (BO.out.grow gZ).lt
          obtain ⟨br, fr⟩ := (BR.out.grow gZ).rules
          have lr := (BR.out.grow gZ).lt
          clear BZ
          by_cases e11 : fk = 11
          · have d11 : (fk == 11) = true := by simpa using e11
            have E := Lib.hid e11
            clear e11
            go_wp2
            have B3 := st11_blk (PL.mk fk fn fy fxs fag fA fm fcap fkid) (BR.out.grow gZ)
            simp only [st11, PL.k, PL.n, PL.x, PL.xs, PL.ag, PL.A, PL.m, PL.cap] at B3
            obtain ⟨b3, f3⟩ := B3.rules
            refine bodyPost_ret (v := ((PL.mk fk fn fy fxs fag fA fm fcap fkid)).val) (by simp [results, Try.results28, go_sem, b3, PL.val, PL.k, PL.n, PL.x, PL.xs, PL.ag, PL.A, PL.m, PL.cap]) rfl ?_
            exact RP.put3 (r := (PL.mk fk fn fy fxs fag fA fm fcap fkid)) (b := gx + 2) (P0.out.grow gZ) (N0.out.trans (planP_10a (by decide) N0.out (.inl E.out)).symm) (GR.out.trans gZ) (by have := HX.out.1; omega) (by omega)
          · have d11 : (fk == 11) = false := by simpa using e11
            by_cases e10 : fk = 10
            · have d10 : (fk == 10) = true := by simpa using e10
              have E := Lib.hid e10
              clear e10 e11
              go_wp2
              have B3 := st11_blk (PL.mk fk fn fy fxs fag fA fm fcap fkid) (BR.out.grow gZ)
              simp only [st11, PL.k, PL.n, PL.x, PL.xs, PL.ag, PL.A, PL.m, PL.cap] at B3
              obtain ⟨b3, f3⟩ := B3.rules
              refine bodyPost_ret (v := ((PL.mk fk fn fy fxs fag fA fm fcap fkid)).val) (by simp [results, Try.results28, go_sem, b3, PL.val, PL.k, PL.n, PL.x, PL.xs, PL.ag, PL.A, PL.m, PL.cap]) rfl ?_
              exact RP.put3 (r := (PL.mk fk fn fy fxs fag fA fm fcap fkid)) (b := gx + 2) (P0.out.grow gZ) (N0.out.trans (planP_10a (by decide) N0.out (.inr E.out)).symm) (GR.out.trans gZ) (by have := HX.out.1; omega) (by omega)
            · have d10 : (fk == 10) = false := by simpa using e10
              have E := Lib.hid (And.intro e11 e10)
              clear e10 e11
              have H := Lib.hid (FINP.out 10 n y xs ag (HP.out.nx))
              go_wp2
              have B3 := st11_blk (PL.mk 10 n y xs ag (some ⟨gB, 0, none⟩) 1 cp F) (BR.out.grow gZ)
              simp only [st11, PL.k, PL.n, PL.x, PL.xs, PL.ag, PL.A, PL.m, PL.cap] at B3
              obtain ⟨b3, f3⟩ := B3.rules
              refine bodyPost_ret (v := ((PL.mk 10 n y xs ag (some ⟨gB, 0, none⟩) 1 cp F)).val) (by simp [results, Try.results28, go_sem, b3, PL.val, PL.k, PL.n, PL.x, PL.xs, PL.ag, PL.A, PL.m, PL.cap]) rfl ?_
              exact RP.put3 (r := (PL.mk 10 n y xs ag (some ⟨gB, 0, none⟩) 1 cp F)) (b := gx + 2) (H.out.1.grow gZ) (H.out.2.trans (planP_10c (by decide) N0.out E.out.1 E.out.2).symm) (GR.out.trans gZ) (by have := HX.out.1; omega) (by omega)
      · obtain rfl : j = 1 := (by have h1 : (j : Int) = kidsP 11 := HWp.out.1; have h2 : kidsP 11 = 1 := (by decide); omega)
        obtain ⟨gB, cur, hBe, hlo, hBB, hsz, hcs⟩ : ∃ g cur, B = some ⟨g, 0, none⟩ ∧ gx + 2 + 1 ≤ g ∧ Blk wr g 31 cur ∧ 1 * 11 ≤ cur.size ∧ ∀ i, i < 1 → PCells wr g (i * 11) (F i) := by
          rcases own_rowP OW.out with h | h
          · omega
          · exact h
        subst hBe
        have C0 := hcs 0 (by omega)
        have P0 := Lib.hid ((KP'.out 0 (by omega)).mono (T := Tn S w.heap.size (gx + 2)) (fun q _ hq => by
          have := HX.out.1
          rcases hq with h | h
          · exact .inl ⟨h.1, by omega⟩
          · exact .inr h.1))
        have N0 := Lib.hid (MD.out 0 (by omega))
        have WF0 := Lib.hid ((wfP_nP (F 0)).1 (by rw [MD.out 0 (by omega)]; exact wfP_plan _ ((wfP_nP _).2 (HWp.out.2.2.2 0 (by omega)))))
        simp only [Nat.zero_mul] at C0
        have KC0 := Lib.hid C0
        clear hcs hsz hlo hBB C0
        have C0 := KC0.out
        clear KC0
        generalize F 0 = f at C0 P0 N0 WF0
        cases f with
        | leaf => exact absurd WF0.out id
        | mk fk fn fy fxs fag fA fm fcap fkid =>
          obtain ⟨q0, q1, q2, q3, q4, q5, q6, q7, q8, q9, q10⟩ := C0
          simp only [PL.k, PL.n, PL.x, PL.xs, PL.ag, PL.A, PL.m, PL.cap] at q0 q1 q2 q3 q4 q5 q6 q7 q8 q9 q10
          go_upto_region 12 with fail
          refine wp_forget (fun Z => Blk Z wr.heap.size 31 #[.int .i64 fk, .int .i64 fn, .int .i64 fy.kind, .int .i64 fy.v.k, .int .i64 fy.v.n, .string fy.v.s, .int .i64 fy.col, .slice fy.A fy.n fy.cap, .slice fxs.A fxs.l.length fxs.c, .slice fag.A fag.l.length fag.c, .slice fA fm fcap] ∧ Grow wr Z) ⟨Blk.new _ _ _, (Grow.refl wr).al _⟩ ?_
          rintro Z ⟨BZ, gZ⟩
          obtain ⟨gz, hgz⟩ : ∃ gz, wr.heap.size = gz := ⟨_, rfl⟩
          rw [hgz] at BZ ⊢
          clear q0 q1 q2 q3 q4 q5 q6 q7 q8 q9 q10 bx fx lx bo fo lo hgz
          obtain ⟨bz, fz⟩ := BZ.rules
          have lz := BZ.lt
          obtain ⟨bx, fx⟩ := (BX.out.grow gZ).rules
          have lx := (BX.out.grow gZ).lt
          obtain ⟨bo, fo⟩ := (BO.out.grow gZ).rules
          have lo := (BO.out.grow gZ).lt
          obtain ⟨br, fr⟩ := (BR.out.grow gZ).rules
          have lr := (BR.out.grow gZ).lt
          clear BZ
          by_cases e11 : fk = 11
          · have d11 : (fk == 11) = true := by simpa using e11
            have E := Lib.hid e11
            clear e11
            go_wp2
            have B3 := st11_blk (PL.mk fk fn fy fxs fag fA fm fcap fkid) (BR.out.grow gZ)
            simp only [st11, PL.k, PL.n, PL.x, PL.xs, PL.ag, PL.A, PL.m, PL.cap] at B3
            obtain ⟨b3, f3⟩ := B3.rules
            refine bodyPost_ret (v := ((PL.mk fk fn fy fxs fag fA fm fcap fkid)).val) (by simp [results, Try.results28, go_sem, b3, PL.val, PL.k, PL.n, PL.x, PL.xs, PL.ag, PL.A, PL.m, PL.cap]) rfl ?_
            exact RP.put3 (r := (PL.mk fk fn fy fxs fag fA fm fcap fkid)) (b := gx + 2) (P0.out.grow gZ) (N0.out.trans (planP_10a (by decide) N0.out (.inl E.out)).symm) (GR.out.trans gZ) (by have := HX.out.1; omega) (by omega)
          · have d11 : (fk == 11) = false := by simpa using e11
            by_cases e10 : fk = 10
            · have d10 : (fk == 10) = true := by simpa using e10
              subst e10
              clear e11
              obtain rfl : fm = 1 := (by have h1 : (fm : Int) = kidsP 10 := WF0.out.1; have h2 : kidsP 10 = 1 := (by decide); omega)
              go_wp2
              have B3 : Blk (((((((((((Z.setCell ⟨gx + 1, 0, none⟩ (.int .i64 11)).setCell ⟨gx + 1, 1, none⟩ (.int .i64 0)).setCell ⟨gx + 1, 2, none⟩ (.int .i64 0)).setCell ⟨gx + 1, 3, none⟩ (.int .i64 0)).setCell ⟨gx + 1, 4, none⟩ (.int .i64 0)).setCell ⟨gx + 1, 5, none⟩ (.string ⟨#[]⟩)).setCell ⟨gx + 1, 6, none⟩ (.int .i64 0)).setCell ⟨gx + 1, 7, none⟩ (.slice none 0 0)).setCell ⟨gx + 1, 8, none⟩ (.slice none 0 0)).setCell ⟨gx + 1, 9, none⟩ (.slice none 0 0)).setCell ⟨gx + 1, 10, none⟩ (.slice fA 1 fcap)) (gx + 1) 31 #[.int .i64 11, .int .i64 0, .int .i64 0, .int .i64 0, .int .i64 0, .string ⟨#[]⟩, .int .i64 0, .slice none 0 0, .slice none 0 0, .slice none 0 0, .slice fA 1 fcap] := st11_blk (PL.mk 11 0 .leaf nilX nilG fA 1 fcap fkid) (BR.out.grow gZ)
              obtain ⟨b3, f3⟩ := B3.rules
              refine bodyPost_ret (v := .agg #[.int .i64 11, .int .i64 0, .int .i64 0, .int .i64 0, .int .i64 0, .string ⟨#[]⟩, .int .i64 0, .slice none 0 0, .slice none 0 0, .slice none 0 0, .slice fA 1 fcap]) (by simp [results, Try.results28, go_sem, b3]) rfl ?_
              exact RP.put3 (r := PL.mk 11 0 .leaf nilX nilG fA 1 fcap fkid) (b := gx + 2) (pxs_11 (P0.out.grow gZ)) ((show nP (PL.mk 11 0 .leaf nilX nilG fA 1 fcap fkid) = mkP 11 0 .leaf [] [] 1 (fun _ => nP (fkid 0)) from mkP_congr (fun i hi => by obtain rfl : i = 0 := (by omega); rfl)).trans (planP_10b N0.out).symm) (GR.out.trans gZ) (by have := HX.out.1; omega) (by omega)
            · have d10 : (fk == 10) = false := by simpa using e10
              have E := Lib.hid (And.intro e11 e10)
              clear e10 e11
              have H := Lib.hid (FINP.out 11 n y xs ag (HP.out.nx))
              go_wp2
              have B3 := st11_blk (PL.mk 11 n y xs ag (some ⟨gB, 0, none⟩) 1 cp F) (BR.out.grow gZ)
              simp only [st11, PL.k, PL.n, PL.x, PL.xs, PL.ag, PL.A, PL.m, PL.cap] at B3
              obtain ⟨b3, f3⟩ := B3.rules
              refine bodyPost_ret (v := ((PL.mk 11 n y xs ag (some ⟨gB, 0, none⟩) 1 cp F)).val) (by simp [results, Try.results28, go_sem, b3, PL.val, PL.k, PL.n, PL.x, PL.xs, PL.ag, PL.A, PL.m, PL.cap]) rfl ?_
              exact RP.put3 (r := (PL.mk 11 n y xs ag (some ⟨gB, 0, none⟩) 1 cp F)) (b := gx + 2) (H.out.1.grow gZ) (H.out.2.trans (planP_10c (by decide) N0.out E.out.1 E.out.2).symm) (GR.out.trans gZ) (by have := HX.out.1; omega) (by omega)
      · obtain ⟨br, fr⟩ := BR.out.rules
        have lr := BR.out.lt
        have H := Lib.hid (FINP.out 12 n y xs ag (HP.out.nx))
        go_wp2
        have B3 := st11_blk (PL.mk 12 n y xs ag B j cp F) (BR.out)
        simp only [st11, PL.k, PL.n, PL.x, PL.xs, PL.ag, PL.A, PL.m, PL.cap] at B3
        obtain ⟨b3, f3⟩ := B3.rules
        refine bodyPost_ret (v := ((PL.mk 12 n y xs ag B j cp F)).val) (by simp [results, Try.results28, go_sem, b3, PL.val, PL.k, PL.n, PL.x, PL.xs, PL.ag, PL.A, PL.m, PL.cap]) rfl ?_
        exact RP.put3 (r := (PL.mk 12 n y xs ag B j cp F)) (b := gx + 2) H.out.1 (H.out.2.trans (planP_o (by decide)).symm) GR.out (by have := HX.out.1; omega) (by omega)
      · obtain ⟨br, fr⟩ := BR.out.rules
        have lr := BR.out.lt
        have H := Lib.hid (FINP.out 13 n y xs ag (HP.out.nx))
        go_wp2
        have B3 := st11_blk (PL.mk 13 n y xs ag B j cp F) (BR.out)
        simp only [st11, PL.k, PL.n, PL.x, PL.xs, PL.ag, PL.A, PL.m, PL.cap] at B3
        obtain ⟨b3, f3⟩ := B3.rules
        refine bodyPost_ret (v := ((PL.mk 13 n y xs ag B j cp F)).val) (by simp [results, Try.results28, go_sem, b3, PL.val, PL.k, PL.n, PL.x, PL.xs, PL.ag, PL.A, PL.m, PL.cap]) rfl ?_
        exact RP.put3 (r := (PL.mk 13 n y xs ag B j cp F)) (b := gx + 2) H.out.1 (H.out.2.trans (planP_o (by decide)).symm) GR.out (by have := HX.out.1; omega) (by omega)
theorem rec_any (ts : List (L2 Int)) (At : Option Addr) (nt : Nat) (p : PL) : RecC ts At nt p := by
  induction p with
  | leaf => intro S w _ h; exact absurd h id
  | mk k n y xs ag A m cap kid ih => exact rec_mk ts At nt k n y xs ag A m cap kid ih
end Go.Proofs.Ytpgpecdiajmgmaa

namespace Go.Proofs.Ytpgpecdiajmgmaa
open Go.RowKit Go.Calm
set_option linter.unusedSimpArgs false
set_option linter.unusedVariables false

set_option maxRecDepth 100000 in
set_option maxHeartbeats 4000000 in
theorem rplan9_any (ts : List (L2 Int)) (At : Option Addr) (nt : Nat) (p : PL) (w : World) (hlt : ts.length ≤ reachN) (hl : ∀ t ∈ ts, t.xs.length ≤ reachN) (hts : TSl w At ts) (hp : PX w p) :
    Calls Try.prog 10 #[.slice At ts.length nt, p.val] w fun en w' => PlR (tabs ts) p w w' en := by
  have cc := fun (q : PL) W (h : Grow w W) (hq : PX W q) => rtypes5_any ts At nt q W hlt hl (hts.grow h) hq
  have p0 : PXs (fun q => q < w.heap.size) w p := hp.all.mono (fun q hq _ => hq)
  have P0 := Lib.hid p0
  have HP := Lib.hid hp
  obtain ⟨CE, hCE⟩ : ∃ CE, colsE (tabs ts) p = CE := ⟨_, rfl⟩
  unfold PlR
  have HCE := Lib.hid hCE
  have WF : CE.2 = 0 → WfP p := fun h => colsE_wf (by rw [hCE]; exact h)
  have HWF := Lib.hid WF
  have HTS := Lib.hid hts
  have cc1 := fun W (h : Grow w W) => cc p W h (HP.out.grow h)
  rw [hCE] at cc1 ⊢
  have CC := Lib.hid cc
  unfold PL.val at cc1
  have CC1 := Lib.hid cc1
  clear hts hp cc cc1 p0 hCE WF
  have vl : PL.leaf.val = .agg #[.int .i64 0, .int .i64 0, .int .i64 0, .int .i64 0, .int .i64 0, .string ⟨#[]⟩, .int .i64 0, .slice none 0 0, .slice none 0 0, .slice none 0 0, .slice none 0 0] := rfl
  have VL := Lib.hid vl
  clear vl
  obtain ⟨v, hv⟩ : ∃ v, v = p.val := ⟨_, rfl⟩
  unfold PL.val
  clear hv v
  go_enter Try.func10, Try.ntmps10
  go_upto_region 1 with fail
  refine wp_forget (fun X => Blk X w.heap.size 31 #[.int .i64 p.k, .int .i64 p.n, .int .i64 p.x.kind, .int .i64 p.x.v.k, .int .i64 p.x.v.n, .string p.x.v.s, .int .i64 p.x.col, .slice p.x.A p.x.n p.x.cap, .slice p.xs.A p.xs.l.length p.xs.c, .slice p.ag.A p.ag.l.length p.ag.c, .slice p.A p.m p.cap] ∧ Blk X (w.heap.size + 1) 31 #[.int .i64 0, .int .i64 0, .int .i64 0, .int .i64 0, .int .i64 0, .string ⟨#[]⟩, .int .i64 0, .slice none 0 0, .slice none 0 0, .slice none 0 0, .slice none 0 0] ∧ Grow w X) ⟨(Blk.new _ _ _).al _, Blk.new' _ _ _ (by simp), (by repeat (first | (with_reducible exact Grow.refl _) | (with_reducible assumption) | (with_reducible refine Grow.set ?_ (by first | (simp; done) | (simp; omega)) _) | (with_reducible refine Grow.al ?_ _) | (with_reducible refine Grow.drew ?_) | (with_reducible refine Grow.drewN ?_ _) | (with_reducible refine Grow.trans ?_ (by assumption))))⟩ ?_
  rintro X ⟨Bx, Br, G⟩
  obtain ⟨gx, hgx⟩ : ∃ gx, w.heap.size = gx := ⟨_, rfl⟩
  have HGX := Lib.hid hgx
  rw [hgx] at Bx Br ⊢
  clear hgx
  have BX := Lib.hid Bx
  have BR := Lib.hid Br
  have lx := Bx.lt
  have lr := Br.lt
  obtain ⟨bx, fx⟩ := Bx.rules
  clear Bx Br
  by_cases h0 : CE.2 = 0
  · have d0 : (CE.2 != 0) = false := by simp [h0]
    have cp := fun W (h : Grow X W) => (rec_any ts At nt p (fun q => q < w.heap.size) W ⟨HTS.out.grow (G.trans h), hlt, hl⟩ (HWF.out h0) (P0.out.grow (G.trans h)))
    unfold PL.val RP at cp
    have CP := Lib.hid cp
    clear cp
    have E0 := Lib.hid h0
    clear h0
    go_upto_region 5 with (first | (go_at_call 27; ((with_reducible refine (CC1.out _ (by repeat (first | (with_reducible exact Grow.refl _) | (with_reducible assumption) | (with_reducible refine Grow.set ?_ (by first | (simp; done) | (simp; omega)) _) | (with_reducible refine Grow.al ?_ _) | (with_reducible refine Grow.drew ?_) | (with_reducible refine Grow.drewN ?_ _) | (with_reducible refine Grow.trans ?_ (by assumption))))).mono ?_); rintro en w7 ⟨B7, c7, rfl, hi7, hg7⟩; clear hi7; have G7 : Grow X w7 := Grow.trans (by repeat (first | (with_reducible exact Grow.refl _) | (with_reducible assumption) | (with_reducible refine Grow.set ?_ (by first | (simp; done) | (simp; omega)) _) | (with_reducible refine Grow.al ?_ _) | (with_reducible refine Grow.drew ?_) | (with_reducible refine Grow.drewN ?_ _) | (with_reducible refine Grow.trans ?_ (by assumption)))) hg7; obtain ⟨bx7, fx7⟩ := (BX.out.grow G7).rules; have lx7 := (BX.out.grow G7).lt)) | (go_at_call 28; ((with_reducible refine (CP.out _ (by repeat (first | (with_reducible exact Grow.refl _) | (with_reducible assumption) | (with_reducible refine Grow.set ?_ (by first | (simp; done) | (simp; omega)) _) | (with_reducible refine Grow.al ?_ _) | (with_reducible refine Grow.drew ?_) | (with_reducible refine Grow.drewN ?_ _) | (with_reducible refine Grow.trans ?_ (by assumption))))).mono ?_); rintro en w8 ⟨r, rfl, hr, hn, hg8⟩)))
    refine wp_forget (fun Y => ∃ gq, gq = w8.heap.size ∧ Blk Y gq 31 (pC r) ∧ gx + 1 < gq ∧ PXs (Sow2 (fun q => q < w.heap.size) w.heap.size gx) Y r ∧ Grow X Y) ⟨_, rfl, Blk.new _ _ _, by have := (BR.out.grow (Grow.trans G7 (by repeat (first | (with_reducible exact Grow.refl _) | (with_reducible assumption) | (with_reducible refine Grow.set ?_ (by first | (simp; done) | (simp; omega)) _) | (with_reducible refine Grow.al ?_ _) | (with_reducible refine Grow.drew ?_) | (with_reducible refine Grow.drewN ?_ _) | (with_reducible refine Grow.trans ?_ (by assumption)))))).lt; have := hg8.size; omega, ((hr.mono (fun q _ hq => by
      have h1 := HGX.out
      have h2 := (BR.out.grow G7).lt
      rcases hq with h | h
      · exact .inl ⟨h, h⟩
      · exact .inr ⟨by omega, by omega, by omega⟩)).grow ((Grow.refl w8).al _)), (by repeat (first | (with_reducible exact Grow.refl _) | (with_reducible assumption) | (with_reducible refine Grow.set ?_ (by first | (simp; done) | (simp; omega)) _) | (with_reducible refine Grow.al ?_ _) | (with_reducible refine Grow.drew ?_) | (with_reducible refine Grow.drewN ?_ _) | (with_reducible refine Grow.trans ?_ (by assumption))))⟩ ?_
    rintro Y2 ⟨gq, hgq, BQ, lq, hrY, GY2⟩
    rw [← hgq]
    have HN := Lib.hid hn
    clear hr hn hgq
    have HR := Lib.hid hrY
    obtain ⟨bq, fq⟩ := BQ.rules
    have lq2 := BQ.lt
    have BQ' := Lib.hid BQ
    obtain ⟨bx2, fx2⟩ := (BX.out.grow GY2).rules
    have lx2 := (BX.out.grow GY2).lt
    obtain ⟨D, hD⟩ : ∃ D, colsE (tabs ts) r = D := ⟨_, rfl⟩
    have c2 := fun W (h : Grow Y2 W) => CC.out r W (G.trans (GY2.trans h)) ((hrY.grow h).px)
    rw [hD] at c2
    unfold PL.val at c2
    have C2 := Lib.hid c2
    have HD := Lib.hid hD
    clear c2 hD hrY BQ
    by_cases h2 : D.2 = 0
    · have d2 : (D.2 != 0) = false := by simp [h2]
      have E2 := Lib.hid h2
      clear h2
      go_wp2_with (go_at_call 27; ((with_reducible refine (C2.out _ (by repeat (first | (with_reducible exact Grow.refl _) | (with_reducible assumption) | (with_reducible refine Grow.set ?_ (by first | (simp; done) | (simp; omega)) _) | (with_reducible refine Grow.al ?_ _) | (with_reducible refine Grow.drew ?_) | (with_reducible refine Grow.drewN ?_ _) | (with_reducible refine Grow.trans ?_ (by assumption))))).mono ?_); rintro en w9 ⟨B9, c9, rfl, hi9, hg9⟩; clear hi9; have G9 : Grow Y2 w9 := Grow.trans (by repeat (first | (with_reducible exact Grow.refl _) | (with_reducible assumption) | (with_reducible refine Grow.set ?_ (by first | (simp; done) | (simp; omega)) _) | (with_reducible refine Grow.al ?_ _) | (with_reducible refine Grow.drew ?_) | (with_reducible refine Grow.drewN ?_ _) | (with_reducible refine Grow.trans ?_ (by assumption)))) hg9; obtain ⟨bq9, fq9⟩ := (BQ'.out.grow G9).rules; have lq9 := (BQ'.out.grow G9).lt; obtain ⟨br9, fr9⟩ := (BR.out.grow (GY2.trans G9)).rules; have lr9 := (BR.out.grow (GY2.trans G9)).lt))
      have B3 := st11_blk r (BR.out.grow (GY2.trans G9))
      simp only [st11] at B3
      obtain ⟨b3, f3⟩ := B3.rules
      refine bodyPost_ret (v := .tuple #[r.val, .int .i64 0]) (by simp [results, Try.results10, go_sem, b3, PL.val]) rfl ?_
      have hr9 := ((HR.out.grow G9).move (w' := st11 w9 (gx + 1) r) (fun q hq _ => st11_heap w9 (gx + 1) r (by have := HGX.out; rcases hq with h | h; omega; exact h.2.2)) (by rw [st11_size]; exact Nat.le_refl _)).px
      exact ⟨r, by rw [E0.out], st11_grow (G.trans (GY2.trans G9)) (by have := HGX.out; omega) r, hr9, fun _ => by unfold plP; rw [HN.out, if_pos (by rw [← HN.out, colsE_nP, HD.out]; exact E2.out)]⟩
    · have d2 : (D.2 != 0) = true := by simpa using h2
      have E2 := Lib.hid h2
      clear h2
      go_wp2_with (go_at_call 27; ((with_reducible refine (C2.out _ (by repeat (first | (with_reducible exact Grow.refl _) | (with_reducible assumption) | (with_reducible refine Grow.set ?_ (by first | (simp; done) | (simp; omega)) _) | (with_reducible refine Grow.al ?_ _) | (with_reducible refine Grow.drew ?_) | (with_reducible refine Grow.drewN ?_ _) | (with_reducible refine Grow.trans ?_ (by assumption))))).mono ?_); rintro en w9 ⟨B9, c9, rfl, hi9, hg9⟩; clear hi9; have G9 : Grow Y2 w9 := Grow.trans (by repeat (first | (with_reducible exact Grow.refl _) | (with_reducible assumption) | (with_reducible refine Grow.set ?_ (by first | (simp; done) | (simp; omega)) _) | (with_reducible refine Grow.al ?_ _) | (with_reducible refine Grow.drew ?_) | (with_reducible refine Grow.drewN ?_ _) | (with_reducible refine Grow.trans ?_ (by assumption)))) hg9; obtain ⟨bx9, fx9⟩ := (BX.out.grow (GY2.trans G9)).rules; have lx9 := (BX.out.grow (GY2.trans G9)).lt; obtain ⟨br9, fr9⟩ := (BR.out.grow (GY2.trans G9)).rules; have lr9 := (BR.out.grow (GY2.trans G9)).lt))
      have B3 := st11_blk p (BR.out.grow (GY2.trans G9))
      simp only [st11] at B3
      obtain ⟨b3, f3⟩ := B3.rules
      refine bodyPost_ret (v := .tuple #[p.val, .int .i64 0]) (by simp [results, Try.results10, go_sem, b3, PL.val]) rfl ?_
      have hp9 := ((P0.out.grow (G.trans (GY2.trans G9))).move (w' := st11 w9 (gx + 1) p) (fun q hq _ => st11_heap w9 (gx + 1) p (by have := HGX.out; omega)) (by rw [st11_size]; exact Nat.le_refl _)).px
      exact ⟨p, by rw [E0.out], st11_grow (G.trans (GY2.trans G9)) (by have := HGX.out; omega) p, hp9, fun _ => by unfold plP; rw [if_neg (by rw [← HN.out, colsE_nP, HD.out]; exact E2.out)]⟩
  · have d0 : (CE.2 != 0) = true := by simpa using h0
    have H0 := Lib.hid h0
    clear h0
    go_wp2_with (go_at_call 27; ((with_reducible refine (CC1.out _ (by repeat (first | (with_reducible exact Grow.refl _) | (with_reducible assumption) | (with_reducible refine Grow.set ?_ (by first | (simp; done) | (simp; omega)) _) | (with_reducible refine Grow.al ?_ _) | (with_reducible refine Grow.drew ?_) | (with_reducible refine Grow.drewN ?_ _) | (with_reducible refine Grow.trans ?_ (by assumption))))).mono ?_); rintro en w7 ⟨B7, c7, rfl, hi7, hg7⟩; clear hi7; have G7 : Grow X w7 := Grow.trans (by repeat (first | (with_reducible exact Grow.refl _) | (with_reducible assumption) | (with_reducible refine Grow.set ?_ (by first | (simp; done) | (simp; omega)) _) | (with_reducible refine Grow.al ?_ _) | (with_reducible refine Grow.drew ?_) | (with_reducible refine Grow.drewN ?_ _) | (with_reducible refine Grow.trans ?_ (by assumption)))) hg7; obtain ⟨br, fr⟩ := (BR.out.grow G7).rules; have lr7 := (BR.out.grow G7).lt))
    have B3 : Blk (((((((((((w7.setCell ⟨gx + 1, 0, none⟩ (.int .i64 0)).setCell ⟨gx + 1, 1, none⟩ (.int .i64 0)).setCell ⟨gx + 1, 2, none⟩ (.int .i64 0)).setCell ⟨gx + 1, 3, none⟩ (.int .i64 0)).setCell ⟨gx + 1, 4, none⟩ (.int .i64 0)).setCell ⟨gx + 1, 5, none⟩ (.string ⟨#[]⟩)).setCell ⟨gx + 1, 6, none⟩ (.int .i64 0)).setCell ⟨gx + 1, 7, none⟩ (.slice none 0 0)).setCell ⟨gx + 1, 8, none⟩ (.slice none 0 0)).setCell ⟨gx + 1, 9, none⟩ (.slice none 0 0)).setCell ⟨gx + 1, 10, none⟩ (.slice none 0 0)) (gx + 1) 31 #[.int .i64 0, .int .i64 0, .int .i64 0, .int .i64 0, .int .i64 0, .string ⟨#[]⟩, .int .i64 0, .slice none 0 0, .slice none 0 0, .slice none 0 0, .slice none 0 0] := st11_blk .leaf (BR.out.grow G7)
    obtain ⟨b3, f3⟩ := B3.rules
    refine bodyPost_ret (by simp [results, Try.results10, go_sem, b3] <;> rfl) rfl ?_
    exact ⟨.leaf, rfl, st11_grow (G.trans G7) (by have := HGX.out; omega) .leaf, .leaf, fun h => absurd h H0.out⟩
end Go.Proofs.Ytpgpecdiajmgmaa
