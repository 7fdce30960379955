/-
  Joined texts of this claim: Gr6, Gr7. What each proves its own head says; no condition beside those that each theorem names.
-/
import Derived.Test.YtigpbihjjadmlaaGreatGGa
import Derived.Test.YtigpbihjjadmlaaGreatGAb
import Derived.Test.YtigpbihjjadmlaaGreatGZb
namespace Go.Proofs.YtigpbihjjadmlaaGreat
open Go.RowKit Go.Calm
set_option linter.unusedSimpArgs false
set_option linter.unusedVariables false

structure Kq where
  A : Option Addr
  row : List V
  cap : Nat
def flatQ (l : List Kq) : List Value := l.map (fun q => .slice q.A q.row.length q.cap)
theorem flatQ_app (a b : List Kq) : flatQ (a ++ b) = flatQ a ++ flatQ b := by simp [flatQ]
theorem info_vals : (Tryz.prog.info? 40).map (fun i => (i.zero, i.size, i.bytes)) = some (some (.slice none 0 0), 1, 24) := by kernel_rfl
theorem info_vals' : ∃ ti, Tryz.prog.info? 40 = some ti ∧ ti.zero = some (.slice none 0 0) ∧ ti.size = 1 ∧ ti.bytes = 24 := by
  have h := info_vals
  cases hi : Tryz.prog.info? 40 with
  | none => rw [hi] at h; simp at h
  | some i => rw [hi] at h; simp at h; exact ⟨i, rfl, h⟩
theorem wpList_append_key {w : World} {ops : Array Oper} {rest : List Oper} {o : Oper} {a : Act} {Q : Exit → Act → World → Prop} (hgd : o.guard = none) (s x : Operand)
    (ho : o.op = .call { callee := .builtin .append, args := #[s, x], argTypes := #[58, 58] })
    (base : Nat) (v : Value) (n : Nat) (cs : List Value) (hs : a.eval s = v) (hown : w.ownsRow base 40 1 v n cs) (g c : Nat) (A : Option Addr) (n0 c0 : Nat) (hx : a.eval x = .slice (some ⟨g, 0, none⟩) 1 c) (hb : Blk w g 40 #[.slice A n0 c0]) (hB : n + 1 ≤ 1000000) (hbase : base ≤ w.heap.size)
    (h : ∀ v' w', w'.ownsRow base 40 1 v' (n + 1) (cs ++ [.slice A n0 c0]) → w.grownBy w' v.ownBlock → wpList Tryz.prog ops Q rest (a.put o.dst v') w') : wpList Tryz.prog ops Q (o :: rest) a w := by
  obtain ⟨ti, hti, hz0, hz1, hz2⟩ := info_vals'
  refine wpList_append_own _ hgd s x _ ho base 40 ti (.slice none 0 0) 1 24 Tryz.underlying58 hti hz0 hz1 hz2 rfl (by decide) v n cs hs hown ⟨g, 0, none⟩ 1 c [.slice A n0 c0] hx rfl (fun j u hj => ?_) (fun u hu => ?_) (by unfold maxLen; omega) (by omega) hbase ?_
  · rw [addr_add, hb.cell]
    match j, hj with
    | 0, hj => simp at hj; subst hj; rfl
  · simp at hu
    subst hu; rfl
  · intro v' w' h1 h2 _
    exact h v' w' h1 h2
theorem own_cellsQ {w : World} {base n c : Nat} {B : Option Addr} {l : List Kq} (h : w.ownsRow base 40 1 (.slice B n c) n (flatQ l)) : ∀ i x, l[i]? = some x → ∃ g, B = some ⟨g, 0, none⟩ ∧ w.cell? ⟨g, i, none⟩ = some (.slice x.A x.row.length x.cap) := fun i x hx => by
  rcases own_addr h with ⟨_, h0, _⟩ | ⟨g, e, o, _⟩
  · have hl := h.1
    simp [flatQ] at hl
    have := (List.getElem?_eq_some_iff.1 hx).1
    omega
  · have ca := h.cells o i (.slice x.A x.row.length x.cap) (by simp [flatQ, hx])
    rw [addr_add, Nat.zero_add] at ca
    exact ⟨g, e, ca⟩
theorem own_oneQ {w : World} {base g : Nat} (hb : base ≤ g) (h : Blk w g 40 #[.slice none 0 0]) : w.ownsRow base 40 1 (.slice (some ⟨g, 0, none⟩) 1 1) 1 (flatQ [⟨none, [], 0⟩]) :=
  ⟨rfl, .inr ⟨g, 1, _, rfl, hb, h, Nat.le_refl _, by unfold maxLen; omega, rfl, rfl⟩⟩
theorem kv_nil (w : World) (A : Option Addr) : KV w A [] := ⟨fun i x hx => by simp at hx, fun i x hx => by simp at hx⟩
theorem headsK_nil (es : List E) : headsK es [] = if es.length = 0 then [[]] else [] := rfl
theorem headsK_snoc (es : List E) (l : List Z) (r : Z) : headsK es (l ++ [r]) = if 0 < r.2 then addK (headsK es l) (valsR es r.1) else headsK es l := by
  unfold headsK keysK pg
  rw [List.filter_append, List.map_append, List.foldl_append]
  by_cases h : 0 < r.2 <;> simp [h]
theorem headsK_sub {es : List E} {l m : List Z} {q : List V} (h : q ∈ headsK es l) : q ∈ headsK es (l ++ m) := by
  rcases (headsK_mem es l q).1 h with h | ⟨r, hr, e⟩
  · exact (headsK_mem _ _ _).2 (.inl h)
  · refine (headsK_mem _ _ _).2 (.inr ⟨r, ?_, e⟩)
    unfold pg at hr ⊢
    rw [List.filter_append]
    exact List.mem_append_left _ hr
theorem any_snoc {l : List Kq} {j : Nat} {h : Kq} (p : Kq → Bool) (hj : l[j]? = some h) : (l.take (j + 1)).any p = ((l.take j).any p || p h) := by
  obtain ⟨h1, e1⟩ := List.getElem?_eq_some_iff.1 hj
  rw [List.take_succ_eq_append_getElem h1, e1, List.any_append]
  simp
def rowsX (es : List E) (xs : List I) (q : List V) : List I := xs.filter (fun x => decide (0 < x.w) && decide (valsR es x.row = q))
theorem rowsX_map (es : List E) (xs : List I) (q : List V) : (rowsX es xs q).map zOf = rowsK es (xs.map zOf) q := by
  unfold rowsX rowsK pg
  rw [List.filter_map, List.filter_map, List.filter_filter]
  congr 1
  refine List.filter_congr (fun x _ => ?_)
  simp only [Function.comp, zOf]
  rw [Bool.and_comm]
  congr 1
theorem rowsX_snoc (es : List E) {xs : List I} {k : Nat} {x : I} (q : List V) (h : xs[k]? = some x) : rowsX es (xs.take (k + 1)) q = rowsX es (xs.take k) q ++ if 0 < x.w ∧ valsR es x.row = q then [x] else [] := by
  obtain ⟨h1, e1⟩ := List.getElem?_eq_some_iff.1 h
  unfold rowsX
  rw [List.take_succ_eq_append_getElem h1, e1, List.filter_append]
  congr 1
  by_cases a : 0 < x.w <;> by_cases b : valsR es x.row = q <;> simp [a, b]
theorem rowsX_len (es : List E) (xs : List I) (q : List V) : (rowsX es xs q).length ≤ xs.length := List.length_filter_le _ _
theorem rowsX_sub {es : List E} {xs : List I} {q : List V} : ∀ x ∈ rowsX es xs q, x ∈ xs := fun x hx => (List.mem_filter.1 hx).1
theorem key_eq {a b : List V} (ha : (∀ v ∈ a, RV v) ∧ bareR a = a) (hb : (∀ v ∈ b, RV v) ∧ bareR b = b) : rowsG ordV a b = 0 ↔ a = b := by
  have := ordR_zero a b ha.1 hb.1
  rw [ha.2, hb.2] at this
  exact this
end Go.Proofs.YtigpbihjjadmlaaGreat

namespace Go.Proofs.YtigpbihjjadmlaaGreat
open Go.RowKit Go.Calm
set_option linter.unusedSimpArgs false
set_option linter.unusedVariables false

set_option maxRecDepth 100000 in
set_option maxHeartbeats 16000000 in
theorem rgroup_any (cols : List Int) (Ac : Option Addr) (cc : Nat) (es : List E) (Ae : Option Addr) (ce : Nat) (aggs : List Ag) (Aa : Option Addr) (ca : Nat) (xs : List I) (A : Option Addr) (c : Nat) (w : World) (hlen : cols.length ≤ 9223372036854775807) (hle : es.length ≤ 140737488355328) (hla : aggs.length ≤ 140737488355328) (hc : ISl w Ac cols) (hE : ESl w Ae es) (hA : AgSl w Aa aggs) (h : In w ⟨A, xs, c⟩) :
    Calls Tryz.prog 9 #[.slice Ac cols.length cc, .slice Ae es.length ce, .slice Aa aggs.length ca, .slice A xs.length c] w fun en w' => Gives w w' en (grpZ cols es aggs (xs.map zOf)) := by
  have H := Lib.hid h
  have HE := Lib.hid hE
  have HA := Lib.hid hA
  have HC := Lib.hid hc
  have ct := rtypes_any cols Ac cc es Ae ce w hlen (by omega) hc hE
  have ca0 := fun W (hg : Grow w W) (h8 : aggs.length ≤ 8) => raggtypes_any cols Ac cc aggs Aa ca W hlen h8 (HC.out.grow hg) (HA.out.grow hg)
  have ci := fun W (hg : Grow w W) => rinput_any cols Ac cc xs A c W hlen (HC.out.grow hg) (H.out.grow hg)
  obtain ⟨TS, TE, hTE⟩ : ∃ TS TE, typesE cols es = (TS, TE) := ⟨_, _, rfl⟩
  obtain ⟨AE, hAE⟩ : ∃ AE, aggE cols aggs = AE := ⟨_, rfl⟩
  obtain ⟨z, hz⟩ : ∃ z, xs.map zOf = z := ⟨_, rfl⟩
  rw [hz] at ci ⊢
  obtain ⟨IE, hIE⟩ : ∃ IE, inputE cols z = IE := ⟨_, rfl⟩
  rw [hTE] at ct
  rw [hAE] at ca0
  rw [hIE] at ci
  obtain ⟨Q, hQ⟩ : ∃ Q, grpZ cols es aggs z = Q := ⟨_, rfl⟩
  rw [hQ]
  have fin : Q = if 8 < es.length + aggs.length then ([], 5) else if TE ≠ 0 then ([], TE) else if AE ≠ 0 then ([], AE) else if IE ≠ 0 then ([], IE) else (setZ (grpL es aggs z), 0) := by rw [← hQ]; unfold grpZ; rw [hTE, hAE, hIE]
  have Fin := Lib.hid fin
  have HTE := Lib.hid hTE
  have HAE := Lib.hid hAE
  have HIE := Lib.hid hIE
  have HZ := Lib.hid hz
  have hwp : IntKind.i64.wrap ((es.length : Int) + (aggs.length : Int)) = ((es.length + aggs.length : Nat) : Int) := by rw [IntKind.wrap_i64]; omega
  clear h hc hE hA hTE hAE hIE hQ fin hz
  go_enter Tryz.func9, Tryz.ntmps9
  by_cases h8 : 8 < es.length + aggs.length
  · have d8 : decide ((8 : Int) < ((es.length + aggs.length : Nat) : Int)) = true := decide_eq_true (by omega)
    have eQ : Q = ([], 5) := by rw [Fin.out, if_pos h8]
    go_wp2
    refine bodyPost_ret (by simp [results, Tryz.results9, go_sem] <;> rfl) rfl ?_
    exact ⟨none, [], 0, rfl, zin_nil _ _, rfl, SlOk.nil, Grow.refl _⟩
  · have d8 : decide ((8 : Int) < ((es.length + aggs.length : Nat) : Int)) = false := decide_eq_false (by omega)
    have ca1 := fun W (hg : Grow w W) => ca0 W hg (by omega)
    have eQ := Fin.out
    rw [if_neg h8] at eQ
    have EQ := Lib.hid eQ
    clear Fin eQ ca0
    by_cases h0 : TE = 0
    · by_cases h1 : AE = 0
      · by_cases h2 : IE = 0
        · subst h0 h1 h2
          have eQ : Q = (setZ (grpL es aggs z), 0) := by rw [EQ.out]; simp
          have EQ2 := Lib.hid eQ
          have ok : GrpOk cols es aggs z := ⟨by omega, by rw [HTE.out], HAE.out, HIE.out⟩
          obtain ⟨_, hwz, hfit⟩ := inputE_zero HIE.out
          rw [← HZ.out] at hwz hfit
          obtain ⟨a1, a2, a3, a4⟩ := S.facts (s := ⟨A, xs, c⟩) hwz
          have a1 : xs.length ≤ 400 := a1
          obtain ⟨he8, hty⟩ := typesE_zero ok.es
          have hn := ok.n
          have hkey : ∀ x ∈ xs, (∀ v ∈ valsR es x.row, RV v) ∧ bareR (valsR es x.row) = valsR es x.row := fun x hx => by
            refine ⟨fun v hv => ?_, ?_⟩
            · obtain ⟨e, he, rfl⟩ := List.mem_map.1 hv
              exact fit_rv (hty e he) (hfit (zOf x) (List.mem_map_of_mem hx))
            · unfold bareR valsR
              rw [List.map_map]
              exact List.map_congr_left (fun e _ => of_isbare _ _)
          have OK := Lib.hid ok
          have A2 := Lib.hid (show ∀ y ∈ xs, y.row.length ≤ 8 from a2)
          have A3 := Lib.hid (show ∀ y ∈ xs, ∀ v ∈ y.row, RV v from a3)
          have A4 := Lib.hid (show ∀ y ∈ xs, -1000000 ≤ y.w ∧ y.w ≤ 1000000 from a4)
          have Hfit := Lib.hid (show ∀ y ∈ xs, FitR cols y.row from fun y hy => (fits_iff _ _).1 (hfit (zOf y) (List.mem_map_of_mem hy)))
          have Hty := Lib.hid (show ∀ x ∈ es, ∃ T, wt cols x T from fun x hx => by obtain ⟨T, hok⟩ := okay_of (hty x hx); exact ⟨T, hok.ty⟩)
          have HKEY := Lib.hid hkey
          clear ok eQ hwz hfit a2 a3 a4 hty hkey EQ
          go_upto_region 13 with (first
            | (go_at_call 19; ((with_reducible refine ct.mono ?_); rintro e w2 ⟨BT, capT, rfl, _, _, hg2⟩))
            | (go_at_call 32; ((with_reducible refine (ca1 _ hg2).mono ?_); rintro e w3 ⟨vT, rfl, hg3⟩))
            | (go_at_call 21; ((with_reducible refine (ci _ (hg2.trans hg3)).mono ?_); rintro e w4 ⟨rfl, hg4⟩)))
          have G4 := hg2.trans (hg3.trans hg4)
          clear ct ca1 ci hg2 hg3 hg4 hwp d8
          go_cut [63] (fun s wx => s = .bool (decide (es.length = 0)) ∧ wx = w4)
          case first =>
            by_cases e1 : es.length = 0
            · have d1 : ((es.length : Int) == 0) = true := by rw [beq_iff_eq]; omega
              go_wp2
              go_meet
              exact ⟨by rw [decide_eq_true e1], rfl⟩
            · have d1 : ((es.length : Int) == 0) = false := by rw [beq_eq_false_iff_ne]; omega
              go_wp2
              go_meet
              exact ⟨by rw [decide_eq_false e1], rfl⟩
          case rest =>
          obtain ⟨rfl, hwc⟩ := hcut
          subst wc
          go_upto_if 63 with fail
          go_cut [15] (fun t wx => ∃ Hd : List Kq, wx.ownsRow w4.heap.size 40 1 t Hd.length (flatQ Hd) ∧ Hd.map Kq.row = headsK es [] ∧ (∀ q ∈ Hd, KV wx q.A q.row) ∧ Hd.length ≤ 1 ∧ Grow w4 wx)
          case first =>
            by_cases e1 : es.length = 0
            · have d1 : decide (es.length = 0) = true := decide_eq_true e1
              have hh : headsK es [] = [[]] := by rw [headsK_nil, if_pos e1]
              have HH := Lib.hid hh
              clear hh
              go_wp2
              go_meet
              exact ⟨[⟨none, [], 0⟩], own_oneQ (Nat.le_refl _) (Blk.new _ _ _), by rw [HH.out]; rfl, fun q hq => by simp at hq; subst hq; exact kv_nil _ _, Nat.le_refl _, (Grow.refl _).al _⟩
            · have d1 : decide (es.length = 0) = false := decide_eq_false e1
              have hh : headsK es [] = [] := by rw [headsK_nil, if_neg e1]
              have HH := Lib.hid hh
              clear hh
              go_wp2
              go_meet
              exact ⟨[], World.ownsRow_nil _ _ _ _, by rw [HH.out]; rfl, fun q hq => by simp at hq, Nat.zero_le _, Grow.refl _⟩
          case rest =>
            obtain ⟨Hd0, own0, map0, kv0, len0, G5⟩ := hcut
            rename World => w5
            have I0 := Lib.hid (And.intro own0 (And.intro map0 kv0))
            clear own0 map0 kv0
            go_wp2
            go_loopw [15, 67] (fun t i wr => ∃ (k : Nat) (Hd : List Kq), k ≤ xs.length ∧ i = .int .i64 k ∧ wr.ownsRow w4.heap.size 40 1 t Hd.length (flatQ Hd) ∧ Hd.map Kq.row = headsK es ((xs.take k).map zOf) ∧ (∀ q ∈ Hd, KV wr q.A q.row) ∧ Hd.length ≤ k + 1 ∧ Grow w4 wr) (fun _ i _ => xs.length - (intOf i).toNat)
            case atStart => exact ⟨0, Hd0, Nat.zero_le _, rfl, I0.out.1, I0.out.2.1, I0.out.2.2, by omega, G5⟩
            case round =>
              obtain ⟨k, Hd, hk, rfl, hown, hmap, hkv, hlh, hg⟩ := hrel
              have Own := Lib.hid hown
              have MapH := Lib.hid hmap
              have KvH := Lib.hid hkv
              clear hown hmap hkv
              by_cases hlt : k < xs.length
              · obtain ⟨x, hxk⟩ : ∃ x, xs[k]? = some x := ⟨_, List.getElem?_eq_getElem hlt⟩
                obtain ⟨gx, ox, rfl, c1, c2, hxv⟩ := (H.out.z.grow (G4.trans hg)) k x hxk
                have hm := List.mem_of_getElem? hxk
                have lx := A2.out x hm
                have cv := fun W (h : Grow wr W) => rvalues_any es Ae ce x.row x.A x.cap W (by omega) (by omega) (HE.out.grow (G4.trans (hg.trans h))) cols Hty.out (Hfit.out x hm) (hxv.grow h)
                have HXK := Lib.hid hxk
                obtain ⟨KX, hKX⟩ : ∃ q, valsR es x.row = q := ⟨_, rfl⟩
                have lkx : KX.length = es.length := by rw [← hKX]; simp [valsR]
                rw [show es.map (ofE x.row) = KX from hKX] at cv
                have kgx := HKEY.out x hm
                rw [hKX] at kgx
                have KGX := Lib.hid kgx
                have HKX := Lib.hid hKX
                have LKX := Lib.hid lkx
                have kgh : ∀ q ∈ Hd, ((∀ v ∈ q.row, RV v) ∧ bareR q.row = q.row) ∧ q.row.length = es.length := fun q hq => by
                  have h1 : q.row ∈ Hd.map Kq.row := List.mem_map_of_mem hq
                  rw [MapH.out] at h1
                  have h2 : q.row ∈ headsK es z := by
                    rw [← HZ.out, ← List.take_append_drop k xs, List.map_append]
                    exact headsK_sub h1
                  have := OK.out.key h2
                  exact ⟨⟨this.2.1, this.2.2⟩, this.1⟩
                have KGH := Lib.hid kgh
                clear hxk hxv hKX lkx kgx kgh
                go_upto_region 18 with fail
                refine wp_forget (fun Z => Blk Z wr.heap.size 42 #[.slice x.A x.row.length x.cap, .int .i64 x.w] ∧ Grow wr Z) ⟨Blk.new _ _ _, (Grow.refl wr).al _⟩ ?_
                generalize wr.heap.size = g17
                rintro Z ⟨Bz, Gz⟩
                have BZ := Lib.hid Bz
                obtain ⟨bz, fz⟩ := Bz.rules
                clear c1 c2 Bz
                go_upto_region 19 with (go_at_call 22; ((with_reducible refine (cv _ Gz).mono ?_); rintro e wk ⟨Bk, capk, rfl, ownk, hgk⟩))
                have KVX := Lib.hid (own_kv LKX.out ownk)
                obtain ⟨bz, fz⟩ := (BZ.out.grow hgk).rules
                have GK := Gz.trans hgk
                obtain ⟨Bh, caph, rfl⟩ := own_slice Own.out
                have OwnK := Lib.hid (own_grow Own.out GK)
                clear cv ownk
                go_wp2
                go_loopw [19, 80] (fun s i wq => ∃ j : Nat, j ≤ Hd.length ∧ i = .int .i64 j ∧ s = .bool (decide (x.w ≤ 0) || (Hd.take j).any (fun h => decide (h.row = KX))) ∧ Grow wk wq) (fun _ i _ => Hd.length - (intOf i).toNat)
                case atStart => exact ⟨0, Nat.zero_le _, rfl, by simp, Grow.refl _⟩
                case round =>
                  rename World => wq
                  obtain ⟨j, hj, rfl, rfl, hgq⟩ := hrel
                  by_cases hlt2 : j < Hd.length
                  · obtain ⟨hd, hhj⟩ : ∃ hd, Hd[j]? = some hd := ⟨_, List.getElem?_eq_getElem hlt2⟩
                    have hmd := List.mem_of_getElem? hhj
                    obtain ⟨gg, eg, ch⟩ := own_cellsQ (own_grow OwnK.out hgq) j hd hhj
                    subst eg
                    have as1 := any_snoc (fun h => decide (h.row = KX)) hhj
                    obtain ⟨bj, hbj⟩ : ∃ b, (decide (x.w ≤ 0) || (Hd.take j).any (fun h => decide (h.row = KX))) = b := ⟨_, rfl⟩
                    have as2 : (decide (x.w ≤ 0) || (Hd.take (j + 1)).any (fun h => decide (h.row = KX))) = (bj || decide (hd.row = KX)) := by rw [as1, ← Bool.or_assoc, hbj]
                    have AS2 := Lib.hid as2
                    rw [hbj]
                    have kvd := ((KvH.out hd hmd).grow GK).1
                    have kgd := KGH.out hd hmd
                    have cr := fun W (h : Grow wk W) => rrows_any hd.row KX hd.A Bk hd.cap capk W (by omega) (by have := LKX.out; omega) (kvd.grow h) (KVX.out.1.grow h)
                    obtain ⟨d, hdd⟩ : ∃ d, rowsG ordV hd.row KX = d := ⟨_, rfl⟩
                    rw [hdd, LKX.out] at cr
                    have hd0 : d = 0 ↔ hd.row = KX := by rw [← hdd]; exact key_eq kgd.1 KGX.out
                    have HD0 := Lib.hid hd0
                    clear as1 as2 hbj kvd kgd hdd hd0 hhj
                    cases bj with
                    | true =>
                      go_wp2
                      go_roundw
                      case rel => exact ⟨j + 1, by omega, by go_num, by rw [AS2.out]; rfl, hgq⟩
                      case measure => simp [intOf]; omega
                    | false =>
                      by_cases h0 : d = 0
                      · have d0 : (d == 0) = true := by simpa using h0
                        go_wp2_with (go_at_call 23; ((with_reducible refine (cr _ hgq).mono ?_); rintro e w7 ⟨rfl, hg7⟩))
                        go_roundw
                        case rel => exact ⟨j + 1, by omega, by go_num, by rw [AS2.out, decide_eq_true (HD0.out.1 h0)]; rfl, hgq.trans hg7⟩
                        case measure => simp [intOf]; omega
                      · have d0 : (d == 0) = false := by simpa using h0
                        go_wp2_with (go_at_call 23; ((with_reducible refine (cr _ hgq).mono ?_); rintro e w7 ⟨rfl, hg7⟩))
                        go_roundw
                        case rel => exact ⟨j + 1, by omega, by go_num, by rw [AS2.out, decide_eq_false (fun e => h0 (HD0.out.2 e))]; rfl, hgq.trans hg7⟩
                        case measure => simp [intOf]; omega
                  · obtain rfl : j = Hd.length := by omega
                    rw [List.take_length]
                    have hs : headsK es ((xs.take (k + 1)).map zOf) = if 0 < x.w then addK (headsK es ((xs.take k).map zOf)) KX else headsK es ((xs.take k).map zOf) := by rw [take_sn zOf HXK.out, headsK_snoc, ← HKX.out]; rfl
                    have HS := Lib.hid hs
                    obtain ⟨b, hb⟩ : ∃ b, (decide (x.w ≤ 0) || Hd.any (fun h => decide (h.row = KX))) = b := ⟨_, rfl⟩
                    rw [hb]
                    have inH : Hd.any (fun h => decide (h.row = KX)) = true ↔ KX ∈ headsK es ((xs.take k).map zOf) := by
                      rw [← MapH.out, List.any_eq_true]
                      constructor
                      · rintro ⟨q, hq, e⟩
                        exact List.mem_map.2 ⟨q, hq, by simpa using e⟩
                      · intro h
                        obtain ⟨q, hq, e⟩ := List.mem_map.1 h
                        exact ⟨q, hq, by simpa using e⟩
                    have gq := GK.trans hgq
                    cases b with
                    | true =>
                      have he : headsK es ((xs.take (k + 1)).map zOf) = headsK es ((xs.take k).map zOf) := by
                        rw [HS.out]
                        split
                        · rename_i hw
                          rw [Bool.or_eq_true] at hb
                          rcases hb with hb | hb
                          · have := of_decide_eq_true hb; omega
                          · unfold addK; rw [if_pos (inH.1 hb)]
                        · rfl
                      have HEK := Lib.hid (MapH.out.trans he.symm)
                      clear hb inH hs he
                      go_wp2
                      go_roundw
                      case rel => exact ⟨k + 1, Hd, by omega, by go_num, own_grow Own.out gq, HEK.out, fun q hq => (KvH.out q hq).grow gq, by omega, hg.trans gq⟩
                      case measure => simp [intOf]; omega
                    | false =>
                      rw [Bool.or_eq_false_iff] at hb
                      have hw : 0 < x.w := by have := of_decide_eq_false hb.1; omega
                      have hni : KX ∉ headsK es ((xs.take k).map zOf) := fun h => by have := inH.2 h; rw [hb.2] at this; cases this
                      have he : (Hd ++ [Kq.mk Bk KX capk]).map Kq.row = headsK es ((xs.take (k + 1)).map zOf) := by
                        rw [HS.out, if_pos hw, List.map_append, MapH.out]
                        unfold addK
                        rw [if_neg hni]; rfl
                      have HEK := Lib.hid he
                      have Own1 := Lib.hid (own_grow Own.out gq)
                      have G1 := hg.trans gq
                      clear hb inH hs he hni
                      go_wp2_with (at_builtin; refine wpList_append_key rfl _ _ rfl w4.heap.size _ _ _ rfl (Own1.out.alloc _) _ 1 Bk es.length capk rfl (Blk.new _ _ _) (by omega) (by have := G1.size; simp; omega) ?_; intro v7 w7 own7 gr7)
                      have G7 : Grow w4 w7 := grow_own (G1.al _) gr7 (Own1.out.alloc _)
                      have KV7 : ∀ q ∈ Hd ++ [Kq.mk Bk KX capk], KV w7 q.A q.row := fun q hq => by
                        rcases List.mem_append.1 hq with hq | hq
                        · exact kv_own (((KvH.out q hq).grow gq).grow ((Grow.refl wq).al _)) (Own1.out.alloc _) (by decide) gr7
                        · simp at hq
                          subst hq
                          exact kv_own ((KVX.out.grow hgq).grow ((Grow.refl wq).al _)) (Own1.out.alloc _) (by decide) gr7
                      have own8 : w7.ownsRow w4.heap.size 40 1 v7 (Hd ++ [Kq.mk Bk KX capk]).length (flatQ (Hd ++ [Kq.mk Bk KX capk])) := by
                        rw [flatQ_app, show (Hd ++ [Kq.mk Bk KX capk]).length = Hd.length + 1 by simp]
                        show w7.ownsRow w4.heap.size 40 1 v7 (Hd.length + 1) (flatQ Hd ++ [.slice Bk KX.length capk])
                        rw [LKX.out]; exact own7
                      have F7 := Lib.hid (And.intro own8 KV7)
                      clear own7 own8 gr7 KV7
                      go_wp2
                      go_roundw
                      case rel => exact ⟨k + 1, Hd ++ [Kq.mk Bk KX capk], by omega, by go_num, F7.out.1, HEK.out, F7.out.2, by simp; omega, G7⟩
                      case measure => simp [intOf]; omega
              · have ek : k = xs.length := by omega
                subst ek
                have mh := MapH.out
                rw [List.take_length, HZ.out] at mh
                obtain ⟨Bh, caph, rfl⟩ := own_slice Own.out
                have CE := Lib.hid (own_cellsQ Own.out)
                have MH := Lib.hid mh
                have kgh : ∀ q ∈ Hd, ((∀ v ∈ q.row, RV v) ∧ bareR q.row = q.row) ∧ q.row.length = es.length ∧ q.row ∈ headsK es z := fun q hq => by
                  have h1 : q.row ∈ Hd.map Kq.row := List.mem_map_of_mem hq
                  rw [MH.out] at h1
                  have := OK.out.key h1
                  exact ⟨⟨this.2.1, this.2.2⟩, this.1, h1⟩
                have KGH := Lib.hid kgh
                clear mh kgh
                go_wp2
                go_loopw [22, 101] (fun t i wq => ∃ (k : Nat) (l : List Z), k ≤ Hd.length ∧ i = .int .i64 k ∧ l = (Hd.take k).map (fun h => rowK es aggs z h.row) ∧ PutSt wr wq t l) (fun _ i _ => Hd.length - (intOf i).toNat)
                case atStart => exact ⟨0, [], Nat.zero_le _, rfl, rfl, PutSt.nil wr wr (Grow.refl _)⟩
                case round =>
                  rename World => wq
                  obtain ⟨k, l, hk, rfl, hl, hput⟩ := hrel
                  have PT := Lib.hid hput
                  have HL := Lib.hid hl
                  have hgq := hput.grow
                  obtain ⟨Bt, nt, ct, rfl⟩ : ∃ (B : Option Addr) (n c : Nat), u22 = .slice B n c := by
                    obtain ⟨⟨B, ys, cap, e, _⟩, _⟩ := hput
                    exact ⟨B, _, cap, e⟩
                  clear hput hl
                  by_cases hlt2 : k < Hd.length
                  · obtain ⟨hd, hhk⟩ : ∃ hd, Hd[k]? = some hd := ⟨_, List.getElem?_eq_getElem hlt2⟩
                    have hmd := List.mem_of_getElem? hhk
                    obtain ⟨gg, eg, ch⟩ := CE.out k hd hhk
                    subst eg
                    replace ch := hgq.cell ch
                    have kgd := KGH.out hd hmd
                    have KGD := Lib.hid kgd
                    have KVD := Lib.hid ((KvH.out hd hmd).grow hgq)
                    have HHK := Lib.hid hhk
                    have GQ := G4.trans (hg.trans hgq)
                    clear hhk kgd
                    go_wp2
                    go_loopw [25, 107] (fun t i wd => ∃ j : Nat, j ≤ xs.length ∧ i = .int .i64 j ∧ wd.ownsRow wq.heap.size 42 2 t (rowsX es (xs.take j) hd.row).length (flatI (rowsX es (xs.take j) hd.row)) ∧ Grow wq wd) (fun _ i _ => xs.length - (intOf i).toNat)
                    case atStart => exact ⟨0, Nat.zero_le _, rfl, World.ownsRow_nil _ _ _ _, Grow.refl _⟩
                    case round =>
                      rename World => wd
                      obtain ⟨j, hj, rfl, hown, hgd⟩ := hrel
                      have OwnX := Lib.hid hown
                      clear hown
                      by_cases hlt3 : j < xs.length
                      · obtain ⟨x, hxk⟩ : ∃ x, xs[j]? = some x := ⟨_, List.getElem?_eq_getElem hlt3⟩
                        obtain ⟨gx, ox, rfl, c1, c2, hxv⟩ := (H.out.z.grow (GQ.trans hgd)) j x hxk
                        have hm := List.mem_of_getElem? hxk
                        have lx := A2.out x hm
                        have cv := fun W (h : Grow wd W) => rvalues_any es Ae ce x.row x.A x.cap W (by omega) (by omega) (HE.out.grow (GQ.trans (hgd.trans h))) cols Hty.out (Hfit.out x hm) (hxv.grow h)
                        obtain ⟨KX, hKX⟩ : ∃ q, valsR es x.row = q := ⟨_, rfl⟩
                        have lkx : KX.length = es.length := by rw [← hKX]; simp [valsR]
                        rw [show es.map (ofE x.row) = KX from hKX] at cv
                        have kgx := HKEY.out x hm
                        rw [hKX] at kgx
                        have rx := rowsX_snoc es hd.row hxk
                        rw [hKX] at rx
                        obtain ⟨RL, hRL⟩ : ∃ r, rowsX es (xs.take j) hd.row = r := ⟨_, rfl⟩
                        have lrl : RL.length ≤ 400 := by
                          rw [← hRL]
                          have h1 := rowsX_len es (xs.take j) hd.row
                          simp at h1
                          omega
                        rw [hRL] at rx OwnX
                        have RX := Lib.hid rx
                        have KGX := Lib.hid kgx
                        have LKX := Lib.hid lkx
                        have cr := fun Bk capk W (h : Grow wq W) (hk : VSl W Bk KX) => rrows_any KX hd.row Bk hd.A capk hd.cap W (by have := LKX.out; omega) (by have := KGD.out.2.1; omega) hk (KVD.out.1.grow h)
                        obtain ⟨d, hdd⟩ : ∃ d, rowsG ordV KX hd.row = d := ⟨_, rfl⟩
                        rw [hdd, LKX.out] at cr
                        have HD0 := Lib.hid (show d = 0 ↔ KX = hd.row by rw [← hdd]; exact key_eq KGX.out KGD.out.1)
                        clear hxk hxv hKX lkx kgx rx hRL hdd
                        go_upto_region 36 with fail
                        refine wp_forget (fun Z => Blk Z wd.heap.size 42 #[.slice x.A x.row.length x.cap, .int .i64 x.w] ∧ Grow wd Z) ⟨Blk.new _ _ _, (Grow.refl wd).al _⟩ ?_
                        generalize wd.heap.size = g27
                        rintro Z ⟨Bz, Gz⟩
                        have BZ := Lib.hid Bz
                        obtain ⟨bz, fz⟩ := Bz.rules
                        clear c1 c2 Bz
                        by_cases hw : 0 < x.w
                        · have dw : decide (0 < x.w) = true := decide_eq_true hw
                          by_cases h0 : d = 0
                          · have d0 : (d == 0) = true := by simpa using h0
                            go_upto_region 37 with (first
                              | (go_at_call 22; ((with_reducible refine (cv _ Gz).mono ?_); rintro e wk ⟨Bk, capk, rfl, ownk, hgk⟩; have KVX := Lib.hid (own_kv LKX.out ownk); clear ownk))
                              | (go_at_call 23; (refine (cr Bk capk _ (hgd.trans (Gz.trans hgk)) KVX.out.1).mono ?_; rintro e w7 ⟨rfl, hg7⟩)))
                            have gd := Gz.trans (hgk.trans hg7)
                            obtain ⟨bz, fz⟩ := (BZ.out.grow (hgk.trans hg7)).rules
                            have Own1 := Lib.hid (own_grow OwnX.out gd)
                            have G1 := hgd.trans gd
                            go_wp2_with (at_builtin; refine wpList_append_src rfl _ _ rfl wq.heap.size _ _ _ rfl (Own1.out.alloc _) _ [x] rfl (src_one rfl (Blk.new _ _ _)) (by simp; omega) (by have := G1.size; simp; omega) ?_; intro v8 w8 own8 gr8)
                            have G8 : Grow wq w8 := grow_own (G1.al _) gr8 (Own1.out.alloc _)
                            have e8 : rowsX es (xs.take (j + 1)) hd.row = RL ++ [x] := by rw [RX.out, if_pos ⟨hw, HD0.out.1 h0⟩]
                            have F8 := Lib.hid (show w8.ownsRow wq.heap.size 42 2 v8 (rowsX es (xs.take (j + 1)) hd.row).length (flatI (rowsX es (xs.take (j + 1)) hd.row)) by rw [e8]; simpa using own8)
                            clear own8 gr8 e8
                            go_wp2
                            go_roundw
                            case rel => exact ⟨j + 1, by omega, by go_num, F8.out, G8⟩
                            case measure => simp [intOf]; omega
                          · have d0 : (d == 0) = false := by simpa using h0
                            have e8 : rowsX es (xs.take (j + 1)) hd.row = RL := by rw [RX.out, if_neg (fun h => h0 (HD0.out.2 h.2)), List.append_nil]
                            have E8 := Lib.hid e8
                            clear e8
                            go_wp2_with (first
                              | (go_at_call 22; ((with_reducible refine (cv _ Gz).mono ?_); rintro e wk ⟨Bk, capk, rfl, ownk, hgk⟩; have KVX := Lib.hid (own_kv LKX.out ownk); clear ownk))
                              | (go_at_call 23; (refine (cr Bk capk _ (hgd.trans (Gz.trans hgk)) KVX.out.1).mono ?_; rintro e w7 ⟨rfl, hg7⟩)))
                            have gd := Gz.trans (hgk.trans hg7)
                            go_roundw
                            case rel => exact ⟨j + 1, by omega, by go_num, by rw [E8.out]; exact own_grow OwnX.out gd, hgd.trans gd⟩
                            case measure => simp [intOf]; omega
                        · have dw : decide (0 < x.w) = false := decide_eq_false hw
                          have e8 : rowsX es (xs.take (j + 1)) hd.row = RL := by rw [RX.out, if_neg (fun h => hw h.1), List.append_nil]
                          have E8 := Lib.hid e8
                          clear e8
                          go_wp2
                          go_roundw
                          case rel => exact ⟨j + 1, by omega, by go_num, by rw [E8.out]; exact own_grow OwnX.out Gz, hgd.trans Gz⟩
                          case measure => simp [intOf]; omega
                      · obtain rfl : j = xs.length := by omega
                        have ownx := OwnX.out
                        rw [List.take_length] at ownx
                        obtain ⟨RL, hRL⟩ : ∃ r, rowsX es xs hd.row = r := ⟨_, rfl⟩
                        obtain ⟨q, hq⟩ : ∃ q, rowsK es z hd.row = q := ⟨_, rfl⟩
                        have zr : RL.map zOf = q := by rw [← hRL, ← hq, ← HZ.out]; exact rowsX_map es xs hd.row
                        have lrl : RL.length ≤ 400 := by
                          rw [← hRL]
                          have h1 := rowsX_len es xs hd.row
                          omega
                        have subr : ∀ x ∈ RL, x ∈ xs := fun x hx => by rw [← hRL] at hx; exact rowsX_sub x hx
                        have er : u25 = u25 ∧ (rowsX es (xs.take xs.length) hd.row) = RL := ⟨rfl, by rw [List.take_length]; exact hRL⟩
                        rw [hRL] at ownx
                        obtain ⟨BR, capR, rfl⟩ := own_slice ownx
                        have zin := own_zv ownx (fun u hu => (H.out.z.vsl u (subr u hu)).grow (GQ.trans hgd))
                        have ZR := Lib.hid zr
                        have SUBR := Lib.hid subr
                        have ZIN := Lib.hid zin
                        have HQ := Lib.hid hq
                        have cb := both4_any hd.row [] hd.A none hd.cap 0 wd (by have := KGD.out.2.1; simp; omega) (KVD.out.1.grow hgd) (fun i x hx => by simp at hx)
                        simp only [List.append_nil, List.length_nil] at cb
                        clear ownx hRL zr subr zin hq er
                        go_upto_region 40 with (go_at_call 33; ((with_reducible refine cb.mono ?_); rintro e wb ⟨Bb, capb, rfl, ownb, hgb⟩))
                        have OwnB := Lib.hid ownb
                        clear ownb cb
                        go_wp2
                        go_loopw [28, 132] (fun t i we => ∃ j : Nat, j ≤ aggs.length ∧ i = .int .i64 j ∧ we.ownsRow wd.heap.size 61 3 t (hd.row.length + j) (flatW (hd.row ++ (aggs.take j).map (fun a => aggV a q))) ∧ Grow wd we) (fun _ i _ => aggs.length - (intOf i).toNat)
                        case atStart => exact ⟨0, Nat.zero_le _, rfl, by simpa using OwnB.out, hgb⟩
                        case round =>
                          rename World => we
                          obtain ⟨j, hj, rfl, hown, hge⟩ := hrel
                          have OwnD := Lib.hid hown
                          clear hown
                          by_cases hlt4 : j < aggs.length
                          · obtain ⟨a, haj⟩ : ∃ a, aggs[j]? = some a := ⟨_, List.getElem?_eq_getElem hlt4⟩
                            obtain ⟨ga, oa, rfl, ac, ax⟩ := (HA.out.grow (GQ.trans (hgd.trans hge))) j a haj
                            have ham := List.mem_of_getElem? haj
                            have aok : AgOk a (RL.map zOf) := by
                              rw [ZR.out, ← HQ.out]
                              exact OK.out.agg ham rowsK_sub
                            have wta : a.k ≠ 1 → ∃ T, wt cols a.x T := fun h1 => by
                              have e0 := aggE_zero OK.out.ag a ham
                              unfold agT at e0
                              rw [if_neg (by have := aok.k; omega), if_neg h1] at e0
                              have e1 : (typeE cols a.x).2 = 0 := by
                                by_cases h2 : (typeE cols a.x).2 = 0
                                · exact h2
                                · rw [if_pos h2] at e0; exact absurd e0 h2
                              obtain ⟨T, hok⟩ := okay_of e1
                              exact ⟨T, hok.ty⟩
                            have ag : AgX a RL := ⟨aok.k, lrl, fun x hx => by have := A2.out x (SUBR.out x hx); omega, fun x hx => A3.out x (SUBR.out x hx), fun h1 x hx => by
                              obtain ⟨T, hT⟩ := wta h1
                              rw [(Hfit.out x (SUBR.out x hx)).1]
                              exact wt_re a.x hT, fun x hx => A4.out x (SUBR.out x hx)⟩
                            have cag := fun W (hh : Grow we W) => ragg_any cols a RL BR capR W (ax.grow hh) (ZIN.out.grow (hge.trans hh)) ag (fun x hx => Hfit.out x (SUBR.out x hx)) wta
                            obtain ⟨v9, hv9⟩ : ∃ v, aggV a (RL.map zOf) = v := ⟨_, rfl⟩
                            rw [hv9] at cag
                            have e9 : (aggs.take (j + 1)).map (fun a => aggV a q) = (aggs.take j).map (fun a => aggV a q) ++ [v9] := by rw [take_sn _ haj, ← ZR.out, hv9]
                            have E9 := Lib.hid e9
                            unfold V.val Ag.val at cag
                            obtain ⟨ck, c0, c1, c2, c3, c4, c5⟩ := ac
                            clear haj ham aok wta ag ax hv9 e9
                            go_upto_region 43 with fail
                            refine wp_forget (fun Z => Blk Z we.heap.size 68 #[.int .i64 a.k, .int .i64 a.x.kind, .int .i64 a.x.v.k, .int .i64 a.x.v.n, .string a.x.v.s, .int .i64 a.x.col, .slice a.x.A a.x.n a.x.cap] ∧ Grow we Z) ⟨Blk.new _ _ _, (Grow.refl we).al _⟩ ?_
                            generalize we.heap.size = g30
                            rintro Z ⟨Bz, Gz⟩
                            obtain ⟨bz, fz⟩ := Bz.rules
                            clear ck c0 c1 c2 c3 c4 c5 Bz
                            go_wp2_with (first
                              | (go_at_call 26; ((with_reducible refine (cag _ Gz).mono ?_); rintro e w7 ⟨rfl, hg7⟩; have OwnD1 := Lib.hid (own_grow OwnD.out (Gz.trans hg7)); have gd1 := hge.trans (Gz.trans hg7)))
                              | (at_builtin; refine wpList_append_srcW rfl _ _ rfl wd.heap.size _ _ _ rfl (OwnD1.out.alloc _) _ [v9] rfl (srcW_one (Blk.new _ _ _)) (by have := KGD.out.2.1; simp; omega) (by have := gd1.size; simp; omega) ?_; intro v8 w8 own8 gr8))
                            have G8 : Grow wd w8 := grow_own (gd1.al _) gr8 (OwnD1.out.alloc _)
                            have Own8 := Lib.hid own8
                            clear own8 gr8
                            go_wp2
                            go_roundw
                            case rel => exact ⟨j + 1, by omega, by go_num, by rw [E9.out, ← List.append_assoc]; simpa [Nat.add_assoc] using Own8.out, G8⟩
                            case measure => simp [intOf]; omega
                          · obtain rfl : j = aggs.length := by omega
                            have ownd := OwnD.out
                            rw [List.take_length] at ownd
                            obtain ⟨Bf, capf, rfl⟩ := own_slice ownd
                            obtain ⟨nrow, hnr⟩ : ∃ nrow, hd.row ++ aggs.map (fun a => aggV a q) = nrow := ⟨_, rfl⟩
                            rw [hnr] at ownd
                            have lnr : nrow.length = hd.row.length + aggs.length := by rw [← hnr]; simp
                            have vnr := own_vs2 lnr ownd
                            have erow : rowK es aggs z hd.row = (nrow, 1) := by unfold rowK; rw [HQ.out, hnr]
                            have gr := OK.out.row KGD.out.2.2
                            rw [erow] at gr
                            have gw := hgd.trans hge
                            have cp := put_step (PT.out.more gw) nrow Bf capf 1 vnr (by have := gr.1; simp only at this; omega) gr.2.1 (by omega) (by rw [HL.out]; simp; have := KGH; omega)
                            rw [lnr] at cp
                            have ER := Lib.hid erow
                            clear ownd hnr lnr vnr erow gr
                            go_wp2_with (go_at_call 28; ((with_reducible refine cp.mono ?_); rintro e w7 ⟨v7, rfl, hp7, hg7⟩))
                            have P7 := Lib.hid hp7
                            clear hp7 cp
                            go_roundw
                            case rel => exact ⟨k + 1, l ++ [(nrow, 1)], by omega, by go_num, by rw [take_sn _ HHK.out, HL.out, ER.out], P7.out⟩
                            case measure => simp [intOf]; omega
                  · obtain rfl : k = Hd.length := by omega
                    have el : l = grpL es aggs z := by
                      rw [HL.out, List.take_length]
                      unfold grpL
                      rw [← MH.out, List.map_map]; rfl
                    obtain ⟨⟨B9, ys, cap9, e9, hz9, hm9, hk9⟩, hg9, _⟩ := PT.out
                    simp only [Value.slice.injEq] at e9
                    obtain ⟨rfl, rfl, rfl⟩ := e9
                    rw [el] at hm9
                    have FIN := Lib.hid (And.intro hz9 (And.intro hm9 hk9))
                    clear hz9 hm9 hk9 el
                    go_wp2
                    refine bodyPost_ret (by simp [results, Tryz.results9, go_sem] <;> rfl) rfl ?_
                    exact ⟨_, ys, _, by rw [EQ2.out], FIN.out.1, by rw [EQ2.out]; exact FIN.out.2.1, FIN.out.2.2, G4.trans (hg.trans hg9)⟩
        · have eQ : Q = ([], IE) := by rw [EQ.out, if_neg (by simpa using h0), if_neg (by simpa using h1), if_pos h2]
          have d3 : (IE != 0) = true := by simpa using h2
          subst h0 h1
          go_wp2_with (first
            | (go_at_call 19; ((with_reducible refine ct.mono ?_); rintro e w2 ⟨BT, capT, rfl, _, _, hg2⟩))
            | (go_at_call 32; ((with_reducible refine (ca1 _ hg2).mono ?_); rintro e w3 ⟨vT, rfl, hg3⟩))
            | (go_at_call 21; ((with_reducible refine (ci _ (hg2.trans hg3)).mono ?_); rintro e w4 ⟨rfl, hg4⟩)))
          refine bodyPost_ret (by simp [results, Tryz.results9, go_sem] <;> rfl) rfl ?_
          exact ⟨none, [], 0, by rw [eQ]; rfl, zin_nil _ _, by rw [eQ]; rfl, SlOk.nil, hg2.trans (hg3.trans hg4)⟩
      · have eQ : Q = ([], AE) := by rw [EQ.out, if_neg (by simpa using h0), if_pos h1]
        have d3 : (AE != 0) = true := by simpa using h1
        subst h0
        go_wp2_with (first
          | (go_at_call 19; ((with_reducible refine ct.mono ?_); rintro e w2 ⟨BT, capT, rfl, _, _, hg2⟩))
          | (go_at_call 32; ((with_reducible refine (ca1 _ hg2).mono ?_); rintro e w3 ⟨vT, rfl, hg3⟩)))
        refine bodyPost_ret (by simp [results, Tryz.results9, go_sem] <;> rfl) rfl ?_
        exact ⟨none, [], 0, by rw [eQ]; rfl, zin_nil _ _, by rw [eQ]; rfl, SlOk.nil, hg2.trans hg3⟩
    · have eQ : Q = ([], TE) := by rw [EQ.out, if_pos h0]
      have d3 : (TE != 0) = true := by simpa using h0
      go_wp2_with (go_at_call 19; ((with_reducible refine ct.mono ?_); rintro e w2 ⟨BT, capT, rfl, _, _, hg2⟩))
      refine bodyPost_ret (by simp [results, Tryz.results9, go_sem] <;> rfl) rfl ?_
      exact ⟨none, [], 0, by rw [eQ]; rfl, zin_nil _ _, by rw [eQ]; rfl, SlOk.nil, hg2⟩
end Go.Proofs.YtigpbihjjadmlaaGreat
