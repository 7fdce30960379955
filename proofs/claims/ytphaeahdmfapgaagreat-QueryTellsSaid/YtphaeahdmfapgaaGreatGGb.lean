/- Parts of a proof. No condition. -/
import Derived.Test.YtphaeahdmfapgaaGreatGGa
import Derived.Test.YtphaeahdmfapgaaGreatGAb
import Derived.Test.YtphaeahdmfapgaaGreatGZb
set_option maxRecDepth 100000
set_option maxHeartbeats 16000000
set_option maxRecDepth 100000
set_option linter.unusedSimpArgs false
set_option linter.unusedVariables false
namespace Go
variable {p : Prop}
theorem o5_ (h : p := by simp [results, Tryz.results64, go_sem] <;> rfl) : p := h
theorem ub_ (h : p := by have := KGD.out.2.1; simp; omega) : p := h
end Go
namespace Go.Proofs.YtphaeahdmfapgaaGreat
open Go.RowKit Go.Calm
structure Kq where
 A : Option Addr
 row : List V
 cap : Nat
def Xw (l : List Kq) : List Value := l.map (fun q => .slice q.A q.row.length q.cap)
theorem Sj (a b : List Kq) : Xw (a ++ b) = Xw a ++ Xw b := by simp [Xw]
theorem Sq : (Tryz.prog.info? 57).map (fun i => (i.zero, i.size, i.bytes)) = some (some (.slice none 0 0), 1, 24) := by kernel_rfl
theorem Pe : ∃ ti, Tryz.prog.info? 57 = some ti /\ ti.zero = some (.slice none 0 0) /\ ti.size = 1 /\ ti.bytes = 24 := by
 have h := Sq; cases hi : Tryz.prog.info? 57 with
 | none => rw [hi] at h; simp at h
 | some i => rw [hi] at h; simp at h; exact ⟨i, rfl, h⟩
theorem ZF {w : World} {ops : Array Oper} {rest : List Oper} {o : Oper} {a : Act} {Q : Exit -> Act -> World -> Prop} (hgd : o.guard = none) (s x : Operand)
  (ho : o.op = .call { callee := .builtin .append, args := #[s, x], argTypes := #[127, 127] })
  (base : Nat) (v : Value) (n : Nat) (cs : List Value) (hs : a.eval s = v) (hown : w.ownsRow base 57 1 v n cs) (g c : Nat) (A : Option Addr) (n0 c0 : Nat) (hx : a.eval x = .slice (some ⟨g, 0, none⟩) 1 c) (hb : zc w g 57 #[.slice A n0 c0]) (hB : n + 1 <= 1000000) (hbase : base <= w.heap.size)
  (h : ∀ v' w', w'.ownsRow base 57 1 v' (n + 1) (cs ++ [.slice A n0 c0]) -> w.grownBy w' v.ownBlock -> wpList Tryz.prog ops Q rest (a.put o.dst v') w') : wpList Tryz.prog ops Q (o :: rest) a w := by
 obtain ⟨ti, hti, hz0, hz1, hz2⟩ := Pe; refine wpList_append_own _ hgd s x _ ho base 57 ti (.slice none 0 0) 1 24 Tryz.underlying127 hti hz0 hz1 hz2 rfl u3_ v n cs hs hown ⟨g, 0, none⟩ 1 c [.slice A n0 c0] hx rfl (fun j u hj => ?_) (fun u hu => ?_) us_ u4_ hbase ?_
 ·rw [zW, hb.cell]
  match j, hj with
  | 0, hj => simp at hj; subst hj; rfl
 ·simp at hu; subst hu; rfl
 ·intro v' w' h1 h2 _; exact h v' w' h1 h2
theorem WF {w : World} {base n c : Nat} {B : Option Addr} {l : List Kq} (h : w.ownsRow base 57 1 (.slice B n c) n (Xw l)) : ∀ i x, l[i]? = some x -> ∃ g, B = some ⟨g, 0, none⟩ /\ w.cell? ⟨g, i, none⟩ = some (.slice x.A x.row.length x.cap) := fun i x hx => by
 rcases qt h with ⟨_, h0, _⟩ | ⟨g, e, o, _⟩
 ·have hl := h.1; simp [Xw] at hl; have := (qQ9.1 hx).1; omega
 ·have ca := h.cells o i (.slice x.A x.row.length x.cap) (by simp [Xw, hx]); rw [zW, Nat.zero_add] at ca; exact ⟨g, e, ca⟩
theorem U6 {w : World} {base g : Nat} (hb : base <= g) (h : zc w g 57 #[.slice none 0 0]) : w.ownsRow base 57 1 (.slice (some ⟨g, 0, none⟩) 1 1) 1 (Xw [⟨none, [], 0⟩]) :=
 ⟨rfl, .inr ⟨g, 1, _, rfl, hb, h, Nat.le_refl _, by unfold maxLen; omega, rfl, rfl⟩⟩
theorem Er (w : World) (A : Option Addr) : KV w A [] := ⟨fun i x hx => by simp at hx, fun i x hx => by simp at hx⟩
theorem Wq (es : List E) : ym es [] = if es.length = 0 then [[]] else [] := rfl
theorem MK (es : List E) (l : List Z) (r : Z) : ym es (l ++ [r]) = if 0 < r.2 then Yz (ym es l) (yU es r.1) else ym es l := by
 unfold ym J8 pg; rw [List.filter_append, List.map_append, List.foldl_append]
 by_cases h : 0 < r.2 <;> simp [h]
theorem N8 {es : List E} {l m : List Z} {q : List V} (h : q ∈ ym es l) : q ∈ ym es (l ++ m) := by
 rcases (qS es l q).1 h with h | ⟨r, hr, e⟩
 ·exact (qS _ _ _).2 (.inl h)
 ·refine (qS _ _ _).2 (.inr ⟨r, ?_, e⟩); unfold pg at hr ⊢; rw [List.filter_append]; exact List.mem_append_left _ hr
theorem T1 {l : List Kq} {j : Nat} {h : Kq} (p : Kq -> Bool) (hj : l[j]? = some h) : (l.take (j + 1)).any p = ((l.take j).any p || p h) := by
 obtain ⟨h1, e1⟩ := qQ9.1 hj; rw [List.take_succ_eq_append_getElem h1, e1, List.any_append]; simp
def ji (es : List E) (xs : List I) (q : List V) : List I := xs.filter (fun x => decide (0 < x.w) && decide (yU es x.row = q))
theorem Tb (es : List E) (xs : List I) (q : List V) : (ji es xs q).map zg = qF es (xs.map zg) q := by
 unfold ji qF pg; rw [List.filter_map, List.filter_map, List.filter_filter]; congr 1; refine List.filter_congr (fun x _ => ?_); simp only [Function.comp, zg]; rw [Bool.and_comm]; congr 1
theorem Px (es : List E) {xs : List I} {k : Nat} {x : I} (q : List V) (h : xs[k]? = some x) : ji es (xs.take (k + 1)) q = ji es (xs.take k) q ++ if 0 < x.w /\ yU es x.row = q then [x] else [] := by
 obtain ⟨h1, e1⟩ := qQ9.1 h; unfold ji; rw [List.take_succ_eq_append_getElem h1, e1, List.filter_append]; congr 1
 by_cases a : 0 < x.w <;> by_cases b : yU es x.row = q <;> simp [a, b]
theorem Kx (es : List E) (xs : List I) (q : List V) : (ji es xs q).length <= xs.length := List.length_filter_le _ _
theorem Tc {es : List E} {xs : List I} {q : List V} : ∀ x ∈ ji es xs q, x ∈ xs := fun x hx => (List.mem_filter.1 hx).1
theorem UE {a b : List V} (ha : (∀ v ∈ a, RV v) /\ zj a = a) (hb : (∀ v ∈ b, RV v) /\ zj b = b) : zC zH a b = 0 ↔ a = b := by
 have := yX a b ha.1 hb.1; rw [ha.2, hb.2] at this; exact this
theorem Pw (cols : List Int) (Ac : Option Addr) (cc : Nat) (es : List E) (Ae : Option Addr) (ce : Nat) (aggs : List Ag) (Aa : Option Addr) (ca : Nat) (xs : List I) (A : Option Addr) (c : Nat) (w : World) (hlen : cols.length <= 9223372036854775807) (hle : es.length <= 140737488355328) (hla : aggs.length <= 140737488355328) (hc : yD w Ac cols) (hE : Xa w Ae es) (hA : qn w Aa aggs) (h : In w ⟨A, xs, c⟩) :
  Calls Tryz.prog 64 #[.slice Ac cols.length cc, .slice Ae es.length ce, .slice Aa aggs.length ca, .slice A xs.length c] w fun en w' => z0 w w' en (QN cols es aggs (xs.map zg)) := by
 have H := hh_ h; have HE := hh_ hE; have HA := hh_ hA; have HC := hh_ hc; have ct := YX cols Ac cc es Ae ce w hlen u4_ hc hE; have ca0 := fun W (hg : za w W) (h8 : aggs.length <= 8) => Js cols Ac cc aggs Aa ca W hlen h8 (HC.out.grow hg) (HA.out.grow hg)
 have ci := fun W (hg : za w W) => qC cols Ac cc xs A c W hlen (HC.out.grow hg) (H.out.grow hg)
 obtain ⟨TS, TE, hTE⟩ : ∃ TS TE, zE cols es = (TS, TE) := ⟨_, _, rfl⟩
 obtain ⟨AE, hAE⟩ : ∃ AE, jy cols aggs = AE := ⟨_, rfl⟩
 obtain ⟨z, hz⟩ : ∃ z, xs.map zg = z := ⟨_, rfl⟩
 rw [hz] at ci ⊢; obtain ⟨IE, hIE⟩ : ∃ IE, zO cols z = IE := ⟨_, rfl⟩
 rw [hTE] at ct; rw [hAE] at ca0; rw [hIE] at ci; obtain ⟨Q, hQ⟩ : ∃ Q, QN cols es aggs z = Q := ⟨_, rfl⟩
 rw [hQ]; have fin : Q = if 8 < es.length + aggs.length then ([], 5) else if TE ≠ 0 then ([], TE) else if AE ≠ 0 then ([], AE) else if IE ≠ 0 then ([], IE) else (yC (Lj es aggs z), 0) := by rw [<- hQ]; unfold QN; rw [hTE, hAE, hIE]
 have Fin := hh_ fin; have HTE := hh_ hTE; have HAE := hh_ hAE; have HIE := hh_ hIE; have HZ := hh_ hz; have hwp : IntKind.i64.wrap ((es.length : Int) + (aggs.length : Int)) = ((es.length + aggs.length : Nat) : Int) := by rw [IntKind.wrap_i64]; omega
 clear h hc hE hA hTE hAE hIE hQ fin hz; go_enter Tryz.func64, Tryz.ntmps64
 by_cases h8 : 8 < es.length + aggs.length
 ·have d8 : decide ((8 : Int) < ((es.length + aggs.length : Nat) : Int)) = true := decide_eq_true u4_; have eQ : Q = ([], 5) := by rw [Fin.out, if_pos h8]
  go_wp2; refine qX_ o5_ rfl ?_; exact ⟨none, [], 0, rfl, zy _ _, rfl, zX.nil, za.refl _⟩
 ·have d8 : decide ((8 : Int) < ((es.length + aggs.length : Nat) : Int)) = false := decide_eq_false u4_; have ca1 := fun W (hg : za w W) => ca0 W hg u4_
  have eQ := Fin.out; rw [if_neg h8] at eQ; have EQ := hh_ eQ; clear Fin eQ ca0
  by_cases h0 : TE = 0
  ·by_cases h1 : AE = 0
   ·by_cases h2 : IE = 0
    ·subst h0 h1 h2; have eQ : Q = (yC (Lj es aggs z), 0) := by rw [EQ.out]; simp
     have EQ2 := hh_ eQ; have ok : jb cols es aggs z := ⟨by omega, by rw [HTE.out], HAE.out, HIE.out⟩
     obtain ⟨_, hwz, hfit⟩ := zt HIE.out; rw [<- HZ.out] at hwz hfit; obtain ⟨a1, a2, a3, a4⟩ := S.facts (s := ⟨A, xs, c⟩) hwz; have a1 : xs.length <= 400 := a1; obtain ⟨he8, hty⟩ := xo ok.es; have hn := ok.n
     have hkey : ∀ x ∈ xs, (∀ v ∈ yU es x.row, RV v) /\ zj (yU es x.row) = yU es x.row := fun x hx => w7_
     have OK := hh_ ok; have A2 := hh_ (show ∀ y ∈ xs, y.row.length <= 8 from a2); have A3 := hh_ (show ∀ y ∈ xs, ∀ v ∈ y.row, RV v from a3); have A4 := hh_ (show ∀ y ∈ xs, -1000000 <= y.w /\ y.w <= 1000000 from a4); have Hfit := hh_ (show ∀ y ∈ xs, ja cols y.row from fun y hy => (yo _ _).1 (hfit (zg y) (qZ9 hy))); have Hty := hh_ (show ∀ x ∈ es, ∃ T, wt cols x T from fun x hx => by obtain ⟨T, hok⟩ := xk (hty x hx); exact ⟨T, hok.ty⟩); have HKEY := hh_ hkey; clear ok eQ hwz hfit a2 a3 a4 hty hkey EQ
     go_upto_region 13 with (first
      | (go_at_call 25; ((with_reducible refine ct.mono ?_); rintro e w2 ⟨BT, capT, rfl, _, _, hg2⟩))
      | (go_at_call 27; ((with_reducible refine (ca1 _ hg2).mono ?_); rintro e w3 ⟨vT, rfl, hg3⟩))
      | (go_at_call 31; ((with_reducible refine (ci _ (hg2.trans hg3)).mono ?_); rintro e w4 ⟨rfl, hg4⟩)))
     have G4 := hg2.trans (hg3.trans hg4); clear ct ca1 ci hg2 hg3 hg4 hwp d8
     go_cut [63] (fun s wx => s = .bool (decide (es.length = 0)) /\ wx = w4)
     case first =>
      by_cases e1 : es.length = 0
      ·have d1 : ((es.length : Int) == 0) = true := by rw [beq_iff_eq]; omega
       go_wp2; go_meet; exact ⟨by rw [decide_eq_true e1], rfl⟩
      ·have d1 : ((es.length : Int) == 0) = false := by rw [beq_eq_false_iff_ne]; omega
       go_wp2; go_meet; exact ⟨by rw [decide_eq_false e1], rfl⟩
     case rest =>
     obtain ⟨rfl, hwc⟩ := hcut; subst wc; go_upto_if 63 with fail
     go_cut [15] (fun t wx => ∃ Hd : List Kq, wx.ownsRow w4.heap.size 57 1 t Hd.length (Xw Hd) /\ Hd.map Kq.row = ym es [] /\ (∀ q ∈ Hd, KV wx q.A q.row) /\ Hd.length <= 1 /\ za w4 wx)
     case first =>
      by_cases e1 : es.length = 0
      ·have d1 : decide (es.length = 0) = true := decide_eq_true e1; have hh : ym es [] = [[]] := by rw [Wq, if_pos e1]
       have HH := hh_ hh; clear hh; go_wp2; go_meet; exact ⟨[⟨none, [], 0⟩], U6 (Nat.le_refl _) (zc.new _ _ _), by rw [HH.out]; rfl, fun q hq => by simp at hq; subst hq; exact Er _ _, Nat.le_refl _, (za.refl _).al _⟩
      ·have d1 : decide (es.length = 0) = false := decide_eq_false e1; have hh : ym es [] = [] := by rw [Wq, if_neg e1]
       have HH := hh_ hh; clear hh; go_wp2; go_meet; exact ⟨[], World.ownsRow_nil _ _ _ _, by rw [HH.out]; rfl, fun q hq => by simp at hq, Nat.zero_le _, za.refl _⟩
     case rest =>
      obtain ⟨Hd0, own0, map0, kv0, len0, G5⟩ := hcut; rename World => w5
      have I0 := hh_ (And.intro own0 (And.intro map0 kv0)); clear own0 map0 kv0; go_wp2
      go_loopw [15, 67] (fun t i wr => ∃ (k : Nat) (Hd : List Kq), k <= xs.length /\ i = .int .i64 k /\ wr.ownsRow w4.heap.size 57 1 t Hd.length (Xw Hd) /\ Hd.map Kq.row = ym es ((xs.take k).map zg) /\ (∀ q ∈ Hd, KV wr q.A q.row) /\ Hd.length <= k + 1 /\ za w4 wr) (fun _ i _ => xs.length - (intOf i).toNat)
      case atStart => exact ⟨0, Hd0, Nat.zero_le _, rfl, I0.out.1, I0.out.2.1, I0.out.2.2, by omega, G5⟩
      case round =>
       obtain ⟨k, Hd, hk, rfl, hown, hmap, hkv, hlh, hg⟩ := hrel; have Own := hh_ hown; have MapH := hh_ hmap; have KvH := hh_ hkv; clear hown hmap hkv
       by_cases hlt : k < xs.length
       ·obtain ⟨x, hxk⟩ : ∃ x, xs[k]? = some x := ⟨_, qQ_ hlt⟩
        obtain ⟨gx, ox, rfl, c1, c2, hxv⟩ := (H.out.z.grow (G4.trans hg)) k x hxk; have hm := qZ_ hxk; have lx := A2.out x hm; have cv := fun W (h : za wr W) => jk es Ae ce x.row x.A x.cap W u4_ u4_ (HE.out.grow (G4.trans (hg.trans h))) cols Hty.out (Hfit.out x hm) (hxv.grow h)
        have HXK := hh_ hxk; obtain ⟨KX, hKX⟩ : ∃ q, yU es x.row = q := ⟨_, rfl⟩
        have lkx : KX.length = es.length := by rw [<- hKX]; simp [yU]
        rw [show es.map (yd x.row) = KX from hKX] at cv; have kgx := HKEY.out x hm; rw [hKX] at kgx; have KGX := hh_ kgx; have HKX := hh_ hKX; have LKX := hh_ lkx
        have kgh : ∀ q ∈ Hd, ((∀ v ∈ q.row, RV v) /\ zj q.row = q.row) /\ q.row.length = es.length := fun q hq => by
         have h1 : q.row ∈ Hd.map Kq.row := qZ9 hq; rw [MapH.out] at h1
         have h2 : q.row ∈ ym es z := by
          rw [<- HZ.out, <- List.take_append_drop k xs, List.map_append]; exact N8 h1
         have := OK.out.key h2; exact ⟨⟨this.2.1, this.2.2⟩, this.1⟩
        have KGH := hh_ kgh; clear hxk hxv hKX lkx kgx kgh; go_upto_region 18 with fail
        refine zb (fun Z => zc Z wr.heap.size 59 #[.slice x.A x.row.length x.cap, .int .i64 x.w] /\ za wr Z) ⟨zc.new _ _ _, (za.refl wr).al _⟩ ?_; generalize wr.heap.size = g17; rintro Z ⟨Bz, Gz⟩; have BZ := hh_ Bz; obtain ⟨bz, fz⟩ := Bz.rules; clear c1 c2 Bz; go_upto_region 19 with (go_at_call 102; ((with_reducible refine (cv _ Gz).mono ?_); rintro e wk ⟨Bk, capk, rfl, ownk, hgk⟩)); have KVX := hh_ (WG LKX.out ownk); obtain ⟨bz, fz⟩ := (BZ.out.grow hgk).rules; have GK := Gz.trans hgk; obtain ⟨Bh, caph, rfl⟩ := yg Own.out; have OwnK := hh_ (zh Own.out GK); clear cv ownk; go_wp2
        go_loopw [19, 80] (fun s i wq => ∃ j : Nat, j <= Hd.length /\ i = .int .i64 j /\ s = .bool (decide (x.w <= 0) || (Hd.take j).any (fun h => decide (h.row = KX))) /\ za wk wq) (fun _ i _ => Hd.length - (intOf i).toNat)
        case atStart => exact ⟨0, Nat.zero_le _, rfl, by simp, za.refl _⟩
        case round =>
         rename World => wq
         obtain ⟨j, hj, rfl, rfl, hgq⟩ := hrel
         by_cases hlt2 : j < Hd.length
         ·obtain ⟨hd, hhj⟩ : ∃ hd, Hd[j]? = some hd := ⟨_, qQ_ hlt2⟩
          have hmd := qZ_ hhj; obtain ⟨gg, eg, ch⟩ := WF (zh OwnK.out hgq) j hd hhj; subst eg; have as1 := T1 (fun h => decide (h.row = KX)) hhj; obtain ⟨bj, hbj⟩ : ∃ b, (decide (x.w <= 0) || (Hd.take j).any (fun h => decide (h.row = KX))) = b := ⟨_, rfl⟩
          have as2 : (decide (x.w <= 0) || (Hd.take (j + 1)).any (fun h => decide (h.row = KX))) = (bj || decide (hd.row = KX)) := by rw [as1, <- Bool.or_assoc, hbj]
          have AS2 := hh_ as2; rw [hbj]; have kvd := ((KvH.out hd hmd).grow GK).1; have kgd := KGH.out hd hmd; have cr := fun W (h : za wk W) => kT hd.row KX hd.A Bk hd.cap capk W u4_ (by have := LKX.out; omega) (kvd.grow h) (KVX.out.1.grow h)
          obtain ⟨d, hdd⟩ : ∃ d, zC zH hd.row KX = d := ⟨_, rfl⟩
          rw [hdd, LKX.out] at cr; have hd0 : d = 0 ↔ hd.row = KX := by rw [<- hdd]; exact UE kgd.1 KGX.out
          have HD0 := hh_ hd0; clear as1 as2 hbj kvd kgd hdd hd0 hhj; cases bj with
          | true =>
           go_wp2; go_roundw
           case rel => exact ⟨j + 1, by omega, by go_num, by rw [AS2.out]; rfl, hgq⟩
           case measure => exact wa_
          | false =>
           by_cases h0 : d = 0
           ·have d0 : (d == 0) = true := by simpa using h0
            go_wp2_with (go_at_call 98; ((with_reducible refine (cr _ hgq).mono ?_); rintro e w7 ⟨rfl, hg7⟩))
            go_roundw
            case rel => exact ⟨j + 1, by omega, by go_num, by rw [AS2.out, decide_eq_true (HD0.out.1 h0)]; rfl, hgq.trans hg7⟩
            case measure => exact wa_
           ·have d0 : (d == 0) = false := by simpa using h0
            go_wp2_with (go_at_call 98; ((with_reducible refine (cr _ hgq).mono ?_); rintro e w7 ⟨rfl, hg7⟩))
            go_roundw
            case rel => exact ⟨j + 1, by omega, by go_num, by rw [AS2.out, decide_eq_false (fun e => h0 (HD0.out.2 e))]; rfl, hgq.trans hg7⟩
            case measure => exact wa_
         ·obtain rfl : j = Hd.length := by omega
          rw [List.take_length]; have hs : ym es ((xs.take (k + 1)).map zg) = if 0 < x.w then Yz (ym es ((xs.take k).map zg)) KX else ym es ((xs.take k).map zg) := by rw [zT zg HXK.out, MK, <- HKX.out]; rfl
          have HS := hh_ hs; obtain ⟨b, hb⟩ : ∃ b, (decide (x.w <= 0) || Hd.any (fun h => decide (h.row = KX))) = b := ⟨_, rfl⟩
          rw [hb]
          have inH : Hd.any (fun h => decide (h.row = KX)) = true ↔ KX ∈ ym es ((xs.take k).map zg) := by
           rw [<- MapH.out, List.any_eq_true]
           constructor
           ·rintro ⟨q, hq, e⟩; exact List.mem_map.2 ⟨q, hq, by simpa using e⟩
           ·intro h; obtain ⟨q, hq, e⟩ := List.mem_map.1 h; exact ⟨q, hq, by simpa using e⟩
          have gq := GK.trans hgq; cases b with
          | true =>
           have he : ym es ((xs.take (k + 1)).map zg) = ym es ((xs.take k).map zg) := by
            rw [HS.out]; split
            ·rename_i hw; rw [Bool.or_eq_true] at hb; rcases hb with hb | hb
             ·have := of_decide_eq_true hb; omega
             ·unfold Yz; rw [if_pos (inH.1 hb)]
            ·rfl
           have HEK := hh_ (MapH.out.trans he.symm); clear hb inH hs he; go_wp2; go_roundw
           case rel => exact ⟨k + 1, Hd, by omega, by go_num, zh Own.out gq, HEK.out, fun q hq => (KvH.out q hq).grow gq, by omega, hg.trans gq⟩
           case measure => exact wa_
          | false =>
           rw [Bool.or_eq_false_iff] at hb; have hw : 0 < x.w := by have := of_decide_eq_false hb.1; omega
           have hni : KX ∉ ym es ((xs.take k).map zg) := fun h => by have := inH.2 h; rw [hb.2] at this; cases this
           have he : (Hd ++ [Kq.mk Bk KX capk]).map Kq.row = ym es ((xs.take (k + 1)).map zg) := by
            rw [HS.out, if_pos hw, List.map_append, MapH.out]; unfold Yz; rw [if_neg hni]; rfl
           have HEK := hh_ he; have Own1 := hh_ (zh Own.out gq); have G1 := hg.trans gq; clear hb inH hs he hni
           go_wp2_with (at_builtin; refine ZF rfl _ _ rfl w4.heap.size _ _ _ rfl (Own1.out.alloc _) _ 1 Bk es.length capk rfl (zc.new _ _ _) u4_ ui_ ?_; intro v7 w7 own7 gr7)
           have G7 : za w4 w7 := zp (G1.al _) gr7 (Own1.out.alloc _)
           have KV7 : ∀ q ∈ Hd ++ [Kq.mk Bk KX capk], KV w7 q.A q.row := fun q hq => by
            rcases List.mem_append.1 hq with hq | hq
            ·exact kq (((KvH.out q hq).grow gq).grow ((za.refl wq).al _)) (Own1.out.alloc _) u3_ gr7
            ·simp at hq; subst hq; exact kq ((KVX.out.grow hgq).grow ((za.refl wq).al _)) (Own1.out.alloc _) u3_ gr7
           have own8 : w7.ownsRow w4.heap.size 57 1 v7 (Hd ++ [Kq.mk Bk KX capk]).length (Xw (Hd ++ [Kq.mk Bk KX capk])) := by
            rw [Sj, show (Hd ++ [Kq.mk Bk KX capk]).length = Hd.length + 1 by simp]; show w7.ownsRow w4.heap.size 57 1 v7 (Hd.length + 1) (Xw Hd ++ [.slice Bk KX.length capk]); rw [LKX.out]; exact own7
           have F7 := hh_ (And.intro own8 KV7); clear own7 own8 gr7 KV7; go_wp2; go_roundw
           case rel => exact ⟨k + 1, Hd ++ [Kq.mk Bk KX capk], by omega, by go_num, F7.out.1, HEK.out, F7.out.2, by simp; omega, G7⟩
           case measure => exact wa_
       ·have ek : k = xs.length := by omega
        subst ek; have mh := MapH.out; rw [List.take_length, HZ.out] at mh; obtain ⟨Bh, caph, rfl⟩ := yg Own.out; have CE := hh_ (WF Own.out); have MH := hh_ mh
        have kgh : ∀ q ∈ Hd, ((∀ v ∈ q.row, RV v) /\ zj q.row = q.row) /\ q.row.length = es.length /\ q.row ∈ ym es z := fun q hq => by
         have h1 : q.row ∈ Hd.map Kq.row := qZ9 hq; rw [MH.out] at h1; have := OK.out.key h1; exact ⟨⟨this.2.1, this.2.2⟩, this.1, h1⟩
        have KGH := hh_ kgh; clear mh kgh; go_wp2
        go_loopw [22, 101] (fun t i wq => ∃ (k : Nat) (l : List Z), k <= Hd.length /\ i = .int .i64 k /\ l = (Hd.take k).map (fun h => jY es aggs z h.row) /\ xC wr wq t l) (fun _ i _ => Hd.length - (intOf i).toNat)
        case atStart => exact ⟨0, [], Nat.zero_le _, rfl, rfl, xC.nil wr wr (za.refl _)⟩
        case round =>
         rename World => wq
         obtain ⟨k, l, hk, rfl, hl, hput⟩ := hrel; have PT := hh_ hput; have HL := hh_ hl; have hgq := hput.grow
         obtain ⟨Bt, nt, ct, rfl⟩ : ∃ (B : Option Addr) (n c : Nat), u22 = .slice B n c := by
          obtain ⟨⟨B, ys, cap, e, _⟩, _⟩ := hput; exact ⟨B, _, cap, e⟩
         clear hput hl
         by_cases hlt2 : k < Hd.length
         ·obtain ⟨hd, hhk⟩ : ∃ hd, Hd[k]? = some hd := ⟨_, qQ_ hlt2⟩
          have hmd := qZ_ hhk; obtain ⟨gg, eg, ch⟩ := CE.out k hd hhk; subst eg; replace ch := hgq.cell ch; have kgd := KGH.out hd hmd; have KGD := hh_ kgd; have KVD := hh_ ((KvH.out hd hmd).grow hgq); have HHK := hh_ hhk; have GQ := G4.trans (hg.trans hgq); clear hhk kgd; go_wp2
          go_loopw [25, 107] (fun t i wd => ∃ j : Nat, j <= xs.length /\ i = .int .i64 j /\ wd.ownsRow wq.heap.size 59 2 t (ji es (xs.take j) hd.row).length (zx (ji es (xs.take j) hd.row)) /\ za wq wd) (fun _ i _ => xs.length - (intOf i).toNat)
          case atStart => exact xy_
          case round =>
           rename World => wd
           obtain ⟨j, hj, rfl, hown, hgd⟩ := hrel; have OwnX := hh_ hown; clear hown
           by_cases hlt3 : j < xs.length
           ·obtain ⟨x, hxk⟩ : ∃ x, xs[j]? = some x := ⟨_, qQ_ hlt3⟩
            obtain ⟨gx, ox, rfl, c1, c2, hxv⟩ := (H.out.z.grow (GQ.trans hgd)) j x hxk; have hm := qZ_ hxk; have lx := A2.out x hm; have cv := fun W (h : za wd W) => jk es Ae ce x.row x.A x.cap W u4_ u4_ (HE.out.grow (GQ.trans (hgd.trans h))) cols Hty.out (Hfit.out x hm) (hxv.grow h)
            obtain ⟨KX, hKX⟩ : ∃ q, yU es x.row = q := ⟨_, rfl⟩
            have lkx : KX.length = es.length := by rw [<- hKX]; simp [yU]
            rw [show es.map (yd x.row) = KX from hKX] at cv; have kgx := HKEY.out x hm; rw [hKX] at kgx; have rx := Px es hd.row hxk; rw [hKX] at rx; obtain ⟨RL, hRL⟩ : ∃ r, ji es (xs.take j) hd.row = r := ⟨_, rfl⟩
            have lrl : RL.length <= 400 := by
             rw [<- hRL]; have h1 := Kx es (xs.take j) hd.row; simp at h1; omega
            rw [hRL] at rx OwnX; have RX := hh_ rx; have KGX := hh_ kgx; have LKX := hh_ lkx; have cr := fun Bk capk W (h : za wq W) (hk : yS W Bk KX) => kT KX hd.row Bk hd.A capk hd.cap W (by have := LKX.out; omega) (by have := KGD.out.2.1; omega) hk (KVD.out.1.grow h)
            obtain ⟨d, hdd⟩ : ∃ d, zC zH KX hd.row = d := ⟨_, rfl⟩
            rw [hdd, LKX.out] at cr; have HD0 := hh_ (show d = 0 ↔ KX = hd.row by rw [<- hdd]; exact UE KGX.out KGD.out.1); clear hxk hxv hKX lkx kgx rx hRL hdd; go_upto_region 36 with fail
            refine zb (fun Z => zc Z wd.heap.size 59 #[.slice x.A x.row.length x.cap, .int .i64 x.w] /\ za wd Z) ⟨zc.new _ _ _, (za.refl wd).al _⟩ ?_; generalize wd.heap.size = g27; rintro Z ⟨Bz, Gz⟩; have BZ := hh_ Bz; obtain ⟨bz, fz⟩ := Bz.rules; clear c1 c2 Bz
            by_cases hw : 0 < x.w
            ·have dw : decide (0 < x.w) = true := decide_eq_true hw
             by_cases h0 : d = 0
             ·have d0 : (d == 0) = true := by simpa using h0
              go_upto_region 37 with (first
               | (go_at_call 102; ((with_reducible refine (cv _ Gz).mono ?_); rintro e wk ⟨Bk, capk, rfl, ownk, hgk⟩; have KVX := hh_ (WG LKX.out ownk); clear ownk))
               | (go_at_call 98; (refine (cr Bk capk _ (hgd.trans (Gz.trans hgk)) KVX.out.1).mono ?_; rintro e w7 ⟨rfl, hg7⟩)))
              have gd := Gz.trans (hgk.trans hg7); obtain ⟨bz, fz⟩ := (BZ.out.grow (hgk.trans hg7)).rules; have Own1 := hh_ (zh OwnX.out gd); have G1 := hgd.trans gd
              go_wp2_with (at_builtin; refine zi rfl _ _ rfl wq.heap.size _ _ _ rfl (Own1.out.alloc _) _ [x] rfl (qf rfl (zc.new _ _ _)) uV_ ui_ ?_; intro v8 w8 own8 gr8)
              have G8 : za wq w8 := zp (G1.al _) gr8 (Own1.out.alloc _); have e8 : ji es (xs.take (j + 1)) hd.row = RL ++ [x] := by rw [RX.out, if_pos ⟨hw, HD0.out.1 h0⟩]
              have F8 := hh_ (show w8.ownsRow wq.heap.size 59 2 v8 (ji es (xs.take (j + 1)) hd.row).length (zx (ji es (xs.take (j + 1)) hd.row)) by rw [e8]; simpa using own8); clear own8 gr8 e8; go_wp2; go_roundw
              case rel => exact ⟨j + 1, by omega, by go_num, F8.out, G8⟩
              case measure => exact wa_
             ·have d0 : (d == 0) = false := by simpa using h0
              have e8 : ji es (xs.take (j + 1)) hd.row = RL := by rw [RX.out, if_neg (fun h => h0 (HD0.out.2 h.2)), List.append_nil]
              have E8 := hh_ e8; clear e8
              go_wp2_with (first
               | (go_at_call 102; ((with_reducible refine (cv _ Gz).mono ?_); rintro e wk ⟨Bk, capk, rfl, ownk, hgk⟩; have KVX := hh_ (WG LKX.out ownk); clear ownk))
               | (go_at_call 98; (refine (cr Bk capk _ (hgd.trans (Gz.trans hgk)) KVX.out.1).mono ?_; rintro e w7 ⟨rfl, hg7⟩)))
              have gd := Gz.trans (hgk.trans hg7); go_roundw
              case rel => exact ⟨j + 1, by omega, by go_num, by rw [E8.out]; exact zh OwnX.out gd, hgd.trans gd⟩
              case measure => exact wa_
            ·have dw : decide (0 < x.w) = false := decide_eq_false hw; have e8 : ji es (xs.take (j + 1)) hd.row = RL := by rw [RX.out, if_neg (fun h => hw h.1), List.append_nil]
             have E8 := hh_ e8; clear e8; go_wp2; go_roundw
             case rel => exact ⟨j + 1, by omega, by go_num, by rw [E8.out]; exact zh OwnX.out Gz, hgd.trans Gz⟩
             case measure => exact wa_
           ·obtain rfl : j = xs.length := by omega
            have ownx := OwnX.out; rw [List.take_length] at ownx; obtain ⟨RL, hRL⟩ : ∃ r, ji es xs hd.row = r := ⟨_, rfl⟩
            obtain ⟨q, hq⟩ : ∃ q, qF es z hd.row = q := ⟨_, rfl⟩
            have zr : RL.map zg = q := by rw [<- hRL, <- hq, <- HZ.out]; exact Tb es xs hd.row
            have lrl : RL.length <= 400 := by
             rw [<- hRL]; have h1 := Kx es xs hd.row; omega
            have subr : ∀ x ∈ RL, x ∈ xs := fun x hx => by rw [<- hRL] at hx; exact Tc x hx
            have er : u25 = u25 /\ (ji es (xs.take xs.length) hd.row) = RL := ⟨rfl, by rw [List.take_length]; exact hRL⟩
            rw [hRL] at ownx; obtain ⟨BR, capR, rfl⟩ := yg ownx; have zin := WK ownx (fun u hu => (H.out.z.vsl u (subr u hu)).grow (GQ.trans hgd)); have ZR := hh_ zr; have SUBR := hh_ subr; have ZIN := hh_ zin; have HQ := hh_ hq; have cb := kB hd.row [] hd.A none hd.cap 0 wd ub_ (KVD.out.1.grow hgd) (fun i x hx => by simp at hx); simp only [List.append_nil, List.length_nil] at cb; clear ownx hRL zr subr zin hq er; go_upto_region 40 with (go_at_call 104; ((with_reducible refine cb.mono ?_); rintro e wb ⟨Bb, capb, rfl, ownb, hgb⟩)); have OwnB := hh_ ownb; clear ownb cb; go_wp2
            go_loopw [28, 132] (fun t i we => ∃ j : Nat, j <= aggs.length /\ i = .int .i64 j /\ we.ownsRow wd.heap.size 24 3 t (hd.row.length + j) (zF (hd.row ++ (aggs.take j).map (fun a => ko a q))) /\ za wd we) (fun _ i _ => aggs.length - (intOf i).toNat)
            case atStart => exact ⟨0, Nat.zero_le _, rfl, by simpa using OwnB.out, hgb⟩
            case round =>
             rename World => we
             obtain ⟨j, hj, rfl, hown, hge⟩ := hrel; have OwnD := hh_ hown; clear hown
             by_cases hlt4 : j < aggs.length
             ·obtain ⟨a, haj⟩ : ∃ a, aggs[j]? = some a := ⟨_, qQ_ hlt4⟩
              obtain ⟨ga, oa, rfl, ac, ax⟩ := (HA.out.grow (GQ.trans (hgd.trans hge))) j a haj; have ham := qZ_ haj
              have aok : Jk a (RL.map zg) := by
               rw [ZR.out, <- HQ.out]; exact OK.out.agg ham Yu
              have wta : a.k ≠ 1 -> ∃ T, wt cols a.x T := fun h1 => by
               have e0 := Ye OK.out.ag a ham; unfold Jj at e0; rw [if_neg (by have := aok.k; omega), if_neg h1] at e0
               have e1 : (zP cols a.x).2 = 0 := ye_
               obtain ⟨T, hok⟩ := xk e1; exact ⟨T, hok.ty⟩
              have ag : Fj a RL := ⟨aok.k, lrl, fun x hx => by have := A2.out x (SUBR.out x hx); omega, fun x hx => A3.out x (SUBR.out x hx), fun h1 x hx => by
               obtain ⟨T, hT⟩ := wta h1; rw [(Hfit.out x (SUBR.out x hx)).1]
               exact Yc a.x hT, fun x hx => A4.out x (SUBR.out x hx)⟩
              have cag := fun W (hh : za we W) => Vi cols a RL BR capR W (ax.grow hh) (ZIN.out.grow (hge.trans hh)) ag (fun x hx => Hfit.out x (SUBR.out x hx)) wta
              obtain ⟨v9, hv9⟩ : ∃ v, ko a (RL.map zg) = v := ⟨_, rfl⟩
              rw [hv9] at cag; have e9 : (aggs.take (j + 1)).map (fun a => ko a q) = (aggs.take j).map (fun a => ko a q) ++ [v9] := by rw [zT _ haj, <- ZR.out, hv9]
              have E9 := hh_ e9; unfold V.val Ag.val at cag; obtain ⟨ck, c0, c1, c2, c3, c4, c5⟩ := ac; clear haj ham aok wta ag ax hv9 e9; go_upto_region 43 with fail
              refine zb (fun Z => zc Z we.heap.size 75 #[.int .i64 a.k, .int .i64 a.x.kind, .int .i64 a.x.v.k, .int .i64 a.x.v.n, .string a.x.v.s, .int .i64 a.x.col, .slice a.x.A a.x.n a.x.cap] /\ za we Z) ⟨zc.new _ _ _, (za.refl we).al _⟩ ?_; generalize we.heap.size = g30; rintro Z ⟨Bz, Gz⟩; obtain ⟨bz, fz⟩ := Bz.rules; clear ck c0 c1 c2 c3 c4 c5 Bz
              go_wp2_with (first
               | (go_at_call 110; ((with_reducible refine (cag _ Gz).mono ?_); rintro e w7 ⟨rfl, hg7⟩; have OwnD1 := hh_ (zh OwnD.out (Gz.trans hg7)); have gd1 := hge.trans (Gz.trans hg7)))
               | (at_builtin; refine yx rfl _ _ rfl wd.heap.size _ _ _ rfl (OwnD1.out.alloc _) _ [v9] rfl (Zx (zc.new _ _ _)) ub_ (by have := gd1.size; simp; omega) ?_; intro v8 w8 own8 gr8))
              have G8 : za wd w8 := zp (gd1.al _) gr8 (OwnD1.out.alloc _); have Own8 := hh_ own8; clear own8 gr8; go_wp2; go_roundw
              case rel => exact ⟨j + 1, by omega, by go_num, by rw [E9.out, <- List.append_assoc]; simpa [Nat.add_assoc] using Own8.out, G8⟩
              case measure => exact wa_
             ·obtain rfl : j = aggs.length := by omega
              have ownd := OwnD.out; rw [List.take_length] at ownd; obtain ⟨Bf, capf, rfl⟩ := yg ownd; obtain ⟨nrow, hnr⟩ : ∃ nrow, hd.row ++ aggs.map (fun a => ko a q) = nrow := ⟨_, rfl⟩
              rw [hnr] at ownd; have lnr : nrow.length = hd.row.length + aggs.length := by rw [<- hnr]; simp
              have vnr := QY lnr ownd; have erow : jY es aggs z hd.row = (nrow, 1) := by unfold jY; rw [HQ.out, hnr]
              have gr := OK.out.row KGD.out.2.2; rw [erow] at gr; have gw := hgd.trans hge; have cp := kQ (PT.out.more gw) nrow Bf capf 1 vnr (by have := gr.1; simp only at this; omega) gr.2.1 u4_ (by rw [HL.out]; simp; have := KGH; omega); rw [lnr] at cp; have ER := hh_ erow; clear ownd hnr lnr vnr erow gr
              go_wp2_with (go_at_call 56; ((with_reducible refine cp.mono ?_); rintro e w7 ⟨v7, rfl, hp7, hg7⟩))
              have P7 := hh_ hp7; clear hp7 cp; go_roundw
              case rel => exact ⟨k + 1, l ++ [(nrow, 1)], by omega, by go_num, by rw [zT _ HHK.out, HL.out, ER.out], P7.out⟩
              case measure => exact wa_
         ·obtain rfl : k = Hd.length := by omega
          have el : l = Lj es aggs z := by
           rw [HL.out, List.take_length]; unfold Lj; rw [<- MH.out, List.map_map]; rfl
          obtain ⟨⟨B9, ys, cap9, e9, hz9, hm9, hk9⟩, hg9, _⟩ := PT.out; simp only [Value.slice.injEq] at e9; obtain ⟨rfl, rfl, rfl⟩ := e9; rw [el] at hm9; have FIN := hh_ (And.intro hz9 (And.intro hm9 hk9)); clear hz9 hm9 hk9 el; go_wp2; refine qX_ o5_ rfl ?_; exact ⟨_, ys, _, by rw [EQ2.out], FIN.out.1, by rw [EQ2.out]; exact FIN.out.2.1, FIN.out.2.2, G4.trans (hg.trans hg9)⟩
    ·have eQ : Q = ([], IE) := by rw [EQ.out, if_neg uI_, if_neg uM_, if_pos h2]
     have d3 : (IE != 0) = true := by simpa using h2
     subst h0 h1
     go_wp2_with (first
      | (go_at_call 25; ((with_reducible refine ct.mono ?_); rintro e w2 ⟨BT, capT, rfl, _, _, hg2⟩))
      | (go_at_call 27; ((with_reducible refine (ca1 _ hg2).mono ?_); rintro e w3 ⟨vT, rfl, hg3⟩))
      | (go_at_call 31; ((with_reducible refine (ci _ (hg2.trans hg3)).mono ?_); rintro e w4 ⟨rfl, hg4⟩)))
     refine qX_ o5_ rfl ?_; exact ⟨none, [], 0, by rw [eQ]; rfl, zy _ _, by rw [eQ]; rfl, zX.nil, hg2.trans (hg3.trans hg4)⟩
   ·have eQ : Q = ([], AE) := by rw [EQ.out, if_neg uI_, if_pos h1]
    have d3 : (AE != 0) = true := by simpa using h1
    subst h0
    go_wp2_with (first
     | (go_at_call 25; ((with_reducible refine ct.mono ?_); rintro e w2 ⟨BT, capT, rfl, _, _, hg2⟩))
     | (go_at_call 27; ((with_reducible refine (ca1 _ hg2).mono ?_); rintro e w3 ⟨vT, rfl, hg3⟩)))
    refine qX_ o5_ rfl ?_; exact ⟨none, [], 0, by rw [eQ]; rfl, zy _ _, by rw [eQ]; rfl, zX.nil, hg2.trans hg3⟩
  ·have eQ : Q = ([], TE) := by rw [EQ.out, if_pos h0]
   have d3 : (TE != 0) = true := by simpa using h0
   go_wp2_with (go_at_call 25; ((with_reducible refine ct.mono ?_); rintro e w2 ⟨BT, capT, rfl, _, _, hg2⟩))
   refine qX_ o5_ rfl ?_; exact ⟨none, [], 0, by rw [eQ]; rfl, zy _ _, by rw [eQ]; rfl, zX.nil, hg2⟩
