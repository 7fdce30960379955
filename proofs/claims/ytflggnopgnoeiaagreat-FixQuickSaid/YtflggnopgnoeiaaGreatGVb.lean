/- Parts of a proof. No condition. -/
import Derived.Test.YtflggnopgnoeiaaGreatGT
import Derived.Lib.SliceRun
set_option maxRecDepth 100000
set_option maxHeartbeats 4000000
set_option maxRecDepth 100000
set_option linter.unusedSimpArgs false
set_option linter.unusedVariables false
namespace Go
variable {p : Prop}
theorem ob_ (h : p := by rcases own7.2 with ⟨e, h0⟩ | ⟨g', cap', cur', e, _⟩; exact ⟨none, 0, by rw [h0]; exact e⟩; exact ⟨_, _, e⟩) : p := h
theorem yE_ (h : p := by
 exact absurd hi.symm (jh Own.out h)) : p := h
end Go
namespace Go.Proofs.YtflggnopgnoeiaaGreat
open Go.RowKit Go.Calm
def BV (w : World) (g : Nat) (fl : List Bool) : Prop := zb w g 4 (fl.map Value.bool).toArray
theorem BV.lt {w : World} {g : Nat} {fl : List Bool} (h : BV w g fl) : g < w.heap.size := zb.lt h
theorem BV.grow {w w' : World} {g : Nat} {fl : List Bool} (h : BV w g fl) (hg : za w w') : BV w' g fl := zb.grow h hg
theorem BV.frozen {w : World} {g : Nat} {fl : List Bool} (h : BV w g fl) (i : Nat) : w.frozen? ⟨g, i, none⟩ = false := zb.frozen h i
theorem BV.at {w : World} {g : Nat} {fl : List Bool} (h : BV w g fl) {i : Nat} {f : Bool} (hf : fl[i]? = some f) : w.cell? ⟨g, i, none⟩ = some (.bool f) := by
 rw [zb.cell h]; simp [hf]
theorem BV.put {w : World} {g : Nat} {fl : List Bool} (h : BV w g fl) (i : Nat) (f : Bool) : BV (w.setCell ⟨g, i, none⟩ (.bool f)) g (fl.set i f) := by
 have hb := zb.set h i (.bool f); unfold BV; rw [List.map_set]; simpa using hb
theorem Vi : (Tryz.prog.info? 4).map (fun i => (i.zero, i.size, i.bytes)) = some (some (.bool false), 1, 1) := by kernel_rfl
theorem SE (n : Nat) : madeCells #[.bool false] (n * 1) = ((List.replicate n false).map Value.bool).toArray := by
 apply Array.ext_getElem?; intro i
 by_cases hi : i < n * 1
 ·rw [JY _ _ _ hi]; rw [List.getElem?_toArray, List.getElem?_map, List.getElem?_replicate, if_pos uX_]; have : i % (#[Value.bool false] : Array Value).size = 0 := by simp; omega
  rw [this]; rfl
 ·rw [Array.getElem?_eq_none ua_, Array.getElem?_eq_none uN_]
theorem SF (n : Nat) (hn : n <= 100000) (W : World) : (Instr.makeSlice 74 (.int .i64 (n : Int)) (.int .i64 (n : Int))).run Tryz.prog W = .ok (.slice (some ⟨W.heap.size, 0, none⟩) n n) (W.alloc (.cells ((List.replicate n false).map Value.bool).toArray 4)) := by
 have h := Vi; cases hi : Tryz.prog.info? 4 with
 | none => rw [hi] at h; simp at h
 | some i =>
  rw [hi] at h; simp at h; obtain ⟨h1, h2, h3⟩ := h; have := run_make W 74 4 i _ Tryz.underlying74 hi h1 .i64 .i64 (n : Int) (n : Int) uX_ uX_ (by rw [h3]; omega) uX_; rw [this, h2]; simp only [Int.toNat_natCast]; rw [show (Value.bool false).cells = #[.bool false] from rfl, SE]
def zbf (h : WZ) : Bool := decide (0 < h.2.2.w)
def xq (n : Nat) (hits : List WZ) : List Bool := (List.range n).map (fun i => hits.any (fun h => h.1 == i && zbf h))
theorem Wu (n : Nat) (hits : List WZ) : (xq n hits).length = n := by simp [xq]
theorem PA (n : Nat) : xq n [] = List.replicate n false := by
 apply List.ext_getElem?; intro i
 by_cases h : i < n
 ·simp [xq, h]
 ·simp [xq, h]
theorem Ni (n : Nat) (hits : List WZ) (i : Nat) (y z : I) (hi : i < n) : xq n (hits ++ [(i, y, z)]) = if 0 < z.w then (xq n hits).set i true else xq n hits := by
 apply List.ext_getElem?; intro j
 by_cases hw : 0 < z.w
 ·rw [if_pos hw, List.getElem?_set]
  by_cases hj : i = j
  ·subst hj; rw [if_pos rfl, if_pos (by rw [Wu]; exact hi)]; simp [xq, hi, zbf, hw]
  ·rw [if_neg hj]
   by_cases hjn : j < n
   ·simp [xq, hjn, hj]
   ·simp [xq, hjn]
 ·rw [if_neg hw]
  by_cases hjn : j < n
  ·simp [xq, hjn, zbf, hw]
  ·simp [xq, hjn]
def kC (x : E) (b : List Z) (p : Z) : Bool := b.any (fun q => yD x (p.1 ++ q.1) && decide (0 < q.2))
theorem U4 (x : E) (a b : List I) : xq a.length (qg x a b a.length) = a.map (fun y => kC x (b.map zh) (zh y)) := by
 apply List.ext_getElem?; intro i
 by_cases hi : i < a.length
 ·have ea : a[i]? = some a[i] := qQ_ hi; rw [List.getElem?_map, ea]; simp only [xq, List.getElem?_map, List.getElem?_range hi, Option.map_some]; congr 1; rw [Bool.eq_iff_iff]; simp only [List.any_eq_true, Bool.and_eq_true, beq_iff_eq, kC]
  constructor
  ·rintro ⟨h, hh, e1, e2⟩; obtain ⟨m1, m2, m3, m4⟩ := Sv hh; rw [e1, ea] at m2; have m2 := Option.some.inj m2; refine ⟨zh h.2.2, qZ9 m3, ?_, e2⟩; rw [<- m2] at m4; exact m4
  ·rintro ⟨q, hq, h1, h2⟩; obtain ⟨z, hz, rfl⟩ := List.mem_map.1 hq; refine ⟨(i, a[i], z), List.mem_flatMap.2 ⟨i, by simpa using hi, ?_⟩, rfl, h2⟩; simp only [JM, ea]; exact List.mem_map.2 ⟨z, List.mem_filter.2 ⟨hz, h1⟩, rfl⟩
 ·simp [xq, hi]
theorem zbg (we w : World) (gm go gb n : Nat) (b : S) (fl : List Bool) (i k : Nat) (z : I) (B : Option Addr) (m cap : Nat) (hge : za we w) (hgm : we.heap.size <= gm) (hln : fl.length = n) (hn : n <= 400) (hlb : b.xs.length <= 400) (hi : i < n) (hz : b.xs[k]? = some z) (hb : xe we b.A b.xs) (hbm : BV w gm fl) (hbo : zb w go 74 #[.slice (some ⟨gm, 0, none⟩) n n]) (hbb : zb w gb 25 #[.slice b.A b.xs.length b.cap]) :
  Calls Tryz.prog 210 #[.int .i64 i, .int .i64 k, .slice B m cap, .pointer (some ⟨gb, 0, none⟩), .pointer (some ⟨go, 0, none⟩)] w fun en w' => en = .returned (.tuple #[]) /\ BV w' gm (if 0 < z.w then fl.set i true else fl) /\ za we w' /\ w.heap.size <= w'.heap.size /\ ∀ q t cs, zb w q t cs -> q ≠ gm -> zb w' q t cs := by
 have hk : k < b.xs.length := (qQ9.1 hz).1; obtain ⟨g2, o2, eB, _, cz, _⟩ := (hb.grow hge) k z hz; obtain ⟨Ab, bs1, cb⟩ := b; simp only at eB hk hlb hbb; subst eB; have HM := hh_ hbm; have Hge := hh_ hge; have fi : fl[i]? = some (fl[i]' uX_) := qQ_ uX_; have z1 := hbm.at fi; have fz := hbm.frozen; obtain ⟨bo, fo⟩ := hbo.rules; obtain ⟨bb, fb⟩ := hbb.rules; have p2 : (k : Int) < (bs1.length : Int) := by omega
 have p1 : (i : Int) < (n : Int) := by omega
 clear hbm hge hb hz hbo hbb fi; go_enter Tryz.func210, Tryz.ntmps210
 by_cases hw : 0 < z.w
 ·have dw : decide (0 < z.w) = true := decide_eq_true hw; go_wp2; go_end0; refine ⟨rfl, ?_, za.set Hge.out hgm _, by simp, fun q t cs h h1 => zb.far h h1 _⟩
  first
   | exact HM.out.put i true
   | (rw [if_pos hw]; exact HM.out.put i true)
 ·have dw : decide (0 < z.w) = false := decide_eq_false hw; go_wp2; go_end0; exact ⟨rfl, by first | exact HM.out | (rw [if_neg hw]; exact HM.out), Hge.out, Nat.le_refl _, fun q t cs h _ => h⟩
def MS (gm go gb n : Nat) (b : S) (W : World) (s : Unit) (h : List WZ) : Prop := BV W gm (xq n h) /\ zb W go 74 #[.slice (some ⟨gm, 0, none⟩) n n] /\ zb W gb 25 #[.slice b.A b.xs.length b.cap]
theorem zbh (we : World) (base gm go gb : Nat) (a b : S) (x : E) (hgm : we.heap.size <= gm) (hne1 : go ≠ gm) (hne2 : gb ≠ gm) (hb : xe we b.A b.xs) (ok : Yb x a b) :
  RU we base 210 #[.pointer (some ⟨gb, 0, none⟩), .pointer (some ⟨go, 0, none⟩)] a b Unit (MS gm go gb a.xs.length b) (fun s q => q ≠ gm) where
 ent := fun args W => Dd Tryz.func210 uQ_ rfl args W
 grow := fun W W' s h hs hg => ⟨hs.1.grow hg, hs.2.1.grow hg, hs.2.2.grow hg⟩
 new := fun W s h q hs hq => fun e => by have := hs.1.lt; omega
 step := fun W s h i k y z B cap hs hge hbw hy hz hl hr => by
  have hi : i < a.xs.length := (qQ9.1 hy).1; refine (zbg we W gm go gb a.xs.length b (xq a.xs.length h) i k z B (y.row ++ z.row).length cap hge hgm (Wu _ _) ok.la ok.lb hi hz hb hs.1 hs.2.1 hs.2.2).mono ?_; rintro en W' ⟨rfl, h1, h2, h3, h4⟩; exact ⟨rfl, (), ⟨by rw [Ni _ _ _ _ _ hi]; exact h1, h4 _ _ _ hs.2.1 hne1, h4 _ _ _ hs.2.2 hne2⟩, h2, h3, fun q t cs hB hq => ⟨h4 _ _ _ hB hq, hq⟩⟩
theorem Nw (gx ox : Nat) (x : E) (a b : S) (w : World) (hx : EX w x) (hc : zF w gx ox x) (ha : xe w a.A a.xs) (hb : xe w b.A b.xs) (hok : Yb x a b) :
  Calls Tryz.prog 196 #[.pointer (some ⟨gx, ox, none⟩), .slice a.A a.xs.length a.cap, .slice b.A b.xs.length b.cap] w fun en w' => ∃ g, en = .returned (.slice (some ⟨g, 0, none⟩) a.xs.length a.xs.length) /\ BV w' g (a.xs.map (fun y => kC x b.z (zh y))) /\ za w w' := by
 have mk := fun W => SF a.xs.length (by have := hok.la; omega) W
 have cp := hh_ (fun (X : World) (h : MS (w.heap.size + 1) (w.heap.size + 2) w.heap.size a.xs.length b X () []) (G : za w X) => Mo 210 _ w gx ox x a b X (zbh w X.heap.size (w.heap.size + 1) (w.heap.size + 2) w.heap.size a b x uX_ uX_ uX_ hb hok) _ h G hx hc ha hb hok); clear hx hc ha hb hok; go_enter Tryz.func196, Tryz.ntmps196; go_upto_region 2 with fail
 clear mk; refine zc (fun X => zb X w.heap.size 25 #[.slice b.A b.xs.length b.cap] /\ BV X (w.heap.size + 1) (List.replicate a.xs.length false) /\ zb X (w.heap.size + 2) 74 #[.slice (some ⟨w.heap.size + 1, 0, none⟩) a.xs.length a.xs.length] /\ za w X) ?_ ?_
 ·refine ⟨(zb.new _ _ _).grow (((za.refl _).al _).al _), ?_, zb.new' _ _ _ uY_, (((za.refl _).al _).al _).al _⟩; refine BV.grow ?_ ((za.refl _).al _); unfold BV; rw [show ((List.replicate a.xs.length false).map Value.bool).toArray = Array.replicate a.xs.length (Value.bool false) from by simp]; exact zb.new' _ _ _ uY_
 rintro X ⟨B1, B2, B3, G⟩; have c := cp.out X ⟨by rw [PA]; exact B2, B3, B1⟩ G; obtain ⟨b1, f1⟩ := B1.rules; clear cp B1 B2 B3; generalize w.heap.size + 2 = go at *; generalize w.heap.size + 1 = gm at *; generalize w.heap.size = gb at *; go_upto_region 3 with (go_at_call 208; (with_reducible refine c.mono ?_); rintro en w2 ⟨rfl, s, ⟨J1, J2, J3⟩, hg2⟩); have JJ := hh_ J1; obtain ⟨b3, f3⟩ := J2.rules; clear J1 J2 J3 b1 f1; go_wp2; go_ret; exact ⟨gm, rfl, by have h := JJ.out; rw [U4] at h; exact h, hg2⟩
theorem Pk (m : I -> Bool) (want : Bool) {xs : List I} {k : Nat} {x : I} (h : xs[k]? = some x) : (xs.take (k + 1)).filter (fun y => m y == want) = (xs.take k).filter (fun y => m y == want) ++ (if (m x == want) = true then [x] else []) := by
 obtain ⟨h1, e1⟩ := qQ9.1 h; rw [List.take_succ_eq_append_getElem h1, e1, List.filter_append]; cases hh : (m x == want) <;> simp [hh]
theorem Zo (xs : List I) (A : Option Addr) (c : Nat) (m : I -> Bool) (g : Nat) (want : Bool) (w : World) (hlen : xs.length <= 400) (hz : xe w A xs) (hf : BV w g (xs.map m)) :
  Calls Tryz.prog 195 #[.slice A xs.length c, .slice (some ⟨g, 0, none⟩) xs.length xs.length, .bool want] w fun en w' => ∃ (B : Option Addr) (cap : Nat), en = .returned (.slice B (xs.filter (fun y => m y == want)).length cap) /\ w'.ownsRow w.heap.size 53 2 (.slice B (xs.filter (fun y => m y == want)).length cap) (xs.filter (fun y => m y == want)).length (zr (xs.filter (fun y => m y == want))) /\ za w w' := by
 have Hz := hh_ hz; have Hf := hh_ hf; clear hz hf; go_enter Tryz.func195, Tryz.ntmps195; go_wp2
 go_loopw [7, 12] (fun t i wr => ∃ k : Nat, k <= xs.length /\ i = .int .i64 k /\ wr.ownsRow w.heap.size 53 2 t ((xs.take k).filter (fun y => m y == want)).length (zr ((xs.take k).filter (fun y => m y == want))) /\ za w wr) (fun _ i _ => xs.length - (intOf i).toNat)
 case atStart => exact yr_
 case round =>
  rename World => wr
  obtain ⟨k, hk, rfl, hown, hg⟩ := hrel; have Own := hh_ hown; clear hown
  by_cases hlt : k < xs.length
  ·obtain ⟨y, hyk⟩ : ∃ y, xs[k]? = some y := ⟨_, qQ_ hlt⟩
   obtain ⟨gx, ox, rfl, c1, c2, hyv⟩ := (Hz.out.grow hg) k y hyk; have es := Pk m want hyk; have hfl := (Hf.out.grow hg).at (i := k) (f := m y) (by rw [List.getElem?_map, hyk]; rfl); obtain ⟨b, hb⟩ : ∃ b, m y = b := ⟨_, rfl⟩
   rw [hb] at es hfl; have hle : ((xs.take k).filter (fun y => m y == want)).length <= k := by have h1 := List.length_filter_le (fun y : I => m y == want) (xs.take k); simp at h1; omega
   have Es := hh_ es; have HFL := hh_ hfl; have Hle := hh_ hle; clear hyk es hb hyv hfl hle; go_upto_region 5 with fail
   refine zc (fun Z => zb Z wr.heap.size 53 #[.slice y.A y.row.length y.cap, .int .i64 y.w] /\ za wr Z) ⟨zb.new _ _ _, (za.refl wr).al _⟩ ?_; rintro Z ⟨Bz, Gz⟩; have hfl2 := Gz.cell HFL.out; obtain ⟨bz, fz⟩ := Bz.rules; have OwnZ := hh_ (zi Own.out Gz); have szZ := (hg.trans Gz).size; clear c1 c2; have pk : (k : Int) < (xs.length : Int) := by omega
   by_cases hbw : b = want
   ·subst hbw; have dw : (b == b) = true := by simp
    have es := Es.out; rw [if_pos dw] at es; have Es2 := hh_ es; clear es
    go_wp2_with (at_builtin; refine zj rfl _ _ rfl w.heap.size _ _ _ rfl (OwnZ.out.alloc _) _ [I.mk y.A y.row y.cap y.w] rfl (jD rfl (zb.new _ _ _)) (by have := Hle.out; simp; omega) uN_ ?_; intro v7 w7 own7 gr7)
    have G7 : za w w7 := zy ((hg.trans Gz).al _) gr7 (OwnZ.out.alloc _); have Own7 := hh_ own7; clear own7 gr7; go_roundw
    case rel => exact ⟨k + 1, by omega, by go_num, by rw [Es2.out]; simpa using Own7.out, G7⟩
    case measure => exact u1_
   ·have dw : (b == want) = false := by simpa using hbw
    have es := Es.out; rw [if_neg (by rw [dw]; simp), List.append_nil] at es; have Es2 := hh_ es; clear es; cases b <;> cases want <;> first | exact absurd rfl hbw | skip
    all_goals
     go_wp2; go_roundw
     case rel => exact ⟨k + 1, by omega, by go_num, by rw [Es2.out]; exact OwnZ.out, hg.trans Gz⟩
     case measure => exact u1_
  ·obtain rfl : k = xs.length := by omega
   have own := Own.out; rw [List.take_length] at own
   obtain ⟨B, cap, rfl⟩ : ∃ (B : Option Addr) (cap : Nat), u7 = .slice B (xs.filter (fun y => m y == want)).length cap := xv_
   have Own2 := hh_ own; clear own; go_wp2; go_ret; exact ⟨B, cap, rfl, Own2.out, hg⟩
theorem Ls (xs : List V) (A : Option Addr) (c : Nat) (w : World) (hl : xs.length <= 10000) (hv : xi w A xs) :
  Calls Tryz.prog 71 #[.slice A xs.length c] w fun en w' => ∃ (B : Option Addr) (cap : Nat), en = .returned (.slice B xs.length cap) /\ w'.ownsRow w.heap.size 33 3 (.slice B xs.length cap) xs.length (zN xs) /\ za w w' := by
 have HV := hh_ hv; clear hv; have eqn := fun W (B : Option Addr) n c => Lib.run_eql_slice_nil W 51 33 B n c 0 0 Tryz.underlying51
 go_enter Tryz.func71, Tryz.ntmps71; cases A with
 | none =>
  have e := zaJ HV.out; subst e; go_wp2; go_ret; exact ⟨none, 0, rfl, World.ownsRow_nil _ _ _ _, za.refl _⟩
 | some ad =>
  have hsrc := hh_ (T8 (c := c) (HV.out.grow ((za.refl w).al (.cells #[] 33)))); have hown : (w.alloc (.cells #[] 33)).ownsRow w.heap.size 33 3 (.slice (some ⟨w.heap.size, 0, none⟩) 0 0) 0 (zN []) := ⟨rfl, .inr ⟨w.heap.size, 0, #[], rfl, Nat.le_refl _, heap_alloc_new w _, Nat.le_refl _, by unfold maxLen; omega, rfl, rfl⟩⟩
  have Own := hh_ hown; clear hown
  go_wp2_with (at_builtin; refine xO rfl _ _ rfl w.heap.size _ _ _ rfl Own.out _ xs rfl hsrc.out uX_ uY_ ?_; intro v7 w7 own7 gr7; obtain ⟨g7, cap7, rfl⟩ : ∃ (B : Option Addr) (cap7 : Nat), v7 = .slice B (0 + xs.length) cap7 := ob_)
  have G7 : za w w7 := za.own ((za.refl w).al _) gr7 (fun i hi => by
   rcases Nat.lt_or_ge i w.heap.size with h | h
   ·exact yE_
   ·exact h)
  have Own7 := hh_ own7; clear own7 gr7; go_ret; exact ⟨g7, cap7, by simp, by simpa using Own7.out, G7⟩
theorem H9 {w w' : World} {b1 b2 n1 n2 s1 s2 : Nat} {e1 e2 : TypeId} {v1 v2 : Value} {x1 x2 : List Value} (h1 : w.ownsRow b1 e1 s1 v1 n1 x1) (h2 : w'.ownsRow b2 e2 s2 v2 n2 x2) (hb : w.heap.size <= b2) : v2.ownBlock = none \/ v2.ownBlock ≠ v1.ownBlock := by
 rcases h2.2 with ⟨rfl, _⟩ | ⟨g, cap, cur, rfl, hB, _⟩
 ·exact .inl rfl
 ·exact .inr (QY h1 (by omega : w.heap.size <= g))
theorem Rp {w : World} {g : Nat} {v : V} (h : zb w g 33 #[.int .i64 v.k, .int .i64 v.n, .string v.s]) : zaV w (.slice (some ⟨g, 0, none⟩) 1 1) [v] := by
 refine .inr ⟨⟨g, 0, none⟩, 1, rfl, fun j u hj => ?_⟩; rw [zQ, h.cell]
 match j, hj with
 | 0, hj => simp [zN] at hj; subst hj; rfl
 | 1, hj => simp [zN] at hj; subst hj; rfl
 | 2, hj => simp [zN] at hj; subst hj; rfl
def zac (n : Nat) (p : Z) : Z := (p.1 ++ List.replicate n yj, p.2)
def jf (n : Nat) (x : E) (a b : List Z) : List Z := yS x a b ++ (a.filter (fun p => kC x b p == false)).map (zac n)
theorem Zp (x : E) (b : List Z) (want : Bool) (xs : List I) : (xs.filter (fun y => kC x b (zh y) == want)).map zh = (xs.map zh).filter (fun p => kC x b p == want) := by
 rw [List.filter_map]; rfl
theorem yV {w : World} {base n s : Nat} {e : TypeId} {v : Value} {xs : List Value} (h : w.ownsRow base e s v n xs) : ∃ (B : Option Addr) (cap : Nat), v = .slice B n cap := by
 rcases h.2 with ⟨e, h0⟩ | ⟨g', cap', cur', e, _⟩
 ·exact ⟨none, 0, by rw [h0]; exact e⟩
 ·exact ⟨_, _, e⟩
theorem ND {w : World} {base cap : Nat} {B : Option Addr} {ys : List I} (h : w.ownsRow base 53 2 (.slice B ys.length cap) ys.length (zr ys)) (hv : ∀ y ∈ ys, xi w y.A y.row) : xe w B ys := by
 obtain ⟨B', c', e, hz, hk⟩ := Xm h hv; simp at e; rw [e.1]; exact hz
theorem VC (gx ox : Nat) (x : E) (n : Nat) (a b : S) (w : World) (hn : n <= 8) (hx : EX w x) (hc : zF w gx ox x) (ha : xe w a.A a.xs) (hb : xe w b.A b.xs) (hok : Yb x a b) :
  Calls Tryz.prog 197 #[.pointer (some ⟨gx, ox, none⟩), .int .i64 n, .slice a.A a.xs.length a.cap, .slice b.A b.xs.length b.cap] w fun en w' => ∃ (B : Option Addr) (ys : List I) (cap : Nat), en = .returned (.slice B ys.length cap) /\ w'.ownsRow w.heap.size 53 2 (.slice B ys.length cap) ys.length (zr ys) /\ (∀ u ∈ ys, jM w' u) /\ ys.map zh = jf n x a.z b.z /\ za w w' := by
 have Ha := hh_ ha; have cj := JT gx ox x a b w hx hc ha hb hok; have cm := fun W (h : za w W) => Nw gx ox x a b W (hx.grow h) (hc.grow h) (ha.grow h) (hb.grow h) hok
 obtain ⟨m, hm⟩ : ∃ m : I -> Bool, m = fun y => kC x b.z (zh y) := ⟨_, rfl⟩
 rw [<- hm] at cm; have cc := fun g W (h : za w W) (hf : BV W g (a.xs.map m)) => Zo a.xs a.A a.cap m g false W hok.la (ha.grow h) hf
 obtain ⟨L, hL⟩ : ∃ L, jf n x a.z b.z = L := ⟨_, rfl⟩
 obtain ⟨L1, hL1⟩ : ∃ L, yS x a.z b.z = L := ⟨_, rfl⟩
 have ll1 : L1.length <= 160000 := by
  have h1 := QU x a.z b.z; have h2 := Nat.mul_le_mul hok.la hok.lb; rw [hL1] at h1; simp [S.z] at h1; omega
 have eL : L = L1 ++ ((a.xs.filter (fun y => m y == false)).map zh).map (zac n) := by
  rw [<- hL, <- hL1, hm]; unfold jf; rw [Zp]; rfl
 rw [hL]; rw [hL1] at cj; obtain ⟨ys2, hys⟩ : ∃ l, a.xs.filter (fun y => m y == false) = l := ⟨_, rfl⟩
 simp only [hys] at cc; rw [hys] at eL; have mem : ∀ y ∈ ys2, y ∈ a.xs := fun y hy => by rw [<- hys] at hy; exact (List.mem_filter.1 hy).1
 have l2 : ys2.length <= 400 := by rw [<- hys]; have := List.length_filter_le (fun y => m y == false) a.xs; have := hok.la; omega
 have ra : ∀ y ∈ ys2, y.row.length <= 8 := fun y hy => hok.ra y (mem y hy)
 have EL := hh_ eL; have Mem := hh_ mem; have Ra := hh_ ra; clear hx hc ha hb hok hm hL hL1 eL hys mem ra; go_enter Tryz.func197, Tryz.ntmps197
 go_upto_region 3 with (first
  | (go_at_call 194; (with_reducible refine cj.mono ?_); rintro e w2 ⟨B1, ys1, cap1, rfl, own1, or1, m1, hg2⟩; have Own1 := hh_ own1; have Or1 := hh_ or1; have M1 := hh_ m1; clear own1 or1 m1)
  | (go_at_call 196; (with_reducible refine (cm _ hg2).mono ?_); rintro e w3 ⟨gf, rfl, bv3, hg3⟩)
  | (go_at_call 195; (with_reducible refine (cc gf _ (hg2.trans hg3) bv3).mono ?_); rintro e w4 ⟨B2, cap2, rfl, own2, hg4⟩; have Own2 := hh_ own2; clear own2))
 clear cj cm cc; have sep := H9 Own1.out Own2.out hg3.size; have Own1' := hh_ (zi Own1.out (hg3.trans hg4)); have Or1' := hh_ (fun u hu => (Or1.out u hu).grow (hg3.trans hg4)); have G4 := hh_ (hg2.trans (hg3.trans hg4)); clear bv3; go_wp2
 go_loopw [9, 24] (fun t i wr => ∃ (k : Nat) (out : List I), k <= ys2.length /\ i = .int .i64 k /\ wr.ownsRow w.heap.size 53 2 t out.length (zr out) /\ (∀ u ∈ out, jM wr u) /\ out.map zh = L1 ++ ((ys2.take k).map zh).map (zac n) /\ za w wr /\ wr.ownsRow w3.heap.size 53 2 (.slice B2 ys2.length cap2) ys2.length (zr ys2) /\ ((Value.slice B2 ys2.length cap2).ownBlock = none \/ (Value.slice B2 ys2.length cap2).ownBlock ≠ t.ownBlock)) (fun _ i _ => ys2.length - (intOf i).toNat)
 case atStart => exact ⟨0, ys1, Nat.zero_le _, rfl, Own1'.out, Or1'.out, by simpa using M1.out, G4.out, Own2.out, sep⟩
 case round =>
  rename World => wr
  obtain ⟨k, out, hk, rfl, own, hor, hm, hg, own2, sep2⟩ := hrel; have lo : out.length <= 160400 := by have h := congrArg List.length hm; simp at h; omega
  have Own := hh_ own; have Or := hh_ hor; have M := hh_ hm; have OwnB := hh_ own2; have Sep := hh_ sep2; clear own hor hm own2 sep2; obtain ⟨Bo, capo, rfl⟩ := yV Own.out
  by_cases hlt : k < ys2.length
  ·obtain ⟨y, hyk⟩ : ∃ y, ys2[k]? = some y := ⟨_, qQ_ hlt⟩
   obtain ⟨gx2, ox2, rfl, c1, c2, hyv⟩ := ND OwnB.out (fun y hy => (Ha.out.vsl y (Mem.out y hy)).grow hg) k y hyk; have ly := Ra.out y (qZ_ hyk); have Hyk := hh_ hyk; have HV := hh_ hyv; clear hyk hyv; go_upto_region 5 with fail
   refine zc (fun Z => zb Z wr.heap.size 53 #[.slice y.A y.row.length y.cap, .int .i64 y.w] /\ za wr Z) ⟨zb.new _ _ _, (za.refl wr).al _⟩ ?_; rintro Z ⟨Bz, Gz⟩; have BZ := hh_ Bz; obtain ⟨bz, fz⟩ := Bz.rules; have cl := Ls y.row y.A y.cap Z uX_ (HV.out.grow Gz); clear c1 c2; generalize wr.heap.size = gz at *; go_upto_region 6 with (go_at_call 71; (with_reducible refine cl.mono ?_); rintro e w5 ⟨Br, capr, rfl, own5, hg5⟩; have Own5 := hh_ own5; clear own5); clear cl bz fz; go_wp2
   go_loopw [12, 32] (fun t i W => ∃ j : Nat, j <= n /\ i = .int .i64 j /\ W.ownsRow Z.heap.size 33 3 t (y.row.length + j) (zN (y.row ++ List.replicate j yj)) /\ za Z W) (fun _ i _ => n - (intOf i).toNat)
   case atStart => exact ⟨0, Nat.zero_le _, rfl, by simpa using Own5.out, hg5⟩
   case round =>
    rename World => W1
    obtain ⟨j, hj, rfl, ownr, hgr⟩ := hrel; have OwnR1 := hh_ ownr; clear ownr
    by_cases hlt2 : j < n
    ·obtain ⟨Bj, capj, rfl⟩ := yV OwnR1.out; have sz := hgr.size
     go_wp2_with (first
      | (go_at_call 73; ((with_reducible refine (Xj _).mono ?_); rintro e w6 ⟨rfl, hg6⟩; have Own6 := hh_ (zi OwnR1.out hg6); have sz6 := hg6.size))
      | (at_builtin; refine xO rfl _ _ rfl Z.heap.size _ _ _ rfl (Own6.out.alloc _) _ [yj] rfl (Rp (zb.new _ _ _)) uN_ uN_ ?_; intro v7 w7 own7 gr7))
     have G7 : za Z w7 := zy (((hgr.trans hg6)).al _) gr7 (Own6.out.alloc _); have Own7 := hh_ own7; clear own7 gr7; go_roundw
     case rel => exact ⟨j + 1, by omega, by go_num, by rw [List.replicate_succ', <- List.append_assoc]; simpa [Nat.add_assoc] using Own7.out, G7⟩
     case measure => exact u1_
    ·obtain rfl : j = n := by omega
     obtain ⟨Bj, capj, rfl⟩ := yV OwnR1.out; obtain ⟨bz, fz⟩ := (BZ.out.grow hgr).rules; have G6 := Gz.trans hgr; have Own6 := hh_ (zi Own.out G6); have sz6 := (hg.trans G6).size
     go_wp2_with (at_builtin; refine Xv rfl _ _ rfl w.heap.size _ _ out rfl (Own6.out.alloc _) _ (I.mk Bj (y.row ++ List.replicate j yj) capj y.w) rfl (by rw [show (y.row ++ List.replicate j yj).length = y.row.length + j by simp]; exact zb.new _ _ _) uX_ uN_ ?_; intro v7 w7 own7 gr7 at7)
     have G7 : za w w7 := zy ((hg.trans G6).al _) gr7 (Own6.out.alloc _); have OwnBa := hh_ (World.ownsRow.alloc (zi OwnB.out G6) (.cells #[.slice Bj (y.row.length + j) capj, .int .i64 y.w] 53)); have hnew : jM W1 (I.mk Bj (y.row ++ List.replicate j yj) capj y.w) := ⟨_, by simpa using OwnR1.out⟩
     have Or7 := hh_ (fun u (hu : u ∈ out ++ [I.mk Bj (y.row ++ List.replicate j yj) capj y.w]) => by
      have h1 : jM W1 u := by
       rcases List.mem_append.1 hu with hu | hu
       ·exact (Or.out u hu).grow G6
       ·simp at hu; subst hu; exact hnew
      exact (h1.grow ((za.refl _).al (.cells #[.slice Bj (y.row.length + j) capj, .int .i64 y.w] 53))).kept (Own6.out.alloc _) gr7)
     have OwnB7 := hh_ (World.ownsRow.kept OwnBa.out gr7 Sep.out)
     have Sep7 : (Value.slice (some ⟨gx2, ox2, none⟩) ys2.length cap2).ownBlock = none \/ (Value.slice (some ⟨gx2, ox2, none⟩) ys2.length cap2).ownBlock ≠ v7.ownBlock := by
      rcases at7 with e | e
      ·rw [e]; exact Sep.out
      ·rw [e]; exact .inr (Ne.symm (QY OwnBa.out (Nat.le_refl _)))
     have Own7 := hh_ own7; have SepH := hh_ Sep7; clear own7 gr7 at7 Sep7 hnew; go_roundw
     case rel =>
      refine ⟨k + 1, out ++ [I.mk Bj (y.row ++ List.replicate j yj) capj y.w], by omega, by go_num, by simpa using Own7.out, Or7.out, ?_, G7, OwnB7.out, SepH.out⟩; rw [List.map_append, M.out, yi zh Hyk.out, List.map_append, List.append_assoc]; rfl
     case measure => exact u1_
  ·obtain rfl : k = ys2.length := by omega
   go_wp2; go_ret; exact ⟨Bo, out, capo, rfl, Own.out, Or.out, by rw [M.out, EL.out, List.take_length], hg⟩
