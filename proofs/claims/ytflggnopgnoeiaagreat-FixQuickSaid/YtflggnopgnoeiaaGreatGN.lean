/- Parts of a proof. No condition. -/
import Derived.Test.YtflggnopgnoeiaaGreatGK
set_option linter.unusedSimpArgs false
set_option linter.unusedVariables false
namespace Go.Proofs.YtflggnopgnoeiaaGreat
open Go.RowKit Go.Calm
structure MW (w : World) (A : Option Addr) (ss : List S) (c : Nat) : Prop where
 s : BS w A ss
 each : ∀ s ∈ ss, In w s
 sl : yf A ss.length c
 len : ss.length <= 9223372036854775807
theorem MW.grow {w w' : World} {A : Option Addr} {ss : List S} {c : Nat} (h : MW w A ss c) (hg : za w w') : MW w' A ss c := ⟨h.s.grow hg, fun s hs => (h.each s hs).grow hg, h.sl, h.len⟩
/-! lists of sets in own rows -/
def S.v' (s : S) : Value := .slice s.A s.xs.length s.cap
def qf (ss : List S) : List Value := ss.map S.v'
theorem Qg (a b : List S) : qf (a ++ b) = qf a ++ qf b := by simp [qf]
theorem JQ : ∃ ti, Tryz.prog.info? 25 = some ti /\ ti.zero = some (.slice none 0 0) /\ ti.size = 1 /\ ti.bytes = 24 := by
 have h : (Tryz.prog.info? 25).map (fun i => (i.zero, i.size, i.bytes)) = some (some (.slice none 0 0), 1, 24) := by kernel_rfl
 cases hi : Tryz.prog.info? 25 with
 | none => rw [hi] at h; simp at h
 | some i => rw [hi] at h; simp at h; exact ⟨i, rfl, h⟩
def Gf (w : World) (v : Value) : Prop := ∀ g, v.ownBlock = some g -> ∀ j u, w.cell? ⟨g, j, none⟩ = some u -> ∃ a l c, u = .slice a l c
def kJ (w : World) (base : Nat) (v : Value) (n : Nat) (ss : List S) : Prop := w.ownsRow base 25 1 v n (qf ss) /\ Gf w v
theorem kJ.grow {w w' : World} {base n : Nat} {v : Value} {ss : List S} (h : kJ w base v n ss) (hg : za w w') : kJ w' base v n ss := by
 refine ⟨zi h.1 hg, fun g hv j u hu => h.2 g hv j u ?_⟩; rw [<- hg.rules.1 g j (h.1.lt g hv).2]; exact hu
theorem kJ.nil (w : World) (base : Nat) : kJ w base (.slice none 0 0) 0 [] := ⟨World.ownsRow_nil _ _ _ _, fun g hv => by simp [Value.ownBlock] at hv⟩
theorem xe.gb {w w' : World} {A : Option Addr} {xs : List I} {v : Value} (h : xe w A xs) (ha : Gf w v) (hg : w.grownBy w' v.ownBlock) : xe w' A xs := fun i x hx => by
 obtain ⟨g, o, e, c1, c2, hv⟩ := h i x hx
 have hne : some g ≠ v.ownBlock := fun e2 => by
  obtain ⟨_, _, _, e3⟩ := ha g e2.symm _ _ c2; cases e3
 refine ⟨g, o, e, World.grownBy.cell hg c1 hne, World.grownBy.cell hg c2 hne, fun k u hu => ?_⟩; obtain ⟨g', o', e', d1, d2, d3⟩ := hv k u hu
 have hne' : some g' ≠ v.ownBlock := fun e2 => by
  obtain ⟨_, _, _, e3⟩ := ha g' e2.symm _ _ d1; cases e3
 exact ⟨g', o', e', World.grownBy.cell hg d1 hne', World.grownBy.cell hg d2 hne', World.grownBy.cell hg d3 hne'⟩
theorem In.gb {w w' : World} {s : S} {v : Value} (h : In w s) (ha : Gf w v) (hg : w.grownBy w' v.ownBlock) : In w' s := ⟨h.z.gb ha hg, h.sl, h.ok⟩
theorem Z5 {w : World} {g : Nat} {t : TypeId} {cs : Array Value} {n c : Nat} (hb : zb w g t cs) (h : ∀ u ∈ cs.toList, ∃ a l c, u = Value.slice a l c) : Gf w (.slice (some ⟨g, 0, none⟩) n c) := fun g' e j u hu => by
 simp [Value.ownBlock] at e; subst e; rw [hb.cell] at hu; exact h u (by rw [<- Array.getElem?_toList] at hu; exact qZ_ hu)
theorem WJ (n : Nat) : ∀ u ∈ (Builtin.zeroCells #[.slice none 0 0] n).toList, ∃ a l c, u = Value.slice a l c := fun u hu => by
 simp [Builtin.zeroCells] at hu; obtain ⟨a, ha, rfl⟩ := hu; refine ⟨none, 0, 0, ?_⟩; have : a % 1 = 0 := Nat.mod_one a; simp [this]
theorem PD (ss : List S) : ∀ u ∈ qf ss, ∃ a l c, u = Value.slice a l c := fun u hu => by
 obtain ⟨s, _, rfl⟩ := List.mem_map.1 hu; exact ⟨_, _, _, rfl⟩
theorem NE {w : World} (ty : TypeId) (base : Nat) (v : Value) (n : Nat) (ss : List S) (hown : kJ w base v n ss) (g : Nat) (y : S) (t : TypeId) (hb : zb w g t #[.slice y.A y.xs.length y.cap]) (hB : n + 1 <= 5864062014805) (hbase : base <= w.heap.size) :
  ∃ v' w', (Builtin.append_ #[40, 40] ty #[v, .slice (some ⟨g, 0, none⟩) 1 1]).run Tryz.prog w = .ok v' w' /\ kJ w' base v' (n + 1) (ss ++ [y]) /\ w.grownBy w' v.ownBlock := by
 obtain ⟨ti, hti, hz0, hz1, hz2⟩ := JQ
 have hnews : ∀ (j : Nat) u, ([y.v'] : List Value)[j]? = some u -> w.cell? ((⟨g, 0, none⟩ : Addr).add j) = some u := fun j u hj => by
  match j, hj with
  | 0, hj => simp at hj; subst hj; rw [zQ, hb.cell]; rfl
 obtain ⟨v', w', hr, h2, h3, _⟩ := run_append_own (P := Tryz.prog) w base 40 ty 25 ti (.slice none 0 0) 1 24 Tryz.underlying40 hti hz0 hz1 hz2 rfl uW_ v n (qf ss) hown.1 ⟨g, 0, none⟩ 1 1 [y.v'] rfl hnews (fun u hu => by simp at hu; subst hu; rfl) uh_ uX_ hbase; refine ⟨v', w', hr, ⟨by rw [Qg]; exact h2, ?_⟩, h3⟩; have hy : ∃ a l c, y.v' = Value.slice a l c := ⟨_, _, _, rfl⟩
 rcases hown.1.2 with ⟨rfl, rfl⟩ | ⟨g0, cap, cur, rfl, hB0, hg0, hle, hmx, hcs, htk⟩
 ·have hr2 := run_append_nil (P := Tryz.prog) w 40 ty 25 ti (.slice none 0 0) Tryz.underlying40 hti hz0 ⟨g, 0, none⟩ 1 1 [y.v'] (by rw [hz1]; rfl) hnews uX_ uX_ ut_; have e := hr.symm.trans hr2; simp only [Result.ok.injEq] at e; obtain ⟨rfl, rfl⟩ := e; refine Z5 (zb.new w.drew 25 _) (fun u hu => ?_); simp only [Array.toList_append, List.mem_append] at hu; rcases hu with hu | hu
  ·simp at hu; rw [hu]; exact hy
  ·exact WJ _ u hu
 ·by_cases hroom : n + 1 <= cap
  ·have hfit : n * ti.size + [y.v'].length <= cur.size := by rw [hz1, hcs]; simp; omega
   have hr2 := run_append_room (P := Tryz.prog) w 40 ty 25 ti Tryz.underlying40 hti g0 n cap cur hg0 ⟨g, 0, none⟩ 1 1 [y.v'] (by rw [hz1]; rfl) hnews (fun u hu => by simp at hu; subst hu; rfl) hroom hfit; have e := hr.symm.trans hr2; simp only [Result.ok.injEq] at e; obtain ⟨rfl, rfl⟩ := e; have hb0 : zb w g0 25 cur := hg0
   have hcur : ∀ u ∈ cur.toList, ∃ a l c, u = Value.slice a l c := fun u hu => by
    obtain ⟨j, hj, ej⟩ := List.mem_iff_getElem.1 hu; exact hown.2 g0 rfl j u (by rw [hb0.cell, <- Array.getElem?_toList, <- ej]; exact qQ_ hj)
   refine Z5 (setRow_heap w g0 cur _ _ _ hg0) (fun u hu => ?_); simp only [List.toList_toArray, List.mem_append] at hu; rcases hu with (hu | hu) | hu
   ·exact hcur u (List.mem_of_mem_take hu)
   ·simp at hu; rw [hu]; exact hy
   ·exact hcur u (List.mem_of_mem_drop hu)
  ·have holds : ∀ j u, (qf ss)[j]? = some u -> w.cell? ((⟨g0, 0, none⟩ : Addr).add j) = some u := hown.1.cells (g := g0) rfl; have hr2 := run_append_grow (P := Tryz.prog) w 40 ty 25 ti (.slice none 0 0) Tryz.underlying40 hti hz0 ⟨g0, 0, none⟩ n cap (qf ss) (by rw [hz1]; exact hown.1.1) holds ⟨g, 0, none⟩ 1 1 [y.v'] (by rw [hz1]; rfl) hnews uX_ uX_ (growslice_fits uX_ ut_); have e := hr.symm.trans hr2; simp only [Result.ok.injEq] at e; obtain ⟨rfl, rfl⟩ := e; refine Z5 (zb.new w.drew 25 _) (fun u hu => ?_); simp only [Array.toList_append, List.mem_append] at hu; rcases hu with (hu | hu) | hu
   ·exact PD ss u (by simpa using hu)
   ·simp at hu; rw [hu]; exact hy
   ·exact WJ _ u hu
theorem WT {w : World} {ops : Array Oper} {rest : List Oper} {o : Oper} {a : Act} {Q : Exit -> Act -> World -> Prop} (hgd : o.guard = none) (s x : Operand)
  (ho : o.op = .call { callee := .builtin .append, args := #[s, x], argTypes := #[40, 40] })
  (base : Nat) (v : Value) (n : Nat) (ss : List S) (hs : a.eval s = v) (hown : kJ w base v n ss) (g : Nat) (y : S) (hx : a.eval x = .slice (some ⟨g, 0, none⟩) 1 1) (t : TypeId) (hb : zb w g t #[.slice y.A y.xs.length y.cap]) (hB : n + 1 <= 5864062014805) (hbase : base <= w.heap.size)
  (h : ∀ v' w', kJ w' base v' (n + 1) (ss ++ [y]) -> w.grownBy w' v.ownBlock -> wpList Tryz.prog ops Q rest (a.put o.dst v') w') : wpList Tryz.prog ops Q (o :: rest) a w := by
 obtain ⟨v', w', hr, h1, h2⟩ := NE o.type base v n ss hown g y t hb hB hbase; exact Lib.wpList_append_run w hgd s x _ _ ho v (.slice (some ⟨g, 0, none⟩) 1 1) hs hx v' w' hr (h v' w' h1 h2)
theorem H6 {w : World} {base : Nat} {v : Value} {n : Nat} {ss : List S} (h : w.ownsRow base 25 1 v n (qf ss)) (hv : ∀ s ∈ ss, In w s) (hle : n <= 5864062014805) : ∃ (B : Option Addr) (cap : Nat), v = .slice B ss.length cap /\ MW w B ss cap := by
 have h1 := h.1; simp only [qf, List.length_map] at h1; obtain rfl : n = ss.length := by omega
 obtain ⟨_, h⟩ := h; rcases h with ⟨rfl, h0⟩ | ⟨gb, cap, cur, rfl, hB, hgb, hle2, hmx, hcs, htk⟩
 ·have : ss = [] := List.length_eq_zero_iff.1 h0; subst this; exact ⟨none, 0, rfl, fun i x hx => by simp at hx, hv, yf.nil, by simp⟩
 ·have hb : zb w gb 25 cur := hgb; refine ⟨some ⟨gb, 0, none⟩, cap, rfl, fun i s hs => ⟨gb, 0, rfl, ?_, (hv s (qZ_ hs)).z⟩, hv, ⟨hle2, fun e => by cases e⟩, by omega⟩; have hi' : i < ss.length := (qQ9.1 hs).1; have e : (qf ss)[i]? = some s.v' := by simp [qf, hs]
  rw [<- htk, List.getElem?_take, if_pos uX_] at e; rw [Nat.zero_add, hb.cell]; simpa [S.v'] using e
end Go.Proofs.YtflggnopgnoeiaaGreat
namespace Go.Proofs.YtflggnopgnoeiaaGreat
open Go.ChangeShapes Go.WideShapes Go.ChangeAt Go.RowKit Go.Calm
set_option maxRecDepth 100000
section
variable {H : Type} {enc : TypeId × Value -> H} {w : World} {base : Nat} {spare : Nat -> Bool} {held : Bool}
theorem RM {fuel : Nat} {cs : List Value} {x : DataW H × List MemPlace} (h : DataW.trod enc Tryz.prog w base spare held fuel 40 cs = some x) :
  ∃ (A : Option Addr) (ss : List S) (cap : Nat), cs = [.slice A ss.length cap] /\ MW w A ss cap := by
 obtain ⟨A, len, cap, n, D, hcs, hl, hcap, hi⟩ := qX (c := 1) Tryz.underlying40 uQ_ uX_ h
 obtain ⟨ss, hsl, hs⟩ := Qm (α := S) (P := fun i s => In w s /\ ∃ g o, A = some ⟨g, o, none⟩ /\ w.cell? ⟨g, o + i, none⟩ = some (.slice s.A s.xs.length s.cap)) len (fun i hlt => by
  obtain ⟨g, o, ys, hA, hyl, hat, hd⟩ := hi i hlt; obtain ⟨B, xs, c, hx, hz, hxl, hok, hb⟩ := RK hd; subst hx; refine ⟨⟨B, xs, c⟩, ⟨hz, hok, by show xs.length <= _; unfold maxLen at hxl; omega, fun x hx => by have := (hb x hx).len; unfold maxLen at this; omega⟩, g, o, hA, ?_⟩; have := hat 0 _ rfl
  simpa using this)
 have hn : A = none -> cap = 0 := by
  rcases DataW.trod_slice Tryz.underlying40 h with ⟨h0, _⟩ | ⟨a, len', cap', elems, rest, n', _, hcs', _⟩
  ·exact yR_
  ·exact yp_
 refine ⟨A, ss, cap, by rw [hcs, hsl], fun i s h => ?_, fun s h => ?_, ⟨by omega, hn⟩, by unfold maxLen at hl; omega⟩
 ·obtain ⟨hin, g, o, e, c⟩ := hs i s h; exact ⟨g, o, e, c, hin.z⟩
 ·obtain ⟨i, h1, h2⟩ := List.mem_iff_getElem.1 h; exact (hs i s ve_).1
theorem Tl {r : Reach} {b0 : Nat} {v : Value} {d : DataW H} {p : List MemPlace} (hv : Value.okWide Tryz.prog w r b0 40 v) (h : DataW.Trod enc Tryz.prog w base spare held 40 v d p) :
  ∃ (A : Option Addr) (ss : List S) (cap : Nat), v = .slice A ss.length cap /\ MW w A ss cap := by
 obtain ⟨a, len, cap, rfl⟩ := okWide_slice Tryz.underlying40 hv; obtain ⟨fuel, hf⟩ := h; obtain ⟨A, ss, c, hcs, h1⟩ := RM hf; simp [Value.cells] at hcs; obtain ⟨rfl, rfl, rfl⟩ := hcs; exact ⟨_, ss, _, rfl, h1⟩
end
