/- Parts of a proof. No condition. -/
import Derived.Test.YthhbiemnbkfobaaGreatGK
set_option maxRecDepth 100000
set_option linter.unusedSimpArgs false
set_option linter.unusedVariables false
namespace Go
variable {p : Prop}
theorem wo_ (h : p := by
 match j, hj with
 | 0, hj => simp at hj; subst hj; rw [yw, hb.cell]; rfl) : p := h
end Go
namespace Go.Proofs.YthhbiemnbkfobaaGreat
open Go.RowKit Go.Calm
structure MT (w : World) (A : Option Addr) (ss : List S) (c : Nat) : Prop where
  s : Rj w A ss
  each : ∀ s ∈ ss, In w s
  sl : zN A ss.length c
  len : ss.length <= 9223372036854775807
theorem MT.grow {w w' : World} {A : Option Addr} {ss : List S} {c : Nat} (h : MT w A ss c) (hg : za w w') : MT w' A ss c := ⟨h.s.grow hg, fun s hs => (h.each s hs).grow hg, h.sl, h.len⟩
/-! lists of sets in own rows -/
def S.v' (s : S) : Value := .slice s.A s.xs.length s.cap
def XK (ss : List S) : List Value := ss.map S.v'
theorem Kq (a b : List S) : XK (a ++ b) = XK a ++ XK b := by simp [XK]
theorem QZ : ∃ ti, Tryz.prog.info? 34 = some ti /\ ti.zero = some (.slice none 0 0) /\ ti.size = 1 /\ ti.bytes = 24 := by
  have h : (Tryz.prog.info? 34).map (fun i => (i.zero, i.size, i.bytes)) = some (some (.slice none 0 0), 1, 24) := by kernel_rfl
  cases hi : Tryz.prog.info? 34 with
  | none => rw [hi] at h; simp at h
  | some i => rw [hi] at h; simp at h; exact ⟨i, rfl, h⟩
def Vf (w : World) (v : Value) : Prop := ∀ g, v.ownBlock = some g -> ∀ j u, w.cell? ⟨g, j, none⟩ = some u -> ∃ a l c, u = .slice a l c
def xf (w : World) (base : Nat) (v : Value) (n : Nat) (ss : List S) : Prop := w.ownsRow base 34 1 v n (XK ss) /\ Vf w v
theorem xf.grow {w w' : World} {base n : Nat} {v : Value} {ss : List S} (h : xf w base v n ss) (hg : za w w') : xf w' base v n ss := by
  refine ⟨zr h.1 hg, fun g hv j u hu => h.2 g hv j u ?_⟩; rw [<- hg.rules.1 g j (h.1.lt g hv).2]; exact hu
theorem xf.nil (w : World) (base : Nat) : xf w base (.slice none 0 0) 0 [] := ⟨World.ownsRow_nil _ _ _ _, fun g hv => by simp [Value.ownBlock] at hv⟩
theorem yI.gb {w w' : World} {A : Option Addr} {xs : List I} {v : Value} (h : yI w A xs) (ha : Vf w v) (hg : w.grownBy w' v.ownBlock) : yI w' A xs := fun i x hx => by
  obtain ⟨g, o, e, c1, c2, hv⟩ := h i x hx
  have hne : some g ≠ v.ownBlock := fun e2 => by
    obtain ⟨_, _, _, e3⟩ := ha g e2.symm _ _ c2; cases e3
  refine ⟨g, o, e, World.grownBy.cell hg c1 hne, World.grownBy.cell hg c2 hne, fun k u hu => ?_⟩; obtain ⟨g', o', e', d1, d2, d3⟩ := hv k u hu
  have hne' : some g' ≠ v.ownBlock := fun e2 => by
    obtain ⟨_, _, _, e3⟩ := ha g' e2.symm _ _ d1; cases e3
  exact ⟨g', o', e', World.grownBy.cell hg d1 hne', World.grownBy.cell hg d2 hne', World.grownBy.cell hg d3 hne'⟩
theorem In.gb {w w' : World} {s : S} {v : Value} (h : In w s) (ha : Vf w v) (hg : w.grownBy w' v.ownBlock) : In w' s := ⟨h.z.gb ha hg, h.sl, h.ok⟩
theorem Qv {w : World} {g : Nat} {t : TypeId} {cs : Array Value} {n c : Nat} (hb : zc w g t cs) (h : ∀ u ∈ cs.toList, ∃ a l c, u = Value.slice a l c) : Vf w (.slice (some ⟨g, 0, none⟩) n c) := fun g' e j u hu => by
  simp [Value.ownBlock] at e; subst e; rw [hb.cell] at hu; exact h u (by rw [<- Array.getElem?_toList] at hu; exact qZ_ hu)
theorem ZT (n : Nat) : ∀ u ∈ (Builtin.zeroCells #[.slice none 0 0] n).toList, ∃ a l c, u = Value.slice a l c := fun u hu => by
  simp [Builtin.zeroCells] at hu; obtain ⟨a, ha, rfl⟩ := hu; refine ⟨none, 0, 0, ?_⟩; have : a % 1 = 0 := Nat.mod_one a; simp [this]
theorem L4 (ss : List S) : ∀ u ∈ XK ss, ∃ a l c, u = Value.slice a l c := fun u hu => by
  obtain ⟨s, _, rfl⟩ := List.mem_map.1 hu; exact ⟨_, _, _, rfl⟩
theorem YS {w : World} (ty : TypeId) (base : Nat) (v : Value) (n : Nat) (ss : List S) (hown : xf w base v n ss) (g : Nat) (y : S) (t : TypeId) (hb : zc w g t #[.slice y.A y.xs.length y.cap]) (hB : n + 1 <= 5864062014805) (hbase : base <= w.heap.size) :
    ∃ v' w', (Builtin.append_ #[32, 32] ty #[v, .slice (some ⟨g, 0, none⟩) 1 1]).run Tryz.prog w = .ok v' w' /\ xf w' base v' (n + 1) (ss ++ [y]) /\ w.grownBy w' v.ownBlock := by
  obtain ⟨ti, hti, hz0, hz1, hz2⟩ := QZ
  have hnews : ∀ (j : Nat) u, ([y.v'] : List Value)[j]? = some u -> w.cell? ((⟨g, 0, none⟩ : Addr).add j) = some u := fun j u hj => wo_
  obtain ⟨v', w', hr, h2, h3, _⟩ := run_append_own (P := Tryz.prog) w base 32 ty 34 ti (.slice none 0 0) 1 24 Tryz.underlying32 hti hz0 hz1 hz2 rfl vT_ v n (XK ss) hown.1 ⟨g, 0, none⟩ 1 1 [y.v'] rfl hnews (fun u hu => by simp at hu; subst hu; rfl) vr_ vU_ hbase; refine ⟨v', w', hr, ⟨by rw [Kq]; exact h2, ?_⟩, h3⟩; have hy : ∃ a l c, y.v' = Value.slice a l c := ⟨_, _, _, rfl⟩
  rcases hown.1.2 with ⟨rfl, rfl⟩ | ⟨g0, cap, cur, rfl, hB0, hg0, hle, hmx, hcs, htk⟩
  · have hr2 := run_append_nil (P := Tryz.prog) w 32 ty 34 ti (.slice none 0 0) Tryz.underlying32 hti hz0 ⟨g, 0, none⟩ 1 1 [y.v'] (by rw [hz1]; rfl) hnews vU_ vU_ vC_
    have e := hr.symm.trans hr2; simp only [Result.ok.injEq] at e; obtain ⟨rfl, rfl⟩ := e; refine Qv (zc.new w.drew 34 _) (fun u hu => ?_); simp only [Array.toList_append, List.mem_append] at hu; rcases hu with hu | hu
    · simp at hu; rw [hu]; exact hy
    · exact ZT _ u hu
  · by_cases hroom : n + 1 <= cap
    · have hfit : n * ti.size + [y.v'].length <= cur.size := by rw [hz1, hcs]; simp; omega
      have hr2 := run_append_room (P := Tryz.prog) w 32 ty 34 ti Tryz.underlying32 hti g0 n cap cur hg0 ⟨g, 0, none⟩ 1 1 [y.v'] (by rw [hz1]; rfl) hnews (fun u hu => by simp at hu; subst hu; rfl) hroom hfit; have e := hr.symm.trans hr2; simp only [Result.ok.injEq] at e; obtain ⟨rfl, rfl⟩ := e; have hb0 : zc w g0 34 cur := hg0
      have hcur : ∀ u ∈ cur.toList, ∃ a l c, u = Value.slice a l c := fun u hu => by
        obtain ⟨j, hj, ej⟩ := List.mem_iff_getElem.1 hu; exact hown.2 g0 rfl j u (by rw [hb0.cell, <- Array.getElem?_toList, <- ej]; exact qQ_ hj)
      refine Qv (setRow_heap w g0 cur _ _ _ hg0) (fun u hu => ?_); simp only [List.toList_toArray, List.mem_append] at hu; rcases hu with (hu | hu) | hu
      · exact hcur u (List.mem_of_mem_take hu)
      · simp at hu; rw [hu]; exact hy
      · exact hcur u (List.mem_of_mem_drop hu)
    · have holds : ∀ j u, (XK ss)[j]? = some u -> w.cell? ((⟨g0, 0, none⟩ : Addr).add j) = some u := hown.1.cells (g := g0) rfl
      have hr2 := run_append_grow (P := Tryz.prog) w 32 ty 34 ti (.slice none 0 0) Tryz.underlying32 hti hz0 ⟨g0, 0, none⟩ n cap (XK ss) (by rw [hz1]; exact hown.1.1) holds ⟨g, 0, none⟩ 1 1 [y.v'] (by rw [hz1]; rfl) hnews vU_ vU_ (growslice_fits vU_ vC_); have e := hr.symm.trans hr2; simp only [Result.ok.injEq] at e; obtain ⟨rfl, rfl⟩ := e; refine Qv (zc.new w.drew 34 _) (fun u hu => ?_); simp only [Array.toList_append, List.mem_append] at hu; rcases hu with (hu | hu) | hu
      · exact L4 ss u (by simpa using hu)
      · simp at hu; rw [hu]; exact hy
      · exact ZT _ u hu
theorem kE {w : World} {ops : Array Oper} {rest : List Oper} {o : Oper} {a : Act} {Q : Exit -> Act -> World -> Prop} (hgd : o.guard = none) (s x : Operand)
    (ho : o.op = .call { callee := .builtin .append, args := #[s, x], argTypes := #[32, 32] })
    (base : Nat) (v : Value) (n : Nat) (ss : List S) (hs : a.eval s = v) (hown : xf w base v n ss) (g : Nat) (y : S) (hx : a.eval x = .slice (some ⟨g, 0, none⟩) 1 1) (t : TypeId) (hb : zc w g t #[.slice y.A y.xs.length y.cap]) (hB : n + 1 <= 5864062014805) (hbase : base <= w.heap.size)
    (h : ∀ v' w', xf w' base v' (n + 1) (ss ++ [y]) -> w.grownBy w' v.ownBlock -> wpList Tryz.prog ops Q rest (a.put o.dst v') w') : wpList Tryz.prog ops Q (o :: rest) a w := by
  obtain ⟨v', w', hr, h1, h2⟩ := YS o.type base v n ss hown g y t hb hB hbase; exact Lib.wpList_append_run w hgd s x _ _ ho v (.slice (some ⟨g, 0, none⟩) 1 1) hs hx v' w' hr (h v' w' h1 h2)
end Go.Proofs.YthhbiemnbkfobaaGreat
namespace Go.Proofs.YthhbiemnbkfobaaGreat
open Go.ChangeShapes Go.WideShapes Go.ChangeAt Go.RowKit Go.Calm
set_option maxRecDepth 100000
section
variable {H : Type} {enc : TypeId × Value -> H} {w : World} {base : Nat} {spare : Nat -> Bool} {held : Bool}
theorem MQ {fuel : Nat} {cs : List Value} {x : DataW H × List MemPlace} (h : DataW.trod enc Tryz.prog w base spare held fuel 32 cs = some x) :
    ∃ (A : Option Addr) (ss : List S) (cap : Nat), cs = [.slice A ss.length cap] /\ MT w A ss cap := by
  obtain ⟨A, len, cap, n, D, hcs, hl, hcap, hi⟩ := qc (c := 1) Tryz.underlying32 vP_ vU_ h
  obtain ⟨ss, hsl, hs⟩ := YL (α := S) (P := fun i s => In w s /\ ∃ g o, A = some ⟨g, o, none⟩ /\ w.cell? ⟨g, o + i, none⟩ = some (.slice s.A s.xs.length s.cap)) len (fun i hlt => by
    obtain ⟨g, o, ys, hA, hyl, hat, hd⟩ := hi i hlt; obtain ⟨B, xs, c, hx, hz, hxl, hok, hb⟩ := MP hd; subst hx; refine ⟨⟨B, xs, c⟩, ⟨hz, hok, by show xs.length <= _; unfold maxLen at hxl; omega, fun x hx => by have := (hb x hx).len; unfold maxLen at this; omega⟩, g, o, hA, ?_⟩; have := hat 0 _ rfl
    simpa using this)
  have hn : A = none -> cap = 0 := by
    rcases DataW.trod_slice Tryz.underlying32 h with ⟨h0, _⟩ | ⟨a, len', cap', elems, rest, n', _, hcs', _⟩
    · exact wF_
    · exact wn_
  refine ⟨A, ss, cap, by rw [hcs, hsl], fun i s h => ?_, fun s h => ?_, ⟨by omega, hn⟩, by unfold maxLen at hl; omega⟩
  · obtain ⟨hin, g, o, e, c⟩ := hs i s h
    exact ⟨g, o, e, c, hin.z⟩
  · obtain ⟨i, h1, h2⟩ := List.mem_iff_getElem.1 h
    exact (hs i s oO_).1
theorem Ph {r : Reach} {b0 : Nat} {v : Value} {d : DataW H} {p : List MemPlace} (hv : Value.okWide Tryz.prog w r b0 32 v) (h : DataW.Trod enc Tryz.prog w base spare held 32 v d p) :
    ∃ (A : Option Addr) (ss : List S) (cap : Nat), v = .slice A ss.length cap /\ MT w A ss cap := by
  obtain ⟨a, len, cap, rfl⟩ := okWide_slice Tryz.underlying32 hv; obtain ⟨fuel, hf⟩ := h; obtain ⟨A, ss, c, hcs, h1⟩ := MQ hf; simp [Value.cells] at hcs; obtain ⟨rfl, rfl, rfl⟩ := hcs; exact ⟨_, ss, _, rfl, h1⟩
end
