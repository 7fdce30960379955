/-
  Joined texts of this claim: OpC, OpD. What each proves its own head says; no condition beside those that each theorem names.
-/
import Derived.Test.YtamfpppbjaelaaaGT
import Derived.Laws.MakeOwn
import Derived.Lib.SliceRun
set_option maxRecDepth 100000
set_option maxHeartbeats 2000000
namespace Go.Proofs.Ytamfpppbjaelaaa
open Go.RowKit Go.Calm
set_option linter.unusedSimpArgs false
set_option linter.unusedVariables false
def BV (w : World) (g : Nat) (fl : List Bool) : Prop := Blk w g 4 (fl.map Value.bool).toArray
theorem BV.lt {w : World} {g : Nat} {fl : List Bool} (h : BV w g fl) : g < w.heap.size := Blk.lt h
theorem BV.grow {w w' : World} {g : Nat} {fl : List Bool} (h : BV w g fl) (hg : Grow w w') : BV w' g fl := Blk.grow h hg
theorem BV.frozen {w : World} {g : Nat} {fl : List Bool} (h : BV w g fl) (i : Nat) : w.frozen? ⟨g, i, none⟩ = false := Blk.frozen h i
theorem BV.at {w : World} {g : Nat} {fl : List Bool} (h : BV w g fl) {i : Nat} {f : Bool} (hf : fl[i]? = some f) : w.cell? ⟨g, i, none⟩ = some (.bool f) := by
  rw [Blk.cell h]; simp [hf]
theorem BV.put {w : World} {g : Nat} {fl : List Bool} (h : BV w g fl) (i : Nat) (f : Bool) : BV (w.setCell ⟨g, i, none⟩ (.bool f)) g (fl.set i f) := by
  have hb := Blk.set h i (.bool f)
  unfold BV
  rw [List.map_set]
  simpa using hb
theorem info_bool : (Try.prog.info? 4).map (fun i => (i.zero, i.size, i.bytes)) = some (some (.bool false), 1, 1) := by kernel_rfl
theorem made_bools (n : Nat) : madeCells #[.bool false] (n * 1) = ((List.replicate n false).map Value.bool).toArray := by
  apply Array.ext_getElem?
  intro i
  by_cases hi : i < n * 1
  · rw [made_get _ _ _ hi]
    rw [List.getElem?_toArray, List.getElem?_map, List.getElem?_replicate, if_pos (by omega)]
    have : i % (#[Value.bool false] : Array Value).size = 0 := by simp; omega
    rw [this]; rfl
  · rw [Array.getElem?_eq_none (by rw [size_madeCells]; omega), Array.getElem?_eq_none (by simp; omega)]
theorem make_bools (n : Nat) (hn : n ≤ 100000) (W : World) : (Instr.makeSlice 70 (.int .i64 (n : Int)) (.int .i64 (n : Int))).run Try.prog W = .ok (.slice (some ⟨W.heap.size, 0, none⟩) n n) (W.alloc (.cells ((List.replicate n false).map Value.bool).toArray 4)) := by
  have h := info_bool
  cases hi : Try.prog.info? 4 with
  | none => rw [hi] at h; simp at h
  | some i =>
    rw [hi] at h
    simp at h
    obtain ⟨h1, h2, h3⟩ := h
    have := run_make W 70 4 i _ Try.underlying70 hi h1 .i64 .i64 (n : Int) (n : Int) (by omega) (by omega) (by rw [h3]; omega) (by omega)
    rw [this, h2]
    simp only [Int.toNat_natCast]
    rw [show (Value.bool false).cells = #[.bool false] from rfl, made_bools]
theorem clone_any (xs : List V) (A : Option Addr) (c : Nat) (w : World) (hl : xs.length ≤ 10000) (hv : VSl w A xs) :
    Calls Try.prog 45 #[.slice A xs.length c] w fun en w' => ∃ (B : Option Addr) (cap : Nat), en = .returned (.slice B xs.length cap) ∧ w'.ownsRow w.heap.size 30 3 (.slice B xs.length cap) xs.length (flatW xs) ∧ Grow w w' := by
  have HV := Lib.hid hv
  clear hv
  have eqn := fun W (B : Option Addr) n c => Lib.run_eql_slice_nil W 37 30 B n c 0 0 Try.underlying37
  go_enter Try.func45, Try.ntmps45
  cases A with
  | none =>
    have e := nil_W HV.out
    subst e
    go_wp2
    go_ret
    exact ⟨none, 0, rfl, World.ownsRow_nil _ _ _ _, Grow.refl _⟩
  | some ad =>
    have hsrc := Lib.hid (srcW_of (c := c) (HV.out.grow ((Grow.refl w).al (.cells #[] 30))))
    have hown : (w.alloc (.cells #[] 30)).ownsRow w.heap.size 30 3 (.slice (some ⟨w.heap.size, 0, none⟩) 0 0) 0 (flatW []) := ⟨rfl, .inr ⟨w.heap.size, 0, #[], rfl, Nat.le_refl _, heap_alloc_new w _, Nat.le_refl _, by unfold maxLen; omega, rfl, rfl⟩⟩
    have Own := Lib.hid hown
    clear hown
    go_wp2_with (at_builtin; refine wpList_append_srcW rfl _ _ rfl w.heap.size _ _ _ rfl Own.out _ xs rfl hsrc.out (by omega) (by simp) ?_; intro v7 w7 own7 gr7; obtain ⟨g7, cap7, rfl⟩ : ∃ (B : Option Addr) (cap7 : Nat), v7 = .slice B (0 + xs.length) cap7 := (by rcases own7.2 with ⟨e, h0⟩ | ⟨g', cap', cur', e, _⟩; exact ⟨none, 0, by rw [h0]; exact e⟩; exact ⟨_, _, e⟩))
    have G7 : Grow w w7 := Grow.own ((Grow.refl w).al _) gr7 (fun i hi => by
      rcases Nat.lt_or_ge i w.heap.size with h | h
      · exact absurd hi.symm (own_ge Own.out h)
      · exact h)
    have Own7 := Lib.hid own7
    clear own7 gr7
    go_ret
    exact ⟨g7, cap7, by simp, by simpa using Own7.out, G7⟩
theorem srcW_one {w : World} {g : Nat} {v : V} (h : Blk w g 30 #[.int .i64 v.k, .int .i64 v.n, .string v.s]) : SrcW w (.slice (some ⟨g, 0, none⟩) 1 1) [v] := by
  refine .inr ⟨⟨g, 0, none⟩, 1, rfl, fun j u hj => ?_⟩
  rw [addr_add, h.cell]
  match j, hj with
  | 0, hj => simp [flatW] at hj; subst hj; rfl
  | 1, hj => simp [flatW] at hj; subst hj; rfl
  | 2, hj => simp [flatW] at hj; subst hj; rfl
theorem own_slice {w : World} {base n s : Nat} {e : TypeId} {v : Value} {xs : List Value} (h : w.ownsRow base e s v n xs) : ∃ (B : Option Addr) (cap : Nat), v = .slice B n cap := by
  rcases h.2 with ⟨e, h0⟩ | ⟨g', cap', cur', e, _⟩
  · exact ⟨none, 0, by rw [h0]; exact e⟩
  · exact ⟨_, _, e⟩
theorem own_zv {w : World} {base cap : Nat} {B : Option Addr} {ys : List I} (h : w.ownsRow base 39 2 (.slice B ys.length cap) ys.length (flatI ys)) (hv : ∀ y ∈ ys, VSl w y.A y.row) : ZIn w B ys := by
  obtain ⟨B', c', e, hz, hk⟩ := own_zin' h hv
  simp at e
  rw [e.1]
  exact hz
end Go.Proofs.Ytamfpppbjaelaaa
