/-
  How long a slice may be whose elements have so many bytes.
-/
import Derived.Test.YtcaedcpjdmlilaaGreatGB
import Derived.SizedLaws
namespace Go.Proofs.YtcaedcpjdmlilaaGreat
open Go.ChangeShapes Go.WideShapes Go.ChangeAt Go.RowKit Go.Calm
section
variable {H : Type} {enc : TypeId × Value → H} {w : World} {base : Nat} {spare : Nat → Bool} {held : Bool}
theorem slice_bytes {ts : List TypeId} {ds : List (DataW H)} (hsz : (DataW.weightsEach Tryz.prog ts ds).all (· ≤ reachBytes) = true) {t e : TypeId} {A : Option Addr} {n c : Nat} {d : DataW H} {p : List MemPlace} (j : Nat) (ht : ts[j]? = some t) (hd : ds[j]? = some d)
    (hu : Tryz.prog.underlying t = some (.slice e)) (hb : Nat.ble 24 (Tryz.prog.bytesOf e) = true) (h : DataW.Trod enc Tryz.prog w base spare held t (.slice A n c) d p) : n * 24 ≤ 140737488355328 := by
  obtain ⟨fuel, hf⟩ := h
  rcases DataW.trod_slice hu hf with ⟨h0, _⟩ | ⟨a, len, cap, elems, rest, m, _, hcs, hx, _, _, _, hl, _⟩
  · simp [Value.cells] at h0
    omega
  · simp [Value.cells] at hcs
    simp only [Prod.mk.injEq] at hx
    rw [hx.1] at hd
    have h1 := sized_slice hsz ht hd hu
    have h2 : 24 ≤ Tryz.prog.bytesOf e := Nat.le_of_ble_eq_true hb
    have h3 := Nat.mul_le_mul_left ((elems.map (·.1)).length + (rest.map (·.1)).length) h2
    have h4 := reachBytes_lt
    simp at h3 h1
    omega
end
end Go.Proofs.YtcaedcpjdmlilaaGreat
