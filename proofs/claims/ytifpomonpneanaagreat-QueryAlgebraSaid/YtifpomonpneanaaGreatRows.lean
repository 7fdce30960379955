/-
  NARROWER THAN 'FOR EVERY INPUT', by the rows' own cells (each row's printed sentence says how): QueryTells: loops · QueryTyped: loops · QueryPlaces: loops · QueryAlgebra: loops · FixTells: loops · RewriteSame: loops · FixClosed: loops · FixLeast: loops · FixMore: loops.
  DERIVED. THE GIVEN ROWS OF THIS SEAT. 9 by the template 'for every input the law returns true; each argument reads behind the call as it read before'; 0 by the template 'total and deterministic' (their statements: YtifpomonpneanaaGreatTotals.lean).
  GIVEN WITH THE SEED: the statements are not yours to turn. If you find one false, say at which input.
  Laid BY PROGRAM, IN A SANDBOX (cutbox-rows.mjs): the forced cells as the released guide's own fill.sh prints them over the translation ce84d1c88a45d327… (all of the seat's roots in one cut). By AI agents, Wed Nov 11 2026. No macro, syntax, notation, axiom, sorry.
-/
import Derived.Test.YtifpomonpneanaaGreatChecked
import GoSem.Claim
import GoSem.ClaimJoined
import GoSem.ClaimMapViews
import Derived.JoinedTies
import Derived.KernelRfl
namespace Go.Proofs.YtifpomonpneanaaGreat
/- THE CELL 'sum', in the pinned program and in every row, IS THE sha256 OF THE DUMP (.gsa) THAT YtifpomonpneanaaGreatProg.lean LOADS. Nothing in Lean hashes anything: it is a label: what it is worth is what the hold of that sum in a sandbox is worth. -/
noncomputable def Tryz.pinned : Pinned := { name := "ytifpomonpneanaagreat", sum := "ce84d1c88a45d327fad3ac049af999e27cb18d5429ce6b9fb0ac95dd00f3c0ae", checked := Tryz.checked }
namespace Rows
def none {H : Type} : Left H := { results := [], args := [] }

/-- 'tidelaw5.QueryTells': WHATEVER THE INPUT: true; the input reads as it did. -/
def queryTellsSpec : ChangeSpec := { name := "queryTells", fn := fun _ => fun
  | [d1, d2, d3] => { results := [.lit (.bool true)], args := [d1, d2, d3] }
  | _ => none }
def queryTellsRow : OpenClaim := { program := "ytifpomonpneanaagreat", sum := "ce84d1c88a45d327fad3ac049af999e27cb18d5429ce6b9fb0ac95dd00f3c0ae", func := "tidemark/tidelaw5.QueryTells", spec := "queryTells", inPlace := ["internal/bytealg.abigen_runtime_cmpstring"], unfollowed := true, recurses := true, loops := true, apart := false }
def QueryTellsSaid : Prop := queryTellsRow.holds Tryz.pinned (OpenSpec.ofChange queryTellsSpec)

/-- ITS FALSE NEIGHBOUR: 'it returns false'. Refute it at one input. -/
def queryTellsWrong : ChangeSpec := { name := "queryTells", fn := fun _ => fun
  | [d1, d2, d3] => { results := [.lit (.bool false)], args := [d1, d2, d3] }
  | _ => none }
def QueryTellsWrongFalsely : Prop := queryTellsRow.holds Tryz.pinned (OpenSpec.ofChange queryTellsWrong)

/-- 'tidelaw5.QueryTyped': WHATEVER THE INPUT: true; the input reads as it did. -/
def queryTypedSpec : ChangeSpec := { name := "queryTyped", fn := fun _ => fun
  | [d1, d2, d3] => { results := [.lit (.bool true)], args := [d1, d2, d3] }
  | _ => none }
def queryTypedRow : OpenClaim := { program := "ytifpomonpneanaagreat", sum := "ce84d1c88a45d327fad3ac049af999e27cb18d5429ce6b9fb0ac95dd00f3c0ae", func := "tidemark/tidelaw5.QueryTyped", spec := "queryTyped", inPlace := ["internal/bytealg.abigen_runtime_cmpstring"], unfollowed := true, recurses := true, loops := true, apart := false }
def QueryTypedSaid : Prop := queryTypedRow.holds Tryz.pinned (OpenSpec.ofChange queryTypedSpec)

/-- ITS FALSE NEIGHBOUR: 'it returns false'. Refute it at one input. -/
def queryTypedWrong : ChangeSpec := { name := "queryTyped", fn := fun _ => fun
  | [d1, d2, d3] => { results := [.lit (.bool false)], args := [d1, d2, d3] }
  | _ => none }
def QueryTypedWrongFalsely : Prop := queryTypedRow.holds Tryz.pinned (OpenSpec.ofChange queryTypedWrong)

/-- 'tidelaw5.QueryPlaces': WHATEVER THE INPUT: true; the input reads as it did. -/
def queryPlacesSpec : ChangeSpec := { name := "queryPlaces", fn := fun _ => fun
  | [d1, d2, d3, d4, d5] => { results := [.lit (.bool true)], args := [d1, d2, d3, d4, d5] }
  | _ => none }
def queryPlacesRow : OpenClaim := { program := "ytifpomonpneanaagreat", sum := "ce84d1c88a45d327fad3ac049af999e27cb18d5429ce6b9fb0ac95dd00f3c0ae", func := "tidemark/tidelaw5.QueryPlaces", spec := "queryPlaces", inPlace := ["internal/bytealg.abigen_runtime_cmpstring"], unfollowed := true, recurses := true, loops := true, apart := false }
def QueryPlacesSaid : Prop := queryPlacesRow.holds Tryz.pinned (OpenSpec.ofChange queryPlacesSpec)

/-- ITS FALSE NEIGHBOUR: 'it returns false'. Refute it at one input. -/
def queryPlacesWrong : ChangeSpec := { name := "queryPlaces", fn := fun _ => fun
  | [d1, d2, d3, d4, d5] => { results := [.lit (.bool false)], args := [d1, d2, d3, d4, d5] }
  | _ => none }
def QueryPlacesWrongFalsely : Prop := queryPlacesRow.holds Tryz.pinned (OpenSpec.ofChange queryPlacesWrong)

/-- 'tidelaw5.QueryAlgebra': WHATEVER THE INPUT: true; the input reads as it did. -/
def queryAlgebraSpec : ChangeSpec := { name := "queryAlgebra", fn := fun _ => fun
  | [d1, d2, d3, d4, d5] => { results := [.lit (.bool true)], args := [d1, d2, d3, d4, d5] }
  | _ => none }
def queryAlgebraRow : OpenClaim := { program := "ytifpomonpneanaagreat", sum := "ce84d1c88a45d327fad3ac049af999e27cb18d5429ce6b9fb0ac95dd00f3c0ae", func := "tidemark/tidelaw5.QueryAlgebra", spec := "queryAlgebra", inPlace := ["internal/bytealg.abigen_runtime_cmpstring"], unfollowed := true, recurses := true, loops := true, apart := false }
def QueryAlgebraSaid : Prop := queryAlgebraRow.holds Tryz.pinned (OpenSpec.ofChange queryAlgebraSpec)

/-- ITS FALSE NEIGHBOUR: 'it returns false'. Refute it at one input. -/
def queryAlgebraWrong : ChangeSpec := { name := "queryAlgebra", fn := fun _ => fun
  | [d1, d2, d3, d4, d5] => { results := [.lit (.bool false)], args := [d1, d2, d3, d4, d5] }
  | _ => none }
def QueryAlgebraWrongFalsely : Prop := queryAlgebraRow.holds Tryz.pinned (OpenSpec.ofChange queryAlgebraWrong)

/-- 'tidelaw10.FixTells': WHATEVER THE INPUT: true; the input reads as it did. -/
def fixTellsSpec : ChangeSpec := { name := "fixTells", fn := fun _ => fun
  | [d1, d2, d3, d4] => { results := [.lit (.bool true)], args := [d1, d2, d3, d4] }
  | _ => none }
def fixTellsRow : OpenClaim := { program := "ytifpomonpneanaagreat", sum := "ce84d1c88a45d327fad3ac049af999e27cb18d5429ce6b9fb0ac95dd00f3c0ae", func := "tidemark/tidelaw10.FixTells", spec := "fixTells", inPlace := ["internal/bytealg.abigen_runtime_cmpstring"], unfollowed := true, recurses := true, loops := true, apart := false }
def FixTellsSaid : Prop := fixTellsRow.holds Tryz.pinned (OpenSpec.ofChange fixTellsSpec)

/-- ITS FALSE NEIGHBOUR: 'it returns false'. Refute it at one input. -/
def fixTellsWrong : ChangeSpec := { name := "fixTells", fn := fun _ => fun
  | [d1, d2, d3, d4] => { results := [.lit (.bool false)], args := [d1, d2, d3, d4] }
  | _ => none }
def FixTellsWrongFalsely : Prop := fixTellsRow.holds Tryz.pinned (OpenSpec.ofChange fixTellsWrong)

/-- 'tidelaw9.RewriteSame': WHATEVER THE INPUT: true; the input reads as it did. -/
def rewriteSameSpec : ChangeSpec := { name := "rewriteSame", fn := fun _ => fun
  | [d1, d2, d3] => { results := [.lit (.bool true)], args := [d1, d2, d3] }
  | _ => none }
def rewriteSameRow : OpenClaim := { program := "ytifpomonpneanaagreat", sum := "ce84d1c88a45d327fad3ac049af999e27cb18d5429ce6b9fb0ac95dd00f3c0ae", func := "tidemark/tidelaw9.RewriteSame", spec := "rewriteSame", inPlace := ["internal/bytealg.abigen_runtime_cmpstring"], unfollowed := true, recurses := true, loops := true, apart := false }
def RewriteSameSaid : Prop := rewriteSameRow.holds Tryz.pinned (OpenSpec.ofChange rewriteSameSpec)

/-- ITS FALSE NEIGHBOUR: 'it returns false'. Refute it at one input. -/
def rewriteSameWrong : ChangeSpec := { name := "rewriteSame", fn := fun _ => fun
  | [d1, d2, d3] => { results := [.lit (.bool false)], args := [d1, d2, d3] }
  | _ => none }
def RewriteSameWrongFalsely : Prop := rewriteSameRow.holds Tryz.pinned (OpenSpec.ofChange rewriteSameWrong)

/-- 'tidelaw10.FixClosed': WHATEVER THE INPUT: true; the input reads as it did. -/
def fixClosedSpec : ChangeSpec := { name := "fixClosed", fn := fun _ => fun
  | [d1, d2, d3, d4] => { results := [.lit (.bool true)], args := [d1, d2, d3, d4] }
  | _ => none }
def fixClosedRow : OpenClaim := { program := "ytifpomonpneanaagreat", sum := "ce84d1c88a45d327fad3ac049af999e27cb18d5429ce6b9fb0ac95dd00f3c0ae", func := "tidemark/tidelaw10.FixClosed", spec := "fixClosed", inPlace := ["internal/bytealg.abigen_runtime_cmpstring"], unfollowed := true, recurses := true, loops := true, apart := false }
def FixClosedSaid : Prop := fixClosedRow.holds Tryz.pinned (OpenSpec.ofChange fixClosedSpec)

/-- ITS FALSE NEIGHBOUR: 'it returns false'. Refute it at one input. -/
def fixClosedWrong : ChangeSpec := { name := "fixClosed", fn := fun _ => fun
  | [d1, d2, d3, d4] => { results := [.lit (.bool false)], args := [d1, d2, d3, d4] }
  | _ => none }
def FixClosedWrongFalsely : Prop := fixClosedRow.holds Tryz.pinned (OpenSpec.ofChange fixClosedWrong)

/-- 'tidelaw10.FixLeast': WHATEVER THE INPUT: true; the input reads as it did. -/
def fixLeastSpec : ChangeSpec := { name := "fixLeast", fn := fun _ => fun
  | [d1, d2, d3, d4, d5] => { results := [.lit (.bool true)], args := [d1, d2, d3, d4, d5] }
  | _ => none }
def fixLeastRow : OpenClaim := { program := "ytifpomonpneanaagreat", sum := "ce84d1c88a45d327fad3ac049af999e27cb18d5429ce6b9fb0ac95dd00f3c0ae", func := "tidemark/tidelaw10.FixLeast", spec := "fixLeast", inPlace := ["internal/bytealg.abigen_runtime_cmpstring"], unfollowed := true, recurses := true, loops := true, apart := false }
def FixLeastSaid : Prop := fixLeastRow.holds Tryz.pinned (OpenSpec.ofChange fixLeastSpec)

/-- ITS FALSE NEIGHBOUR: 'it returns false'. Refute it at one input. -/
def fixLeastWrong : ChangeSpec := { name := "fixLeast", fn := fun _ => fun
  | [d1, d2, d3, d4, d5] => { results := [.lit (.bool false)], args := [d1, d2, d3, d4, d5] }
  | _ => none }
def FixLeastWrongFalsely : Prop := fixLeastRow.holds Tryz.pinned (OpenSpec.ofChange fixLeastWrong)

/-- 'tidelaw10.FixMore': WHATEVER THE INPUT: true; the input reads as it did. -/
def fixMoreSpec : ChangeSpec := { name := "fixMore", fn := fun _ => fun
  | [d1, d2, d3, d4, d5] => { results := [.lit (.bool true)], args := [d1, d2, d3, d4, d5] }
  | _ => none }
def fixMoreRow : OpenClaim := { program := "ytifpomonpneanaagreat", sum := "ce84d1c88a45d327fad3ac049af999e27cb18d5429ce6b9fb0ac95dd00f3c0ae", func := "tidemark/tidelaw10.FixMore", spec := "fixMore", inPlace := ["internal/bytealg.abigen_runtime_cmpstring"], unfollowed := true, recurses := true, loops := true, apart := false }
def FixMoreSaid : Prop := fixMoreRow.holds Tryz.pinned (OpenSpec.ofChange fixMoreSpec)

/-- ITS FALSE NEIGHBOUR: 'it returns false'. Refute it at one input. -/
def fixMoreWrong : ChangeSpec := { name := "fixMore", fn := fun _ => fun
  | [d1, d2, d3, d4, d5] => { results := [.lit (.bool false)], args := [d1, d2, d3, d4, d5] }
  | _ => none }
def FixMoreWrongFalsely : Prop := fixMoreRow.holds Tryz.pinned (OpenSpec.ofChange fixMoreWrong)

/- THE SECOND FORM. 'bulk': how many values and letters a reading holds, each counted each time it is reached (what is shared counts as often as it is met; a slice's spare places count too). A statement '..UptoSaid' is the law's where the arguments, and the package variables that the reading takes, are together of bulk at most 1048576: NARROWER than '..Said'. Prove '..Said' where nothing that the law and all that it calls make is longer than what came in: it says more and counts as full. Else prove '..UptoSaid'. A law counts once. -/
mutual
def uptoBulk {H : Type} : DataW H → Nat
  | .lit (.string bytes) => bytes.length + 1
  | .lit _ => 1
  | .nil => 1
  | .ptr d => uptoBulk d + 1
  | .slice elems spare => uptoBulkAll elems + uptoBulkAll spare + 1
  | .agg parts => uptoBulkAll parts + 1
  | .iface _ d => uptoBulk d + 1
  | .map entries => uptoBulkEntries entries + 1
  | .held _ => 1
def uptoBulkAll {H : Type} : List (DataW H) → Nat
  | [] => 0
  | d :: r => uptoBulk d + uptoBulkAll r
def uptoBulkEntries {H : Type} : List (Lit × DataW H) → Nat
  | [] => 0
  | x :: r => uptoBulkEntry x + uptoBulkEntries r
def uptoBulkEntry {H : Type} : Lit × DataW H → Nat
  | (.string bytes, d) => bytes.length + uptoBulk d + 1
  | (_, d) => uptoBulk d + 1
 end
def uptoSmall : (H : Type) → List (DataW H) → Bool := fun _ ds => decide (uptoBulkAll ds ≤ 1048576)
def OpenSpec.upto (s : _root_.Go.ChangeSpec) : _root_.Go.OpenSpec := { _root_.Go.OpenSpec.ofChange s with cond := some uptoSmall }

/-- 'tidelaw5.QueryTells', WHERE WHAT IT READS IS OF BULK AT MOST 1048576: true; the input reads as it did. -/
def queryTellsUptoRow : OpenClaim := { program := "ytifpomonpneanaagreat", sum := "ce84d1c88a45d327fad3ac049af999e27cb18d5429ce6b9fb0ac95dd00f3c0ae", func := "tidemark/tidelaw5.QueryTells", spec := "queryTells", inPlace := ["internal/bytealg.abigen_runtime_cmpstring"], unfollowed := true, recurses := true, loops := true, apart := false, narrowed := true }
def QueryTellsUptoSaid : Prop := queryTellsUptoRow.holds Tryz.pinned (OpenSpec.upto queryTellsSpec)

/-- 'tidelaw5.QueryTyped', WHERE WHAT IT READS IS OF BULK AT MOST 1048576: true; the input reads as it did. -/
def queryTypedUptoRow : OpenClaim := { program := "ytifpomonpneanaagreat", sum := "ce84d1c88a45d327fad3ac049af999e27cb18d5429ce6b9fb0ac95dd00f3c0ae", func := "tidemark/tidelaw5.QueryTyped", spec := "queryTyped", inPlace := ["internal/bytealg.abigen_runtime_cmpstring"], unfollowed := true, recurses := true, loops := true, apart := false, narrowed := true }
def QueryTypedUptoSaid : Prop := queryTypedUptoRow.holds Tryz.pinned (OpenSpec.upto queryTypedSpec)

/-- 'tidelaw5.QueryPlaces', WHERE WHAT IT READS IS OF BULK AT MOST 1048576: true; the input reads as it did. -/
def queryPlacesUptoRow : OpenClaim := { program := "ytifpomonpneanaagreat", sum := "ce84d1c88a45d327fad3ac049af999e27cb18d5429ce6b9fb0ac95dd00f3c0ae", func := "tidemark/tidelaw5.QueryPlaces", spec := "queryPlaces", inPlace := ["internal/bytealg.abigen_runtime_cmpstring"], unfollowed := true, recurses := true, loops := true, apart := false, narrowed := true }
def QueryPlacesUptoSaid : Prop := queryPlacesUptoRow.holds Tryz.pinned (OpenSpec.upto queryPlacesSpec)

/-- 'tidelaw5.QueryAlgebra', WHERE WHAT IT READS IS OF BULK AT MOST 1048576: true; the input reads as it did. -/
def queryAlgebraUptoRow : OpenClaim := { program := "ytifpomonpneanaagreat", sum := "ce84d1c88a45d327fad3ac049af999e27cb18d5429ce6b9fb0ac95dd00f3c0ae", func := "tidemark/tidelaw5.QueryAlgebra", spec := "queryAlgebra", inPlace := ["internal/bytealg.abigen_runtime_cmpstring"], unfollowed := true, recurses := true, loops := true, apart := false, narrowed := true }
def QueryAlgebraUptoSaid : Prop := queryAlgebraUptoRow.holds Tryz.pinned (OpenSpec.upto queryAlgebraSpec)

/-- 'tidelaw10.FixTells', WHERE WHAT IT READS IS OF BULK AT MOST 1048576: true; the input reads as it did. -/
def fixTellsUptoRow : OpenClaim := { program := "ytifpomonpneanaagreat", sum := "ce84d1c88a45d327fad3ac049af999e27cb18d5429ce6b9fb0ac95dd00f3c0ae", func := "tidemark/tidelaw10.FixTells", spec := "fixTells", inPlace := ["internal/bytealg.abigen_runtime_cmpstring"], unfollowed := true, recurses := true, loops := true, apart := false, narrowed := true }
def FixTellsUptoSaid : Prop := fixTellsUptoRow.holds Tryz.pinned (OpenSpec.upto fixTellsSpec)

/-- 'tidelaw9.RewriteSame', WHERE WHAT IT READS IS OF BULK AT MOST 1048576: true; the input reads as it did. -/
def rewriteSameUptoRow : OpenClaim := { program := "ytifpomonpneanaagreat", sum := "ce84d1c88a45d327fad3ac049af999e27cb18d5429ce6b9fb0ac95dd00f3c0ae", func := "tidemark/tidelaw9.RewriteSame", spec := "rewriteSame", inPlace := ["internal/bytealg.abigen_runtime_cmpstring"], unfollowed := true, recurses := true, loops := true, apart := false, narrowed := true }
def RewriteSameUptoSaid : Prop := rewriteSameUptoRow.holds Tryz.pinned (OpenSpec.upto rewriteSameSpec)

/-- 'tidelaw10.FixClosed', WHERE WHAT IT READS IS OF BULK AT MOST 1048576: true; the input reads as it did. -/
def fixClosedUptoRow : OpenClaim := { program := "ytifpomonpneanaagreat", sum := "ce84d1c88a45d327fad3ac049af999e27cb18d5429ce6b9fb0ac95dd00f3c0ae", func := "tidemark/tidelaw10.FixClosed", spec := "fixClosed", inPlace := ["internal/bytealg.abigen_runtime_cmpstring"], unfollowed := true, recurses := true, loops := true, apart := false, narrowed := true }
def FixClosedUptoSaid : Prop := fixClosedUptoRow.holds Tryz.pinned (OpenSpec.upto fixClosedSpec)

/-- 'tidelaw10.FixLeast', WHERE WHAT IT READS IS OF BULK AT MOST 1048576: true; the input reads as it did. -/
def fixLeastUptoRow : OpenClaim := { program := "ytifpomonpneanaagreat", sum := "ce84d1c88a45d327fad3ac049af999e27cb18d5429ce6b9fb0ac95dd00f3c0ae", func := "tidemark/tidelaw10.FixLeast", spec := "fixLeast", inPlace := ["internal/bytealg.abigen_runtime_cmpstring"], unfollowed := true, recurses := true, loops := true, apart := false, narrowed := true }
def FixLeastUptoSaid : Prop := fixLeastUptoRow.holds Tryz.pinned (OpenSpec.upto fixLeastSpec)

/-- 'tidelaw10.FixMore', WHERE WHAT IT READS IS OF BULK AT MOST 1048576: true; the input reads as it did. -/
def fixMoreUptoRow : OpenClaim := { program := "ytifpomonpneanaagreat", sum := "ce84d1c88a45d327fad3ac049af999e27cb18d5429ce6b9fb0ac95dd00f3c0ae", func := "tidemark/tidelaw10.FixMore", spec := "fixMore", inPlace := ["internal/bytealg.abigen_runtime_cmpstring"], unfollowed := true, recurses := true, loops := true, apart := false, narrowed := true }
def FixMoreUptoSaid : Prop := fixMoreUptoRow.holds Tryz.pinned (OpenSpec.upto fixMoreSpec)

end Rows
end Go.Proofs.YtifpomonpneanaaGreat
