/-
  NARROWER THAN 'FOR EVERY INPUT', by the rows' own cells (each row's printed sentence says how): QueryTells: loops · FixTells: loops · RewriteSame: loops · FixClosed: loops · FixLeast: loops · FixMore: loops · FixQuick: loops.
  DERIVED. THE GIVEN ROWS OF THIS SEAT. 8 by the template 'for every input the law returns true; each argument reads behind the call as it read before'; 0 by the template 'total and deterministic' (their statements: YtcaedcpjdmlilaaGreatTotals.lean).
  GIVEN WITH THE SEED: the statements are not yours to turn. If you find one false, say at which input.
  Laid BY PROGRAM, IN A SANDBOX (cutbox-rows.mjs): the forced cells as the released guide's own fill.sh prints them over the translation d662d6bd9a8c3f9a… (all of the seat's roots in one cut). By AI agents, Wed Nov 11 2026. No macro, syntax, notation, axiom, sorry.
-/
import Derived.Test.YtcaedcpjdmlilaaGreatChecked
import GoSem.Claim
import GoSem.ClaimJoined
import GoSem.ClaimMapViews
import Derived.JoinedTies
import Derived.KernelRfl
namespace Go.Proofs.YtcaedcpjdmlilaaGreat
/- THE CELL 'sum', in the pinned program and in every row, IS THE sha256 OF THE DUMP (.gsa) THAT YtcaedcpjdmlilaaGreatProg.lean LOADS. Nothing in Lean hashes anything: it is a label: what it is worth is what the hold of that sum in a sandbox is worth. -/
noncomputable def Tryz.pinned : Pinned := { name := "ytcaedcpjdmlilaagreat", sum := "d662d6bd9a8c3f9ac1bada6cf616457fe05a0c0c601864873a1a85707434b55e", checked := Tryz.checked }
namespace Rows
def none {H : Type} : Left H := { results := [], args := [] }

/-- 'tidelaw5.QueryTells': WHATEVER THE INPUT: true; the input reads as it did. -/
def queryTellsSpec : ChangeSpec := { name := "queryTells", fn := fun _ => fun
  | [d1, d2, d3] => { results := [.lit (.bool true)], args := [d1, d2, d3] }
  | _ => none }
def queryTellsRow : OpenClaim := { program := "ytcaedcpjdmlilaagreat", sum := "d662d6bd9a8c3f9ac1bada6cf616457fe05a0c0c601864873a1a85707434b55e", func := "tidemark/tidelaw5.QueryTells", spec := "queryTells", inPlace := ["internal/bytealg.abigen_runtime_cmpstring"], unfollowed := true, recurses := true, loops := true, apart := false }
def QueryTellsSaid : Prop := queryTellsRow.holds Tryz.pinned (OpenSpec.ofChange queryTellsSpec)

/-- ITS FALSE NEIGHBOUR: 'it returns false'. Refute it at one input. -/
def queryTellsWrong : ChangeSpec := { name := "queryTells", fn := fun _ => fun
  | [d1, d2, d3] => { results := [.lit (.bool false)], args := [d1, d2, d3] }
  | _ => none }
def QueryTellsWrongFalsely : Prop := queryTellsRow.holds Tryz.pinned (OpenSpec.ofChange queryTellsWrong)

/-- 'tidelaw10.FixTells': WHATEVER THE INPUT: true; the input reads as it did. -/
def fixTellsSpec : ChangeSpec := { name := "fixTells", fn := fun _ => fun
  | [d1, d2, d3, d4] => { results := [.lit (.bool true)], args := [d1, d2, d3, d4] }
  | _ => none }
def fixTellsRow : OpenClaim := { program := "ytcaedcpjdmlilaagreat", sum := "d662d6bd9a8c3f9ac1bada6cf616457fe05a0c0c601864873a1a85707434b55e", func := "tidemark/tidelaw10.FixTells", spec := "fixTells", inPlace := ["internal/bytealg.abigen_runtime_cmpstring"], unfollowed := true, recurses := true, loops := true, apart := false }
def FixTellsSaid : Prop := fixTellsRow.holds Tryz.pinned (OpenSpec.ofChange fixTellsSpec)

/-- ITS FALSE NEIGHBOUR: 'it returns false'. Refute it at one input. -/
def fixTellsWrong : ChangeSpec := { name := "fixTells", fn := fun _ => fun
  | [d1, d2, d3, d4] => { results := [.lit (.bool false)], args := [d1, d2, d3, d4] }
  | _ => none }
def FixTellsWrongFalsely : Prop := fixTellsRow.holds Tryz.pinned (OpenSpec.ofChange fixTellsWrong)

/-- 'tidelaw9.RewriteSame': WHATEVER THE INPUT: true; the input reads as it did. -/
def rewriteSameSpec : ChangeSpec := { name := "rewriteSame", fn := fun _ => fun
  | [d1, d2, d3] => { results := [.lit (.bool true)], args := [d1, d2, d3] }
  | _ => none }
def rewriteSameRow : OpenClaim := { program := "ytcaedcpjdmlilaagreat", sum := "d662d6bd9a8c3f9ac1bada6cf616457fe05a0c0c601864873a1a85707434b55e", func := "tidemark/tidelaw9.RewriteSame", spec := "rewriteSame", inPlace := ["internal/bytealg.abigen_runtime_cmpstring"], unfollowed := true, recurses := true, loops := true, apart := false }
def RewriteSameSaid : Prop := rewriteSameRow.holds Tryz.pinned (OpenSpec.ofChange rewriteSameSpec)

/-- ITS FALSE NEIGHBOUR: 'it returns false'. Refute it at one input. -/
def rewriteSameWrong : ChangeSpec := { name := "rewriteSame", fn := fun _ => fun
  | [d1, d2, d3] => { results := [.lit (.bool false)], args := [d1, d2, d3] }
  | _ => none }
def RewriteSameWrongFalsely : Prop := rewriteSameRow.holds Tryz.pinned (OpenSpec.ofChange rewriteSameWrong)

/-- 'tidelaw10.FixClosed': WHATEVER THE INPUT: true; the input reads as it did. -/
def fixClosedSpec : ChangeSpec := { name := "fixClosed", fn := fun _ => fun
  | [d1, d2, d3, d4] => { results := [.lit (.bool true)], args := [d1, d2, d3, d4] }
  | _ => none }
def fixClosedRow : OpenClaim := { program := "ytcaedcpjdmlilaagreat", sum := "d662d6bd9a8c3f9ac1bada6cf616457fe05a0c0c601864873a1a85707434b55e", func := "tidemark/tidelaw10.FixClosed", spec := "fixClosed", inPlace := ["internal/bytealg.abigen_runtime_cmpstring"], unfollowed := true, recurses := true, loops := true, apart := false }
def FixClosedSaid : Prop := fixClosedRow.holds Tryz.pinned (OpenSpec.ofChange fixClosedSpec)

/-- ITS FALSE NEIGHBOUR: 'it returns false'. Refute it at one input. -/
def fixClosedWrong : ChangeSpec := { name := "fixClosed", fn := fun _ => fun
  | [d1, d2, d3, d4] => { results := [.lit (.bool false)], args := [d1, d2, d3, d4] }
  | _ => none }
def FixClosedWrongFalsely : Prop := fixClosedRow.holds Tryz.pinned (OpenSpec.ofChange fixClosedWrong)

/-- 'tidelaw10.FixLeast': WHATEVER THE INPUT: true; the input reads as it did. -/
def fixLeastSpec : ChangeSpec := { name := "fixLeast", fn := fun _ => fun
  | [d1, d2, d3, d4, d5] => { results := [.lit (.bool true)], args := [d1, d2, d3, d4, d5] }
  | _ => none }
def fixLeastRow : OpenClaim := { program := "ytcaedcpjdmlilaagreat", sum := "d662d6bd9a8c3f9ac1bada6cf616457fe05a0c0c601864873a1a85707434b55e", func := "tidemark/tidelaw10.FixLeast", spec := "fixLeast", inPlace := ["internal/bytealg.abigen_runtime_cmpstring"], unfollowed := true, recurses := true, loops := true, apart := false }
def FixLeastSaid : Prop := fixLeastRow.holds Tryz.pinned (OpenSpec.ofChange fixLeastSpec)

/-- ITS FALSE NEIGHBOUR: 'it returns false'. Refute it at one input. -/
def fixLeastWrong : ChangeSpec := { name := "fixLeast", fn := fun _ => fun
  | [d1, d2, d3, d4, d5] => { results := [.lit (.bool false)], args := [d1, d2, d3, d4, d5] }
  | _ => none }
def FixLeastWrongFalsely : Prop := fixLeastRow.holds Tryz.pinned (OpenSpec.ofChange fixLeastWrong)

/-- 'tidelaw10.FixMore': WHATEVER THE INPUT: true; the input reads as it did. -/
def fixMoreSpec : ChangeSpec := { name := "fixMore", fn := fun _ => fun
  | [d1, d2, d3, d4, d5] => { results := [.lit (.bool true)], args := [d1, d2, d3, d4, d5] }
  | _ => none }
def fixMoreRow : OpenClaim := { program := "ytcaedcpjdmlilaagreat", sum := "d662d6bd9a8c3f9ac1bada6cf616457fe05a0c0c601864873a1a85707434b55e", func := "tidemark/tidelaw10.FixMore", spec := "fixMore", inPlace := ["internal/bytealg.abigen_runtime_cmpstring"], unfollowed := true, recurses := true, loops := true, apart := false }
def FixMoreSaid : Prop := fixMoreRow.holds Tryz.pinned (OpenSpec.ofChange fixMoreSpec)

/-- ITS FALSE NEIGHBOUR: 'it returns false'. Refute it at one input. -/
def fixMoreWrong : ChangeSpec := { name := "fixMore", fn := fun _ => fun
  | [d1, d2, d3, d4, d5] => { results := [.lit (.bool false)], args := [d1, d2, d3, d4, d5] }
  | _ => none }
def FixMoreWrongFalsely : Prop := fixMoreRow.holds Tryz.pinned (OpenSpec.ofChange fixMoreWrong)

/-- 'tidelaw10.FixQuick': WHATEVER THE INPUT: true; the input reads as it did. -/
def fixQuickSpec : ChangeSpec := { name := "fixQuick", fn := fun _ => fun
  | [d1, d2, d3, d4] => { results := [.lit (.bool true)], args := [d1, d2, d3, d4] }
  | _ => none }
def fixQuickRow : OpenClaim := { program := "ytcaedcpjdmlilaagreat", sum := "d662d6bd9a8c3f9ac1bada6cf616457fe05a0c0c601864873a1a85707434b55e", func := "tidemark/tidelaw10.FixQuick", spec := "fixQuick", inPlace := ["internal/bytealg.abigen_runtime_cmpstring"], unfollowed := true, recurses := true, loops := true, apart := false }
def FixQuickSaid : Prop := fixQuickRow.holds Tryz.pinned (OpenSpec.ofChange fixQuickSpec)

/-- ITS FALSE NEIGHBOUR: 'it returns false'. Refute it at one input. -/
def fixQuickWrong : ChangeSpec := { name := "fixQuick", fn := fun _ => fun
  | [d1, d2, d3, d4] => { results := [.lit (.bool false)], args := [d1, d2, d3, d4] }
  | _ => none }
def FixQuickWrongFalsely : Prop := fixQuickRow.holds Tryz.pinned (OpenSpec.ofChange fixQuickWrong)

/-- 'tidelaw10.FixPaths': WHATEVER THE INPUT: true; the input reads as it did. -/
def fixPathsSpec : ChangeSpec := { name := "fixPaths", fn := fun _ => fun
  | [d] => { results := [.lit (.bool true)], args := [d] }
  | _ => none }
def fixPathsRow : OpenClaim := { program := "ytcaedcpjdmlilaagreat", sum := "d662d6bd9a8c3f9ac1bada6cf616457fe05a0c0c601864873a1a85707434b55e", func := "tidemark/tidelaw10.FixPaths", spec := "fixPaths", inPlace := ["internal/bytealg.abigen_runtime_cmpstring"], unfollowed := true, recurses := true, apart := false }
def FixPathsSaid : Prop := fixPathsRow.holds Tryz.pinned (OpenSpec.ofChange fixPathsSpec)

/-- ITS FALSE NEIGHBOUR: 'it returns false'. Refute it at one input. -/
def fixPathsWrong : ChangeSpec := { name := "fixPaths", fn := fun _ => fun
  | [d] => { results := [.lit (.bool false)], args := [d] }
  | _ => none }
def FixPathsWrongFalsely : Prop := fixPathsRow.holds Tryz.pinned (OpenSpec.ofChange fixPathsWrong)

/- THE SECOND FORM. 'bulk': how many values and letters a reading holds, each counted each time it is reached (what is shared counts as often as it is met; a slice's spare places count too). A statement '..UptoSaid' is the law's where the arguments, and the package variables that the reading takes, are together of bulk at most 1048576: NARROWER than '..Said'. Prove '..Said' where nothing that the law and all that it calls make is longer than what came in: it says more and counts as full. Else prove '..UptoSaid'. A law counts once. -/
mutual
def uptoBulk {H : Type} : DataW H → Nat
  | .lit (.string bytes) => bytes.length + 1
  | .lit _ => 1
  | .nil => 1
  | .ptr d => uptoBulk d + 1
  | .slice elems spare => uptoBulkAll elems + uptoBulkAll spare + 1
  | .agg parts => uptoBulkAll parts + 1
  | .iface _ d => uptoBulk d + 1
  | .map entries => uptoBulkEntries entries + 1
  | .held _ => 1
def uptoBulkAll {H : Type} : List (DataW H) → Nat
  | [] => 0
  | d :: r => uptoBulk d + uptoBulkAll r
def uptoBulkEntries {H : Type} : List (Lit × DataW H) → Nat
  | [] => 0
  | x :: r => uptoBulkEntry x + uptoBulkEntries r
def uptoBulkEntry {H : Type} : Lit × DataW H → Nat
  | (.string bytes, d) => bytes.length + uptoBulk d + 1
  | (_, d) => uptoBulk d + 1
 end
def uptoSmall : (H : Type) → List (DataW H) → Bool := fun _ ds => decide (uptoBulkAll ds ≤ 1048576)
def OpenSpec.upto (s : _root_.Go.ChangeSpec) : _root_.Go.OpenSpec := { _root_.Go.OpenSpec.ofChange s with cond := some uptoSmall }

/-- 'tidelaw5.QueryTells', WHERE WHAT IT READS IS OF BULK AT MOST 1048576: true; the input reads as it did. -/
def queryTellsUptoRow : OpenClaim := { program := "ytcaedcpjdmlilaagreat", sum := "d662d6bd9a8c3f9ac1bada6cf616457fe05a0c0c601864873a1a85707434b55e", func := "tidemark/tidelaw5.QueryTells", spec := "queryTells", inPlace := ["internal/bytealg.abigen_runtime_cmpstring"], unfollowed := true, recurses := true, loops := true, apart := false, narrowed := true }
def QueryTellsUptoSaid : Prop := queryTellsUptoRow.holds Tryz.pinned (OpenSpec.upto queryTellsSpec)

/-- 'tidelaw10.FixTells', WHERE WHAT IT READS IS OF BULK AT MOST 1048576: true; the input reads as it did. -/
def fixTellsUptoRow : OpenClaim := { program := "ytcaedcpjdmlilaagreat", sum := "d662d6bd9a8c3f9ac1bada6cf616457fe05a0c0c601864873a1a85707434b55e", func := "tidemark/tidelaw10.FixTells", spec := "fixTells", inPlace := ["internal/bytealg.abigen_runtime_cmpstring"], unfollowed := true, recurses := true, loops := true, apart := false, narrowed := true }
def FixTellsUptoSaid : Prop := fixTellsUptoRow.holds Tryz.pinned (OpenSpec.upto fixTellsSpec)

/-- 'tidelaw9.RewriteSame', WHERE WHAT IT READS IS OF BULK AT MOST 1048576: true; the input reads as it did. -/
def rewriteSameUptoRow : OpenClaim := { program := "ytcaedcpjdmlilaagreat", sum := "d662d6bd9a8c3f9ac1bada6cf616457fe05a0c0c601864873a1a85707434b55e", func := "tidemark/tidelaw9.RewriteSame", spec := "rewriteSame", inPlace := ["internal/bytealg.abigen_runtime_cmpstring"], unfollowed := true, recurses := true, loops := true, apart := false, narrowed := true }
def RewriteSameUptoSaid : Prop := rewriteSameUptoRow.holds Tryz.pinned (OpenSpec.upto rewriteSameSpec)

/-- 'tidelaw10.FixClosed', WHERE WHAT IT READS IS OF BULK AT MOST 1048576: true; the input reads as it did. -/
def fixClosedUptoRow : OpenClaim := { program := "ytcaedcpjdmlilaagreat", sum := "d662d6bd9a8c3f9ac1bada6cf616457fe05a0c0c601864873a1a85707434b55e", func := "tidemark/tidelaw10.FixClosed", spec := "fixClosed", inPlace := ["internal/bytealg.abigen_runtime_cmpstring"], unfollowed := true, recurses := true, loops := true, apart := false, narrowed := true }
def FixClosedUptoSaid : Prop := fixClosedUptoRow.holds Tryz.pinned (OpenSpec.upto fixClosedSpec)

/-- 'tidelaw10.FixLeast', WHERE WHAT IT READS IS OF BULK AT MOST 1048576: true; the input reads as it did. -/
def fixLeastUptoRow : OpenClaim := { program := "ytcaedcpjdmlilaagreat", sum := "d662d6bd9a8c3f9ac1bada6cf616457fe05a0c0c601864873a1a85707434b55e", func := "tidemark/tidelaw10.FixLeast", spec := "fixLeast", inPlace := ["internal/bytealg.abigen_runtime_cmpstring"], unfollowed := true, recurses := true, loops := true, apart := false, narrowed := true }
def FixLeastUptoSaid : Prop := fixLeastUptoRow.holds Tryz.pinned (OpenSpec.upto fixLeastSpec)

/-- 'tidelaw10.FixMore', WHERE WHAT IT READS IS OF BULK AT MOST 1048576: true; the input reads as it did. -/
def fixMoreUptoRow : OpenClaim := { program := "ytcaedcpjdmlilaagreat", sum := "d662d6bd9a8c3f9ac1bada6cf616457fe05a0c0c601864873a1a85707434b55e", func := "tidemark/tidelaw10.FixMore", spec := "fixMore", inPlace := ["internal/bytealg.abigen_runtime_cmpstring"], unfollowed := true, recurses := true, loops := true, apart := false, narrowed := true }
def FixMoreUptoSaid : Prop := fixMoreUptoRow.holds Tryz.pinned (OpenSpec.upto fixMoreSpec)

/-- 'tidelaw10.FixQuick', WHERE WHAT IT READS IS OF BULK AT MOST 1048576: true; the input reads as it did. -/
def fixQuickUptoRow : OpenClaim := { program := "ytcaedcpjdmlilaagreat", sum := "d662d6bd9a8c3f9ac1bada6cf616457fe05a0c0c601864873a1a85707434b55e", func := "tidemark/tidelaw10.FixQuick", spec := "fixQuick", inPlace := ["internal/bytealg.abigen_runtime_cmpstring"], unfollowed := true, recurses := true, loops := true, apart := false, narrowed := true }
def FixQuickUptoSaid : Prop := fixQuickUptoRow.holds Tryz.pinned (OpenSpec.upto fixQuickSpec)

/-- 'tidelaw10.FixPaths', WHERE WHAT IT READS IS OF BULK AT MOST 1048576: true; the input reads as it did. -/
def fixPathsUptoRow : OpenClaim := { program := "ytcaedcpjdmlilaagreat", sum := "d662d6bd9a8c3f9ac1bada6cf616457fe05a0c0c601864873a1a85707434b55e", func := "tidemark/tidelaw10.FixPaths", spec := "fixPaths", inPlace := ["internal/bytealg.abigen_runtime_cmpstring"], unfollowed := true, recurses := true, apart := false, narrowed := true }
def FixPathsUptoSaid : Prop := fixPathsUptoRow.holds Tryz.pinned (OpenSpec.upto fixPathsSpec)

end Rows
end Go.Proofs.YtcaedcpjdmlilaaGreat
