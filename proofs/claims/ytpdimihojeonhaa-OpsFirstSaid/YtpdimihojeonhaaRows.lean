/-
  NARROWER THAN 'FOR EVERY INPUT', by the rows' own cells (each row's printed sentence says how): OpsBilinear: loops · OpsLinear: loops · OpsParted: loops · OpsCounts: loops.
  DERIVED. THE GIVEN ROWS OF THIS SEAT. 5 by the template 'for every input the law returns true; each argument reads behind the call as it read before'; 0 by the template 'total and deterministic' (their statements: YtpdimihojeonhaaTotals.lean).
  GIVEN WITH THE SEED: the statements are not yours to turn. If you find one false, say at which input.
  Laid BY PROGRAM, IN A SANDBOX (cutbox-rows.mjs): the forced cells as the released guide's own fill.sh prints them over the translation 6003f8080e5901dc… (all of the seat's roots in one cut). By AI agents, Wed Nov 11 2026. No macro, syntax, notation, axiom, sorry.
-/
import Derived.Test.YtpdimihojeonhaaChecked
import GoSem.Claim
import GoSem.ClaimJoined
import GoSem.ClaimMapViews
import Derived.JoinedTies
import Derived.KernelRfl
namespace Go.Proofs.Ytpdimihojeonhaa
/- THE CELL 'sum', in the pinned program and in every row, IS THE sha256 OF THE DUMP (.gsa) THAT YtpdimihojeonhaaProg.lean LOADS. Nothing in Lean hashes anything: it is a label: what it is worth is what the hold of that sum in a sandbox is worth. -/
noncomputable def Try.pinned : Pinned := { name := "ytpdimihojeonhaa", sum := "6003f8080e5901dc721bd49e968bcef4b23aaf7107eedc98f423e675a4479fb0", checked := Try.checked }
namespace Rows
def none {H : Type} : Left H := { results := [], args := [] }

/-- 'tidelaw4.OpsBilinear': WHATEVER THE INPUT: true; the input reads as it did. -/
def opsBilinearSpec : ChangeSpec := { name := "opsBilinear", fn := fun _ => fun
  | [d1, d2, d3, d4, d5, d6, d7] => { results := [.lit (.bool true)], args := [d1, d2, d3, d4, d5, d6, d7] }
  | _ => none }
def opsBilinearRow : OpenClaim := { program := "ytpdimihojeonhaa", sum := "6003f8080e5901dc721bd49e968bcef4b23aaf7107eedc98f423e675a4479fb0", func := "tidemark/tidelaw4.OpsBilinear", spec := "opsBilinear", inPlace := ["internal/bytealg.abigen_runtime_cmpstring"], unfollowed := true, recurses := true, loops := true, apart := false }
def OpsBilinearSaid : Prop := opsBilinearRow.holds Try.pinned (OpenSpec.ofChange opsBilinearSpec)

/-- ITS FALSE NEIGHBOUR: 'it returns false'. Refute it at one input. -/
def opsBilinearWrong : ChangeSpec := { name := "opsBilinear", fn := fun _ => fun
  | [d1, d2, d3, d4, d5, d6, d7] => { results := [.lit (.bool false)], args := [d1, d2, d3, d4, d5, d6, d7] }
  | _ => none }
def OpsBilinearWrongFalsely : Prop := opsBilinearRow.holds Try.pinned (OpenSpec.ofChange opsBilinearWrong)

/-- 'tidelaw4.OpsLinear': WHATEVER THE INPUT: true; the input reads as it did. -/
def opsLinearSpec : ChangeSpec := { name := "opsLinear", fn := fun _ => fun
  | [d1, d2, d3, d4, d5] => { results := [.lit (.bool true)], args := [d1, d2, d3, d4, d5] }
  | _ => none }
def opsLinearRow : OpenClaim := { program := "ytpdimihojeonhaa", sum := "6003f8080e5901dc721bd49e968bcef4b23aaf7107eedc98f423e675a4479fb0", func := "tidemark/tidelaw4.OpsLinear", spec := "opsLinear", inPlace := ["internal/bytealg.abigen_runtime_cmpstring"], unfollowed := true, recurses := true, loops := true, apart := false }
def OpsLinearSaid : Prop := opsLinearRow.holds Try.pinned (OpenSpec.ofChange opsLinearSpec)

/-- ITS FALSE NEIGHBOUR: 'it returns false'. Refute it at one input. -/
def opsLinearWrong : ChangeSpec := { name := "opsLinear", fn := fun _ => fun
  | [d1, d2, d3, d4, d5] => { results := [.lit (.bool false)], args := [d1, d2, d3, d4, d5] }
  | _ => none }
def OpsLinearWrongFalsely : Prop := opsLinearRow.holds Try.pinned (OpenSpec.ofChange opsLinearWrong)

/-- 'tidelaw4.OpsFirst': WHATEVER THE INPUT: true; the input reads as it did. -/
def opsFirstSpec : ChangeSpec := { name := "opsFirst", fn := fun _ => fun
  | [d1, d2, d3, d4] => { results := [.lit (.bool true)], args := [d1, d2, d3, d4] }
  | _ => none }
def opsFirstRow : OpenClaim := { program := "ytpdimihojeonhaa", sum := "6003f8080e5901dc721bd49e968bcef4b23aaf7107eedc98f423e675a4479fb0", func := "tidemark/tidelaw4.OpsFirst", spec := "opsFirst", inPlace := ["internal/bytealg.abigen_runtime_cmpstring"], unfollowed := true, recurses := true, apart := false }
def OpsFirstSaid : Prop := opsFirstRow.holds Try.pinned (OpenSpec.ofChange opsFirstSpec)

/-- ITS FALSE NEIGHBOUR: 'it returns false'. Refute it at one input. -/
def opsFirstWrong : ChangeSpec := { name := "opsFirst", fn := fun _ => fun
  | [d1, d2, d3, d4] => { results := [.lit (.bool false)], args := [d1, d2, d3, d4] }
  | _ => none }
def OpsFirstWrongFalsely : Prop := opsFirstRow.holds Try.pinned (OpenSpec.ofChange opsFirstWrong)

/-- 'tidelaw4.OpsParted': WHATEVER THE INPUT: true; the input reads as it did. -/
def opsPartedSpec : ChangeSpec := { name := "opsParted", fn := fun _ => fun
  | [d1, d2, d3, d4, d5] => { results := [.lit (.bool true)], args := [d1, d2, d3, d4, d5] }
  | _ => none }
def opsPartedRow : OpenClaim := { program := "ytpdimihojeonhaa", sum := "6003f8080e5901dc721bd49e968bcef4b23aaf7107eedc98f423e675a4479fb0", func := "tidemark/tidelaw4.OpsParted", spec := "opsParted", inPlace := ["internal/bytealg.abigen_runtime_cmpstring"], unfollowed := true, recurses := true, loops := true, apart := false }
def OpsPartedSaid : Prop := opsPartedRow.holds Try.pinned (OpenSpec.ofChange opsPartedSpec)

/-- ITS FALSE NEIGHBOUR: 'it returns false'. Refute it at one input. -/
def opsPartedWrong : ChangeSpec := { name := "opsParted", fn := fun _ => fun
  | [d1, d2, d3, d4, d5] => { results := [.lit (.bool false)], args := [d1, d2, d3, d4, d5] }
  | _ => none }
def OpsPartedWrongFalsely : Prop := opsPartedRow.holds Try.pinned (OpenSpec.ofChange opsPartedWrong)

/-- 'tidelaw4.OpsCounts': WHATEVER THE INPUT: true; the input reads as it did. -/
def opsCountsSpec : ChangeSpec := { name := "opsCounts", fn := fun _ => fun
  | [d1, d2, d3] => { results := [.lit (.bool true)], args := [d1, d2, d3] }
  | _ => none }
def opsCountsRow : OpenClaim := { program := "ytpdimihojeonhaa", sum := "6003f8080e5901dc721bd49e968bcef4b23aaf7107eedc98f423e675a4479fb0", func := "tidemark/tidelaw4.OpsCounts", spec := "opsCounts", inPlace := ["internal/bytealg.abigen_runtime_cmpstring"], unfollowed := true, recurses := true, loops := true, apart := false }
def OpsCountsSaid : Prop := opsCountsRow.holds Try.pinned (OpenSpec.ofChange opsCountsSpec)

/-- ITS FALSE NEIGHBOUR: 'it returns false'. Refute it at one input. -/
def opsCountsWrong : ChangeSpec := { name := "opsCounts", fn := fun _ => fun
  | [d1, d2, d3] => { results := [.lit (.bool false)], args := [d1, d2, d3] }
  | _ => none }
def OpsCountsWrongFalsely : Prop := opsCountsRow.holds Try.pinned (OpenSpec.ofChange opsCountsWrong)

/- THE SECOND FORM. 'bulk': how many values and letters a reading holds, each counted each time it is reached (what is shared counts as often as it is met; a slice's spare places count too). A statement '..UptoSaid' is the law's where the arguments, and the package variables that the reading takes, are together of bulk at most 1048576: NARROWER than '..Said'. Prove '..Said' where nothing that the law and all that it calls make is longer than what came in: it says more and counts as full. Else prove '..UptoSaid'. A law counts once. -/
mutual
def uptoBulk {H : Type} : DataW H → Nat
  | .lit (.string bytes) => bytes.length + 1
  | .lit _ => 1
  | .nil => 1
  | .ptr d => uptoBulk d + 1
  | .slice elems spare => uptoBulkAll elems + uptoBulkAll spare + 1
  | .agg parts => uptoBulkAll parts + 1
  | .iface _ d => uptoBulk d + 1
  | .map entries => uptoBulkEntries entries + 1
  | .held _ => 1
def uptoBulkAll {H : Type} : List (DataW H) → Nat
  | [] => 0
  | d :: r => uptoBulk d + uptoBulkAll r
def uptoBulkEntries {H : Type} : List (Lit × DataW H) → Nat
  | [] => 0
  | x :: r => uptoBulkEntry x + uptoBulkEntries r
def uptoBulkEntry {H : Type} : Lit × DataW H → Nat
  | (.string bytes, d) => bytes.length + uptoBulk d + 1
  | (_, d) => uptoBulk d + 1
 end
def uptoSmall : (H : Type) → List (DataW H) → Bool := fun _ ds => decide (uptoBulkAll ds ≤ 1048576)
def OpenSpec.upto (s : _root_.Go.ChangeSpec) : _root_.Go.OpenSpec := { _root_.Go.OpenSpec.ofChange s with cond := some uptoSmall }

/-- 'tidelaw4.OpsBilinear', WHERE WHAT IT READS IS OF BULK AT MOST 1048576: true; the input reads as it did. -/
def opsBilinearUptoRow : OpenClaim := { program := "ytpdimihojeonhaa", sum := "6003f8080e5901dc721bd49e968bcef4b23aaf7107eedc98f423e675a4479fb0", func := "tidemark/tidelaw4.OpsBilinear", spec := "opsBilinear", inPlace := ["internal/bytealg.abigen_runtime_cmpstring"], unfollowed := true, recurses := true, loops := true, apart := false, narrowed := true }
def OpsBilinearUptoSaid : Prop := opsBilinearUptoRow.holds Try.pinned (OpenSpec.upto opsBilinearSpec)

/-- 'tidelaw4.OpsLinear', WHERE WHAT IT READS IS OF BULK AT MOST 1048576: true; the input reads as it did. -/
def opsLinearUptoRow : OpenClaim := { program := "ytpdimihojeonhaa", sum := "6003f8080e5901dc721bd49e968bcef4b23aaf7107eedc98f423e675a4479fb0", func := "tidemark/tidelaw4.OpsLinear", spec := "opsLinear", inPlace := ["internal/bytealg.abigen_runtime_cmpstring"], unfollowed := true, recurses := true, loops := true, apart := false, narrowed := true }
def OpsLinearUptoSaid : Prop := opsLinearUptoRow.holds Try.pinned (OpenSpec.upto opsLinearSpec)

/-- 'tidelaw4.OpsFirst', WHERE WHAT IT READS IS OF BULK AT MOST 1048576: true; the input reads as it did. -/
def opsFirstUptoRow : OpenClaim := { program := "ytpdimihojeonhaa", sum := "6003f8080e5901dc721bd49e968bcef4b23aaf7107eedc98f423e675a4479fb0", func := "tidemark/tidelaw4.OpsFirst", spec := "opsFirst", inPlace := ["internal/bytealg.abigen_runtime_cmpstring"], unfollowed := true, recurses := true, apart := false, narrowed := true }
def OpsFirstUptoSaid : Prop := opsFirstUptoRow.holds Try.pinned (OpenSpec.upto opsFirstSpec)

/-- 'tidelaw4.OpsParted', WHERE WHAT IT READS IS OF BULK AT MOST 1048576: true; the input reads as it did. -/
def opsPartedUptoRow : OpenClaim := { program := "ytpdimihojeonhaa", sum := "6003f8080e5901dc721bd49e968bcef4b23aaf7107eedc98f423e675a4479fb0", func := "tidemark/tidelaw4.OpsParted", spec := "opsParted", inPlace := ["internal/bytealg.abigen_runtime_cmpstring"], unfollowed := true, recurses := true, loops := true, apart := false, narrowed := true }
def OpsPartedUptoSaid : Prop := opsPartedUptoRow.holds Try.pinned (OpenSpec.upto opsPartedSpec)

/-- 'tidelaw4.OpsCounts', WHERE WHAT IT READS IS OF BULK AT MOST 1048576: true; the input reads as it did. -/
def opsCountsUptoRow : OpenClaim := { program := "ytpdimihojeonhaa", sum := "6003f8080e5901dc721bd49e968bcef4b23aaf7107eedc98f423e675a4479fb0", func := "tidemark/tidelaw4.OpsCounts", spec := "opsCounts", inPlace := ["internal/bytealg.abigen_runtime_cmpstring"], unfollowed := true, recurses := true, loops := true, apart := false, narrowed := true }
def OpsCountsUptoSaid : Prop := opsCountsUptoRow.holds Try.pinned (OpenSpec.upto opsCountsSpec)

end Rows
end Go.Proofs.Ytpdimihojeonhaa
