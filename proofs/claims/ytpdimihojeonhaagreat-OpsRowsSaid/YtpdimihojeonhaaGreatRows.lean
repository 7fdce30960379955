/-
  NARROWER THAN 'FOR EVERY INPUT', by the rows' own cells (each row's printed sentence says how): OpsRows: loops · OpsPairs: loops · OpsGroup: loops.
  DERIVED. THE GIVEN ROWS OF THIS SEAT. 3 by the template 'for every input the law returns true; each argument reads behind the call as it read before'; 0 by the template 'total and deterministic' (their statements: YtpdimihojeonhaaGreatTotals.lean).
  GIVEN WITH THE SEED: the statements are not yours to turn. If you find one false, say at which input.
  Laid BY PROGRAM, IN A SANDBOX (cutbox-rows.mjs): the forced cells as the released guide's own fill.sh prints them over the translation b41494456a44d2a1… (all of the seat's roots in one cut). By AI agents, Wed Nov 11 2026. No macro, syntax, notation, axiom, sorry.
-/
import Derived.Test.YtpdimihojeonhaaGreatChecked
import GoSem.Claim
import GoSem.ClaimJoined
import GoSem.ClaimMapViews
import Derived.JoinedTies
import Derived.KernelRfl
namespace Go.Proofs.YtpdimihojeonhaaGreat
/- THE CELL 'sum', in the pinned program and in every row, IS THE sha256 OF THE DUMP (.gsa) THAT YtpdimihojeonhaaGreatProg.lean LOADS. Nothing in Lean hashes anything: it is a label: what it is worth is what the hold of that sum in a sandbox is worth. -/
noncomputable def Tryz.pinned : Pinned := { name := "ytpdimihojeonhaagreat", sum := "b41494456a44d2a16e2d902fb77a71f986a308d9e8c97fb4a1c8ba3ed704c6c5", checked := Tryz.checked }
namespace Rows
def none {H : Type} : Left H := { results := [], args := [] }

/-- 'tidelaw4.OpsRows': WHATEVER THE INPUT: true; the input reads as it did. -/
def opsRowsSpec : ChangeSpec := { name := "opsRows", fn := fun _ => fun
  | [d1, d2, d3, d4, d5] => { results := [.lit (.bool true)], args := [d1, d2, d3, d4, d5] }
  | _ => none }
def opsRowsRow : OpenClaim := { program := "ytpdimihojeonhaagreat", sum := "b41494456a44d2a16e2d902fb77a71f986a308d9e8c97fb4a1c8ba3ed704c6c5", func := "tidemark/tidelaw4.OpsRows", spec := "opsRows", inPlace := ["internal/bytealg.abigen_runtime_cmpstring"], unfollowed := true, recurses := true, loops := true, apart := false }
def OpsRowsSaid : Prop := opsRowsRow.holds Tryz.pinned (OpenSpec.ofChange opsRowsSpec)

/-- ITS FALSE NEIGHBOUR: 'it returns false'. Refute it at one input. -/
def opsRowsWrong : ChangeSpec := { name := "opsRows", fn := fun _ => fun
  | [d1, d2, d3, d4, d5] => { results := [.lit (.bool false)], args := [d1, d2, d3, d4, d5] }
  | _ => none }
def OpsRowsWrongFalsely : Prop := opsRowsRow.holds Tryz.pinned (OpenSpec.ofChange opsRowsWrong)

/-- 'tidelaw4.OpsPairs': WHATEVER THE INPUT: true; the input reads as it did. -/
def opsPairsSpec : ChangeSpec := { name := "opsPairs", fn := fun _ => fun
  | [d1, d2, d3, d4, d5] => { results := [.lit (.bool true)], args := [d1, d2, d3, d4, d5] }
  | _ => none }
def opsPairsRow : OpenClaim := { program := "ytpdimihojeonhaagreat", sum := "b41494456a44d2a16e2d902fb77a71f986a308d9e8c97fb4a1c8ba3ed704c6c5", func := "tidemark/tidelaw4.OpsPairs", spec := "opsPairs", inPlace := ["internal/bytealg.abigen_runtime_cmpstring"], unfollowed := true, recurses := true, loops := true, apart := false }
def OpsPairsSaid : Prop := opsPairsRow.holds Tryz.pinned (OpenSpec.ofChange opsPairsSpec)

/-- ITS FALSE NEIGHBOUR: 'it returns false'. Refute it at one input. -/
def opsPairsWrong : ChangeSpec := { name := "opsPairs", fn := fun _ => fun
  | [d1, d2, d3, d4, d5] => { results := [.lit (.bool false)], args := [d1, d2, d3, d4, d5] }
  | _ => none }
def OpsPairsWrongFalsely : Prop := opsPairsRow.holds Tryz.pinned (OpenSpec.ofChange opsPairsWrong)

/-- 'tidelaw4.OpsGroup': WHATEVER THE INPUT: true; the input reads as it did. -/
def opsGroupSpec : ChangeSpec := { name := "opsGroup", fn := fun _ => fun
  | [d1, d2, d3, d4] => { results := [.lit (.bool true)], args := [d1, d2, d3, d4] }
  | _ => none }
def opsGroupRow : OpenClaim := { program := "ytpdimihojeonhaagreat", sum := "b41494456a44d2a16e2d902fb77a71f986a308d9e8c97fb4a1c8ba3ed704c6c5", func := "tidemark/tidelaw4.OpsGroup", spec := "opsGroup", inPlace := ["internal/bytealg.abigen_runtime_cmpstring"], unfollowed := true, recurses := true, loops := true, apart := false }
def OpsGroupSaid : Prop := opsGroupRow.holds Tryz.pinned (OpenSpec.ofChange opsGroupSpec)

/-- ITS FALSE NEIGHBOUR: 'it returns false'. Refute it at one input. -/
def opsGroupWrong : ChangeSpec := { name := "opsGroup", fn := fun _ => fun
  | [d1, d2, d3, d4] => { results := [.lit (.bool false)], args := [d1, d2, d3, d4] }
  | _ => none }
def OpsGroupWrongFalsely : Prop := opsGroupRow.holds Tryz.pinned (OpenSpec.ofChange opsGroupWrong)

/- THE SECOND FORM. 'bulk': how many values and letters a reading holds, each counted each time it is reached (what is shared counts as often as it is met; a slice's spare places count too). A statement '..UptoSaid' is the law's where the arguments, and the package variables that the reading takes, are together of bulk at most 1048576: NARROWER than '..Said'. Prove '..Said' where nothing that the law and all that it calls make is longer than what came in: it says more and counts as full. Else prove '..UptoSaid'. A law counts once. -/
mutual
def uptoBulk {H : Type} : DataW H → Nat
  | .lit (.string bytes) => bytes.length + 1
  | .lit _ => 1
  | .nil => 1
  | .ptr d => uptoBulk d + 1
  | .slice elems spare => uptoBulkAll elems + uptoBulkAll spare + 1
  | .agg parts => uptoBulkAll parts + 1
  | .iface _ d => uptoBulk d + 1
  | .map entries => uptoBulkEntries entries + 1
  | .held _ => 1
def uptoBulkAll {H : Type} : List (DataW H) → Nat
  | [] => 0
  | d :: r => uptoBulk d + uptoBulkAll r
def uptoBulkEntries {H : Type} : List (Lit × DataW H) → Nat
  | [] => 0
  | x :: r => uptoBulkEntry x + uptoBulkEntries r
def uptoBulkEntry {H : Type} : Lit × DataW H → Nat
  | (.string bytes, d) => bytes.length + uptoBulk d + 1
  | (_, d) => uptoBulk d + 1
 end
def uptoSmall : (H : Type) → List (DataW H) → Bool := fun _ ds => decide (uptoBulkAll ds ≤ 1048576)
def OpenSpec.upto (s : _root_.Go.ChangeSpec) : _root_.Go.OpenSpec := { _root_.Go.OpenSpec.ofChange s with cond := some uptoSmall }

/-- 'tidelaw4.OpsRows', WHERE WHAT IT READS IS OF BULK AT MOST 1048576: true; the input reads as it did. -/
def opsRowsUptoRow : OpenClaim := { program := "ytpdimihojeonhaagreat", sum := "b41494456a44d2a16e2d902fb77a71f986a308d9e8c97fb4a1c8ba3ed704c6c5", func := "tidemark/tidelaw4.OpsRows", spec := "opsRows", inPlace := ["internal/bytealg.abigen_runtime_cmpstring"], unfollowed := true, recurses := true, loops := true, apart := false, narrowed := true }
def OpsRowsUptoSaid : Prop := opsRowsUptoRow.holds Tryz.pinned (OpenSpec.upto opsRowsSpec)

/-- 'tidelaw4.OpsPairs', WHERE WHAT IT READS IS OF BULK AT MOST 1048576: true; the input reads as it did. -/
def opsPairsUptoRow : OpenClaim := { program := "ytpdimihojeonhaagreat", sum := "b41494456a44d2a16e2d902fb77a71f986a308d9e8c97fb4a1c8ba3ed704c6c5", func := "tidemark/tidelaw4.OpsPairs", spec := "opsPairs", inPlace := ["internal/bytealg.abigen_runtime_cmpstring"], unfollowed := true, recurses := true, loops := true, apart := false, narrowed := true }
def OpsPairsUptoSaid : Prop := opsPairsUptoRow.holds Tryz.pinned (OpenSpec.upto opsPairsSpec)

/-- 'tidelaw4.OpsGroup', WHERE WHAT IT READS IS OF BULK AT MOST 1048576: true; the input reads as it did. -/
def opsGroupUptoRow : OpenClaim := { program := "ytpdimihojeonhaagreat", sum := "b41494456a44d2a16e2d902fb77a71f986a308d9e8c97fb4a1c8ba3ed704c6c5", func := "tidemark/tidelaw4.OpsGroup", spec := "opsGroup", inPlace := ["internal/bytealg.abigen_runtime_cmpstring"], unfollowed := true, recurses := true, loops := true, apart := false, narrowed := true }
def OpsGroupUptoSaid : Prop := opsGroupUptoRow.holds Tryz.pinned (OpenSpec.upto opsGroupSpec)

end Rows
end Go.Proofs.YtpdimihojeonhaaGreat
