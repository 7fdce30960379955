/-
  NARROWER THAN 'FOR EVERY INPUT', by the rows' own cells (each row's printed sentence says how): DeltaNothing: loops · KeepRight: loops · KeepBack: loops · KeepOrder: loops.
  DERIVED. THE GIVEN ROWS OF THIS SEAT. 4 by the template 'for every input the law returns true; each argument reads behind the call as it read before'; 0 by the template 'total and deterministic' (their statements: YthhbiemnbkfobaaGreatTotals.lean).
  GIVEN WITH THE SEED: the statements are not yours to turn. If you find one false, say at which input.
  Laid BY PROGRAM, IN A SANDBOX (cutbox-rows.mjs): the forced cells as the released guide's own fill.sh prints them over the translation 6e3e82b5000762b1… (all of the seat's roots in one cut). By AI agents, Wed Nov 11 2026. No macro, syntax, notation, axiom, sorry.
-/
import Derived.Test.YthhbiemnbkfobaaGreatChecked
import GoSem.Claim
import GoSem.ClaimJoined
import GoSem.ClaimMapViews
import Derived.JoinedTies
import Derived.KernelRfl
namespace Go.Proofs.YthhbiemnbkfobaaGreat
/- THE CELL 'sum', in the pinned program and in every row, IS THE sha256 OF THE DUMP (.gsa) THAT YthhbiemnbkfobaaGreatProg.lean LOADS. Nothing in Lean hashes anything: it is a label: what it is worth is what the hold of that sum in a sandbox is worth. -/
noncomputable def Tryz.pinned : Pinned := { name := "ythhbiemnbkfobaagreat", sum := "6e3e82b5000762b191b47a353377873bce812721d5256d2d1bfa244c4d79b9ae", checked := Tryz.checked }
namespace Rows
def none {H : Type} : Left H := { results := [], args := [] }

/-- 'tidelaw6.DeltaNothing': WHATEVER THE INPUT: true; the input reads as it did. -/
def deltaNothingSpec : ChangeSpec := { name := "deltaNothing", fn := fun _ => fun
  | [d1, d2, d3] => { results := [.lit (.bool true)], args := [d1, d2, d3] }
  | _ => none }
def deltaNothingRow : OpenClaim := { program := "ythhbiemnbkfobaagreat", sum := "6e3e82b5000762b191b47a353377873bce812721d5256d2d1bfa244c4d79b9ae", func := "tidemark/tidelaw6.DeltaNothing", spec := "deltaNothing", inPlace := ["internal/bytealg.abigen_runtime_cmpstring"], unfollowed := true, recurses := true, loops := true, apart := false }
def DeltaNothingSaid : Prop := deltaNothingRow.holds Tryz.pinned (OpenSpec.ofChange deltaNothingSpec)

/-- ITS FALSE NEIGHBOUR: 'it returns false'. Refute it at one input. -/
def deltaNothingWrong : ChangeSpec := { name := "deltaNothing", fn := fun _ => fun
  | [d1, d2, d3] => { results := [.lit (.bool false)], args := [d1, d2, d3] }
  | _ => none }
def DeltaNothingWrongFalsely : Prop := deltaNothingRow.holds Tryz.pinned (OpenSpec.ofChange deltaNothingWrong)

/-- 'tidelaw7.KeepRight': WHATEVER THE INPUT: true; the input reads as it did. -/
def keepRightSpec : ChangeSpec := { name := "keepRight", fn := fun _ => fun
  | [d1, d2, d3, d4] => { results := [.lit (.bool true)], args := [d1, d2, d3, d4] }
  | _ => none }
def keepRightRow : OpenClaim := { program := "ythhbiemnbkfobaagreat", sum := "6e3e82b5000762b191b47a353377873bce812721d5256d2d1bfa244c4d79b9ae", func := "tidemark/tidelaw7.KeepRight", spec := "keepRight", inPlace := ["internal/bytealg.abigen_runtime_cmpstring"], unfollowed := true, recurses := true, loops := true, apart := false }
def KeepRightSaid : Prop := keepRightRow.holds Tryz.pinned (OpenSpec.ofChange keepRightSpec)

/-- ITS FALSE NEIGHBOUR: 'it returns false'. Refute it at one input. -/
def keepRightWrong : ChangeSpec := { name := "keepRight", fn := fun _ => fun
  | [d1, d2, d3, d4] => { results := [.lit (.bool false)], args := [d1, d2, d3, d4] }
  | _ => none }
def KeepRightWrongFalsely : Prop := keepRightRow.holds Tryz.pinned (OpenSpec.ofChange keepRightWrong)

/-- 'tidelaw7.KeepBack': WHATEVER THE INPUT: true; the input reads as it did. -/
def keepBackSpec : ChangeSpec := { name := "keepBack", fn := fun _ => fun
  | [d1, d2, d3, d4] => { results := [.lit (.bool true)], args := [d1, d2, d3, d4] }
  | _ => none }
def keepBackRow : OpenClaim := { program := "ythhbiemnbkfobaagreat", sum := "6e3e82b5000762b191b47a353377873bce812721d5256d2d1bfa244c4d79b9ae", func := "tidemark/tidelaw7.KeepBack", spec := "keepBack", inPlace := ["internal/bytealg.abigen_runtime_cmpstring"], unfollowed := true, recurses := true, loops := true, apart := false }
def KeepBackSaid : Prop := keepBackRow.holds Tryz.pinned (OpenSpec.ofChange keepBackSpec)

/-- ITS FALSE NEIGHBOUR: 'it returns false'. Refute it at one input. -/
def keepBackWrong : ChangeSpec := { name := "keepBack", fn := fun _ => fun
  | [d1, d2, d3, d4] => { results := [.lit (.bool false)], args := [d1, d2, d3, d4] }
  | _ => none }
def KeepBackWrongFalsely : Prop := keepBackRow.holds Tryz.pinned (OpenSpec.ofChange keepBackWrong)

/-- 'tidelaw7.KeepOrder': WHATEVER THE INPUT: true; the input reads as it did. -/
def keepOrderSpec : ChangeSpec := { name := "keepOrder", fn := fun _ => fun
  | [d1, d2, d3, d4, d5] => { results := [.lit (.bool true)], args := [d1, d2, d3, d4, d5] }
  | _ => none }
def keepOrderRow : OpenClaim := { program := "ythhbiemnbkfobaagreat", sum := "6e3e82b5000762b191b47a353377873bce812721d5256d2d1bfa244c4d79b9ae", func := "tidemark/tidelaw7.KeepOrder", spec := "keepOrder", inPlace := ["internal/bytealg.abigen_runtime_cmpstring"], unfollowed := true, recurses := true, loops := true, apart := false }
def KeepOrderSaid : Prop := keepOrderRow.holds Tryz.pinned (OpenSpec.ofChange keepOrderSpec)

/-- ITS FALSE NEIGHBOUR: 'it returns false'. Refute it at one input. -/
def keepOrderWrong : ChangeSpec := { name := "keepOrder", fn := fun _ => fun
  | [d1, d2, d3, d4, d5] => { results := [.lit (.bool false)], args := [d1, d2, d3, d4, d5] }
  | _ => none }
def KeepOrderWrongFalsely : Prop := keepOrderRow.holds Tryz.pinned (OpenSpec.ofChange keepOrderWrong)

/- THE SECOND FORM. 'bulk': how many values and letters a reading holds, each counted each time it is reached (what is shared counts as often as it is met; a slice's spare places count too). A statement '..UptoSaid' is the law's where the arguments, and the package variables that the reading takes, are together of bulk at most 1048576: NARROWER than '..Said'. Prove '..Said' where nothing that the law and all that it calls make is longer than what came in: it says more and counts as full. Else prove '..UptoSaid'. A law counts once. -/
mutual
def uptoBulk {H : Type} : DataW H → Nat
  | .lit (.string bytes) => bytes.length + 1
  | .lit _ => 1
  | .nil => 1
  | .ptr d => uptoBulk d + 1
  | .slice elems spare => uptoBulkAll elems + uptoBulkAll spare + 1
  | .agg parts => uptoBulkAll parts + 1
  | .iface _ d => uptoBulk d + 1
  | .map entries => uptoBulkEntries entries + 1
  | .held _ => 1
def uptoBulkAll {H : Type} : List (DataW H) → Nat
  | [] => 0
  | d :: r => uptoBulk d + uptoBulkAll r
def uptoBulkEntries {H : Type} : List (Lit × DataW H) → Nat
  | [] => 0
  | x :: r => uptoBulkEntry x + uptoBulkEntries r
def uptoBulkEntry {H : Type} : Lit × DataW H → Nat
  | (.string bytes, d) => bytes.length + uptoBulk d + 1
  | (_, d) => uptoBulk d + 1
 end
def uptoSmall : (H : Type) → List (DataW H) → Bool := fun _ ds => decide (uptoBulkAll ds ≤ 1048576)
def OpenSpec.upto (s : _root_.Go.ChangeSpec) : _root_.Go.OpenSpec := { _root_.Go.OpenSpec.ofChange s with cond := some uptoSmall }

/-- 'tidelaw6.DeltaNothing', WHERE WHAT IT READS IS OF BULK AT MOST 1048576: true; the input reads as it did. -/
def deltaNothingUptoRow : OpenClaim := { program := "ythhbiemnbkfobaagreat", sum := "6e3e82b5000762b191b47a353377873bce812721d5256d2d1bfa244c4d79b9ae", func := "tidemark/tidelaw6.DeltaNothing", spec := "deltaNothing", inPlace := ["internal/bytealg.abigen_runtime_cmpstring"], unfollowed := true, recurses := true, loops := true, apart := false, narrowed := true }
def DeltaNothingUptoSaid : Prop := deltaNothingUptoRow.holds Tryz.pinned (OpenSpec.upto deltaNothingSpec)

/-- 'tidelaw7.KeepRight', WHERE WHAT IT READS IS OF BULK AT MOST 1048576: true; the input reads as it did. -/
def keepRightUptoRow : OpenClaim := { program := "ythhbiemnbkfobaagreat", sum := "6e3e82b5000762b191b47a353377873bce812721d5256d2d1bfa244c4d79b9ae", func := "tidemark/tidelaw7.KeepRight", spec := "keepRight", inPlace := ["internal/bytealg.abigen_runtime_cmpstring"], unfollowed := true, recurses := true, loops := true, apart := false, narrowed := true }
def KeepRightUptoSaid : Prop := keepRightUptoRow.holds Tryz.pinned (OpenSpec.upto keepRightSpec)

/-- 'tidelaw7.KeepBack', WHERE WHAT IT READS IS OF BULK AT MOST 1048576: true; the input reads as it did. -/
def keepBackUptoRow : OpenClaim := { program := "ythhbiemnbkfobaagreat", sum := "6e3e82b5000762b191b47a353377873bce812721d5256d2d1bfa244c4d79b9ae", func := "tidemark/tidelaw7.KeepBack", spec := "keepBack", inPlace := ["internal/bytealg.abigen_runtime_cmpstring"], unfollowed := true, recurses := true, loops := true, apart := false, narrowed := true }
def KeepBackUptoSaid : Prop := keepBackUptoRow.holds Tryz.pinned (OpenSpec.upto keepBackSpec)

/-- 'tidelaw7.KeepOrder', WHERE WHAT IT READS IS OF BULK AT MOST 1048576: true; the input reads as it did. -/
def keepOrderUptoRow : OpenClaim := { program := "ythhbiemnbkfobaagreat", sum := "6e3e82b5000762b191b47a353377873bce812721d5256d2d1bfa244c4d79b9ae", func := "tidemark/tidelaw7.KeepOrder", spec := "keepOrder", inPlace := ["internal/bytealg.abigen_runtime_cmpstring"], unfollowed := true, recurses := true, loops := true, apart := false, narrowed := true }
def KeepOrderUptoSaid : Prop := keepOrderUptoRow.holds Tryz.pinned (OpenSpec.upto keepOrderSpec)

end Rows
end Go.Proofs.YthhbiemnbkfobaaGreat
