/-
  NARROWER THAN 'FOR EVERY INPUT', by the rows' own cells (each row's printed sentence says how): WindowTells: loops · FixTells: loops · FixQuick: loops.
  DERIVED. THE GIVEN ROWS OF THIS SEAT. 4 by the template 'for every input the law returns true; each argument reads behind the call as it read before'; 0 by the template 'total and deterministic' (their statements: YtflggnopgnoeiaaGreatTotals.lean).
  GIVEN WITH THE SEED: the statements are not yours to turn. If you find one false, say at which input.
  Laid BY PROGRAM, IN A SANDBOX (cutbox-rows.mjs): the forced cells as the released guide's own fill.sh prints them over the translation be2dd2e9d510fe56… (all of the seat's roots in one cut). By AI agents, Wed Nov 11 2026. No macro, syntax, notation, axiom, sorry.
-/
import Derived.Test.YtflggnopgnoeiaaGreatChecked
import GoSem.Claim
import GoSem.ClaimJoined
import GoSem.ClaimMapViews
import Derived.JoinedTies
import Derived.KernelRfl
namespace Go.Proofs.YtflggnopgnoeiaaGreat
/- THE CELL 'sum', in the pinned program and in every row, IS THE sha256 OF THE DUMP (.gsa) THAT YtflggnopgnoeiaaGreatProg.lean LOADS. Nothing in Lean hashes anything: it is a label: what it is worth is what the hold of that sum in a sandbox is worth. -/
noncomputable def Tryz.pinned : Pinned := { name := "ytflggnopgnoeiaagreat", sum := "be2dd2e9d510fe5604bea164891aa1fde5102bcbe753a74234530ee96f8573f8", checked := Tryz.checked }
namespace Rows
def none {H : Type} : Left H := { results := [], args := [] }

/-- 'tidelaw15.WindowTells': WHATEVER THE INPUT: true; the input reads as it did. -/
def windowTellsSpec : ChangeSpec := { name := "windowTells", fn := fun _ => fun
  | [d1, d2, d3, d4, d5] => { results := [.lit (.bool true)], args := [d1, d2, d3, d4, d5] }
  | _ => none }
def windowTellsRow : OpenClaim := { program := "ytflggnopgnoeiaagreat", sum := "be2dd2e9d510fe5604bea164891aa1fde5102bcbe753a74234530ee96f8573f8", func := "tidemark/tidelaw15.WindowTells", spec := "windowTells", inPlace := ["internal/bytealg.abigen_runtime_cmpstring"], unfollowed := true, recurses := true, loops := true, apart := false }
def WindowTellsSaid : Prop := windowTellsRow.holds Tryz.pinned (OpenSpec.ofChange windowTellsSpec)

/-- ITS FALSE NEIGHBOUR: 'it returns false'. Refute it at one input. -/
def windowTellsWrong : ChangeSpec := { name := "windowTells", fn := fun _ => fun
  | [d1, d2, d3, d4, d5] => { results := [.lit (.bool false)], args := [d1, d2, d3, d4, d5] }
  | _ => none }
def WindowTellsWrongFalsely : Prop := windowTellsRow.holds Tryz.pinned (OpenSpec.ofChange windowTellsWrong)

/-- 'tidelaw10.FixTells': WHATEVER THE INPUT: true; the input reads as it did. -/
def fixTellsSpec : ChangeSpec := { name := "fixTells", fn := fun _ => fun
  | [d1, d2, d3, d4] => { results := [.lit (.bool true)], args := [d1, d2, d3, d4] }
  | _ => none }
def fixTellsRow : OpenClaim := { program := "ytflggnopgnoeiaagreat", sum := "be2dd2e9d510fe5604bea164891aa1fde5102bcbe753a74234530ee96f8573f8", func := "tidemark/tidelaw10.FixTells", spec := "fixTells", inPlace := ["internal/bytealg.abigen_runtime_cmpstring"], unfollowed := true, recurses := true, loops := true, apart := false }
def FixTellsSaid : Prop := fixTellsRow.holds Tryz.pinned (OpenSpec.ofChange fixTellsSpec)

/-- ITS FALSE NEIGHBOUR: 'it returns false'. Refute it at one input. -/
def fixTellsWrong : ChangeSpec := { name := "fixTells", fn := fun _ => fun
  | [d1, d2, d3, d4] => { results := [.lit (.bool false)], args := [d1, d2, d3, d4] }
  | _ => none }
def FixTellsWrongFalsely : Prop := fixTellsRow.holds Tryz.pinned (OpenSpec.ofChange fixTellsWrong)

/-- 'tidelaw10.FixQuick': WHATEVER THE INPUT: true; the input reads as it did. -/
def fixQuickSpec : ChangeSpec := { name := "fixQuick", fn := fun _ => fun
  | [d1, d2, d3, d4] => { results := [.lit (.bool true)], args := [d1, d2, d3, d4] }
  | _ => none }
def fixQuickRow : OpenClaim := { program := "ytflggnopgnoeiaagreat", sum := "be2dd2e9d510fe5604bea164891aa1fde5102bcbe753a74234530ee96f8573f8", func := "tidemark/tidelaw10.FixQuick", spec := "fixQuick", inPlace := ["internal/bytealg.abigen_runtime_cmpstring"], unfollowed := true, recurses := true, loops := true, apart := false }
def FixQuickSaid : Prop := fixQuickRow.holds Tryz.pinned (OpenSpec.ofChange fixQuickSpec)

/-- ITS FALSE NEIGHBOUR: 'it returns false'. Refute it at one input. -/
def fixQuickWrong : ChangeSpec := { name := "fixQuick", fn := fun _ => fun
  | [d1, d2, d3, d4] => { results := [.lit (.bool false)], args := [d1, d2, d3, d4] }
  | _ => none }
def FixQuickWrongFalsely : Prop := fixQuickRow.holds Tryz.pinned (OpenSpec.ofChange fixQuickWrong)

/-- 'tidelaw10.FixPaths': WHATEVER THE INPUT: true; the input reads as it did. -/
def fixPathsSpec : ChangeSpec := { name := "fixPaths", fn := fun _ => fun
  | [d] => { results := [.lit (.bool true)], args := [d] }
  | _ => none }
def fixPathsRow : OpenClaim := { program := "ytflggnopgnoeiaagreat", sum := "be2dd2e9d510fe5604bea164891aa1fde5102bcbe753a74234530ee96f8573f8", func := "tidemark/tidelaw10.FixPaths", spec := "fixPaths", inPlace := ["internal/bytealg.abigen_runtime_cmpstring"], unfollowed := true, recurses := true, apart := false }
def FixPathsSaid : Prop := fixPathsRow.holds Tryz.pinned (OpenSpec.ofChange fixPathsSpec)

/-- ITS FALSE NEIGHBOUR: 'it returns false'. Refute it at one input. -/
def fixPathsWrong : ChangeSpec := { name := "fixPaths", fn := fun _ => fun
  | [d] => { results := [.lit (.bool false)], args := [d] }
  | _ => none }
def FixPathsWrongFalsely : Prop := fixPathsRow.holds Tryz.pinned (OpenSpec.ofChange fixPathsWrong)

/- THE SECOND FORM. 'bulk': how many values and letters a reading holds, each counted each time it is reached (what is shared counts as often as it is met; a slice's spare places count too). A statement '..UptoSaid' is the law's where the arguments, and the package variables that the reading takes, are together of bulk at most 1048576: NARROWER than '..Said'. Prove '..Said' where nothing that the law and all that it calls make is longer than what came in: it says more and counts as full. Else prove '..UptoSaid'. A law counts once. -/
mutual
def uptoBulk {H : Type} : DataW H → Nat
  | .lit (.string bytes) => bytes.length + 1
  | .lit _ => 1
  | .nil => 1
  | .ptr d => uptoBulk d + 1
  | .slice elems spare => uptoBulkAll elems + uptoBulkAll spare + 1
  | .agg parts => uptoBulkAll parts + 1
  | .iface _ d => uptoBulk d + 1
  | .map entries => uptoBulkEntries entries + 1
  | .held _ => 1
def uptoBulkAll {H : Type} : List (DataW H) → Nat
  | [] => 0
  | d :: r => uptoBulk d + uptoBulkAll r
def uptoBulkEntries {H : Type} : List (Lit × DataW H) → Nat
  | [] => 0
  | x :: r => uptoBulkEntry x + uptoBulkEntries r
def uptoBulkEntry {H : Type} : Lit × DataW H → Nat
  | (.string bytes, d) => bytes.length + uptoBulk d + 1
  | (_, d) => uptoBulk d + 1
 end
def uptoSmall : (H : Type) → List (DataW H) → Bool := fun _ ds => decide (uptoBulkAll ds ≤ 1048576)
def OpenSpec.upto (s : _root_.Go.ChangeSpec) : _root_.Go.OpenSpec := { _root_.Go.OpenSpec.ofChange s with cond := some uptoSmall }

/-- 'tidelaw15.WindowTells', WHERE WHAT IT READS IS OF BULK AT MOST 1048576: true; the input reads as it did. -/
def windowTellsUptoRow : OpenClaim := { program := "ytflggnopgnoeiaagreat", sum := "be2dd2e9d510fe5604bea164891aa1fde5102bcbe753a74234530ee96f8573f8", func := "tidemark/tidelaw15.WindowTells", spec := "windowTells", inPlace := ["internal/bytealg.abigen_runtime_cmpstring"], unfollowed := true, recurses := true, loops := true, apart := false, narrowed := true }
def WindowTellsUptoSaid : Prop := windowTellsUptoRow.holds Tryz.pinned (OpenSpec.upto windowTellsSpec)

/-- 'tidelaw10.FixTells', WHERE WHAT IT READS IS OF BULK AT MOST 1048576: true; the input reads as it did. -/
def fixTellsUptoRow : OpenClaim := { program := "ytflggnopgnoeiaagreat", sum := "be2dd2e9d510fe5604bea164891aa1fde5102bcbe753a74234530ee96f8573f8", func := "tidemark/tidelaw10.FixTells", spec := "fixTells", inPlace := ["internal/bytealg.abigen_runtime_cmpstring"], unfollowed := true, recurses := true, loops := true, apart := false, narrowed := true }
def FixTellsUptoSaid : Prop := fixTellsUptoRow.holds Tryz.pinned (OpenSpec.upto fixTellsSpec)

/-- 'tidelaw10.FixQuick', WHERE WHAT IT READS IS OF BULK AT MOST 1048576: true; the input reads as it did. -/
def fixQuickUptoRow : OpenClaim := { program := "ytflggnopgnoeiaagreat", sum := "be2dd2e9d510fe5604bea164891aa1fde5102bcbe753a74234530ee96f8573f8", func := "tidemark/tidelaw10.FixQuick", spec := "fixQuick", inPlace := ["internal/bytealg.abigen_runtime_cmpstring"], unfollowed := true, recurses := true, loops := true, apart := false, narrowed := true }
def FixQuickUptoSaid : Prop := fixQuickUptoRow.holds Tryz.pinned (OpenSpec.upto fixQuickSpec)

/-- 'tidelaw10.FixPaths', WHERE WHAT IT READS IS OF BULK AT MOST 1048576: true; the input reads as it did. -/
def fixPathsUptoRow : OpenClaim := { program := "ytflggnopgnoeiaagreat", sum := "be2dd2e9d510fe5604bea164891aa1fde5102bcbe753a74234530ee96f8573f8", func := "tidemark/tidelaw10.FixPaths", spec := "fixPaths", inPlace := ["internal/bytealg.abigen_runtime_cmpstring"], unfollowed := true, recurses := true, apart := false, narrowed := true }
def FixPathsUptoSaid : Prop := fixPathsUptoRow.holds Tryz.pinned (OpenSpec.upto fixPathsSpec)

end Rows
end Go.Proofs.YtflggnopgnoeiaaGreat
