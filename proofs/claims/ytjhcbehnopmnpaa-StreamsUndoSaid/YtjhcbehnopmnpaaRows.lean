/-
  NARROWER THAN 'FOR EVERY INPUT', by the rows' own cells (each row's printed sentence says how): ExprsTell: loops · ExprsTyped: loops · ExprsTurned: loops · ExprsColumns: loops · ExprsKnow: loops · ExprsChoose: loops.
  DERIVED. THE GIVEN ROWS OF THIS SEAT. 22 by the template 'for every input the law returns true; each argument reads behind the call as it read before'; 0 by the template 'total and deterministic' (their statements: YtjhcbehnopmnpaaTotals.lean).
  GIVEN WITH THE SEED: the statements are not yours to turn. If you find one false, say at which input.
  Laid BY PROGRAM, IN A SANDBOX (cutbox-rows.mjs): the forced cells as the released guide's own fill.sh prints them over the translation 05268511ce88fb1a… (all of the seat's roots in one cut). By AI agents, Wed Nov 11 2026. No macro, syntax, notation, axiom, sorry.
-/
import Derived.Test.YtjhcbehnopmnpaaChecked
import GoSem.Claim
import GoSem.ClaimJoined
import GoSem.ClaimMapViews
import Derived.JoinedTies
import Derived.KernelRfl
namespace Go.Proofs.Ytjhcbehnopmnpaa
/- THE CELL 'sum', in the pinned program and in every row, IS THE sha256 OF THE DUMP (.gsa) THAT YtjhcbehnopmnpaaProg.lean LOADS. Nothing in Lean hashes anything: it is a label: what it is worth is what the hold of that sum in a sandbox is worth. -/
noncomputable def Try.pinned : Pinned := { name := "ytjhcbehnopmnpaa", sum := "05268511ce88fb1a3a4eee0f80bdcd1c84c4d758880decb875486394215781df", checked := Try.checked }
namespace Rows
def none {H : Type} : Left H := { results := [], args := [] }

/-- 'tidelaw1.ValsRows': WHATEVER THE INPUT: true; the input reads as it did. -/
def valsRowsSpec : ChangeSpec := { name := "valsRows", fn := fun _ => fun
  | [d1, d2] => { results := [.lit (.bool true)], args := [d1, d2] }
  | _ => none }
def valsRowsRow : OpenClaim := { program := "ytjhcbehnopmnpaa", sum := "05268511ce88fb1a3a4eee0f80bdcd1c84c4d758880decb875486394215781df", func := "tidemark/tidelaw1.ValsRows", spec := "valsRows", inPlace := ["internal/bytealg.abigen_runtime_cmpstring"], apart := false }
def ValsRowsSaid : Prop := valsRowsRow.holds Try.pinned (OpenSpec.ofChange valsRowsSpec)

/-- ITS FALSE NEIGHBOUR: 'it returns false'. Refute it at one input. -/
def valsRowsWrong : ChangeSpec := { name := "valsRows", fn := fun _ => fun
  | [d1, d2] => { results := [.lit (.bool false)], args := [d1, d2] }
  | _ => none }
def ValsRowsWrongFalsely : Prop := valsRowsRow.holds Try.pinned (OpenSpec.ofChange valsRowsWrong)

/-- 'tidelaw1.ValsRing': WHATEVER THE INPUT: true; the input reads as it did. -/
def valsRingSpec : ChangeSpec := { name := "valsRing", fn := fun _ => fun
  | [d1, d2, d3] => { results := [.lit (.bool true)], args := [d1, d2, d3] }
  | _ => none }
def valsRingRow : OpenClaim := { program := "ytjhcbehnopmnpaa", sum := "05268511ce88fb1a3a4eee0f80bdcd1c84c4d758880decb875486394215781df", func := "tidemark/tidelaw1.ValsRing", spec := "valsRing", inPlace := ["internal/bytealg.abigen_runtime_cmpstring"], unfollowed := true, recurses := true, apart := false }
def ValsRingSaid : Prop := valsRingRow.holds Try.pinned (OpenSpec.ofChange valsRingSpec)

/-- ITS FALSE NEIGHBOUR: 'it returns false'. Refute it at one input. -/
def valsRingWrong : ChangeSpec := { name := "valsRing", fn := fun _ => fun
  | [d1, d2, d3] => { results := [.lit (.bool false)], args := [d1, d2, d3] }
  | _ => none }
def ValsRingWrongFalsely : Prop := valsRingRow.holds Try.pinned (OpenSpec.ofChange valsRingWrong)

/-- 'tidelaw1.ValsLogic': WHATEVER THE INPUT: true; the input reads as it did. -/
def valsLogicSpec : ChangeSpec := { name := "valsLogic", fn := fun _ => fun
  | [d1, d2, d3] => { results := [.lit (.bool true)], args := [d1, d2, d3] }
  | _ => none }
def valsLogicRow : OpenClaim := { program := "ytjhcbehnopmnpaa", sum := "05268511ce88fb1a3a4eee0f80bdcd1c84c4d758880decb875486394215781df", func := "tidemark/tidelaw1.ValsLogic", spec := "valsLogic", inPlace := ["internal/bytealg.abigen_runtime_cmpstring"], unfollowed := true, recurses := true, apart := false }
def ValsLogicSaid : Prop := valsLogicRow.holds Try.pinned (OpenSpec.ofChange valsLogicSpec)

/-- ITS FALSE NEIGHBOUR: 'it returns false'. Refute it at one input. -/
def valsLogicWrong : ChangeSpec := { name := "valsLogic", fn := fun _ => fun
  | [d1, d2, d3] => { results := [.lit (.bool false)], args := [d1, d2, d3] }
  | _ => none }
def ValsLogicWrongFalsely : Prop := valsLogicRow.holds Try.pinned (OpenSpec.ofChange valsLogicWrong)

/-- 'tidelaw1.ValsOrder': WHATEVER THE INPUT: true; the input reads as it did. -/
def valsOrderSpec : ChangeSpec := { name := "valsOrder", fn := fun _ => fun
  | [d1, d2, d3] => { results := [.lit (.bool true)], args := [d1, d2, d3] }
  | _ => none }
def valsOrderRow : OpenClaim := { program := "ytjhcbehnopmnpaa", sum := "05268511ce88fb1a3a4eee0f80bdcd1c84c4d758880decb875486394215781df", func := "tidemark/tidelaw1.ValsOrder", spec := "valsOrder", inPlace := ["internal/bytealg.abigen_runtime_cmpstring"], apart := false }
def ValsOrderSaid : Prop := valsOrderRow.holds Try.pinned (OpenSpec.ofChange valsOrderSpec)

/-- ITS FALSE NEIGHBOUR: 'it returns false'. Refute it at one input. -/
def valsOrderWrong : ChangeSpec := { name := "valsOrder", fn := fun _ => fun
  | [d1, d2, d3] => { results := [.lit (.bool false)], args := [d1, d2, d3] }
  | _ => none }
def ValsOrderWrongFalsely : Prop := valsOrderRow.holds Try.pinned (OpenSpec.ofChange valsOrderWrong)

/-- 'tidelaw1.ValsKnows': WHATEVER THE INPUT: true; the input reads as it did. -/
def valsKnowsSpec : ChangeSpec := { name := "valsKnows", fn := fun _ => fun
  | [d1, d2] => { results := [.lit (.bool true)], args := [d1, d2] }
  | _ => none }
def valsKnowsRow : OpenClaim := { program := "ytjhcbehnopmnpaa", sum := "05268511ce88fb1a3a4eee0f80bdcd1c84c4d758880decb875486394215781df", func := "tidemark/tidelaw1.ValsKnows", spec := "valsKnows", inPlace := ["internal/bytealg.abigen_runtime_cmpstring"], unfollowed := true, recurses := true, apart := false }
def ValsKnowsSaid : Prop := valsKnowsRow.holds Try.pinned (OpenSpec.ofChange valsKnowsSpec)

/-- ITS FALSE NEIGHBOUR: 'it returns false'. Refute it at one input. -/
def valsKnowsWrong : ChangeSpec := { name := "valsKnows", fn := fun _ => fun
  | [d1, d2] => { results := [.lit (.bool false)], args := [d1, d2] }
  | _ => none }
def ValsKnowsWrongFalsely : Prop := valsKnowsRow.holds Try.pinned (OpenSpec.ofChange valsKnowsWrong)

/-- 'tidelaw1.ValsTell': WHATEVER THE INPUT: true; the input reads as it did. -/
def valsTellSpec : ChangeSpec := { name := "valsTell", fn := fun _ => fun
  | [d1, d2, d3] => { results := [.lit (.bool true)], args := [d1, d2, d3] }
  | _ => none }
def valsTellRow : OpenClaim := { program := "ytjhcbehnopmnpaa", sum := "05268511ce88fb1a3a4eee0f80bdcd1c84c4d758880decb875486394215781df", func := "tidemark/tidelaw1.ValsTell", spec := "valsTell", inPlace := ["internal/bytealg.abigen_runtime_cmpstring"], apart := false }
def ValsTellSaid : Prop := valsTellRow.holds Try.pinned (OpenSpec.ofChange valsTellSpec)

/-- ITS FALSE NEIGHBOUR: 'it returns false'. Refute it at one input. -/
def valsTellWrong : ChangeSpec := { name := "valsTell", fn := fun _ => fun
  | [d1, d2, d3] => { results := [.lit (.bool false)], args := [d1, d2, d3] }
  | _ => none }
def ValsTellWrongFalsely : Prop := valsTellRow.holds Try.pinned (OpenSpec.ofChange valsTellWrong)

/-- 'tidelaw3.ExprsTell': WHATEVER THE INPUT: true; the input reads as it did. -/
def exprsTellSpec : ChangeSpec := { name := "exprsTell", fn := fun _ => fun
  | [d1, d2, d3] => { results := [.lit (.bool true)], args := [d1, d2, d3] }
  | _ => none }
def exprsTellRow : OpenClaim := { program := "ytjhcbehnopmnpaa", sum := "05268511ce88fb1a3a4eee0f80bdcd1c84c4d758880decb875486394215781df", func := "tidemark/tidelaw3.ExprsTell", spec := "exprsTell", inPlace := ["internal/bytealg.abigen_runtime_cmpstring"], unfollowed := true, recurses := true, loops := true, apart := false }
def ExprsTellSaid : Prop := exprsTellRow.holds Try.pinned (OpenSpec.ofChange exprsTellSpec)

/-- ITS FALSE NEIGHBOUR: 'it returns false'. Refute it at one input. -/
def exprsTellWrong : ChangeSpec := { name := "exprsTell", fn := fun _ => fun
  | [d1, d2, d3] => { results := [.lit (.bool false)], args := [d1, d2, d3] }
  | _ => none }
def ExprsTellWrongFalsely : Prop := exprsTellRow.holds Try.pinned (OpenSpec.ofChange exprsTellWrong)

/-- 'tidelaw3.ExprsTyped': WHATEVER THE INPUT: true; the input reads as it did. -/
def exprsTypedSpec : ChangeSpec := { name := "exprsTyped", fn := fun _ => fun
  | [d1, d2, d3] => { results := [.lit (.bool true)], args := [d1, d2, d3] }
  | _ => none }
def exprsTypedRow : OpenClaim := { program := "ytjhcbehnopmnpaa", sum := "05268511ce88fb1a3a4eee0f80bdcd1c84c4d758880decb875486394215781df", func := "tidemark/tidelaw3.ExprsTyped", spec := "exprsTyped", inPlace := ["internal/bytealg.abigen_runtime_cmpstring"], unfollowed := true, recurses := true, loops := true, apart := false }
def ExprsTypedSaid : Prop := exprsTypedRow.holds Try.pinned (OpenSpec.ofChange exprsTypedSpec)

/-- ITS FALSE NEIGHBOUR: 'it returns false'. Refute it at one input. -/
def exprsTypedWrong : ChangeSpec := { name := "exprsTyped", fn := fun _ => fun
  | [d1, d2, d3] => { results := [.lit (.bool false)], args := [d1, d2, d3] }
  | _ => none }
def ExprsTypedWrongFalsely : Prop := exprsTypedRow.holds Try.pinned (OpenSpec.ofChange exprsTypedWrong)

/-- 'tidelaw3.ExprsTurned': WHATEVER THE INPUT: true; the input reads as it did. -/
def exprsTurnedSpec : ChangeSpec := { name := "exprsTurned", fn := fun _ => fun
  | [d1, d2, d3, d4] => { results := [.lit (.bool true)], args := [d1, d2, d3, d4] }
  | _ => none }
def exprsTurnedRow : OpenClaim := { program := "ytjhcbehnopmnpaa", sum := "05268511ce88fb1a3a4eee0f80bdcd1c84c4d758880decb875486394215781df", func := "tidemark/tidelaw3.ExprsTurned", spec := "exprsTurned", inPlace := ["internal/bytealg.abigen_runtime_cmpstring"], unfollowed := true, recurses := true, loops := true, apart := false }
def ExprsTurnedSaid : Prop := exprsTurnedRow.holds Try.pinned (OpenSpec.ofChange exprsTurnedSpec)

/-- ITS FALSE NEIGHBOUR: 'it returns false'. Refute it at one input. -/
def exprsTurnedWrong : ChangeSpec := { name := "exprsTurned", fn := fun _ => fun
  | [d1, d2, d3, d4] => { results := [.lit (.bool false)], args := [d1, d2, d3, d4] }
  | _ => none }
def ExprsTurnedWrongFalsely : Prop := exprsTurnedRow.holds Try.pinned (OpenSpec.ofChange exprsTurnedWrong)

/-- 'tidelaw3.ExprsColumns': WHATEVER THE INPUT: true; the input reads as it did. -/
def exprsColumnsSpec : ChangeSpec := { name := "exprsColumns", fn := fun _ => fun
  | [d1, d2, d3, d4, d5] => { results := [.lit (.bool true)], args := [d1, d2, d3, d4, d5] }
  | _ => none }
def exprsColumnsRow : OpenClaim := { program := "ytjhcbehnopmnpaa", sum := "05268511ce88fb1a3a4eee0f80bdcd1c84c4d758880decb875486394215781df", func := "tidemark/tidelaw3.ExprsColumns", spec := "exprsColumns", inPlace := ["internal/bytealg.abigen_runtime_cmpstring"], unfollowed := true, recurses := true, loops := true, apart := false }
def ExprsColumnsSaid : Prop := exprsColumnsRow.holds Try.pinned (OpenSpec.ofChange exprsColumnsSpec)

/-- ITS FALSE NEIGHBOUR: 'it returns false'. Refute it at one input. -/
def exprsColumnsWrong : ChangeSpec := { name := "exprsColumns", fn := fun _ => fun
  | [d1, d2, d3, d4, d5] => { results := [.lit (.bool false)], args := [d1, d2, d3, d4, d5] }
  | _ => none }
def ExprsColumnsWrongFalsely : Prop := exprsColumnsRow.holds Try.pinned (OpenSpec.ofChange exprsColumnsWrong)

/-- 'tidelaw3.ExprsKnow': WHATEVER THE INPUT: true; the input reads as it did. -/
def exprsKnowSpec : ChangeSpec := { name := "exprsKnow", fn := fun _ => fun
  | [d1, d2, d3, d4, d5] => { results := [.lit (.bool true)], args := [d1, d2, d3, d4, d5] }
  | _ => none }
def exprsKnowRow : OpenClaim := { program := "ytjhcbehnopmnpaa", sum := "05268511ce88fb1a3a4eee0f80bdcd1c84c4d758880decb875486394215781df", func := "tidemark/tidelaw3.ExprsKnow", spec := "exprsKnow", inPlace := ["internal/bytealg.abigen_runtime_cmpstring"], unfollowed := true, recurses := true, loops := true, apart := false }
def ExprsKnowSaid : Prop := exprsKnowRow.holds Try.pinned (OpenSpec.ofChange exprsKnowSpec)

/-- ITS FALSE NEIGHBOUR: 'it returns false'. Refute it at one input. -/
def exprsKnowWrong : ChangeSpec := { name := "exprsKnow", fn := fun _ => fun
  | [d1, d2, d3, d4, d5] => { results := [.lit (.bool false)], args := [d1, d2, d3, d4, d5] }
  | _ => none }
def ExprsKnowWrongFalsely : Prop := exprsKnowRow.holds Try.pinned (OpenSpec.ofChange exprsKnowWrong)

/-- 'tidelaw3.ExprsChoose': WHATEVER THE INPUT: true; the input reads as it did. -/
def exprsChooseSpec : ChangeSpec := { name := "exprsChoose", fn := fun _ => fun
  | [d1, d2, d3, d4, d5] => { results := [.lit (.bool true)], args := [d1, d2, d3, d4, d5] }
  | _ => none }
def exprsChooseRow : OpenClaim := { program := "ytjhcbehnopmnpaa", sum := "05268511ce88fb1a3a4eee0f80bdcd1c84c4d758880decb875486394215781df", func := "tidemark/tidelaw3.ExprsChoose", spec := "exprsChoose", inPlace := ["internal/bytealg.abigen_runtime_cmpstring"], unfollowed := true, recurses := true, loops := true, apart := false }
def ExprsChooseSaid : Prop := exprsChooseRow.holds Try.pinned (OpenSpec.ofChange exprsChooseSpec)

/-- ITS FALSE NEIGHBOUR: 'it returns false'. Refute it at one input. -/
def exprsChooseWrong : ChangeSpec := { name := "exprsChoose", fn := fun _ => fun
  | [d1, d2, d3, d4, d5] => { results := [.lit (.bool false)], args := [d1, d2, d3, d4, d5] }
  | _ => none }
def ExprsChooseWrongFalsely : Prop := exprsChooseRow.holds Try.pinned (OpenSpec.ofChange exprsChooseWrong)

/-- 'tidelaw2.ZsetsTell': WHATEVER THE INPUT: true; the input reads as it did. -/
def zsetsTellSpec : ChangeSpec := { name := "zsetsTell", fn := fun _ => fun
  | [d1, d2] => { results := [.lit (.bool true)], args := [d1, d2] }
  | _ => none }
def zsetsTellRow : OpenClaim := { program := "ytjhcbehnopmnpaa", sum := "05268511ce88fb1a3a4eee0f80bdcd1c84c4d758880decb875486394215781df", func := "tidemark/tidelaw2.ZsetsTell", spec := "zsetsTell", inPlace := ["internal/bytealg.abigen_runtime_cmpstring"], unfollowed := true, recurses := true, apart := false }
def ZsetsTellSaid : Prop := zsetsTellRow.holds Try.pinned (OpenSpec.ofChange zsetsTellSpec)

/-- ITS FALSE NEIGHBOUR: 'it returns false'. Refute it at one input. -/
def zsetsTellWrong : ChangeSpec := { name := "zsetsTell", fn := fun _ => fun
  | [d1, d2] => { results := [.lit (.bool false)], args := [d1, d2] }
  | _ => none }
def ZsetsTellWrongFalsely : Prop := zsetsTellRow.holds Try.pinned (OpenSpec.ofChange zsetsTellWrong)

/-- 'tidelaw2.ZsetsForm': WHATEVER THE INPUT: true; the input reads as it did. -/
def zsetsFormSpec : ChangeSpec := { name := "zsetsForm", fn := fun _ => fun
  | [d1, d2] => { results := [.lit (.bool true)], args := [d1, d2] }
  | _ => none }
def zsetsFormRow : OpenClaim := { program := "ytjhcbehnopmnpaa", sum := "05268511ce88fb1a3a4eee0f80bdcd1c84c4d758880decb875486394215781df", func := "tidemark/tidelaw2.ZsetsForm", spec := "zsetsForm", inPlace := ["internal/bytealg.abigen_runtime_cmpstring"], unfollowed := true, recurses := true, apart := false }
def ZsetsFormSaid : Prop := zsetsFormRow.holds Try.pinned (OpenSpec.ofChange zsetsFormSpec)

/-- ITS FALSE NEIGHBOUR: 'it returns false'. Refute it at one input. -/
def zsetsFormWrong : ChangeSpec := { name := "zsetsForm", fn := fun _ => fun
  | [d1, d2] => { results := [.lit (.bool false)], args := [d1, d2] }
  | _ => none }
def ZsetsFormWrongFalsely : Prop := zsetsFormRow.holds Try.pinned (OpenSpec.ofChange zsetsFormWrong)

/-- 'tidelaw2.ZsetsOnce': WHATEVER THE INPUT: true; the input reads as it did. -/
def zsetsOnceSpec : ChangeSpec := { name := "zsetsOnce", fn := fun _ => fun
  | [d] => { results := [.lit (.bool true)], args := [d] }
  | _ => none }
def zsetsOnceRow : OpenClaim := { program := "ytjhcbehnopmnpaa", sum := "05268511ce88fb1a3a4eee0f80bdcd1c84c4d758880decb875486394215781df", func := "tidemark/tidelaw2.ZsetsOnce", spec := "zsetsOnce", inPlace := ["internal/bytealg.abigen_runtime_cmpstring"], unfollowed := true, recurses := true, apart := false }
def ZsetsOnceSaid : Prop := zsetsOnceRow.holds Try.pinned (OpenSpec.ofChange zsetsOnceSpec)

/-- ITS FALSE NEIGHBOUR: 'it returns false'. Refute it at one input. -/
def zsetsOnceWrong : ChangeSpec := { name := "zsetsOnce", fn := fun _ => fun
  | [d] => { results := [.lit (.bool false)], args := [d] }
  | _ => none }
def ZsetsOnceWrongFalsely : Prop := zsetsOnceRow.holds Try.pinned (OpenSpec.ofChange zsetsOnceWrong)

/-- 'tidetop.Names': WHATEVER THE INPUT: true; the input reads as it did. -/
def namesSpec : ChangeSpec := { name := "names", fn := fun _ => fun
  | [] => { results := [.lit (.bool true)], args := [] }
  | _ => none }
def namesRow : OpenClaim := { program := "ytjhcbehnopmnpaa", sum := "05268511ce88fb1a3a4eee0f80bdcd1c84c4d758880decb875486394215781df", func := "tidemark/tidetop.Names", spec := "names", apart := false }
def NamesSaid : Prop := namesRow.holds Try.pinned (OpenSpec.ofChange namesSpec)

/-- ITS FALSE NEIGHBOUR: 'it returns false'. Refute it at one input. -/
def namesWrong : ChangeSpec := { name := "names", fn := fun _ => fun
  | [] => { results := [.lit (.bool false)], args := [] }
  | _ => none }
def NamesWrongFalsely : Prop := namesRow.holds Try.pinned (OpenSpec.ofChange namesWrong)

/-- 'tidelaw2.ZsetsReckon': WHATEVER THE INPUT: true; the input reads as it did. -/
def zsetsReckonSpec : ChangeSpec := { name := "zsetsReckon", fn := fun _ => fun
  | [d1, d2] => { results := [.lit (.bool true)], args := [d1, d2] }
  | _ => none }
def zsetsReckonRow : OpenClaim := { program := "ytjhcbehnopmnpaa", sum := "05268511ce88fb1a3a4eee0f80bdcd1c84c4d758880decb875486394215781df", func := "tidemark/tidelaw2.ZsetsReckon", spec := "zsetsReckon", inPlace := ["internal/bytealg.abigen_runtime_cmpstring"], unfollowed := true, recurses := true, apart := false }
def ZsetsReckonSaid : Prop := zsetsReckonRow.holds Try.pinned (OpenSpec.ofChange zsetsReckonSpec)

/-- ITS FALSE NEIGHBOUR: 'it returns false'. Refute it at one input. -/
def zsetsReckonWrong : ChangeSpec := { name := "zsetsReckon", fn := fun _ => fun
  | [d1, d2] => { results := [.lit (.bool false)], args := [d1, d2] }
  | _ => none }
def ZsetsReckonWrongFalsely : Prop := zsetsReckonRow.holds Try.pinned (OpenSpec.ofChange zsetsReckonWrong)

/-- 'tidelaw8.StreamsUndo': WHATEVER THE INPUT: true; the input reads as it did. -/
def streamsUndoSpec : ChangeSpec := { name := "streamsUndo", fn := fun _ => fun
  | [d] => { results := [.lit (.bool true)], args := [d] }
  | _ => none }
def streamsUndoRow : OpenClaim := { program := "ytjhcbehnopmnpaa", sum := "05268511ce88fb1a3a4eee0f80bdcd1c84c4d758880decb875486394215781df", func := "tidemark/tidelaw8.StreamsUndo", spec := "streamsUndo", inPlace := ["internal/bytealg.abigen_runtime_cmpstring"], unfollowed := true, recurses := true, apart := false }
def StreamsUndoSaid : Prop := streamsUndoRow.holds Try.pinned (OpenSpec.ofChange streamsUndoSpec)

/-- ITS FALSE NEIGHBOUR: 'it returns false'. Refute it at one input. -/
def streamsUndoWrong : ChangeSpec := { name := "streamsUndo", fn := fun _ => fun
  | [d] => { results := [.lit (.bool false)], args := [d] }
  | _ => none }
def StreamsUndoWrongFalsely : Prop := streamsUndoRow.holds Try.pinned (OpenSpec.ofChange streamsUndoWrong)

/-- 'tidelaw2.ZsetsPlaces': WHATEVER THE INPUT: true; the input reads as it did. -/
def zsetsPlacesSpec : ChangeSpec := { name := "zsetsPlaces", fn := fun _ => fun
  | [d1, d2, d3] => { results := [.lit (.bool true)], args := [d1, d2, d3] }
  | _ => none }
def zsetsPlacesRow : OpenClaim := { program := "ytjhcbehnopmnpaa", sum := "05268511ce88fb1a3a4eee0f80bdcd1c84c4d758880decb875486394215781df", func := "tidemark/tidelaw2.ZsetsPlaces", spec := "zsetsPlaces", inPlace := ["internal/bytealg.abigen_runtime_cmpstring"], unfollowed := true, recurses := true, apart := false }
def ZsetsPlacesSaid : Prop := zsetsPlacesRow.holds Try.pinned (OpenSpec.ofChange zsetsPlacesSpec)

/-- ITS FALSE NEIGHBOUR: 'it returns false'. Refute it at one input. -/
def zsetsPlacesWrong : ChangeSpec := { name := "zsetsPlaces", fn := fun _ => fun
  | [d1, d2, d3] => { results := [.lit (.bool false)], args := [d1, d2, d3] }
  | _ => none }
def ZsetsPlacesWrongFalsely : Prop := zsetsPlacesRow.holds Try.pinned (OpenSpec.ofChange zsetsPlacesWrong)

/-- 'tidelaw8.StreamsTell': WHATEVER THE INPUT: true; the input reads as it did. -/
def streamsTellSpec : ChangeSpec := { name := "streamsTell", fn := fun _ => fun
  | [d] => { results := [.lit (.bool true)], args := [d] }
  | _ => none }
def streamsTellRow : OpenClaim := { program := "ytjhcbehnopmnpaa", sum := "05268511ce88fb1a3a4eee0f80bdcd1c84c4d758880decb875486394215781df", func := "tidemark/tidelaw8.StreamsTell", spec := "streamsTell", inPlace := ["internal/bytealg.abigen_runtime_cmpstring"], unfollowed := true, recurses := true, apart := false }
def StreamsTellSaid : Prop := streamsTellRow.holds Try.pinned (OpenSpec.ofChange streamsTellSpec)

/-- ITS FALSE NEIGHBOUR: 'it returns false'. Refute it at one input. -/
def streamsTellWrong : ChangeSpec := { name := "streamsTell", fn := fun _ => fun
  | [d] => { results := [.lit (.bool false)], args := [d] }
  | _ => none }
def StreamsTellWrongFalsely : Prop := streamsTellRow.holds Try.pinned (OpenSpec.ofChange streamsTellWrong)

/-- 'tidelaw8.StreamsDelay': WHATEVER THE INPUT: true; the input reads as it did. -/
def streamsDelaySpec : ChangeSpec := { name := "streamsDelay", fn := fun _ => fun
  | [d] => { results := [.lit (.bool true)], args := [d] }
  | _ => none }
def streamsDelayRow : OpenClaim := { program := "ytjhcbehnopmnpaa", sum := "05268511ce88fb1a3a4eee0f80bdcd1c84c4d758880decb875486394215781df", func := "tidemark/tidelaw8.StreamsDelay", spec := "streamsDelay", inPlace := ["internal/bytealg.abigen_runtime_cmpstring"], unfollowed := true, recurses := true, apart := false }
def StreamsDelaySaid : Prop := streamsDelayRow.holds Try.pinned (OpenSpec.ofChange streamsDelaySpec)

/-- ITS FALSE NEIGHBOUR: 'it returns false'. Refute it at one input. -/
def streamsDelayWrong : ChangeSpec := { name := "streamsDelay", fn := fun _ => fun
  | [d] => { results := [.lit (.bool false)], args := [d] }
  | _ => none }
def StreamsDelayWrongFalsely : Prop := streamsDelayRow.holds Try.pinned (OpenSpec.ofChange streamsDelayWrong)

/-- 'tidelaw2.ZsetsGroup': WHATEVER THE INPUT: true; the input reads as it did. -/
def zsetsGroupSpec : ChangeSpec := { name := "zsetsGroup", fn := fun _ => fun
  | [d1, d2, d3] => { results := [.lit (.bool true)], args := [d1, d2, d3] }
  | _ => none }
def zsetsGroupRow : OpenClaim := { program := "ytjhcbehnopmnpaa", sum := "05268511ce88fb1a3a4eee0f80bdcd1c84c4d758880decb875486394215781df", func := "tidemark/tidelaw2.ZsetsGroup", spec := "zsetsGroup", inPlace := ["internal/bytealg.abigen_runtime_cmpstring"], unfollowed := true, recurses := true, apart := false }
def ZsetsGroupSaid : Prop := zsetsGroupRow.holds Try.pinned (OpenSpec.ofChange zsetsGroupSpec)

/-- ITS FALSE NEIGHBOUR: 'it returns false'. Refute it at one input. -/
def zsetsGroupWrong : ChangeSpec := { name := "zsetsGroup", fn := fun _ => fun
  | [d1, d2, d3] => { results := [.lit (.bool false)], args := [d1, d2, d3] }
  | _ => none }
def ZsetsGroupWrongFalsely : Prop := zsetsGroupRow.holds Try.pinned (OpenSpec.ofChange zsetsGroupWrong)

/- THE SECOND FORM. 'bulk': how many values and letters a reading holds, each counted each time it is reached (what is shared counts as often as it is met; a slice's spare places count too). A statement '..UptoSaid' is the law's where the arguments, and the package variables that the reading takes, are together of bulk at most 1048576: NARROWER than '..Said'. Prove '..Said' where nothing that the law and all that it calls make is longer than what came in: it says more and counts as full. Else prove '..UptoSaid'. A law counts once. -/
mutual
def uptoBulk {H : Type} : DataW H → Nat
  | .lit (.string bytes) => bytes.length + 1
  | .lit _ => 1
  | .nil => 1
  | .ptr d => uptoBulk d + 1
  | .slice elems spare => uptoBulkAll elems + uptoBulkAll spare + 1
  | .agg parts => uptoBulkAll parts + 1
  | .iface _ d => uptoBulk d + 1
  | .map entries => uptoBulkEntries entries + 1
  | .held _ => 1
def uptoBulkAll {H : Type} : List (DataW H) → Nat
  | [] => 0
  | d :: r => uptoBulk d + uptoBulkAll r
def uptoBulkEntries {H : Type} : List (Lit × DataW H) → Nat
  | [] => 0
  | x :: r => uptoBulkEntry x + uptoBulkEntries r
def uptoBulkEntry {H : Type} : Lit × DataW H → Nat
  | (.string bytes, d) => bytes.length + uptoBulk d + 1
  | (_, d) => uptoBulk d + 1
 end
def uptoSmall : (H : Type) → List (DataW H) → Bool := fun _ ds => decide (uptoBulkAll ds ≤ 1048576)
def OpenSpec.upto (s : _root_.Go.ChangeSpec) : _root_.Go.OpenSpec := { _root_.Go.OpenSpec.ofChange s with cond := some uptoSmall }

/-- 'tidelaw1.ValsRows', WHERE WHAT IT READS IS OF BULK AT MOST 1048576: true; the input reads as it did. -/
def valsRowsUptoRow : OpenClaim := { program := "ytjhcbehnopmnpaa", sum := "05268511ce88fb1a3a4eee0f80bdcd1c84c4d758880decb875486394215781df", func := "tidemark/tidelaw1.ValsRows", spec := "valsRows", inPlace := ["internal/bytealg.abigen_runtime_cmpstring"], apart := false, narrowed := true }
def ValsRowsUptoSaid : Prop := valsRowsUptoRow.holds Try.pinned (OpenSpec.upto valsRowsSpec)

/-- 'tidelaw1.ValsRing', WHERE WHAT IT READS IS OF BULK AT MOST 1048576: true; the input reads as it did. -/
def valsRingUptoRow : OpenClaim := { program := "ytjhcbehnopmnpaa", sum := "05268511ce88fb1a3a4eee0f80bdcd1c84c4d758880decb875486394215781df", func := "tidemark/tidelaw1.ValsRing", spec := "valsRing", inPlace := ["internal/bytealg.abigen_runtime_cmpstring"], unfollowed := true, recurses := true, apart := false, narrowed := true }
def ValsRingUptoSaid : Prop := valsRingUptoRow.holds Try.pinned (OpenSpec.upto valsRingSpec)

/-- 'tidelaw1.ValsLogic', WHERE WHAT IT READS IS OF BULK AT MOST 1048576: true; the input reads as it did. -/
def valsLogicUptoRow : OpenClaim := { program := "ytjhcbehnopmnpaa", sum := "05268511ce88fb1a3a4eee0f80bdcd1c84c4d758880decb875486394215781df", func := "tidemark/tidelaw1.ValsLogic", spec := "valsLogic", inPlace := ["internal/bytealg.abigen_runtime_cmpstring"], unfollowed := true, recurses := true, apart := false, narrowed := true }
def ValsLogicUptoSaid : Prop := valsLogicUptoRow.holds Try.pinned (OpenSpec.upto valsLogicSpec)

/-- 'tidelaw1.ValsOrder', WHERE WHAT IT READS IS OF BULK AT MOST 1048576: true; the input reads as it did. -/
def valsOrderUptoRow : OpenClaim := { program := "ytjhcbehnopmnpaa", sum := "05268511ce88fb1a3a4eee0f80bdcd1c84c4d758880decb875486394215781df", func := "tidemark/tidelaw1.ValsOrder", spec := "valsOrder", inPlace := ["internal/bytealg.abigen_runtime_cmpstring"], apart := false, narrowed := true }
def ValsOrderUptoSaid : Prop := valsOrderUptoRow.holds Try.pinned (OpenSpec.upto valsOrderSpec)

/-- 'tidelaw1.ValsKnows', WHERE WHAT IT READS IS OF BULK AT MOST 1048576: true; the input reads as it did. -/
def valsKnowsUptoRow : OpenClaim := { program := "ytjhcbehnopmnpaa", sum := "05268511ce88fb1a3a4eee0f80bdcd1c84c4d758880decb875486394215781df", func := "tidemark/tidelaw1.ValsKnows", spec := "valsKnows", inPlace := ["internal/bytealg.abigen_runtime_cmpstring"], unfollowed := true, recurses := true, apart := false, narrowed := true }
def ValsKnowsUptoSaid : Prop := valsKnowsUptoRow.holds Try.pinned (OpenSpec.upto valsKnowsSpec)

/-- 'tidelaw1.ValsTell', WHERE WHAT IT READS IS OF BULK AT MOST 1048576: true; the input reads as it did. -/
def valsTellUptoRow : OpenClaim := { program := "ytjhcbehnopmnpaa", sum := "05268511ce88fb1a3a4eee0f80bdcd1c84c4d758880decb875486394215781df", func := "tidemark/tidelaw1.ValsTell", spec := "valsTell", inPlace := ["internal/bytealg.abigen_runtime_cmpstring"], apart := false, narrowed := true }
def ValsTellUptoSaid : Prop := valsTellUptoRow.holds Try.pinned (OpenSpec.upto valsTellSpec)

/-- 'tidelaw3.ExprsTell', WHERE WHAT IT READS IS OF BULK AT MOST 1048576: true; the input reads as it did. -/
def exprsTellUptoRow : OpenClaim := { program := "ytjhcbehnopmnpaa", sum := "05268511ce88fb1a3a4eee0f80bdcd1c84c4d758880decb875486394215781df", func := "tidemark/tidelaw3.ExprsTell", spec := "exprsTell", inPlace := ["internal/bytealg.abigen_runtime_cmpstring"], unfollowed := true, recurses := true, loops := true, apart := false, narrowed := true }
def ExprsTellUptoSaid : Prop := exprsTellUptoRow.holds Try.pinned (OpenSpec.upto exprsTellSpec)

/-- 'tidelaw3.ExprsTyped', WHERE WHAT IT READS IS OF BULK AT MOST 1048576: true; the input reads as it did. -/
def exprsTypedUptoRow : OpenClaim := { program := "ytjhcbehnopmnpaa", sum := "05268511ce88fb1a3a4eee0f80bdcd1c84c4d758880decb875486394215781df", func := "tidemark/tidelaw3.ExprsTyped", spec := "exprsTyped", inPlace := ["internal/bytealg.abigen_runtime_cmpstring"], unfollowed := true, recurses := true, loops := true, apart := false, narrowed := true }
def ExprsTypedUptoSaid : Prop := exprsTypedUptoRow.holds Try.pinned (OpenSpec.upto exprsTypedSpec)

/-- 'tidelaw3.ExprsTurned', WHERE WHAT IT READS IS OF BULK AT MOST 1048576: true; the input reads as it did. -/
def exprsTurnedUptoRow : OpenClaim := { program := "ytjhcbehnopmnpaa", sum := "05268511ce88fb1a3a4eee0f80bdcd1c84c4d758880decb875486394215781df", func := "tidemark/tidelaw3.ExprsTurned", spec := "exprsTurned", inPlace := ["internal/bytealg.abigen_runtime_cmpstring"], unfollowed := true, recurses := true, loops := true, apart := false, narrowed := true }
def ExprsTurnedUptoSaid : Prop := exprsTurnedUptoRow.holds Try.pinned (OpenSpec.upto exprsTurnedSpec)

/-- 'tidelaw3.ExprsColumns', WHERE WHAT IT READS IS OF BULK AT MOST 1048576: true; the input reads as it did. -/
def exprsColumnsUptoRow : OpenClaim := { program := "ytjhcbehnopmnpaa", sum := "05268511ce88fb1a3a4eee0f80bdcd1c84c4d758880decb875486394215781df", func := "tidemark/tidelaw3.ExprsColumns", spec := "exprsColumns", inPlace := ["internal/bytealg.abigen_runtime_cmpstring"], unfollowed := true, recurses := true, loops := true, apart := false, narrowed := true }
def ExprsColumnsUptoSaid : Prop := exprsColumnsUptoRow.holds Try.pinned (OpenSpec.upto exprsColumnsSpec)

/-- 'tidelaw3.ExprsKnow', WHERE WHAT IT READS IS OF BULK AT MOST 1048576: true; the input reads as it did. -/
def exprsKnowUptoRow : OpenClaim := { program := "ytjhcbehnopmnpaa", sum := "05268511ce88fb1a3a4eee0f80bdcd1c84c4d758880decb875486394215781df", func := "tidemark/tidelaw3.ExprsKnow", spec := "exprsKnow", inPlace := ["internal/bytealg.abigen_runtime_cmpstring"], unfollowed := true, recurses := true, loops := true, apart := false, narrowed := true }
def ExprsKnowUptoSaid : Prop := exprsKnowUptoRow.holds Try.pinned (OpenSpec.upto exprsKnowSpec)

/-- 'tidelaw3.ExprsChoose', WHERE WHAT IT READS IS OF BULK AT MOST 1048576: true; the input reads as it did. -/
def exprsChooseUptoRow : OpenClaim := { program := "ytjhcbehnopmnpaa", sum := "05268511ce88fb1a3a4eee0f80bdcd1c84c4d758880decb875486394215781df", func := "tidemark/tidelaw3.ExprsChoose", spec := "exprsChoose", inPlace := ["internal/bytealg.abigen_runtime_cmpstring"], unfollowed := true, recurses := true, loops := true, apart := false, narrowed := true }
def ExprsChooseUptoSaid : Prop := exprsChooseUptoRow.holds Try.pinned (OpenSpec.upto exprsChooseSpec)

/-- 'tidelaw2.ZsetsTell', WHERE WHAT IT READS IS OF BULK AT MOST 1048576: true; the input reads as it did. -/
def zsetsTellUptoRow : OpenClaim := { program := "ytjhcbehnopmnpaa", sum := "05268511ce88fb1a3a4eee0f80bdcd1c84c4d758880decb875486394215781df", func := "tidemark/tidelaw2.ZsetsTell", spec := "zsetsTell", inPlace := ["internal/bytealg.abigen_runtime_cmpstring"], unfollowed := true, recurses := true, apart := false, narrowed := true }
def ZsetsTellUptoSaid : Prop := zsetsTellUptoRow.holds Try.pinned (OpenSpec.upto zsetsTellSpec)

/-- 'tidelaw2.ZsetsForm', WHERE WHAT IT READS IS OF BULK AT MOST 1048576: true; the input reads as it did. -/
def zsetsFormUptoRow : OpenClaim := { program := "ytjhcbehnopmnpaa", sum := "05268511ce88fb1a3a4eee0f80bdcd1c84c4d758880decb875486394215781df", func := "tidemark/tidelaw2.ZsetsForm", spec := "zsetsForm", inPlace := ["internal/bytealg.abigen_runtime_cmpstring"], unfollowed := true, recurses := true, apart := false, narrowed := true }
def ZsetsFormUptoSaid : Prop := zsetsFormUptoRow.holds Try.pinned (OpenSpec.upto zsetsFormSpec)

/-- 'tidelaw2.ZsetsOnce', WHERE WHAT IT READS IS OF BULK AT MOST 1048576: true; the input reads as it did. -/
def zsetsOnceUptoRow : OpenClaim := { program := "ytjhcbehnopmnpaa", sum := "05268511ce88fb1a3a4eee0f80bdcd1c84c4d758880decb875486394215781df", func := "tidemark/tidelaw2.ZsetsOnce", spec := "zsetsOnce", inPlace := ["internal/bytealg.abigen_runtime_cmpstring"], unfollowed := true, recurses := true, apart := false, narrowed := true }
def ZsetsOnceUptoSaid : Prop := zsetsOnceUptoRow.holds Try.pinned (OpenSpec.upto zsetsOnceSpec)

/-- 'tidetop.Names', WHERE WHAT IT READS IS OF BULK AT MOST 1048576: true; the input reads as it did. -/
def namesUptoRow : OpenClaim := { program := "ytjhcbehnopmnpaa", sum := "05268511ce88fb1a3a4eee0f80bdcd1c84c4d758880decb875486394215781df", func := "tidemark/tidetop.Names", spec := "names", apart := false, narrowed := true }
def NamesUptoSaid : Prop := namesUptoRow.holds Try.pinned (OpenSpec.upto namesSpec)

/-- 'tidelaw2.ZsetsReckon', WHERE WHAT IT READS IS OF BULK AT MOST 1048576: true; the input reads as it did. -/
def zsetsReckonUptoRow : OpenClaim := { program := "ytjhcbehnopmnpaa", sum := "05268511ce88fb1a3a4eee0f80bdcd1c84c4d758880decb875486394215781df", func := "tidemark/tidelaw2.ZsetsReckon", spec := "zsetsReckon", inPlace := ["internal/bytealg.abigen_runtime_cmpstring"], unfollowed := true, recurses := true, apart := false, narrowed := true }
def ZsetsReckonUptoSaid : Prop := zsetsReckonUptoRow.holds Try.pinned (OpenSpec.upto zsetsReckonSpec)

/-- 'tidelaw8.StreamsUndo', WHERE WHAT IT READS IS OF BULK AT MOST 1048576: true; the input reads as it did. -/
def streamsUndoUptoRow : OpenClaim := { program := "ytjhcbehnopmnpaa", sum := "05268511ce88fb1a3a4eee0f80bdcd1c84c4d758880decb875486394215781df", func := "tidemark/tidelaw8.StreamsUndo", spec := "streamsUndo", inPlace := ["internal/bytealg.abigen_runtime_cmpstring"], unfollowed := true, recurses := true, apart := false, narrowed := true }
def StreamsUndoUptoSaid : Prop := streamsUndoUptoRow.holds Try.pinned (OpenSpec.upto streamsUndoSpec)

/-- 'tidelaw2.ZsetsPlaces', WHERE WHAT IT READS IS OF BULK AT MOST 1048576: true; the input reads as it did. -/
def zsetsPlacesUptoRow : OpenClaim := { program := "ytjhcbehnopmnpaa", sum := "05268511ce88fb1a3a4eee0f80bdcd1c84c4d758880decb875486394215781df", func := "tidemark/tidelaw2.ZsetsPlaces", spec := "zsetsPlaces", inPlace := ["internal/bytealg.abigen_runtime_cmpstring"], unfollowed := true, recurses := true, apart := false, narrowed := true }
def ZsetsPlacesUptoSaid : Prop := zsetsPlacesUptoRow.holds Try.pinned (OpenSpec.upto zsetsPlacesSpec)

/-- 'tidelaw8.StreamsTell', WHERE WHAT IT READS IS OF BULK AT MOST 1048576: true; the input reads as it did. -/
def streamsTellUptoRow : OpenClaim := { program := "ytjhcbehnopmnpaa", sum := "05268511ce88fb1a3a4eee0f80bdcd1c84c4d758880decb875486394215781df", func := "tidemark/tidelaw8.StreamsTell", spec := "streamsTell", inPlace := ["internal/bytealg.abigen_runtime_cmpstring"], unfollowed := true, recurses := true, apart := false, narrowed := true }
def StreamsTellUptoSaid : Prop := streamsTellUptoRow.holds Try.pinned (OpenSpec.upto streamsTellSpec)

/-- 'tidelaw8.StreamsDelay', WHERE WHAT IT READS IS OF BULK AT MOST 1048576: true; the input reads as it did. -/
def streamsDelayUptoRow : OpenClaim := { program := "ytjhcbehnopmnpaa", sum := "05268511ce88fb1a3a4eee0f80bdcd1c84c4d758880decb875486394215781df", func := "tidemark/tidelaw8.StreamsDelay", spec := "streamsDelay", inPlace := ["internal/bytealg.abigen_runtime_cmpstring"], unfollowed := true, recurses := true, apart := false, narrowed := true }
def StreamsDelayUptoSaid : Prop := streamsDelayUptoRow.holds Try.pinned (OpenSpec.upto streamsDelaySpec)

/-- 'tidelaw2.ZsetsGroup', WHERE WHAT IT READS IS OF BULK AT MOST 1048576: true; the input reads as it did. -/
def zsetsGroupUptoRow : OpenClaim := { program := "ytjhcbehnopmnpaa", sum := "05268511ce88fb1a3a4eee0f80bdcd1c84c4d758880decb875486394215781df", func := "tidemark/tidelaw2.ZsetsGroup", spec := "zsetsGroup", inPlace := ["internal/bytealg.abigen_runtime_cmpstring"], unfollowed := true, recurses := true, apart := false, narrowed := true }
def ZsetsGroupUptoSaid : Prop := zsetsGroupUptoRow.holds Try.pinned (OpenSpec.upto zsetsGroupSpec)

end Rows
end Go.Proofs.Ytjhcbehnopmnpaa
