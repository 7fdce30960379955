/-
  Closed facts on this seat's program, that every row asks. No condition.
-/
import Derived.Test.YtflggnopgnoeiaaGreatRows
import Derived.JoinedOf
import Derived.KernelRfl
namespace Go.Proofs.YtflggnopgnoeiaaGreat.Facts
set_option maxRecDepth 100000
def cutw : List Char := ([99, 117, 116] : List Nat).map Char.ofNat
theorem strip_cut (rest : List (List Char)) : stripLifts liftWords (cutw :: rest) = ([], cutw :: rest) := by
  simp [stripLifts, liftWords, cutw]
def io : List Char := ([104,97,114,110,101,115,115,32,50,53,48,100,49,48,99,100,50,97,50,48,54,100,50,52,101,102,54,54,101,102,100,48,53,56,51,56,99,50,50,52,52,102,102,53,53,56,56,49,48,48,49,99,100,49,55,52,99,48,52,98,56,54,53,54,48,53,52,49,101,98,100,100,32,99,117,116,32,97,116,32,116,105,100,101,109,97,114,107,47,116,105,100,101,108,97,119,49,53,46,87,105,110,100,111,119,84,101,108,108,115,32,116,105,100,101,109,97,114,107,47,116,105,100,101,108,97,119,49,48,46,70,105,120,84,101,108,108,115,32,116,105,100,101,109,97,114,107,47,116,105,100,101,108,97,119,49,48,46,70,105,120,81,117,105,99,107,32,116,105,100,101,109,97,114,107,47,116,105,100,101,108,97,119,49,48,46,70,105,120,80,97,116,104,115] : List Nat).map Char.ofNat
theorem io_eq : Tryz.prog.initOrder = String.ofList io := by kernel_rfl
theorem ws : wordsSigns Tryz.prog.initOrder.toList = wordsSigns io := by rw [io_eq, String.toList_ofList]
theorem hd0 : (behindMainWord (wordsSigns io)).head? = some cutw := by kernel_rfl
theorem hd : ∃ rest, behindMainWord (wordsSigns Tryz.prog.initOrder.toList) = cutw :: rest := by
  rw [ws]
  have := hd0
  cases h : behindMainWord (wordsSigns io) with
  | nil => rw [h] at this; cases this
  | cons a l => rw [h] at this; injection this with this; exact ⟨l, by rw [this]⟩
theorem nb (l : List Char) : nameBytes (String.ofList l) = l.flatMap String.utf8EncodeChar := by
  unfold nameBytes
  simp [String.toUTF8, List.utf8Encode]
/-- The functions without a body, by name. -/
def bare : List (List Char) := ([[109,97,105,110,46,109,97,105,110], [103,111,115,101,109,46,99,117,116], [105,110,116,101,114,110,97,108,47,98,121,116,101,97,108,103,46,97,98,105,103,101,110,95,114,117,110,116,105,109,101,95,99,109,112,115,116,114,105,110,103], [40,114,117,110,116,105,109,101,46,98,111,117,110,100,115,69,114,114,111,114,41,46,69,114,114,111,114], [40,114,117,110,116,105,109,101,46,98,111,117,110,100,115,69,114,114,111,114,41,46,82,117,110,116,105,109,101,69,114,114,111,114], [40,114,117,110,116,105,109,101,46,101,114,114,111,114,83,116,114,105,110,103,41,46,69,114,114,111,114], [40,114,117,110,116,105,109,101,46,101,114,114,111,114,83,116,114,105,110,103,41,46,82,117,110,116,105,109,101,69,114,114,111,114], [40,114,117,110,116,105,109,101,46,112,108,97,105,110,69,114,114,111,114,41,46,69,114,114,111,114], [40,114,117,110,116,105,109,101,46,112,108,97,105,110,69,114,114,111,114,41,46,82,117,110,116,105,109,101,69,114,114,111,114], [40,114,117,110,116,105,109,101,46,101,114,114,111,114,65,100,100,114,101,115,115,83,116,114,105,110,103,41,46,69,114,114,111,114], [40,114,117,110,116,105,109,101,46,101,114,114,111,114,65,100,100,114,101,115,115,83,116,114,105,110,103,41,46,82,117,110,116,105,109,101,69,114,114,111,114], [40,42,114,117,110,116,105,109,101,46,84,121,112,101,65,115,115,101,114,116,105,111,110,69,114,114,111,114,41,46,69,114,114,111,114], [40,42,114,117,110,116,105,109,101,46,84,121,112,101,65,115,115,101,114,116,105,111,110,69,114,114,111,114,41,46,82,117,110,116,105,109,101,69,114,114,111,114], [40,42,114,117,110,116,105,109,101,46,80,97,110,105,99,78,105,108,69,114,114,111,114,41,46,69,114,114,111,114], [40,42,114,117,110,116,105,109,101,46,80,97,110,105,99,78,105,108,69,114,114,111,114,41,46,82,117,110,116,105,109,101,69,114,114,111,114], [40,42,105,110,116,101,114,110,97,108,47,97,98,105,46,84,121,112,101,41,46,65,108,105,103,110], [40,105,110,116,101,114,110,97,108,47,114,117,110,116,105,109,101,47,109,97,112,115,46,117,110,104,97,115,104,97,98,108,101,84,121,112,101,69,114,114,111,114,41,46,69,114,114,111,114], [40,105,110,116,101,114,110,97,108,47,114,117,110,116,105,109,101,47,109,97,112,115,46,117,110,104,97,115,104,97,98,108,101,84,121,112,101,69,114,114,111,114,41,46,82,117,110,116,105,109,101,69,114,114,111,114], [40,105,110,116,101,114,110,97,108,47,97,98,105,46,75,105,110,100,41,46,83,116,114,105,110,103]] : List (List Nat)).map fun l => l.map Char.ofNat
theorem bare_eq : (Tryz.prog.funcs.toList.filter (·.body.isNone)).map (·.name) = bare.map String.ofList := by kernel_rfl
theorem any_names (l : List Func) (q : String → Bool) : (l.any fun fn => fn.body.isNone && q fn.name) = ((l.filter (·.body.isNone)).map (·.name)).any q := by
  induction l with
  | nil => rfl
  | cons f l ih =>
    rw [List.any_cons, ih, List.filter_cons]
    cases h : f.body.isNone <;> simp
def pre1 : List Char := ([114,101,102,108,101,99,116,46] : List Nat).map Char.ofNat
def pre2 : List Char := ([40,114,101,102,108,101,99,116,46] : List Nat).map Char.ofNat
def pre3 : List Char := ([40,42,114,101,102,108,101,99,116,46] : List Nat).map Char.ofNat
def pre4 : List Char := ([118,97,114,39,115,32,100,111,111,114,58,32] : List Nat).map Char.ofNat
theorem p1 : nameBytes "reflect." = pre1.flatMap String.utf8EncodeChar := by rw [← nb]; kernel_rfl
theorem p2 : nameBytes "(reflect." = pre2.flatMap String.utf8EncodeChar := by rw [← nb]; kernel_rfl
theorem p3 : nameBytes "(*reflect." = pre3.flatMap String.utf8EncodeChar := by rw [← nb]; kernel_rfl
theorem p4 : nameBytes "var's door: " = pre4.flatMap String.utf8EncodeChar := by rw [← nb]; kernel_rfl
theorem later : Tryz.prog.laysLater = false := by kernel_rfl
theorem no_reflect : Tryz.prog.bearsReflect = false := by
  unfold Program.bearsReflect
  rw [p1, p2, p3]
  rw [any_names _ (fun n => opensWith (pre1.flatMap String.utf8EncodeChar) (nameBytes n) || opensWith (pre2.flatMap String.utf8EncodeChar) (nameBytes n) || opensWith (pre3.flatMap String.utf8EncodeChar) (nameBytes n)), bare_eq, List.any_map]
  have e : (fun l => (fun n => opensWith (pre1.flatMap String.utf8EncodeChar) (nameBytes n) || opensWith (pre2.flatMap String.utf8EncodeChar) (nameBytes n) || opensWith (pre3.flatMap String.utf8EncodeChar) (nameBytes n)) (String.ofList l)) = fun l => opensWith (pre1.flatMap String.utf8EncodeChar) (l.flatMap String.utf8EncodeChar) || opensWith (pre2.flatMap String.utf8EncodeChar) (l.flatMap String.utf8EncodeChar) || opensWith (pre3.flatMap String.utf8EncodeChar) (l.flatMap String.utf8EncodeChar) := by funext l; simp only [nb]
  show bare.any (fun l => (fun n => opensWith (pre1.flatMap String.utf8EncodeChar) (nameBytes n) || opensWith (pre2.flatMap String.utf8EncodeChar) (nameBytes n) || opensWith (pre3.flatMap String.utf8EncodeChar) (nameBytes n)) (String.ofList l)) = false
  rw [e]
  kernel_rfl
theorem no_doors : Tryz.prog.doorRows = [] := by
  have h : (Tryz.prog.funcs.toList.any fun fn => fn.body.isNone && opensWith (nameBytes "var's door: ") (nameBytes fn.name)) = false := by
    rw [p4, any_names _ (fun n => opensWith (pre4.flatMap String.utf8EncodeChar) (nameBytes n)), bare_eq, List.any_map]
    have e : (fun l => (fun n => opensWith (pre4.flatMap String.utf8EncodeChar) (nameBytes n)) (String.ofList l)) = fun l => opensWith (pre4.flatMap String.utf8EncodeChar) (l.flatMap String.utf8EncodeChar) := by funext l; simp only [nb]
    show bare.any (fun l => (fun n => opensWith (pre4.flatMap String.utf8EncodeChar) (nameBytes n)) (String.ofList l)) = false
    rw [e]
    kernel_rfl
  unfold Program.doorRows
  rw [List.map_eq_nil_iff, List.filter_eq_nil_iff]
  intro fn hf
  have := List.any_eq_false.1 h fn hf
  simpa using this
theorem may : Tryz.prog.mayEnter = true := by
  obtain ⟨rest, h⟩ := hd
  unfold Program.mayEnter Program.doorFits
  rw [h]
  simp only [strip_cut]
  simp [later, no_reflect, no_doors, cutw]
theorem heads : Tryz.prog.headLifts = [] := by
  obtain ⟨rest, h⟩ := hd
  unfold Program.headLifts
  rw [h]
  simp only [strip_cut]
  simp [cutw]
theorem lifts : Tryz.prog.liftsFinal = false := by
  obtain ⟨rest, h⟩ := hd
  unfold Program.liftsFinal
  rw [h, heads]
  simp [cutw]
theorem make_ : Tryz.prog.make = some .cut := by
  obtain ⟨rest, h⟩ := hd
  unfold Program.make
  rw [h, heads]
  simp [cutw]
theorem laid : laidOutB Tryz.prog = true := by kernel_rfl
theorem mapsR : mapsRowed Tryz.prog = true := by kernel_rfl
theorem heard : Tryz.prog.stopsHeard = true := by kernel_rfl
theorem plain : Tryz.prog.plainKeys = true := by kernel_rfl
theorem stops : Tryz.prog.stops = [] := by kernel_rfl
theorem knobs : Tryz.prog.stopKnobs = [] := by kernel_rfl
end Go.Proofs.YtflggnopgnoeiaaGreat.Facts
