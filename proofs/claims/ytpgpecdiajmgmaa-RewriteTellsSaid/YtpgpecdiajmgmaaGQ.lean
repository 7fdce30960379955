/-
  Joined texts of this claim: EvW, EvX, EvN, EvY, EvF, EvC. What each proves its own head says; no condition beside those that each theorem names.
-/
import Derived.Test.YtpgpecdiajmgmaaGG
import Derived.Test.YtpgpecdiajmgmaaGC
import Derived.BigQuiet
import Derived.Deep.QuietTactic
namespace Go.Proofs.Ytpgpecdiajmgmaa
open Go.RowKit Go.Calm
set_option linter.unusedSimpArgs false
set_option linter.unusedVariables false

structure Vars (W : World) (b : Nat) (gx ox : Nat) (A : Option Addr) (n cr : Nat) : Prop where
  b1 : Blk W b 100 #[.pointer (some ⟨gx, ox, none⟩)]
  b2 : Blk W (b + 1) 49 #[.slice A n cr]
  b3 : Blk W (b + 2) 24 #[.int .i64 0, .int .i64 0, .string es]
theorem Vars.grow {W W' : World} {b gx ox : Nat} {A : Option Addr} {n cr : Nat} (h : Vars W b gx ox A n cr) (hg : Grow W W') : Vars W' b gx ox A n cr := ⟨h.b1.grow hg, h.b2.grow hg, h.b3.grow hg⟩

end Go.Proofs.Ytpgpecdiajmgmaa

namespace Go.Proofs.Ytpgpecdiajmgmaa
open Go.RowKit Go.Calm
set_option linter.unusedSimpArgs false
set_option linter.unusedVariables false

end Go.Proofs.Ytpgpecdiajmgmaa

namespace Go.Proofs.Ytpgpecdiajmgmaa
open Go.RowKit Go.Calm
set_option linter.unusedSimpArgs false
set_option linter.unusedVariables false

end Go.Proofs.Ytpgpecdiajmgmaa

namespace Go.Proofs.Ytpgpecdiajmgmaa
open Go.RowKit Go.Calm
set_option linter.unusedSimpArgs false
set_option linter.unusedVariables false

end Go.Proofs.Ytpgpecdiajmgmaa

namespace Go.Proofs.Ytpgpecdiajmgmaa
open Go.RowKit Go.Calm
set_option linter.unusedSimpArgs false
set_option linter.unusedVariables false

end Go.Proofs.Ytpgpecdiajmgmaa

namespace Go.Proofs.Ytpgpecdiajmgmaa
open Go.RowKit Go.Calm
set_option linter.unusedSimpArgs false
set_option linter.unusedVariables false

theorem vb_z : VB zV := ⟨⟨by decide, by decide⟩, ⟨by decide, by decide⟩, Nat.zero_le _⟩
theorem ex_two {w : World} {g : Nat} {k : Int} {t : TypeId} (a b : E) (hb : Blk w g t #[.int .i64 a.kind, .int .i64 a.v.k, .int .i64 a.v.n, .string a.v.s, .int .i64 a.col, .slice a.A a.n a.cap, .int .i64 b.kind, .int .i64 b.v.k, .int .i64 b.v.n, .string b.v.s, .int .i64 b.col, .slice b.A b.n b.cap]) (ha : EX w a) (hb' : EX w b) (hk : inI64 k) : EX w (twoK k a b (some ⟨g, 0, none⟩)) := by
  refine .mk (by decide) (fun i hi => ⟨g, 0, rfl, ?_⟩) (fun i hi => ?_) vb_z ⟨hk, ⟨by decide, by decide⟩⟩
  · match i, hi with
    | 0, _ => exact ⟨hb.cells rfl, hb.cells rfl, hb.cells rfl, hb.cells rfl, hb.cells rfl, hb.cells rfl⟩
    | 1, _ => exact ⟨hb.cells rfl, hb.cells rfl, hb.cells rfl, hb.cells rfl, hb.cells rfl, hb.cells rfl⟩
  · split
    · exact ha
    · exact hb'
end Go.Proofs.Ytpgpecdiajmgmaa
