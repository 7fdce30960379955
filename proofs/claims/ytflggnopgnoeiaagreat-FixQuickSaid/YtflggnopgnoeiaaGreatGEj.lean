/- Parts of a proof. No condition. -/
import Derived.Test.YtflggnopgnoeiaaGreatGEb
set_option maxRecDepth 100000
set_option maxHeartbeats 16000000
set_option linter.unusedSimpArgs false
set_option linter.unusedVariables false
namespace Go.Proofs.YtflggnopgnoeiaaGreat
open Go.RowKit Go.Calm
theorem zcl {α : Type} {C : Cm (.j) α} {rs : List Value} (w0 : World) (n : Nat) (ih : C.SymC rs w0 n) (P U V S : List α) (a m b N c g : Nat) (w : World) (hn : U.length + V.length <= n + 1) (hU2 : 2 <= U.length) (hV2 : 2 <= V.length) (ha : a = P.length) (hm : m = a + U.length) (hb : b = m + V.length) (hN : N = (P ++ (U ++ (V ++ S))).length) (hmax : N <= 1000000)
  (hT : ∀ x ∈ U, ∀ y ∈ V, C.tg x y) (hG : ∀ x ∈ U ++ V, C.good g w0 x) (hg0 : GX g w0 w) (hU : C.Up U) (hV : C.Up V) (hd : DY C rs w g (P ++ (U ++ (V ++ S)))) :
  Calls Tryz.prog (Ck.sym (.j)) #[.slice (some ⟨g, 0, none⟩) N c, .int .i64 a, .int .i64 m, .int .i64 b, (Ck.F (.j))] w fun en w' => en = .returned (.tuple #[]) /\ (∃ M' : List α, M'.Perm (U ++ V) /\ C.Up M' /\ DY C rs w' g (P ++ (M' ++ S))) /\ GX g w w' := NS
