/- Parts of a proof. No condition. -/
import Derived.Test.YtflggnopgnoeiaaGreatGQb
import Derived.Test.YtflggnopgnoeiaaGreatGZd
import Derived.Test.YtflggnopgnoeiaaGreatGGb
import Derived.Test.YtflggnopgnoeiaaGreatGZc
import Derived.Test.YtflggnopgnoeiaaGreatGWe
set_option maxRecDepth 100000
set_option maxHeartbeats 4000000
set_option linter.unusedSimpArgs false
set_option linter.unusedVariables false
namespace Go.Proofs.YtflggnopgnoeiaaGreat
open Go.RowKit Go.Calm
theorem VW (ts : List (L2 Int)) (At : Option Addr) (nt : Nat) (ds : List S) (Ad : Option Addr) (nd : Nat) (w : World) (hlt : ts.length <= zp) (hl : ∀ t ∈ ts, t.xs.length <= zp) (hts : WO w At ts) (hds : MW w Ad ds nd) :
  Calls Tryz.prog 55 #[.slice At ts.length nt, .slice Ad ds.length nd] w fun en w' => en = .returned (.int .i64 (yO (zg ts) (ds.map S.z))) /\ za w w' := by
 have Hts := hh_ hts; have Hds := hh_ hds; have HL := hh_ hl; have hlt' : ts.length <= 140737488355328 := hlt; have hdl := hds.len; obtain ⟨R, hR⟩ : ∃ R, yO (zg ts) (ds.map S.z) = R := ⟨_, rfl⟩
 rw [hR]; have HR := hh_ hR; clear hts hds hl hlt hR; go_enter Tryz.func55, Tryz.ntmps55
 by_cases hlen : ds.length = ts.length
 ·have dl : ((ts.length : Int) != (ds.length : Int)) = false := by simp; omega
  have inv0 : y6 ((zg ts).drop 0) ((ds.map S.z).drop 0) = R := by rw [<- HR.out]; unfold yO; rw [if_neg ur_, List.drop_zero, List.drop_zero]
  have Inv0 := hh_ inv0; have Hlen := hh_ hlen; clear inv0 hlen; go_wp2
  go_loopw [14] (fun i wr => ∃ k : Nat, k <= ds.length /\ i = .int .i64 k /\ y6 ((zg ts).drop k) ((ds.map S.z).drop k) = R /\ za w wr) (fun i _ => ds.length - (intOf i).toNat)
  case atStart => exact w0_
  case round =>
   obtain ⟨k, hk, rfl, hinv, hg⟩ := hrel; have xt := hh_ hinv; clear hinv
   by_cases hltk : k < ds.length
   ·have hltk2 : k < ts.length := by have := Hlen.out; omega
    obtain ⟨s, hsk⟩ : ∃ s, ds[k]? = some s := ⟨_, qQ_ hltk⟩
    obtain ⟨t, htk⟩ : ∃ t, ts[k]? = some t := ⟨_, qQ_ hltk2⟩
    obtain ⟨g, o, rfl, c1, hz⟩ := (Hds.out.grow hg).s k s hsk; obtain ⟨gt, ot, rfl, c2, hit⟩ := (Hts.out.grow hg) k t htk; have his := (Hds.out.grow hg).each s (qZ_ hsk); have htl : t.xs.length <= 140737488355328 := HL.out t (qZ_ htk); have inv2 := (LB htk hsk).symm.trans xt.out; obtain ⟨E, hE⟩ : ∃ E, zo t.xs s.z = E := ⟨_, rfl⟩
    rw [hE] at inv2; have cs := fun W (h : za wr W) => SX t.xs t.A t.cap s.xs s.A s.cap W uX_ (hit.grow h) (his.grow h)
    have hE' : zo t.xs (s.xs.map zh) = E := hE; simp only [hE'] at cs; have CS := hh_ cs; have Inv2 := hh_ inv2; have C12 := hh_ (And.intro c1 c2); clear inv2 hsk htk hz his hit hE hE' cs; go_wp2; apply wp_region_calm 9 uQ_ uQ_
    case h' =>
     intro Q0 hQ0; simp only [List.take_succ_cons, List.take_zero]
     repeat ((first | ((first | apply calm_p rfl | apply zu rfl rfl rfl); case h1 => (intro w1 hw1 hF K hK; have e1 := hw1.cell C12.out.1; have e2 := hw1.cell C12.out.2; go_simp; first | exact hK _ (za.refl _) | (go_at_call 32; ((with_reducible refine (CS.out _ hw1).mono ?_); rintro e w' ⟨rfl, hg⟩; exact ⟨_, rfl, hK _ hg⟩)))) | apply zw rfl rfl rfl rfl); intro K hK; go_simp; apply hK; clear hK K)
     refine calm_nil ?_; intro w1 hw1 hF; apply hQ0; clear hQ0; simp only [List.drop_succ_cons, List.drop_zero]; clear hF
     by_cases hw : E = 0
     ·have dw : (E != 0) = false := by simpa using hw
      go_wp2; go_roundw
      case rel => exact ⟨k + 1, by omega, by go_num, by have := Inv2.out; rw [if_neg uC_] at this; exact this, hg.trans hw1⟩
      case measure => exact u1_
     ·have dw : (E != 0) = true := by simpa using hw
      go_wp2; go_ret; exact zk ox_ (hg.trans hw1)
    case hp' => trivial
   ·exact wE_
 ·have dl : ((ts.length : Int) != (ds.length : Int)) = true := by simp; omega
  have e : R = 8 := by rw [<- HR.out]; unfold yO; rw [if_pos ur_]
  go_wp2; go_ret; exact zk e.symm (za.refl _)
/-! Play -/
