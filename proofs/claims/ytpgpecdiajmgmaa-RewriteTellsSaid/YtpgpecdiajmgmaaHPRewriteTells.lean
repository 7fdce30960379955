/-
  A text of the proof of the law RewriteTells; no condition beside the row's own.
-/
import Derived.Test.YtpgpecdiajmgmaaFacts
import Derived.Test.YtpgpecdiajmgmaaGWa
import Derived.Test.YtpgpecdiajmgmaaHLawRwTells
namespace Go.Proofs.Ytpgpecdiajmgmaa.rewriteTells
open Go.ChangeShapes Go.WideShapes Go.ChangeAt Go.RowKit Go.Calm Go.Proofs.Ytpgpecdiajmgmaa
set_option linter.unusedVariables false

theorem own : ownKnob Try.prog.godebug = none := by kernel_rfl

set_option maxRecDepth 100000 in
theorem lifted (os : Os) (started : os.Started) (H : Type) (enc : TypeId × Value → H) :
    ReturnsInHanded {} Try.checked os 3 .any (Rows.rewriteTellsSpec.pre6 enc Try.prog Try.f3 Rows.rewriteTellsRow.domain false) (Rows.rewriteTellsSpec.post enc Try.prog Try.f3 false true false false) := by
  refine returnsInHanded_of_change_sized (C := Try.checked) own started (by kernel_rfl) Try.func3
    (ChangeSpec.witness6 (enc := enc) (C := Try.checked) false ⟨#[], #[.slice none 0 0, .agg #[.int .i64 0, .int .i64 0, .int .i64 0, .int .i64 0, .int .i64 0, .string ⟨#[]⟩, .int .i64 0, .slice none 0 0, .slice none 0 0, .slice none 0 0, .slice none 0 0]], []⟩ 8 (by kernel_rfl) (by kernel_rfl) (by kernel_rfl) (by kernel_rfl)) ?_
  intro W base args ds gs before hval0 hW hcnd hsz _
  have hval : ∀ (j : Nat) t v, Try.f3.params[j]? = some t → args[j]? = some v → Value.okWide Try.prog W .any base t v := hval0
  have hW' := hW
  obtain ⟨p, q, hA0, hV, hpq, hfz, hnd⟩ := hW
  have hA : DataW.TrodAll enc Try.prog W 0 (fun _ => true) true Try.f3.params.toList args.toList ds p := hA0
  rw [Try.params3] at hA hval
  obtain ⟨v0, vs0, d0, ds0, p0, q0, hargs, hds, hq0, h0, r0⟩ := trodAll_cons hA
  obtain ⟨v1, vs1, d1, ds1, p1, q1, rfl, rfl, hq1, h1, r1⟩ := trodAll_cons r0
  obtain ⟨rfl, rfl, _⟩ := trodAll_nil r1
  obtain rfl : args = #[v0, v1] := by cases args; simp_all
  subst hds
  obtain ⟨rfl, hqq⟩ := trodVars_none hV
  obtain ⟨A0, x0, c0, rfl, s0, l0, b0⟩ := tabs_read hsz 0 (by kernel_rfl) rfl (hval 0 22 v0 rfl rfl) h0
  obtain ⟨x1, rfl, b1⟩ := pl_read hsz 1 (by kernel_rfl) rfl (hval 1 31 v1 rfl rfl) h1
  refine (law_rwtells x0 A0 c0 x1 W l0 b0 s0 b1).mono fun e W' ⟨he, hg⟩ => ?_
  subst he
  exact ⟨_, rfl, law_post rfl rfl 4 (by kernel_rfl) Try.underlying4 (by kernel_rfl) (of_decide_eq_true (by kernel_rfl)) hW' hg⟩

theorem k_wf : Rows.rewriteTellsRow.wf (OpenSpec.ofChange Rows.rewriteTellsSpec) = true := by kernel_rfl
theorem k_pr : Try.f3.params.all (Try.prog.readableRec ·) = true := by kernel_rfl
theorem k_nt : namedTie Try.prog Rows.rewriteTellsRow.named Rows.rewriteTellsSpec.vars = true := by kernel_rfl
theorem k_st : (Rows.rewriteTellsRow.stops == []) = true := by kernel_rfl
theorem k_kn : (Rows.rewriteTellsRow.knobs == []) = true := by kernel_rfl
theorem k_ip : (Rows.rewriteTellsRow.inPlace == Try.prog.inPlace 3) = true := by kernel_rfl
theorem k_uf : (Rows.rewriteTellsRow.unfollowed == Try.prog.unfollowed 3) = true := by kernel_rfl
theorem k_re : (Rows.rewriteTellsRow.recurses == Try.prog.recurses 3) = true := by kernel_rfl
theorem k_nm : (Rows.rewriteTellsRow.named == Try.prog.varsNamed 3) = true := by kernel_rfl
theorem k_mp : (Rows.rewriteTellsRow.maps == (Try.f3.params.toList ++ Rows.rewriteTellsSpec.plain.varTypes Try.prog).any (Try.prog.mapsRec ·)) = true := by kernel_rfl
theorem k_fc : (Rows.rewriteTellsRow.ifaces == (Try.f3.params.toList ++ Rows.rewriteTellsSpec.plain.varTypes Try.prog).any (Try.prog.ifacesRec ·)) = true := by kernel_rfl
theorem k_mo : (Rows.rewriteTellsRow.mapsOut == Try.prog.mapsAmong Try.f3.resultTypes.toList) = true := by kernel_rfl
theorem k_lp : (Rows.rewriteTellsRow.loops == (Try.f3.params.toList ++ Rows.rewriteTellsSpec.plain.varTypes Try.prog).any (Try.prog.loopsFrom ·)) = true := by kernel_rfl
theorem k_wk : (Rows.rewriteTellsRow.wideKeys == (Try.f3.params.toList ++ Rows.rewriteTellsSpec.plain.varTypes Try.prog ++ Try.f3.resultTypes.toList).any (Try.prog.wideKeysFrom ·)) = true := by kernel_rfl
theorem k_vr : Rows.rewriteTellsSpec.vars.all (Try.prog.varReadable ·) = true := by kernel_rfl
theorem k_rr : Try.f3.resultTypes.all (fun t => Try.prog.readableRec t && decide (t < Try.prog.types.size)) = true := by kernel_rfl
theorem k_io : (Rows.rewriteTellsRow.ifacesOut == Try.f3.resultTypes.toList.any (Try.prog.ifacesRec ·)) = true := by kernel_rfl
theorem k_lo : (Rows.rewriteTellsRow.loopsOut == Try.f3.resultTypes.toList.any (Try.prog.loopsFrom ·)) = true := by kernel_rfl
theorem k_pk : (Rows.rewriteTellsRow.plainKeys == true) = true := by kernel_rfl
theorem k_sh : Rows.rewriteTellsRow.shortTexts.isNone = true := by kernel_rfl
theorem k_lf : (Rows.rewriteTellsRow.lifted == false) = true := by kernel_rfl
theorem k_mk : (some Make.cut == some Rows.rewriteTellsRow.make) = true := by kernel_rfl
theorem k_kd : (Rows.rewriteTellsRow.kinds == (if Rows.rewriteTellsRow.domain.isEmpty then [] else Try.f3.params.toList.map fun t => match Try.prog.underlying t with | some (.int k) => some k | _ => none)) = true := by kernel_rfl
theorem k_pi : (Rows.rewriteTellsRow.pinned == Rows.rewriteTellsRow.pinnedBy) = true := by kernel_rfl
theorem k_ve : (Rows.rewriteTellsRow.veiled == (Try.f3.params.toList ++ Rows.rewriteTellsSpec.plain.varTypes Try.prog ++ Try.f3.resultTypes.toList).any (Try.prog.veiledRec ·)) = true := by kernel_rfl
theorem k_vf : Rows.rewriteTellsRow.veiledFits Try.prog Try.f3.params.toList (Try.f3.params.toList ++ Rows.rewriteTellsSpec.plain.varTypes Try.prog ++ Try.f3.resultTypes.toList) = true := by kernel_rfl
set_option maxRecDepth 100000 in
theorem closed : joinedFacts Try.pinned.checked.prog 3 Try.f3 Rows.rewriteTellsSpec Rows.rewriteTellsRow = true := by
  show joinedFacts Try.prog 3 Try.f3 Rows.rewriteTellsSpec Rows.rewriteTellsRow = true
  unfold joinedFacts
  rw [Facts.laid, Facts.mapsR, Facts.heard, Facts.may, Facts.lifts, Facts.make_, Facts.plain, Facts.stops, Facts.knobs]
  simp only [Bool.and_eq_true]
  exact ⟨⟨⟨⟨⟨⟨⟨⟨⟨⟨⟨⟨⟨⟨⟨⟨⟨⟨⟨⟨⟨⟨⟨⟨⟨⟨⟨⟨⟨⟨⟨k_wf, trivial⟩, trivial⟩, k_pr⟩, k_nt⟩, k_st⟩, beq_self_eq_true _⟩, k_kn⟩, beq_self_eq_true _⟩, k_ip⟩, k_uf⟩, k_re⟩, k_nm⟩, k_mp⟩, k_fc⟩, k_mo⟩, k_lp⟩, k_wk⟩, k_vr⟩, k_rr⟩, k_io⟩, k_lo⟩, k_pk⟩, k_sh⟩, trivial⟩, trivial⟩, k_lf⟩, k_mk⟩, k_kd⟩, k_pi⟩, k_ve⟩, k_vf⟩
theorem named : Try.pinned.checked.prog.funcNamed Rows.rewriteTellsRow.func = some 3 := by kernel_rfl
theorem inst : Try.f3.isInstance Try.pinned.checked.prog Rows.rewriteTellsRow.origin Rows.rewriteTellsRow.targs := of_decide_eq_true (by kernel_rfl)
theorem over : Rows.rewriteTellsRow.holds Try.pinned (OpenSpec.ofChange Rows.rewriteTellsSpec) :=
  OpenClaim.holds_of_wide 3 Try.f3 rfl rfl rfl rfl rfl rfl rfl ⟨rfl, rfl, rfl, rfl, rfl⟩ rfl rfl rfl rfl rfl named Try.func3 closed
    inst (by unfold Func.isWrapper; first | (rw [if_pos (by decide +kernel)]; kernel_rfl) | (rw [if_neg (by decide +kernel)]; exact ⟨rfl, rfl⟩))
    (fun os started H enc _ => lifted os started H enc)

theorem rewriteTells_holds : Rows.RewriteTellsSaid :=
  over
end Go.Proofs.Ytpgpecdiajmgmaa.rewriteTells
