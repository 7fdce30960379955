/-
  A text of the proof of the law RewriteOnce; no condition beside the row's own.
-/
import Derived.Test.YtpgpecdiajmgmaaFacts
import Derived.Test.YtpgpecdiajmgmaaGWa
import Derived.Test.YtpgpecdiajmgmaaHLawRwOnce
namespace Go.Proofs.Ytpgpecdiajmgmaa.rewriteOnce
open Go.ChangeShapes Go.WideShapes Go.ChangeAt Go.RowKit Go.Calm Go.Proofs.Ytpgpecdiajmgmaa
set_option linter.unusedVariables false

theorem own : ownKnob Try.prog.godebug = none := by kernel_rfl

set_option maxRecDepth 100000 in
theorem lifted (os : Os) (started : os.Started) (H : Type) (enc : TypeId × Value → H) :
    ReturnsInHanded {} Try.checked os 4 .any (Rows.rewriteOnceSpec.pre6 enc Try.prog Try.f4 Rows.rewriteOnceRow.domain false) (Rows.rewriteOnceSpec.post enc Try.prog Try.f4 false true false false) := by
  refine returnsInHanded_of_change_sized (C := Try.checked) own started (by kernel_rfl) Try.func4
    (ChangeSpec.witness6 (enc := enc) (C := Try.checked) false ⟨#[], #[.slice none 0 0, .agg #[.int .i64 0, .int .i64 0, .int .i64 0, .int .i64 0, .int .i64 0, .string ⟨#[]⟩, .int .i64 0, .slice none 0 0, .slice none 0 0, .slice none 0 0, .slice none 0 0]], []⟩ 8 (by kernel_rfl) (by kernel_rfl) (by kernel_rfl) (by kernel_rfl)) ?_
  intro W base args ds gs before hval0 hW hcnd hsz _
  have hval : ∀ (j : Nat) t v, Try.f4.params[j]? = some t → args[j]? = some v → Value.okWide Try.prog W .any base t v := hval0
  have hW' := hW
  obtain ⟨p, q, hA0, hV, hpq, hfz, hnd⟩ := hW
  have hA : DataW.TrodAll enc Try.prog W 0 (fun _ => true) true Try.f4.params.toList args.toList ds p := hA0
  rw [Try.params4] at hA hval
  obtain ⟨v0, vs0, d0, ds0, p0, q0, hargs, hds, hq0, h0, r0⟩ := trodAll_cons hA
  obtain ⟨v1, vs1, d1, ds1, p1, q1, rfl, rfl, hq1, h1, r1⟩ := trodAll_cons r0
  obtain ⟨rfl, rfl, _⟩ := trodAll_nil r1
  obtain rfl : args = #[v0, v1] := by cases args; simp_all
  subst hds
  obtain ⟨rfl, hqq⟩ := trodVars_none hV
  obtain ⟨A0, x0, c0, rfl, s0, l0, b0⟩ := tabs_read hsz 0 (by kernel_rfl) rfl (hval 0 22 v0 rfl rfl) h0
  obtain ⟨x1, rfl, b1⟩ := pl_read hsz 1 (by kernel_rfl) rfl (hval 1 31 v1 rfl rfl) h1
  refine (law_rwonce x0 A0 c0 x1 W l0 b0 s0 b1).mono fun e W' ⟨he, hg⟩ => ?_
  subst he
  exact ⟨_, rfl, law_post rfl rfl 4 (by kernel_rfl) Try.underlying4 (by kernel_rfl) (of_decide_eq_true (by kernel_rfl)) hW' hg⟩

theorem k_wf : Rows.rewriteOnceRow.wf (OpenSpec.ofChange Rows.rewriteOnceSpec) = true := by kernel_rfl
theorem k_pr : Try.f4.params.all (Try.prog.readableRec ·) = true := by kernel_rfl
theorem k_nt : namedTie Try.prog Rows.rewriteOnceRow.named Rows.rewriteOnceSpec.vars = true := by kernel_rfl
theorem k_st : (Rows.rewriteOnceRow.stops == []) = true := by kernel_rfl
theorem k_kn : (Rows.rewriteOnceRow.knobs == []) = true := by kernel_rfl
theorem k_ip : (Rows.rewriteOnceRow.inPlace == Try.prog.inPlace 4) = true := by kernel_rfl
theorem k_uf : (Rows.rewriteOnceRow.unfollowed == Try.prog.unfollowed 4) = true := by kernel_rfl
theorem k_re : (Rows.rewriteOnceRow.recurses == Try.prog.recurses 4) = true := by kernel_rfl
theorem k_nm : (Rows.rewriteOnceRow.named == Try.prog.varsNamed 4) = true := by kernel_rfl
theorem k_mp : (Rows.rewriteOnceRow.maps == (Try.f4.params.toList ++ Rows.rewriteOnceSpec.plain.varTypes Try.prog).any (Try.prog.mapsRec ·)) = true := by kernel_rfl
theorem k_fc : (Rows.rewriteOnceRow.ifaces == (Try.f4.params.toList ++ Rows.rewriteOnceSpec.plain.varTypes Try.prog).any (Try.prog.ifacesRec ·)) = true := by kernel_rfl
theorem k_mo : (Rows.rewriteOnceRow.mapsOut == Try.prog.mapsAmong Try.f4.resultTypes.toList) = true := by kernel_rfl
theorem k_lp : (Rows.rewriteOnceRow.loops == (Try.f4.params.toList ++ Rows.rewriteOnceSpec.plain.varTypes Try.prog).any (Try.prog.loopsFrom ·)) = true := by kernel_rfl
theorem k_wk : (Rows.rewriteOnceRow.wideKeys == (Try.f4.params.toList ++ Rows.rewriteOnceSpec.plain.varTypes Try.prog ++ Try.f4.resultTypes.toList).any (Try.prog.wideKeysFrom ·)) = true := by kernel_rfl
theorem k_vr : Rows.rewriteOnceSpec.vars.all (Try.prog.varReadable ·) = true := by kernel_rfl
theorem k_rr : Try.f4.resultTypes.all (fun t => Try.prog.readableRec t && decide (t < Try.prog.types.size)) = true := by kernel_rfl
theorem k_io : (Rows.rewriteOnceRow.ifacesOut == Try.f4.resultTypes.toList.any (Try.prog.ifacesRec ·)) = true := by kernel_rfl
theorem k_lo : (Rows.rewriteOnceRow.loopsOut == Try.f4.resultTypes.toList.any (Try.prog.loopsFrom ·)) = true := by kernel_rfl
theorem k_pk : (Rows.rewriteOnceRow.plainKeys == true) = true := by kernel_rfl
theorem k_sh : Rows.rewriteOnceRow.shortTexts.isNone = true := by kernel_rfl
theorem k_lf : (Rows.rewriteOnceRow.lifted == false) = true := by kernel_rfl
theorem k_mk : (some Make.cut == some Rows.rewriteOnceRow.make) = true := by kernel_rfl
theorem k_kd : (Rows.rewriteOnceRow.kinds == (if Rows.rewriteOnceRow.domain.isEmpty then [] else Try.f4.params.toList.map fun t => match Try.prog.underlying t with | some (.int k) => some k | _ => none)) = true := by kernel_rfl
theorem k_pi : (Rows.rewriteOnceRow.pinned == Rows.rewriteOnceRow.pinnedBy) = true := by kernel_rfl
theorem k_ve : (Rows.rewriteOnceRow.veiled == (Try.f4.params.toList ++ Rows.rewriteOnceSpec.plain.varTypes Try.prog ++ Try.f4.resultTypes.toList).any (Try.prog.veiledRec ·)) = true := by kernel_rfl
theorem k_vf : Rows.rewriteOnceRow.veiledFits Try.prog Try.f4.params.toList (Try.f4.params.toList ++ Rows.rewriteOnceSpec.plain.varTypes Try.prog ++ Try.f4.resultTypes.toList) = true := by kernel_rfl
set_option maxRecDepth 100000 in
theorem closed : joinedFacts Try.pinned.checked.prog 4 Try.f4 Rows.rewriteOnceSpec Rows.rewriteOnceRow = true := by
  show joinedFacts Try.prog 4 Try.f4 Rows.rewriteOnceSpec Rows.rewriteOnceRow = true
  unfold joinedFacts
  rw [Facts.laid, Facts.mapsR, Facts.heard, Facts.may, Facts.lifts, Facts.make_, Facts.plain, Facts.stops, Facts.knobs]
  simp only [Bool.and_eq_true]
  exact ⟨⟨⟨⟨⟨⟨⟨⟨⟨⟨⟨⟨⟨⟨⟨⟨⟨⟨⟨⟨⟨⟨⟨⟨⟨⟨⟨⟨⟨⟨⟨k_wf, trivial⟩, trivial⟩, k_pr⟩, k_nt⟩, k_st⟩, beq_self_eq_true _⟩, k_kn⟩, beq_self_eq_true _⟩, k_ip⟩, k_uf⟩, k_re⟩, k_nm⟩, k_mp⟩, k_fc⟩, k_mo⟩, k_lp⟩, k_wk⟩, k_vr⟩, k_rr⟩, k_io⟩, k_lo⟩, k_pk⟩, k_sh⟩, trivial⟩, trivial⟩, k_lf⟩, k_mk⟩, k_kd⟩, k_pi⟩, k_ve⟩, k_vf⟩
theorem named : Try.pinned.checked.prog.funcNamed Rows.rewriteOnceRow.func = some 4 := by kernel_rfl
theorem inst : Try.f4.isInstance Try.pinned.checked.prog Rows.rewriteOnceRow.origin Rows.rewriteOnceRow.targs := of_decide_eq_true (by kernel_rfl)
theorem over : Rows.rewriteOnceRow.holds Try.pinned (OpenSpec.ofChange Rows.rewriteOnceSpec) :=
  OpenClaim.holds_of_wide 4 Try.f4 rfl rfl rfl rfl rfl rfl rfl ⟨rfl, rfl, rfl, rfl, rfl⟩ rfl rfl rfl rfl rfl named Try.func4 closed
    inst (by unfold Func.isWrapper; first | (rw [if_pos (by decide +kernel)]; kernel_rfl) | (rw [if_neg (by decide +kernel)]; exact ⟨rfl, rfl⟩))
    (fun os started H enc _ => lifted os started H enc)

theorem rewriteOnce_holds : Rows.RewriteOnceSaid :=
  over
end Go.Proofs.Ytpgpecdiajmgmaa.rewriteOnce
