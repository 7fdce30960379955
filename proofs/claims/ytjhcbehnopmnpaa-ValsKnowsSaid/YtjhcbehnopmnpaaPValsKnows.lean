/-
  The law ValsKnows of chapter 1 holds: for every input of its row it returns true and leaves its arguments as they were. No condition beside the row's own.
-/
import Derived.Test.YtjhcbehnopmnpaaFacts
import Derived.Test.YtjhcbehnopmnpaaRead
import Derived.Test.YtjhcbehnopmnpaaLawKnows
namespace Go.Proofs.Ytjhcbehnopmnpaa.valsKnows
open Go.ChangeShapes Go.WideShapes Go.ChangeAt Go.RowKit Go.Calm Go.Proofs.Ytjhcbehnopmnpaa
set_option linter.unusedVariables false

theorem own : ownKnob Try.prog.godebug = none := by kernel_rfl

set_option maxRecDepth 100000 in
theorem lifted (os : Os) (started : os.Started) (H : Type) (enc : TypeId × Value → H) :
    ReturnsInHanded {} Try.checked os 7 .any (Rows.valsKnowsSpec.pre6 enc Try.prog Try.f7 Rows.valsKnowsRow.domain false) (Rows.valsKnowsSpec.post enc Try.prog Try.f7 false true false false) := by
  refine returnsInHanded_of_change (C := Try.checked) own started (by kernel_rfl) Try.func7
    (ChangeSpec.witness6 (enc := enc) (C := Try.checked) false ⟨#[], #[.agg #[.int .i64 1, .int .i64 0, .string ⟨#[]⟩], .agg #[.int .i64 1, .int .i64 0, .string ⟨#[]⟩]], []⟩ 8 (by kernel_rfl) (by kernel_rfl) (by kernel_rfl) (by kernel_rfl)) ?_
  intro W base args ds gs before hval0 hW hcnd _
  have hval : ∀ (j : Nat) t v, Try.f7.params[j]? = some t → args[j]? = some v → Value.okWide Try.prog W .any base t v := hval0
  have hW' := hW
  obtain ⟨p, q, hA0, hV, hpq, hfz, hnd⟩ := hW
  have hA : DataW.TrodAll enc Try.prog W 0 (fun _ => true) true Try.f7.params.toList args.toList ds p := hA0
  rw [Try.params7] at hA hval
  obtain ⟨v0, vs0, d0, ds0, p0, q0, hargs, hds, hq0, h0, r0⟩ := trodAll_cons hA
  obtain ⟨v1, vs1, d1, ds1, p1, q1, rfl, rfl, hq1, h1, r1⟩ := trodAll_cons r0
  obtain ⟨rfl, rfl, _⟩ := trodAll_nil r1
  obtain rfl : args = #[v0, v1] := by cases args; simp_all
  subst hds
  obtain ⟨rfl, hqq⟩ := trodVars_none hV
  obtain ⟨x0, rfl, b0⟩ := val_read (hval 0 29 v0 rfl rfl) h0
  obtain ⟨x1, rfl, b1⟩ := val_read (hval 1 29 v1 rfl rfl) h1
  refine (law_knows x0 x1 W).mono fun e W' ⟨he, hg⟩ => ?_
  subst he
  exact ⟨_, rfl, law_post rfl rfl 4 (by kernel_rfl) Try.underlying4 (by kernel_rfl) (of_decide_eq_true (by kernel_rfl)) hW' hg⟩

theorem k_wf : Rows.valsKnowsRow.wf (OpenSpec.ofChange Rows.valsKnowsSpec) = true := by kernel_rfl
theorem k_pr : Try.f7.params.all (Try.prog.readableRec ·) = true := by kernel_rfl
theorem k_nt : namedTie Try.prog Rows.valsKnowsRow.named Rows.valsKnowsSpec.vars = true := by kernel_rfl
theorem k_st : (Rows.valsKnowsRow.stops == []) = true := by kernel_rfl
theorem k_kn : (Rows.valsKnowsRow.knobs == []) = true := by kernel_rfl
theorem k_ip : (Rows.valsKnowsRow.inPlace == Try.prog.inPlace 7) = true := by kernel_rfl
theorem k_uf : (Rows.valsKnowsRow.unfollowed == Try.prog.unfollowed 7) = true := by kernel_rfl
theorem k_re : (Rows.valsKnowsRow.recurses == Try.prog.recurses 7) = true := by kernel_rfl
theorem k_nm : (Rows.valsKnowsRow.named == Try.prog.varsNamed 7) = true := by kernel_rfl
theorem k_mp : (Rows.valsKnowsRow.maps == (Try.f7.params.toList ++ Rows.valsKnowsSpec.plain.varTypes Try.prog).any (Try.prog.mapsRec ·)) = true := by kernel_rfl
theorem k_fc : (Rows.valsKnowsRow.ifaces == (Try.f7.params.toList ++ Rows.valsKnowsSpec.plain.varTypes Try.prog).any (Try.prog.ifacesRec ·)) = true := by kernel_rfl
theorem k_mo : (Rows.valsKnowsRow.mapsOut == Try.prog.mapsAmong Try.f7.resultTypes.toList) = true := by kernel_rfl
theorem k_lp : (Rows.valsKnowsRow.loops == (Try.f7.params.toList ++ Rows.valsKnowsSpec.plain.varTypes Try.prog).any (Try.prog.loopsFrom ·)) = true := by kernel_rfl
theorem k_wk : (Rows.valsKnowsRow.wideKeys == (Try.f7.params.toList ++ Rows.valsKnowsSpec.plain.varTypes Try.prog ++ Try.f7.resultTypes.toList).any (Try.prog.wideKeysFrom ·)) = true := by kernel_rfl
theorem k_vr : Rows.valsKnowsSpec.vars.all (Try.prog.varReadable ·) = true := by kernel_rfl
theorem k_rr : Try.f7.resultTypes.all (fun t => Try.prog.readableRec t && decide (t < Try.prog.types.size)) = true := by kernel_rfl
theorem k_io : (Rows.valsKnowsRow.ifacesOut == Try.f7.resultTypes.toList.any (Try.prog.ifacesRec ·)) = true := by kernel_rfl
theorem k_lo : (Rows.valsKnowsRow.loopsOut == Try.f7.resultTypes.toList.any (Try.prog.loopsFrom ·)) = true := by kernel_rfl
theorem k_pk : (Rows.valsKnowsRow.plainKeys == true) = true := by kernel_rfl
theorem k_sh : Rows.valsKnowsRow.shortTexts.isNone = true := by kernel_rfl
theorem k_lf : (Rows.valsKnowsRow.lifted == false) = true := by kernel_rfl
theorem k_mk : (some Make.cut == some Rows.valsKnowsRow.make) = true := by kernel_rfl
theorem k_kd : (Rows.valsKnowsRow.kinds == (if Rows.valsKnowsRow.domain.isEmpty then [] else Try.f7.params.toList.map fun t => match Try.prog.underlying t with | some (.int k) => some k | _ => none)) = true := by kernel_rfl
theorem k_pi : (Rows.valsKnowsRow.pinned == Rows.valsKnowsRow.pinnedBy) = true := by kernel_rfl
theorem k_ve : (Rows.valsKnowsRow.veiled == (Try.f7.params.toList ++ Rows.valsKnowsSpec.plain.varTypes Try.prog ++ Try.f7.resultTypes.toList).any (Try.prog.veiledRec ·)) = true := by kernel_rfl
theorem k_vf : Rows.valsKnowsRow.veiledFits Try.prog Try.f7.params.toList (Try.f7.params.toList ++ Rows.valsKnowsSpec.plain.varTypes Try.prog ++ Try.f7.resultTypes.toList) = true := by kernel_rfl
set_option maxRecDepth 100000 in
theorem closed : joinedFacts Try.pinned.checked.prog 7 Try.f7 Rows.valsKnowsSpec Rows.valsKnowsRow = true := by
  show joinedFacts Try.prog 7 Try.f7 Rows.valsKnowsSpec Rows.valsKnowsRow = true
  unfold joinedFacts
  rw [Facts.laid, Facts.mapsR, Facts.heard, Facts.may, Facts.lifts, Facts.make_, Facts.plain, Facts.stops, Facts.knobs]
  simp only [Bool.and_eq_true]
  exact ⟨⟨⟨⟨⟨⟨⟨⟨⟨⟨⟨⟨⟨⟨⟨⟨⟨⟨⟨⟨⟨⟨⟨⟨⟨⟨⟨⟨⟨⟨⟨k_wf, trivial⟩, trivial⟩, k_pr⟩, k_nt⟩, k_st⟩, beq_self_eq_true _⟩, k_kn⟩, beq_self_eq_true _⟩, k_ip⟩, k_uf⟩, k_re⟩, k_nm⟩, k_mp⟩, k_fc⟩, k_mo⟩, k_lp⟩, k_wk⟩, k_vr⟩, k_rr⟩, k_io⟩, k_lo⟩, k_pk⟩, k_sh⟩, trivial⟩, trivial⟩, k_lf⟩, k_mk⟩, k_kd⟩, k_pi⟩, k_ve⟩, k_vf⟩
theorem named : Try.pinned.checked.prog.funcNamed Rows.valsKnowsRow.func = some 7 := by kernel_rfl
theorem inst : Try.f7.isInstance Try.pinned.checked.prog Rows.valsKnowsRow.origin Rows.valsKnowsRow.targs := of_decide_eq_true (by kernel_rfl)
theorem over : Rows.valsKnowsRow.holds Try.pinned (OpenSpec.ofChange Rows.valsKnowsSpec) :=
  OpenClaim.holds_of_wide 7 Try.f7 rfl rfl rfl rfl rfl rfl rfl ⟨rfl, rfl, rfl, rfl, rfl⟩ rfl rfl rfl rfl rfl named Try.func7 closed
    inst (by unfold Func.isWrapper; first | (rw [if_pos (by decide +kernel)]; kernel_rfl) | (rw [if_neg (by decide +kernel)]; exact ⟨rfl, rfl⟩))
    (fun os started H enc _ => lifted os started H enc)

theorem valsKnows_holds : Rows.ValsKnowsSaid :=
  over
end Go.Proofs.Ytjhcbehnopmnpaa.valsKnows
