/-
  The closed law Names holds: it returns true. No condition beside the row's own.
-/
import Derived.Test.YtjhcbehnopmnpaaFacts
import Derived.Test.YtjhcbehnopmnpaaRead
import Derived.Test.YtjhcbehnopmnpaaLawNames
namespace Go.Proofs.Ytjhcbehnopmnpaa.names
open Go.ChangeShapes Go.WideShapes Go.ChangeAt Go.RowKit Go.Calm Go.Proofs.Ytjhcbehnopmnpaa
set_option linter.unusedVariables false

theorem own : ownKnob Try.prog.godebug = none := by kernel_rfl

set_option maxRecDepth 100000 in
theorem lifted (os : Os) (started : os.Started) (H : Type) (enc : TypeId × Value → H) :
    ReturnsInHanded {} Try.checked os 18 .any (Rows.namesSpec.pre6 enc Try.prog Try.f18 Rows.namesRow.domain false) (Rows.namesSpec.post enc Try.prog Try.f18 false true false false) := by
  refine returnsInHanded_of_change (C := Try.checked) own started (by kernel_rfl) Try.func18
    (ChangeSpec.witness6 (enc := enc) (C := Try.checked) false ⟨#[], #[], []⟩ 8 (by kernel_rfl) (by kernel_rfl) (by kernel_rfl) (by kernel_rfl)) ?_
  intro W base args ds gs before hval0 hW hcnd _
  have hval : ∀ (j : Nat) t v, Try.f18.params[j]? = some t → args[j]? = some v → Value.okWide Try.prog W .any base t v := hval0
  have hW' := hW
  obtain ⟨p, q, hA0, hV, hpq, hfz, hnd⟩ := hW
  have hA : DataW.TrodAll enc Try.prog W 0 (fun _ => true) true Try.f18.params.toList args.toList ds p := hA0
  rw [Try.params18] at hA hval
  obtain ⟨hargs, hds, _⟩ := trodAll_nil hA
  obtain rfl : args = #[] := by cases args; simp_all
  subst hds
  obtain ⟨rfl, hqq⟩ := trodVars_none hV
  refine (law_names W).mono fun e W' ⟨he, hg⟩ => ?_
  subst he
  exact ⟨_, rfl, law_post rfl rfl 4 (by kernel_rfl) Try.underlying4 (by kernel_rfl) (of_decide_eq_true (by kernel_rfl)) hW' hg⟩

theorem k_wf : Rows.namesRow.wf (OpenSpec.ofChange Rows.namesSpec) = true := by kernel_rfl
theorem k_pr : Try.f18.params.all (Try.prog.readableRec ·) = true := by kernel_rfl
theorem k_nt : namedTie Try.prog Rows.namesRow.named Rows.namesSpec.vars = true := by kernel_rfl
theorem k_st : (Rows.namesRow.stops == []) = true := by kernel_rfl
theorem k_kn : (Rows.namesRow.knobs == []) = true := by kernel_rfl
theorem k_ip : (Rows.namesRow.inPlace == Try.prog.inPlace 18) = true := by kernel_rfl
theorem k_uf : (Rows.namesRow.unfollowed == Try.prog.unfollowed 18) = true := by kernel_rfl
theorem k_re : (Rows.namesRow.recurses == Try.prog.recurses 18) = true := by kernel_rfl
theorem k_nm : (Rows.namesRow.named == Try.prog.varsNamed 18) = true := by kernel_rfl
theorem k_mp : (Rows.namesRow.maps == (Try.f18.params.toList ++ Rows.namesSpec.plain.varTypes Try.prog).any (Try.prog.mapsRec ·)) = true := by kernel_rfl
theorem k_fc : (Rows.namesRow.ifaces == (Try.f18.params.toList ++ Rows.namesSpec.plain.varTypes Try.prog).any (Try.prog.ifacesRec ·)) = true := by kernel_rfl
theorem k_mo : (Rows.namesRow.mapsOut == Try.prog.mapsAmong Try.f18.resultTypes.toList) = true := by kernel_rfl
theorem k_lp : (Rows.namesRow.loops == (Try.f18.params.toList ++ Rows.namesSpec.plain.varTypes Try.prog).any (Try.prog.loopsFrom ·)) = true := by kernel_rfl
theorem k_wk : (Rows.namesRow.wideKeys == (Try.f18.params.toList ++ Rows.namesSpec.plain.varTypes Try.prog ++ Try.f18.resultTypes.toList).any (Try.prog.wideKeysFrom ·)) = true := by kernel_rfl
theorem k_vr : Rows.namesSpec.vars.all (Try.prog.varReadable ·) = true := by kernel_rfl
theorem k_rr : Try.f18.resultTypes.all (fun t => Try.prog.readableRec t && decide (t < Try.prog.types.size)) = true := by kernel_rfl
theorem k_io : (Rows.namesRow.ifacesOut == Try.f18.resultTypes.toList.any (Try.prog.ifacesRec ·)) = true := by kernel_rfl
theorem k_lo : (Rows.namesRow.loopsOut == Try.f18.resultTypes.toList.any (Try.prog.loopsFrom ·)) = true := by kernel_rfl
theorem k_pk : (Rows.namesRow.plainKeys == true) = true := by kernel_rfl
theorem k_sh : Rows.namesRow.shortTexts.isNone = true := by kernel_rfl
theorem k_lf : (Rows.namesRow.lifted == false) = true := by kernel_rfl
theorem k_mk : (some Make.cut == some Rows.namesRow.make) = true := by kernel_rfl
theorem k_kd : (Rows.namesRow.kinds == (if Rows.namesRow.domain.isEmpty then [] else Try.f18.params.toList.map fun t => match Try.prog.underlying t with | some (.int k) => some k | _ => none)) = true := by kernel_rfl
theorem k_pi : (Rows.namesRow.pinned == Rows.namesRow.pinnedBy) = true := by kernel_rfl
theorem k_ve : (Rows.namesRow.veiled == (Try.f18.params.toList ++ Rows.namesSpec.plain.varTypes Try.prog ++ Try.f18.resultTypes.toList).any (Try.prog.veiledRec ·)) = true := by kernel_rfl
theorem k_vf : Rows.namesRow.veiledFits Try.prog Try.f18.params.toList (Try.f18.params.toList ++ Rows.namesSpec.plain.varTypes Try.prog ++ Try.f18.resultTypes.toList) = true := by kernel_rfl
set_option maxRecDepth 100000 in
theorem closed : joinedFacts Try.pinned.checked.prog 18 Try.f18 Rows.namesSpec Rows.namesRow = true := by
  show joinedFacts Try.prog 18 Try.f18 Rows.namesSpec Rows.namesRow = true
  unfold joinedFacts
  rw [Facts.laid, Facts.mapsR, Facts.heard, Facts.may, Facts.lifts, Facts.make_, Facts.plain, Facts.stops, Facts.knobs]
  simp only [Bool.and_eq_true]
  exact ⟨⟨⟨⟨⟨⟨⟨⟨⟨⟨⟨⟨⟨⟨⟨⟨⟨⟨⟨⟨⟨⟨⟨⟨⟨⟨⟨⟨⟨⟨⟨k_wf, trivial⟩, trivial⟩, k_pr⟩, k_nt⟩, k_st⟩, beq_self_eq_true _⟩, k_kn⟩, beq_self_eq_true _⟩, k_ip⟩, k_uf⟩, k_re⟩, k_nm⟩, k_mp⟩, k_fc⟩, k_mo⟩, k_lp⟩, k_wk⟩, k_vr⟩, k_rr⟩, k_io⟩, k_lo⟩, k_pk⟩, k_sh⟩, trivial⟩, trivial⟩, k_lf⟩, k_mk⟩, k_kd⟩, k_pi⟩, k_ve⟩, k_vf⟩
theorem named : Try.pinned.checked.prog.funcNamed Rows.namesRow.func = some 18 := by kernel_rfl
theorem inst : Try.f18.isInstance Try.pinned.checked.prog Rows.namesRow.origin Rows.namesRow.targs := of_decide_eq_true (by kernel_rfl)
theorem over : Rows.namesRow.holds Try.pinned (OpenSpec.ofChange Rows.namesSpec) :=
  OpenClaim.holds_of_wide 18 Try.f18 rfl rfl rfl rfl rfl rfl rfl ⟨rfl, rfl, rfl, rfl, rfl⟩ rfl rfl rfl rfl rfl named Try.func18 closed
    inst (by unfold Func.isWrapper; first | (rw [if_pos (by decide +kernel)]; kernel_rfl) | (rw [if_neg (by decide +kernel)]; exact ⟨rfl, rfl⟩))
    (fun os started H enc _ => lifted os started H enc)

theorem names_holds : Rows.NamesSaid :=
  over
end Go.Proofs.Ytjhcbehnopmnpaa.names
