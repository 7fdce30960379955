/-
  The law ValsRows of chapter 1 holds: for every two slices of values it returns true and leaves its arguments as they were. No condition beside the row's own.
-/
import Derived.Test.YtjhcbehnopmnpaaFacts
import Derived.Test.YtjhcbehnopmnpaaRead
import Derived.Test.YtjhcbehnopmnpaaLawRows
namespace Go.Proofs.Ytjhcbehnopmnpaa.valsRows
open Go.ChangeShapes Go.WideShapes Go.ChangeAt Go.RowKit Go.Calm Go.Proofs.Ytjhcbehnopmnpaa
set_option linter.unusedVariables false

theorem own : ownKnob Try.prog.godebug = none := by kernel_rfl

set_option maxRecDepth 100000 in
theorem lifted (os : Os) (started : os.Started) (H : Type) (enc : TypeId × Value → H) :
    ReturnsInHanded {} Try.checked os 3 .any (Rows.valsRowsSpec.pre6 enc Try.prog Try.f3 Rows.valsRowsRow.domain false) (Rows.valsRowsSpec.post enc Try.prog Try.f3 false true false false) := by
  refine returnsInHanded_of_change (C := Try.checked) own started (by kernel_rfl) Try.func3
    (ChangeSpec.witness6 (enc := enc) (C := Try.checked) false ⟨#[], #[.slice none 0 0, .slice none 0 0], []⟩ 8 (by kernel_rfl) (by kernel_rfl) (by kernel_rfl) (by kernel_rfl)) ?_
  intro W base args ds gs before hval0 hW hcnd _
  have hval : ∀ (j : Nat) t v, Try.f3.params[j]? = some t → args[j]? = some v → Value.okWide Try.prog W .any base t v := hval0
  have hW' := hW
  obtain ⟨p, q, hA0, hV, hpq, hfz, hnd⟩ := hW
  have hA : DataW.TrodAll enc Try.prog W 0 (fun _ => true) true Try.f3.params.toList args.toList ds p := hA0
  rw [Try.params3] at hA hval
  obtain ⟨v0, vs0, d0, ds0, p0, q0, hargs, hds, hq0, h0, r0⟩ := trodAll_cons hA
  obtain ⟨v1, vs1, d1, ds1, p1, q1, rfl, rfl, hq1, h1, r1⟩ := trodAll_cons r0
  obtain ⟨rfl, rfl, _⟩ := trodAll_nil r1
  obtain rfl : args = #[v0, v1] := by cases args; simp_all
  subst hds
  obtain ⟨rfl, hqq⟩ := trodVars_none hV
  obtain ⟨A0, x0, c0, rfl, s0, l0, b0⟩ := vals_read (hval 0 22 v0 rfl rfl) h0
  obtain ⟨A1, x1, c1, rfl, s1, l1, b1⟩ := vals_read (hval 1 22 v1 rfl rfl) h1
  refine (law_rows x0 x1 A0 A1 c0 c1 W (by have := l0; unfold maxLen at this; omega) (by have := l1; unfold maxLen at this; omega) s0 s1).mono fun e W' ⟨he, hg⟩ => ?_
  subst he
  exact ⟨_, rfl, law_post rfl rfl 4 (by kernel_rfl) Try.underlying4 (by kernel_rfl) (of_decide_eq_true (by kernel_rfl)) hW' hg⟩

theorem k_wf : Rows.valsRowsRow.wf (OpenSpec.ofChange Rows.valsRowsSpec) = true := by kernel_rfl
theorem k_pr : Try.f3.params.all (Try.prog.readableRec ·) = true := by kernel_rfl
theorem k_nt : namedTie Try.prog Rows.valsRowsRow.named Rows.valsRowsSpec.vars = true := by kernel_rfl
theorem k_st : (Rows.valsRowsRow.stops == []) = true := by kernel_rfl
theorem k_kn : (Rows.valsRowsRow.knobs == []) = true := by kernel_rfl
theorem k_ip : (Rows.valsRowsRow.inPlace == Try.prog.inPlace 3) = true := by kernel_rfl
theorem k_uf : (Rows.valsRowsRow.unfollowed == Try.prog.unfollowed 3) = true := by kernel_rfl
theorem k_re : (Rows.valsRowsRow.recurses == Try.prog.recurses 3) = true := by kernel_rfl
theorem k_nm : (Rows.valsRowsRow.named == Try.prog.varsNamed 3) = true := by kernel_rfl
theorem k_mp : (Rows.valsRowsRow.maps == (Try.f3.params.toList ++ Rows.valsRowsSpec.plain.varTypes Try.prog).any (Try.prog.mapsRec ·)) = true := by kernel_rfl
theorem k_fc : (Rows.valsRowsRow.ifaces == (Try.f3.params.toList ++ Rows.valsRowsSpec.plain.varTypes Try.prog).any (Try.prog.ifacesRec ·)) = true := by kernel_rfl
theorem k_mo : (Rows.valsRowsRow.mapsOut == Try.prog.mapsAmong Try.f3.resultTypes.toList) = true := by kernel_rfl
theorem k_lp : (Rows.valsRowsRow.loops == (Try.f3.params.toList ++ Rows.valsRowsSpec.plain.varTypes Try.prog).any (Try.prog.loopsFrom ·)) = true := by kernel_rfl
theorem k_wk : (Rows.valsRowsRow.wideKeys == (Try.f3.params.toList ++ Rows.valsRowsSpec.plain.varTypes Try.prog ++ Try.f3.resultTypes.toList).any (Try.prog.wideKeysFrom ·)) = true := by kernel_rfl
theorem k_vr : Rows.valsRowsSpec.vars.all (Try.prog.varReadable ·) = true := by kernel_rfl
theorem k_rr : Try.f3.resultTypes.all (fun t => Try.prog.readableRec t && decide (t < Try.prog.types.size)) = true := by kernel_rfl
theorem k_io : (Rows.valsRowsRow.ifacesOut == Try.f3.resultTypes.toList.any (Try.prog.ifacesRec ·)) = true := by kernel_rfl
theorem k_lo : (Rows.valsRowsRow.loopsOut == Try.f3.resultTypes.toList.any (Try.prog.loopsFrom ·)) = true := by kernel_rfl
theorem k_pk : (Rows.valsRowsRow.plainKeys == true) = true := by kernel_rfl
theorem k_sh : Rows.valsRowsRow.shortTexts.isNone = true := by kernel_rfl
theorem k_lf : (Rows.valsRowsRow.lifted == false) = true := by kernel_rfl
theorem k_mk : (some Make.cut == some Rows.valsRowsRow.make) = true := by kernel_rfl
theorem k_kd : (Rows.valsRowsRow.kinds == (if Rows.valsRowsRow.domain.isEmpty then [] else Try.f3.params.toList.map fun t => match Try.prog.underlying t with | some (.int k) => some k | _ => none)) = true := by kernel_rfl
theorem k_pi : (Rows.valsRowsRow.pinned == Rows.valsRowsRow.pinnedBy) = true := by kernel_rfl
theorem k_ve : (Rows.valsRowsRow.veiled == (Try.f3.params.toList ++ Rows.valsRowsSpec.plain.varTypes Try.prog ++ Try.f3.resultTypes.toList).any (Try.prog.veiledRec ·)) = true := by kernel_rfl
theorem k_vf : Rows.valsRowsRow.veiledFits Try.prog Try.f3.params.toList (Try.f3.params.toList ++ Rows.valsRowsSpec.plain.varTypes Try.prog ++ Try.f3.resultTypes.toList) = true := by kernel_rfl
set_option maxRecDepth 100000 in
theorem closed : joinedFacts Try.pinned.checked.prog 3 Try.f3 Rows.valsRowsSpec Rows.valsRowsRow = true := by
  show joinedFacts Try.prog 3 Try.f3 Rows.valsRowsSpec Rows.valsRowsRow = true
  unfold joinedFacts
  rw [Facts.laid, Facts.mapsR, Facts.heard, Facts.may, Facts.lifts, Facts.make_, Facts.plain, Facts.stops, Facts.knobs]
  simp only [Bool.and_eq_true]
  exact ⟨⟨⟨⟨⟨⟨⟨⟨⟨⟨⟨⟨⟨⟨⟨⟨⟨⟨⟨⟨⟨⟨⟨⟨⟨⟨⟨⟨⟨⟨⟨k_wf, trivial⟩, trivial⟩, k_pr⟩, k_nt⟩, k_st⟩, beq_self_eq_true _⟩, k_kn⟩, beq_self_eq_true _⟩, k_ip⟩, k_uf⟩, k_re⟩, k_nm⟩, k_mp⟩, k_fc⟩, k_mo⟩, k_lp⟩, k_wk⟩, k_vr⟩, k_rr⟩, k_io⟩, k_lo⟩, k_pk⟩, k_sh⟩, trivial⟩, trivial⟩, k_lf⟩, k_mk⟩, k_kd⟩, k_pi⟩, k_ve⟩, k_vf⟩
theorem named : Try.pinned.checked.prog.funcNamed Rows.valsRowsRow.func = some 3 := by kernel_rfl
theorem inst : Try.f3.isInstance Try.pinned.checked.prog Rows.valsRowsRow.origin Rows.valsRowsRow.targs := of_decide_eq_true (by kernel_rfl)
theorem over : Rows.valsRowsRow.holds Try.pinned (OpenSpec.ofChange Rows.valsRowsSpec) :=
  OpenClaim.holds_of_wide 3 Try.f3 rfl rfl rfl rfl rfl rfl rfl ⟨rfl, rfl, rfl, rfl, rfl⟩ rfl rfl rfl rfl rfl named Try.func3 closed
    inst (by unfold Func.isWrapper; first | (rw [if_pos (by decide +kernel)]; kernel_rfl) | (rw [if_neg (by decide +kernel)]; exact ⟨rfl, rfl⟩))
    (fun os started H enc _ => lifted os started H enc)

theorem valsRows_holds : Rows.ValsRowsSaid :=
  over
end Go.Proofs.Ytjhcbehnopmnpaa.valsRows
