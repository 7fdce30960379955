/-
  The law ExprsTyped of chapter 3 holds: for every input of its row it returns true and leaves its arguments as they were. No condition beside the row's own.
-/
import Derived.Test.YtjhcbehnopmnpaaFacts
import Derived.Test.YtjhcbehnopmnpaaReadI
import Derived.Test.YtjhcbehnopmnpaaEx
import Derived.Test.YtjhcbehnopmnpaaLawETyped
namespace Go.Proofs.Ytjhcbehnopmnpaa.exprsTyped
open Go.ChangeShapes Go.WideShapes Go.ChangeAt Go.RowKit Go.Calm Go.Proofs.Ytjhcbehnopmnpaa
set_option linter.unusedVariables false

theorem own : ownKnob Try.prog.godebug = none := by kernel_rfl

set_option maxRecDepth 100000 in
theorem lifted (os : Os) (started : os.Started) (H : Type) (enc : TypeId × Value → H) :
    ReturnsInHanded {} Try.checked os 10 .any (Rows.exprsTypedSpec.pre6 enc Try.prog Try.f10 Rows.exprsTypedRow.domain false) (Rows.exprsTypedSpec.post enc Try.prog Try.f10 false true false false) := by
  refine returnsInHanded_of_change (C := Try.checked) own started (by kernel_rfl) Try.func10
    (ChangeSpec.witness6 (enc := enc) (C := Try.checked) false ⟨#[], #[.slice none 0 0, .agg #[.int .i64 1, .int .i64 1, .int .i64 0, .string ⟨#[]⟩, .int .i64 0, .slice none 0 0], .slice none 0 0], []⟩ 8 (by kernel_rfl) (by kernel_rfl) (by kernel_rfl) (by kernel_rfl)) ?_
  intro W base args ds gs before hval0 hW hcnd _
  have hval : ∀ (j : Nat) t v, Try.f10.params[j]? = some t → args[j]? = some v → Value.okWide Try.prog W .any base t v := hval0
  have hW' := hW
  obtain ⟨p, q, hA0, hV, hpq, hfz, hnd⟩ := hW
  have hA : DataW.TrodAll enc Try.prog W 0 (fun _ => true) true Try.f10.params.toList args.toList ds p := hA0
  rw [Try.params10] at hA hval
  obtain ⟨v0, vs0, d0, ds0, p0, q0, hargs, hds, hq0, h0, r0⟩ := trodAll_cons hA
  obtain ⟨v1, vs1, d1, ds1, p1, q1, rfl, rfl, hq1, h1, r1⟩ := trodAll_cons r0
  obtain ⟨v2, vs2, d2, ds2, p2, q2, rfl, rfl, hq2, h2, r2⟩ := trodAll_cons r1
  obtain ⟨rfl, rfl, _⟩ := trodAll_nil r2
  obtain rfl : args = #[v0, v1, v2] := by cases args; simp_all
  subst hds
  obtain ⟨rfl, hqq⟩ := trodVars_none hV
  obtain ⟨A0, x0, c0, rfl, s0, l0, cl0, b0⟩ := ints_read (hval 0 44 v0 rfl rfl) h0
  obtain ⟨x1, rfl, b1⟩ := ex_read (hval 1 47 v1 rfl rfl) h1
  obtain ⟨A2, x2, c2, rfl, s2, l2, b2⟩ := vals_read (hval 2 22 v2 rfl rfl) h2
  refine (law_etyped x0 x2 A0 A2 c0 c2 x1 W (by have := l0; unfold maxLen at this; omega) (by have := l2; unfold maxLen at this; omega) s0 s2 b1).mono fun e W' ⟨he, hg⟩ => ?_
  subst he
  exact ⟨_, rfl, law_post rfl rfl 4 (by kernel_rfl) Try.underlying4 (by kernel_rfl) (of_decide_eq_true (by kernel_rfl)) hW' hg⟩

theorem k_wf : Rows.exprsTypedRow.wf (OpenSpec.ofChange Rows.exprsTypedSpec) = true := by kernel_rfl
theorem k_pr : Try.f10.params.all (Try.prog.readableRec ·) = true := by kernel_rfl
theorem k_nt : namedTie Try.prog Rows.exprsTypedRow.named Rows.exprsTypedSpec.vars = true := by kernel_rfl
theorem k_st : (Rows.exprsTypedRow.stops == []) = true := by kernel_rfl
theorem k_kn : (Rows.exprsTypedRow.knobs == []) = true := by kernel_rfl
theorem k_ip : (Rows.exprsTypedRow.inPlace == Try.prog.inPlace 10) = true := by kernel_rfl
theorem k_uf : (Rows.exprsTypedRow.unfollowed == Try.prog.unfollowed 10) = true := by kernel_rfl
theorem k_re : (Rows.exprsTypedRow.recurses == Try.prog.recurses 10) = true := by kernel_rfl
theorem k_nm : (Rows.exprsTypedRow.named == Try.prog.varsNamed 10) = true := by kernel_rfl
theorem k_mp : (Rows.exprsTypedRow.maps == (Try.f10.params.toList ++ Rows.exprsTypedSpec.plain.varTypes Try.prog).any (Try.prog.mapsRec ·)) = true := by kernel_rfl
theorem k_fc : (Rows.exprsTypedRow.ifaces == (Try.f10.params.toList ++ Rows.exprsTypedSpec.plain.varTypes Try.prog).any (Try.prog.ifacesRec ·)) = true := by kernel_rfl
theorem k_mo : (Rows.exprsTypedRow.mapsOut == Try.prog.mapsAmong Try.f10.resultTypes.toList) = true := by kernel_rfl
theorem k_lp : (Rows.exprsTypedRow.loops == (Try.f10.params.toList ++ Rows.exprsTypedSpec.plain.varTypes Try.prog).any (Try.prog.loopsFrom ·)) = true := by kernel_rfl
theorem k_wk : (Rows.exprsTypedRow.wideKeys == (Try.f10.params.toList ++ Rows.exprsTypedSpec.plain.varTypes Try.prog ++ Try.f10.resultTypes.toList).any (Try.prog.wideKeysFrom ·)) = true := by kernel_rfl
theorem k_vr : Rows.exprsTypedSpec.vars.all (Try.prog.varReadable ·) = true := by kernel_rfl
theorem k_rr : Try.f10.resultTypes.all (fun t => Try.prog.readableRec t && decide (t < Try.prog.types.size)) = true := by kernel_rfl
theorem k_io : (Rows.exprsTypedRow.ifacesOut == Try.f10.resultTypes.toList.any (Try.prog.ifacesRec ·)) = true := by kernel_rfl
theorem k_lo : (Rows.exprsTypedRow.loopsOut == Try.f10.resultTypes.toList.any (Try.prog.loopsFrom ·)) = true := by kernel_rfl
theorem k_pk : (Rows.exprsTypedRow.plainKeys == true) = true := by kernel_rfl
theorem k_sh : Rows.exprsTypedRow.shortTexts.isNone = true := by kernel_rfl
theorem k_lf : (Rows.exprsTypedRow.lifted == false) = true := by kernel_rfl
theorem k_mk : (some Make.cut == some Rows.exprsTypedRow.make) = true := by kernel_rfl
theorem k_kd : (Rows.exprsTypedRow.kinds == (if Rows.exprsTypedRow.domain.isEmpty then [] else Try.f10.params.toList.map fun t => match Try.prog.underlying t with | some (.int k) => some k | _ => none)) = true := by kernel_rfl
theorem k_pi : (Rows.exprsTypedRow.pinned == Rows.exprsTypedRow.pinnedBy) = true := by kernel_rfl
theorem k_ve : (Rows.exprsTypedRow.veiled == (Try.f10.params.toList ++ Rows.exprsTypedSpec.plain.varTypes Try.prog ++ Try.f10.resultTypes.toList).any (Try.prog.veiledRec ·)) = true := by kernel_rfl
theorem k_vf : Rows.exprsTypedRow.veiledFits Try.prog Try.f10.params.toList (Try.f10.params.toList ++ Rows.exprsTypedSpec.plain.varTypes Try.prog ++ Try.f10.resultTypes.toList) = true := by kernel_rfl
set_option maxRecDepth 100000 in
theorem closed : joinedFacts Try.pinned.checked.prog 10 Try.f10 Rows.exprsTypedSpec Rows.exprsTypedRow = true := by
  show joinedFacts Try.prog 10 Try.f10 Rows.exprsTypedSpec Rows.exprsTypedRow = true
  unfold joinedFacts
  rw [Facts.laid, Facts.mapsR, Facts.heard, Facts.may, Facts.lifts, Facts.make_, Facts.plain, Facts.stops, Facts.knobs]
  simp only [Bool.and_eq_true]
  exact ⟨⟨⟨⟨⟨⟨⟨⟨⟨⟨⟨⟨⟨⟨⟨⟨⟨⟨⟨⟨⟨⟨⟨⟨⟨⟨⟨⟨⟨⟨⟨k_wf, trivial⟩, trivial⟩, k_pr⟩, k_nt⟩, k_st⟩, beq_self_eq_true _⟩, k_kn⟩, beq_self_eq_true _⟩, k_ip⟩, k_uf⟩, k_re⟩, k_nm⟩, k_mp⟩, k_fc⟩, k_mo⟩, k_lp⟩, k_wk⟩, k_vr⟩, k_rr⟩, k_io⟩, k_lo⟩, k_pk⟩, k_sh⟩, trivial⟩, trivial⟩, k_lf⟩, k_mk⟩, k_kd⟩, k_pi⟩, k_ve⟩, k_vf⟩
theorem named : Try.pinned.checked.prog.funcNamed Rows.exprsTypedRow.func = some 10 := by kernel_rfl
theorem inst : Try.f10.isInstance Try.pinned.checked.prog Rows.exprsTypedRow.origin Rows.exprsTypedRow.targs := of_decide_eq_true (by kernel_rfl)
theorem over : Rows.exprsTypedRow.holds Try.pinned (OpenSpec.ofChange Rows.exprsTypedSpec) :=
  OpenClaim.holds_of_wide 10 Try.f10 rfl rfl rfl rfl rfl rfl rfl ⟨rfl, rfl, rfl, rfl, rfl⟩ rfl rfl rfl rfl rfl named Try.func10 closed
    inst (by unfold Func.isWrapper; first | (rw [if_pos (by decide +kernel)]; kernel_rfl) | (rw [if_neg (by decide +kernel)]; exact ⟨rfl, rfl⟩))
    (fun os started H enc _ => lifted os started H enc)

theorem exprsTyped_holds : Rows.ExprsTypedSaid :=
  over
end Go.Proofs.Ytjhcbehnopmnpaa.exprsTyped
