/-
  A text of the proof of the law OpsCounts; no condition beside the row's own.
-/
import Derived.Test.YtigpbihjjadmlaaFacts
import Derived.Test.YtigpbihjjadmlaaGD
import Derived.Test.YtigpbihjjadmlaaGH
import Derived.Test.YtigpbihjjadmlaaGS
import Derived.Test.YtigpbihjjadmlaaGT
import Derived.Test.YtigpbihjjadmlaaHLawOCounts
namespace Go.Proofs.Ytigpbihjjadmlaa.opsCounts
open Go.ChangeShapes Go.WideShapes Go.ChangeAt Go.RowKit Go.Calm Go.Proofs.Ytigpbihjjadmlaa
set_option linter.unusedVariables false

theorem own : ownKnob Try.prog.godebug = none := by kernel_rfl

set_option maxRecDepth 100000 in
theorem lifted (os : Os) (started : os.Started) (H : Type) (enc : TypeId × Value → H) :
    ReturnsInHanded {} Try.checked os 8 .any (Rows.opsCountsSpec.pre6 enc Try.prog Try.f8 Rows.opsCountsRow.domain false) (Rows.opsCountsSpec.post enc Try.prog Try.f8 false true false false) := by
  refine returnsInHanded_of_change_sized (C := Try.checked) own started (by kernel_rfl) Try.func8
    (ChangeSpec.witness6 (enc := enc) (C := Try.checked) false ⟨#[], #[.slice none 0 0, .slice none 0 0, .slice none 0 0], []⟩ 8 (by kernel_rfl) (by kernel_rfl) (by kernel_rfl) (by kernel_rfl)) ?_
  intro W base args ds gs before hval0 hW hcnd hsz _
  have hval : ∀ (j : Nat) t v, Try.f8.params[j]? = some t → args[j]? = some v → Value.okWide Try.prog W .any base t v := hval0
  have hW' := hW
  obtain ⟨p, q, hA0, hV, hpq, hfz, hnd⟩ := hW
  have hA : DataW.TrodAll enc Try.prog W 0 (fun _ => true) true Try.f8.params.toList args.toList ds p := hA0
  rw [Try.params8] at hA hval
  obtain ⟨v0, vs0, d0, ds0, p0, q0, hargs, hds, hq0, h0, r0⟩ := trodAll_cons hA
  obtain ⟨v1, vs1, d1, ds1, p1, q1, rfl, rfl, hq1, h1, r1⟩ := trodAll_cons r0
  obtain ⟨v2, vs2, d2, ds2, p2, q2, rfl, rfl, hq2, h2, r2⟩ := trodAll_cons r1
  obtain ⟨rfl, rfl, _⟩ := trodAll_nil r2
  obtain rfl : args = #[v0, v1, v2] := by cases args; simp_all
  subst hds
  obtain ⟨rfl, hqq⟩ := trodVars_none hV
  obtain ⟨A0, x0, c0, rfl, s0, l0, cl0, b0⟩ := ints_read (hval 0 38 v0 rfl rfl) h0
  obtain ⟨A1, x1, c1, rfl, s1, l1, cl1⟩ := exs_read (hval 1 25 v1 rfl rfl) h1
  obtain ⟨A2, x2, c2, rfl, z2, l2, k2, b2⟩ := zrows_read (hval 2 42 v2 rfl rfl) h2
  have m1 : x1.length ≤ 140737488355328 := slice_bound hsz 1 (by kernel_rfl) rfl Try.underlying25 (by kernel_rfl) h1
  refine (law_ocounts x0 A0 c0 x1 A1 c1 ⟨A2, x2, c2⟩ W (by have := l0; unfold maxLen at this; omega) m1 s0 s1 ⟨z2, k2, (by show x2.length ≤ _; have := l2; unfold maxLen at this; omega), fun x hx => (by have := (b2 x hx).len; unfold maxLen at this; omega)⟩).mono fun e W' ⟨he, hg⟩ => ?_
  subst he
  exact ⟨_, rfl, law_post rfl rfl 4 (by kernel_rfl) Try.underlying4 (by kernel_rfl) (of_decide_eq_true (by kernel_rfl)) hW' hg⟩

theorem k_wf : Rows.opsCountsRow.wf (OpenSpec.ofChange Rows.opsCountsSpec) = true := by kernel_rfl
theorem k_pr : Try.f8.params.all (Try.prog.readableRec ·) = true := by kernel_rfl
theorem k_nt : namedTie Try.prog Rows.opsCountsRow.named Rows.opsCountsSpec.vars = true := by kernel_rfl
theorem k_st : (Rows.opsCountsRow.stops == []) = true := by kernel_rfl
theorem k_kn : (Rows.opsCountsRow.knobs == []) = true := by kernel_rfl
theorem k_ip : (Rows.opsCountsRow.inPlace == Try.prog.inPlace 8) = true := by kernel_rfl
theorem k_uf : (Rows.opsCountsRow.unfollowed == Try.prog.unfollowed 8) = true := by kernel_rfl
theorem k_re : (Rows.opsCountsRow.recurses == Try.prog.recurses 8) = true := by kernel_rfl
theorem k_nm : (Rows.opsCountsRow.named == Try.prog.varsNamed 8) = true := by kernel_rfl
theorem k_mp : (Rows.opsCountsRow.maps == (Try.f8.params.toList ++ Rows.opsCountsSpec.plain.varTypes Try.prog).any (Try.prog.mapsRec ·)) = true := by kernel_rfl
theorem k_fc : (Rows.opsCountsRow.ifaces == (Try.f8.params.toList ++ Rows.opsCountsSpec.plain.varTypes Try.prog).any (Try.prog.ifacesRec ·)) = true := by kernel_rfl
theorem k_mo : (Rows.opsCountsRow.mapsOut == Try.prog.mapsAmong Try.f8.resultTypes.toList) = true := by kernel_rfl
theorem k_lp : (Rows.opsCountsRow.loops == (Try.f8.params.toList ++ Rows.opsCountsSpec.plain.varTypes Try.prog).any (Try.prog.loopsFrom ·)) = true := by kernel_rfl
theorem k_wk : (Rows.opsCountsRow.wideKeys == (Try.f8.params.toList ++ Rows.opsCountsSpec.plain.varTypes Try.prog ++ Try.f8.resultTypes.toList).any (Try.prog.wideKeysFrom ·)) = true := by kernel_rfl
theorem k_vr : Rows.opsCountsSpec.vars.all (Try.prog.varReadable ·) = true := by kernel_rfl
theorem k_rr : Try.f8.resultTypes.all (fun t => Try.prog.readableRec t && decide (t < Try.prog.types.size)) = true := by kernel_rfl
theorem k_io : (Rows.opsCountsRow.ifacesOut == Try.f8.resultTypes.toList.any (Try.prog.ifacesRec ·)) = true := by kernel_rfl
theorem k_lo : (Rows.opsCountsRow.loopsOut == Try.f8.resultTypes.toList.any (Try.prog.loopsFrom ·)) = true := by kernel_rfl
theorem k_pk : (Rows.opsCountsRow.plainKeys == true) = true := by kernel_rfl
theorem k_sh : Rows.opsCountsRow.shortTexts.isNone = true := by kernel_rfl
theorem k_lf : (Rows.opsCountsRow.lifted == false) = true := by kernel_rfl
theorem k_mk : (some Make.cut == some Rows.opsCountsRow.make) = true := by kernel_rfl
theorem k_kd : (Rows.opsCountsRow.kinds == (if Rows.opsCountsRow.domain.isEmpty then [] else Try.f8.params.toList.map fun t => match Try.prog.underlying t with | some (.int k) => some k | _ => none)) = true := by kernel_rfl
theorem k_pi : (Rows.opsCountsRow.pinned == Rows.opsCountsRow.pinnedBy) = true := by kernel_rfl
theorem k_ve : (Rows.opsCountsRow.veiled == (Try.f8.params.toList ++ Rows.opsCountsSpec.plain.varTypes Try.prog ++ Try.f8.resultTypes.toList).any (Try.prog.veiledRec ·)) = true := by kernel_rfl
theorem k_vf : Rows.opsCountsRow.veiledFits Try.prog Try.f8.params.toList (Try.f8.params.toList ++ Rows.opsCountsSpec.plain.varTypes Try.prog ++ Try.f8.resultTypes.toList) = true := by kernel_rfl
set_option maxRecDepth 100000 in
theorem closed : joinedFacts Try.pinned.checked.prog 8 Try.f8 Rows.opsCountsSpec Rows.opsCountsRow = true := by
  show joinedFacts Try.prog 8 Try.f8 Rows.opsCountsSpec Rows.opsCountsRow = true
  unfold joinedFacts
  rw [Facts.laid, Facts.mapsR, Facts.heard, Facts.may, Facts.lifts, Facts.make_, Facts.plain, Facts.stops, Facts.knobs]
  simp only [Bool.and_eq_true]
  exact ⟨⟨⟨⟨⟨⟨⟨⟨⟨⟨⟨⟨⟨⟨⟨⟨⟨⟨⟨⟨⟨⟨⟨⟨⟨⟨⟨⟨⟨⟨⟨k_wf, trivial⟩, trivial⟩, k_pr⟩, k_nt⟩, k_st⟩, beq_self_eq_true _⟩, k_kn⟩, beq_self_eq_true _⟩, k_ip⟩, k_uf⟩, k_re⟩, k_nm⟩, k_mp⟩, k_fc⟩, k_mo⟩, k_lp⟩, k_wk⟩, k_vr⟩, k_rr⟩, k_io⟩, k_lo⟩, k_pk⟩, k_sh⟩, trivial⟩, trivial⟩, k_lf⟩, k_mk⟩, k_kd⟩, k_pi⟩, k_ve⟩, k_vf⟩
theorem named : Try.pinned.checked.prog.funcNamed Rows.opsCountsRow.func = some 8 := by kernel_rfl
theorem inst : Try.f8.isInstance Try.pinned.checked.prog Rows.opsCountsRow.origin Rows.opsCountsRow.targs := of_decide_eq_true (by kernel_rfl)
theorem over : Rows.opsCountsRow.holds Try.pinned (OpenSpec.ofChange Rows.opsCountsSpec) :=
  OpenClaim.holds_of_wide 8 Try.f8 rfl rfl rfl rfl rfl rfl rfl ⟨rfl, rfl, rfl, rfl, rfl⟩ rfl rfl rfl rfl rfl named Try.func8 closed
    inst (by unfold Func.isWrapper; first | (rw [if_pos (by decide +kernel)]; kernel_rfl) | (rw [if_neg (by decide +kernel)]; exact ⟨rfl, rfl⟩))
    (fun os started H enc _ => lifted os started H enc)

theorem opsCounts_holds : Rows.OpsCountsSaid :=
  over
end Go.Proofs.Ytigpbihjjadmlaa.opsCounts
