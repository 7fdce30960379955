/-
  A text of the proof of the law WindowParts; no condition beside the row's own.
-/
import Derived.Test.YtamfpppbjaelaaaFacts
import Derived.Test.YtamfpppbjaelaaaGD
import Derived.Test.YtamfpppbjaelaaaGH
import Derived.Test.YtamfpppbjaelaaaGS
import Derived.Test.YtamfpppbjaelaaaGVad
import Derived.Test.YtamfpppbjaelaaaGT
import Derived.Test.YtamfpppbjaelaaaHLawWParts
set_option maxRecDepth 100000
namespace Go.Proofs.Ytamfpppbjaelaaa.windowParts
open Go.ChangeShapes Go.WideShapes Go.ChangeAt Go.RowKit Go.Calm Go.Proofs.Ytamfpppbjaelaaa
set_option linter.unusedVariables false
theorem own : ownKnob Try.prog.godebug = none := by kernel_rfl

theorem lifted (os : Os) (started : os.Started) (H : Type) (enc : TypeId × Value → H) :
    ReturnsInHanded {} Try.checked os 4 .any (Rows.windowPartsSpec.pre6 enc Try.prog Try.f4 Rows.windowPartsRow.domain false) (Rows.windowPartsSpec.post enc Try.prog Try.f4 false true false false) := by
  refine returnsInHanded_of_change_sized (C := Try.checked) own started (by kernel_rfl) Try.func4
    (ChangeSpec.witness6 (enc := enc) (C := Try.checked) false ⟨#[], #[.slice none 0 0, .int .i64 0, .slice none 0 0, .slice none 0 0, .slice none 0 0, .agg #[.int .i64 1, .int .i64 0, .string ⟨#[]⟩]], []⟩ 8 (by kernel_rfl) (by kernel_rfl) (by kernel_rfl) (by kernel_rfl)) ?_
  intro W base args ds gs before hval0 hW hcnd hsz _
  have hval : ∀ (j : Nat) t v, Try.f4.params[j]? = some t → args[j]? = some v → Value.okWide Try.prog W .any base t v := hval0
  have hW' := hW
  obtain ⟨p, q, hA0, hV, hpq, hfz, hnd⟩ := hW
  have hA : DataW.TrodAll enc Try.prog W 0 (fun _ => true) true Try.f4.params.toList args.toList ds p := hA0
  rw [Try.params4] at hA hval
  obtain ⟨v0, vs0, d0, ds0, p0, q0, hargs, hds, hq0, h0, r0⟩ := trodAll_cons hA
  obtain ⟨v1, vs1, d1, ds1, p1, q1, rfl, rfl, hq1, h1, r1⟩ := trodAll_cons r0
  obtain ⟨v2, vs2, d2, ds2, p2, q2, rfl, rfl, hq2, h2, r2⟩ := trodAll_cons r1
  obtain ⟨v3, vs3, d3, ds3, p3, q3, rfl, rfl, hq3, h3, r3⟩ := trodAll_cons r2
  obtain ⟨v4, vs4, d4, ds4, p4, q4, rfl, rfl, hq4, h4, r4⟩ := trodAll_cons r3
  obtain ⟨v5, vs5, d5, ds5, p5, q5, rfl, rfl, hq5, h5, r5⟩ := trodAll_cons r4
  obtain ⟨rfl, rfl, _⟩ := trodAll_nil r5
  obtain rfl : args = #[v0, v1, v2, v3, v4, v5] := by cases args; simp_all
  subst hds
  obtain ⟨rfl, hqq⟩ := trodVars_none hV
  obtain ⟨A0, x0, c0, rfl, s0, l0, cl0, b0⟩ := ints_read (hval 0 22 v0 rfl rfl) h0
  obtain ⟨a1, rfl, rfl, rfl, w1⟩ := open_int Try.underlying3 (hval 1 3 v1 rfl rfl) h1
  obtain ⟨A2, x2, c2, rfl, s2, l2, cl2⟩ := exs_read (hval 2 23 v2 rfl rfl) h2
  obtain ⟨A3, x3, c3, rfl, s3, l3, cl3⟩ := wins_read (hval 3 35 v3 rfl rfl) h3
  obtain ⟨A4, x4, c4, rfl, z4, l4, k4, b4⟩ := zrows_read (hval 4 24 v4 rfl rfl) h4
  obtain ⟨x5, rfl, b5⟩ := val_read (hval 5 30 v5 rfl rfl) h5
  have m0 : x0.length ≤ 140737488355328 := slice_bound hsz 0 (by kernel_rfl) rfl Try.underlying22 (by kernel_rfl) h0
  have m2 : x2.length ≤ 140737488355328 := slice_bound hsz 2 (by kernel_rfl) rfl Try.underlying23 (by kernel_rfl) h2
  have m3 : x3.length ≤ 140737488355328 := slice_bound hsz 3 (by kernel_rfl) rfl Try.underlying35 (by kernel_rfl) h3
  refine (law_wparts x0 A0 c0 a1 x2 A2 c2 x3 A3 c3 x4 A4 c4 x5 W m0 m2 m3 (wf_i64 w1) b5 s0 s2 s3 ⟨z4, k4, (by show x4.length ≤ _; have := l4; unfold maxLen at this; omega), fun x hx => (by have := (b4 x hx).len; unfold maxLen at this; omega)⟩).mono fun e W' ⟨he, hg⟩ => ?_
  subst he
  exact ⟨_, rfl, law_post rfl rfl 4 (by kernel_rfl) Try.underlying4 (by kernel_rfl) (of_decide_eq_true (by kernel_rfl)) hW' hg⟩

theorem k_wf : Rows.windowPartsRow.wf (OpenSpec.ofChange Rows.windowPartsSpec) = true := by kernel_rfl
theorem k_pr : Try.f4.params.all (Try.prog.readableRec ·) = true := by kernel_rfl
theorem k_nt : namedTie Try.prog Rows.windowPartsRow.named Rows.windowPartsSpec.vars = true := by kernel_rfl
theorem k_st : (Rows.windowPartsRow.stops == []) = true := by kernel_rfl
theorem k_kn : (Rows.windowPartsRow.knobs == []) = true := by kernel_rfl
theorem k_ip : (Rows.windowPartsRow.inPlace == Try.prog.inPlace 4) = true := by kernel_rfl
theorem k_uf : (Rows.windowPartsRow.unfollowed == Try.prog.unfollowed 4) = true := by kernel_rfl
theorem k_re : (Rows.windowPartsRow.recurses == Try.prog.recurses 4) = true := by kernel_rfl
theorem k_nm : (Rows.windowPartsRow.named == Try.prog.varsNamed 4) = true := by kernel_rfl
theorem k_mp : (Rows.windowPartsRow.maps == (Try.f4.params.toList ++ Rows.windowPartsSpec.plain.varTypes Try.prog).any (Try.prog.mapsRec ·)) = true := by kernel_rfl
theorem k_fc : (Rows.windowPartsRow.ifaces == (Try.f4.params.toList ++ Rows.windowPartsSpec.plain.varTypes Try.prog).any (Try.prog.ifacesRec ·)) = true := by kernel_rfl
theorem k_mo : (Rows.windowPartsRow.mapsOut == Try.prog.mapsAmong Try.f4.resultTypes.toList) = true := by kernel_rfl
theorem k_lp : (Rows.windowPartsRow.loops == (Try.f4.params.toList ++ Rows.windowPartsSpec.plain.varTypes Try.prog).any (Try.prog.loopsFrom ·)) = true := by kernel_rfl
theorem k_wk : (Rows.windowPartsRow.wideKeys == (Try.f4.params.toList ++ Rows.windowPartsSpec.plain.varTypes Try.prog ++ Try.f4.resultTypes.toList).any (Try.prog.wideKeysFrom ·)) = true := by kernel_rfl
theorem k_vr : Rows.windowPartsSpec.vars.all (Try.prog.varReadable ·) = true := by kernel_rfl
theorem k_rr : Try.f4.resultTypes.all (fun t => Try.prog.readableRec t && decide (t < Try.prog.types.size)) = true := by kernel_rfl
theorem k_io : (Rows.windowPartsRow.ifacesOut == Try.f4.resultTypes.toList.any (Try.prog.ifacesRec ·)) = true := by kernel_rfl
theorem k_lo : (Rows.windowPartsRow.loopsOut == Try.f4.resultTypes.toList.any (Try.prog.loopsFrom ·)) = true := by kernel_rfl
theorem k_pk : (Rows.windowPartsRow.plainKeys == true) = true := by kernel_rfl
theorem k_sh : Rows.windowPartsRow.shortTexts.isNone = true := by kernel_rfl
theorem k_lf : (Rows.windowPartsRow.lifted == false) = true := by kernel_rfl
theorem k_mk : (some Make.cut == some Rows.windowPartsRow.make) = true := by kernel_rfl
theorem k_kd : (Rows.windowPartsRow.kinds == (if Rows.windowPartsRow.domain.isEmpty then [] else Try.f4.params.toList.map fun t => match Try.prog.underlying t with | some (.int k) => some k | _ => none)) = true := by kernel_rfl
theorem k_pi : (Rows.windowPartsRow.pinned == Rows.windowPartsRow.pinnedBy) = true := by kernel_rfl
theorem k_ve : (Rows.windowPartsRow.veiled == (Try.f4.params.toList ++ Rows.windowPartsSpec.plain.varTypes Try.prog ++ Try.f4.resultTypes.toList).any (Try.prog.veiledRec ·)) = true := by kernel_rfl
theorem k_vf : Rows.windowPartsRow.veiledFits Try.prog Try.f4.params.toList (Try.f4.params.toList ++ Rows.windowPartsSpec.plain.varTypes Try.prog ++ Try.f4.resultTypes.toList) = true := by kernel_rfl
theorem closed : joinedFacts Try.pinned.checked.prog 4 Try.f4 Rows.windowPartsSpec Rows.windowPartsRow = true := by
  show joinedFacts Try.prog 4 Try.f4 Rows.windowPartsSpec Rows.windowPartsRow = true
  unfold joinedFacts
  rw [Facts.laid, Facts.mapsR, Facts.heard, Facts.may, Facts.lifts, Facts.make_, Facts.plain, Facts.stops, Facts.knobs]
  simp only [Bool.and_eq_true]
  exact ⟨⟨⟨⟨⟨⟨⟨⟨⟨⟨⟨⟨⟨⟨⟨⟨⟨⟨⟨⟨⟨⟨⟨⟨⟨⟨⟨⟨⟨⟨⟨k_wf, trivial⟩, trivial⟩, k_pr⟩, k_nt⟩, k_st⟩, beq_self_eq_true _⟩, k_kn⟩, beq_self_eq_true _⟩, k_ip⟩, k_uf⟩, k_re⟩, k_nm⟩, k_mp⟩, k_fc⟩, k_mo⟩, k_lp⟩, k_wk⟩, k_vr⟩, k_rr⟩, k_io⟩, k_lo⟩, k_pk⟩, k_sh⟩, trivial⟩, trivial⟩, k_lf⟩, k_mk⟩, k_kd⟩, k_pi⟩, k_ve⟩, k_vf⟩
theorem named : Try.pinned.checked.prog.funcNamed Rows.windowPartsRow.func = some 4 := by kernel_rfl
theorem inst : Try.f4.isInstance Try.pinned.checked.prog Rows.windowPartsRow.origin Rows.windowPartsRow.targs := of_decide_eq_true (by kernel_rfl)
theorem over : Rows.windowPartsRow.holds Try.pinned (OpenSpec.ofChange Rows.windowPartsSpec) :=
  OpenClaim.holds_of_wide 4 Try.f4 rfl rfl rfl rfl rfl rfl rfl ⟨rfl, rfl, rfl, rfl, rfl⟩ rfl rfl rfl rfl rfl named Try.func4 closed
    inst (by unfold Func.isWrapper; first | (rw [if_pos (by decide +kernel)]; kernel_rfl) | (rw [if_neg (by decide +kernel)]; exact ⟨rfl, rfl⟩))
    (fun os started H enc _ => lifted os started H enc)

theorem windowParts_holds : Rows.WindowPartsSaid :=
  over
end Go.Proofs.Ytamfpppbjaelaaa.windowParts
