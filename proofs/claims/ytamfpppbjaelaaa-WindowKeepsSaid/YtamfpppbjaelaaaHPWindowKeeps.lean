/-
  A text of the proof of the law WindowKeeps; no condition beside the row's own.
-/
import Derived.Test.YtamfpppbjaelaaaFacts
import Derived.Test.YtamfpppbjaelaaaGD
import Derived.Test.YtamfpppbjaelaaaGH
import Derived.Test.YtamfpppbjaelaaaGS
import Derived.Test.YtamfpppbjaelaaaGVad
import Derived.Test.YtamfpppbjaelaaaGT
import Derived.Test.YtamfpppbjaelaaaHLawWKeeps
set_option maxRecDepth 100000
namespace Go.Proofs.Ytamfpppbjaelaaa.windowKeeps
open Go.ChangeShapes Go.WideShapes Go.ChangeAt Go.RowKit Go.Calm Go.Proofs.Ytamfpppbjaelaaa
set_option linter.unusedVariables false
theorem own : ownKnob Try.prog.godebug = none := by kernel_rfl

theorem lifted (os : Os) (started : os.Started) (H : Type) (enc : TypeId × Value → H) :
    ReturnsInHanded {} Try.checked os 5 .any (Rows.windowKeepsSpec.pre6 enc Try.prog Try.f5 Rows.windowKeepsRow.domain false) (Rows.windowKeepsSpec.post enc Try.prog Try.f5 false true false false) := by
  refine returnsInHanded_of_change_sized (C := Try.checked) own started (by kernel_rfl) Try.func5
    (ChangeSpec.witness6 (enc := enc) (C := Try.checked) false ⟨#[], #[.slice none 0 0, .slice none 0 0, .slice none 0 0, .slice none 0 0, .slice none 0 0], []⟩ 8 (by kernel_rfl) (by kernel_rfl) (by kernel_rfl) (by kernel_rfl)) ?_
  intro W base args ds gs before hval0 hW hcnd hsz _
  have hval : ∀ (j : Nat) t v, Try.f5.params[j]? = some t → args[j]? = some v → Value.okWide Try.prog W .any base t v := hval0
  have hW' := hW
  obtain ⟨p, q, hA0, hV, hpq, hfz, hnd⟩ := hW
  have hA : DataW.TrodAll enc Try.prog W 0 (fun _ => true) true Try.f5.params.toList args.toList ds p := hA0
  rw [Try.params5] at hA hval
  obtain ⟨v0, vs0, d0, ds0, p0, q0, hargs, hds, hq0, h0, r0⟩ := trodAll_cons hA
  obtain ⟨v1, vs1, d1, ds1, p1, q1, rfl, rfl, hq1, h1, r1⟩ := trodAll_cons r0
  obtain ⟨v2, vs2, d2, ds2, p2, q2, rfl, rfl, hq2, h2, r2⟩ := trodAll_cons r1
  obtain ⟨v3, vs3, d3, ds3, p3, q3, rfl, rfl, hq3, h3, r3⟩ := trodAll_cons r2
  obtain ⟨v4, vs4, d4, ds4, p4, q4, rfl, rfl, hq4, h4, r4⟩ := trodAll_cons r3
  obtain ⟨rfl, rfl, _⟩ := trodAll_nil r4
  obtain rfl : args = #[v0, v1, v2, v3, v4] := by cases args; simp_all
  subst hds
  obtain ⟨rfl, hqq⟩ := trodVars_none hV
  obtain ⟨A0, x0, c0, rfl, s0, l0, cl0, b0⟩ := ints_read (hval 0 22 v0 rfl rfl) h0
  obtain ⟨A1, x1, c1, rfl, s1, l1, cl1⟩ := exs_read (hval 1 23 v1 rfl rfl) h1
  obtain ⟨A2, x2, c2, rfl, s2, l2, cl2⟩ := exs_read (hval 2 23 v2 rfl rfl) h2
  obtain ⟨A3, x3, c3, rfl, s3, l3, cl3⟩ := wins_read (hval 3 35 v3 rfl rfl) h3
  obtain ⟨A4, x4, c4, rfl, z4, l4, k4, b4⟩ := zrows_read (hval 4 24 v4 rfl rfl) h4
  have m0 : x0.length ≤ 140737488355328 := slice_bound hsz 0 (by kernel_rfl) rfl Try.underlying22 (by kernel_rfl) h0
  have m1 : x1.length ≤ 140737488355328 := slice_bound hsz 1 (by kernel_rfl) rfl Try.underlying23 (by kernel_rfl) h1
  have m2 : x2.length ≤ 140737488355328 := slice_bound hsz 2 (by kernel_rfl) rfl Try.underlying23 (by kernel_rfl) h2
  have m3 : x3.length ≤ 140737488355328 := slice_bound hsz 3 (by kernel_rfl) rfl Try.underlying35 (by kernel_rfl) h3
  refine (law_wkeeps x0 A0 c0 x1 A1 c1 x2 A2 c2 x3 A3 c3 x4 A4 c4 W m0 m1 m2 m3 s0 s1 s2 s3 ⟨z4, k4, (by show x4.length ≤ _; have := l4; unfold maxLen at this; omega), fun x hx => (by have := (b4 x hx).len; unfold maxLen at this; omega)⟩).mono fun e W' ⟨he, hg⟩ => ?_
  subst he
  exact ⟨_, rfl, law_post rfl rfl 4 (by kernel_rfl) Try.underlying4 (by kernel_rfl) (of_decide_eq_true (by kernel_rfl)) hW' hg⟩

theorem k_wf : Rows.windowKeepsRow.wf (OpenSpec.ofChange Rows.windowKeepsSpec) = true := by kernel_rfl
theorem k_pr : Try.f5.params.all (Try.prog.readableRec ·) = true := by kernel_rfl
theorem k_nt : namedTie Try.prog Rows.windowKeepsRow.named Rows.windowKeepsSpec.vars = true := by kernel_rfl
theorem k_st : (Rows.windowKeepsRow.stops == []) = true := by kernel_rfl
theorem k_kn : (Rows.windowKeepsRow.knobs == []) = true := by kernel_rfl
theorem k_ip : (Rows.windowKeepsRow.inPlace == Try.prog.inPlace 5) = true := by kernel_rfl
theorem k_uf : (Rows.windowKeepsRow.unfollowed == Try.prog.unfollowed 5) = true := by kernel_rfl
theorem k_re : (Rows.windowKeepsRow.recurses == Try.prog.recurses 5) = true := by kernel_rfl
theorem k_nm : (Rows.windowKeepsRow.named == Try.prog.varsNamed 5) = true := by kernel_rfl
theorem k_mp : (Rows.windowKeepsRow.maps == (Try.f5.params.toList ++ Rows.windowKeepsSpec.plain.varTypes Try.prog).any (Try.prog.mapsRec ·)) = true := by kernel_rfl
theorem k_fc : (Rows.windowKeepsRow.ifaces == (Try.f5.params.toList ++ Rows.windowKeepsSpec.plain.varTypes Try.prog).any (Try.prog.ifacesRec ·)) = true := by kernel_rfl
theorem k_mo : (Rows.windowKeepsRow.mapsOut == Try.prog.mapsAmong Try.f5.resultTypes.toList) = true := by kernel_rfl
theorem k_lp : (Rows.windowKeepsRow.loops == (Try.f5.params.toList ++ Rows.windowKeepsSpec.plain.varTypes Try.prog).any (Try.prog.loopsFrom ·)) = true := by kernel_rfl
theorem k_wk : (Rows.windowKeepsRow.wideKeys == (Try.f5.params.toList ++ Rows.windowKeepsSpec.plain.varTypes Try.prog ++ Try.f5.resultTypes.toList).any (Try.prog.wideKeysFrom ·)) = true := by kernel_rfl
theorem k_vr : Rows.windowKeepsSpec.vars.all (Try.prog.varReadable ·) = true := by kernel_rfl
theorem k_rr : Try.f5.resultTypes.all (fun t => Try.prog.readableRec t && decide (t < Try.prog.types.size)) = true := by kernel_rfl
theorem k_io : (Rows.windowKeepsRow.ifacesOut == Try.f5.resultTypes.toList.any (Try.prog.ifacesRec ·)) = true := by kernel_rfl
theorem k_lo : (Rows.windowKeepsRow.loopsOut == Try.f5.resultTypes.toList.any (Try.prog.loopsFrom ·)) = true := by kernel_rfl
theorem k_pk : (Rows.windowKeepsRow.plainKeys == true) = true := by kernel_rfl
theorem k_sh : Rows.windowKeepsRow.shortTexts.isNone = true := by kernel_rfl
theorem k_lf : (Rows.windowKeepsRow.lifted == false) = true := by kernel_rfl
theorem k_mk : (some Make.cut == some Rows.windowKeepsRow.make) = true := by kernel_rfl
theorem k_kd : (Rows.windowKeepsRow.kinds == (if Rows.windowKeepsRow.domain.isEmpty then [] else Try.f5.params.toList.map fun t => match Try.prog.underlying t with | some (.int k) => some k | _ => none)) = true := by kernel_rfl
theorem k_pi : (Rows.windowKeepsRow.pinned == Rows.windowKeepsRow.pinnedBy) = true := by kernel_rfl
theorem k_ve : (Rows.windowKeepsRow.veiled == (Try.f5.params.toList ++ Rows.windowKeepsSpec.plain.varTypes Try.prog ++ Try.f5.resultTypes.toList).any (Try.prog.veiledRec ·)) = true := by kernel_rfl
theorem k_vf : Rows.windowKeepsRow.veiledFits Try.prog Try.f5.params.toList (Try.f5.params.toList ++ Rows.windowKeepsSpec.plain.varTypes Try.prog ++ Try.f5.resultTypes.toList) = true := by kernel_rfl
theorem closed : joinedFacts Try.pinned.checked.prog 5 Try.f5 Rows.windowKeepsSpec Rows.windowKeepsRow = true := by
  show joinedFacts Try.prog 5 Try.f5 Rows.windowKeepsSpec Rows.windowKeepsRow = true
  unfold joinedFacts
  rw [Facts.laid, Facts.mapsR, Facts.heard, Facts.may, Facts.lifts, Facts.make_, Facts.plain, Facts.stops, Facts.knobs]
  simp only [Bool.and_eq_true]
  exact ⟨⟨⟨⟨⟨⟨⟨⟨⟨⟨⟨⟨⟨⟨⟨⟨⟨⟨⟨⟨⟨⟨⟨⟨⟨⟨⟨⟨⟨⟨⟨k_wf, trivial⟩, trivial⟩, k_pr⟩, k_nt⟩, k_st⟩, beq_self_eq_true _⟩, k_kn⟩, beq_self_eq_true _⟩, k_ip⟩, k_uf⟩, k_re⟩, k_nm⟩, k_mp⟩, k_fc⟩, k_mo⟩, k_lp⟩, k_wk⟩, k_vr⟩, k_rr⟩, k_io⟩, k_lo⟩, k_pk⟩, k_sh⟩, trivial⟩, trivial⟩, k_lf⟩, k_mk⟩, k_kd⟩, k_pi⟩, k_ve⟩, k_vf⟩
theorem named : Try.pinned.checked.prog.funcNamed Rows.windowKeepsRow.func = some 5 := by kernel_rfl
theorem inst : Try.f5.isInstance Try.pinned.checked.prog Rows.windowKeepsRow.origin Rows.windowKeepsRow.targs := of_decide_eq_true (by kernel_rfl)
theorem over : Rows.windowKeepsRow.holds Try.pinned (OpenSpec.ofChange Rows.windowKeepsSpec) :=
  OpenClaim.holds_of_wide 5 Try.f5 rfl rfl rfl rfl rfl rfl rfl ⟨rfl, rfl, rfl, rfl, rfl⟩ rfl rfl rfl rfl rfl named Try.func5 closed
    inst (by unfold Func.isWrapper; first | (rw [if_pos (by decide +kernel)]; kernel_rfl) | (rw [if_neg (by decide +kernel)]; exact ⟨rfl, rfl⟩))
    (fun os started H enc _ => lifted os started H enc)

theorem windowKeeps_holds : Rows.WindowKeepsSaid :=
  over
end Go.Proofs.Ytamfpppbjaelaaa.windowKeeps
