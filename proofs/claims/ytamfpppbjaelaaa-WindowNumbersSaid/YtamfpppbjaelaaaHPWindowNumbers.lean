/-
  A text of the proof of the law WindowNumbers; no condition beside the row's own.
-/
import Derived.Test.YtamfpppbjaelaaaFacts
import Derived.Test.YtamfpppbjaelaaaGD
import Derived.Test.YtamfpppbjaelaaaGH
import Derived.Test.YtamfpppbjaelaaaGS
import Derived.Test.YtamfpppbjaelaaaGVad
import Derived.Test.YtamfpppbjaelaaaGT
import Derived.Test.YtamfpppbjaelaaaHLawWNum
set_option maxRecDepth 100000
namespace Go.Proofs.Ytamfpppbjaelaaa.windowNumbers
open Go.ChangeShapes Go.WideShapes Go.ChangeAt Go.RowKit Go.Calm Go.Proofs.Ytamfpppbjaelaaa
set_option linter.unusedVariables false
theorem own : ownKnob Try.prog.godebug = none := by kernel_rfl

theorem lifted (os : Os) (started : os.Started) (H : Type) (enc : TypeId × Value → H) :
    ReturnsInHanded {} Try.checked os 3 .any (Rows.windowNumbersSpec.pre6 enc Try.prog Try.f3 Rows.windowNumbersRow.domain false) (Rows.windowNumbersSpec.post enc Try.prog Try.f3 false true false false) := by
  refine returnsInHanded_of_change_sized (C := Try.checked) own started (by kernel_rfl) Try.func3
    (ChangeSpec.witness6 (enc := enc) (C := Try.checked) false ⟨#[], #[.slice none 0 0, .slice none 0 0, .slice none 0 0], []⟩ 8 (by kernel_rfl) (by kernel_rfl) (by kernel_rfl) (by kernel_rfl)) ?_
  intro W base args ds gs before hval0 hW hcnd hsz _
  have hval : ∀ (j : Nat) t v, Try.f3.params[j]? = some t → args[j]? = some v → Value.okWide Try.prog W .any base t v := hval0
  have hW' := hW
  obtain ⟨p, q, hA0, hV, hpq, hfz, hnd⟩ := hW
  have hA : DataW.TrodAll enc Try.prog W 0 (fun _ => true) true Try.f3.params.toList args.toList ds p := hA0
  rw [Try.params3] at hA hval
  obtain ⟨v0, vs0, d0, ds0, p0, q0, hargs, hds, hq0, h0, r0⟩ := trodAll_cons hA
  obtain ⟨v1, vs1, d1, ds1, p1, q1, rfl, rfl, hq1, h1, r1⟩ := trodAll_cons r0
  obtain ⟨v2, vs2, d2, ds2, p2, q2, rfl, rfl, hq2, h2, r2⟩ := trodAll_cons r1
  obtain ⟨rfl, rfl, _⟩ := trodAll_nil r2
  obtain rfl : args = #[v0, v1, v2] := by cases args; simp_all
  subst hds
  obtain ⟨rfl, hqq⟩ := trodVars_none hV
  obtain ⟨A0, x0, c0, rfl, s0, l0, cl0, b0⟩ := ints_read (hval 0 22 v0 rfl rfl) h0
  obtain ⟨A1, x1, c1, rfl, s1, l1, cl1⟩ := exs_read (hval 1 23 v1 rfl rfl) h1
  obtain ⟨A2, x2, c2, rfl, z2, l2, k2, b2⟩ := zrows_read (hval 2 24 v2 rfl rfl) h2
  have m0 : x0.length ≤ 140737488355328 := slice_bound hsz 0 (by kernel_rfl) rfl Try.underlying22 (by kernel_rfl) h0
  have m1 : x1.length ≤ 140737488355328 := slice_bound hsz 1 (by kernel_rfl) rfl Try.underlying23 (by kernel_rfl) h1
  refine (law_wnum x0 A0 c0 x1 A1 c1 x2 A2 c2 W m0 m1 s0 s1 ⟨z2, k2, (by show x2.length ≤ _; have := l2; unfold maxLen at this; omega), fun x hx => (by have := (b2 x hx).len; unfold maxLen at this; omega)⟩).mono fun e W' ⟨he, hg⟩ => ?_
  subst he
  exact ⟨_, rfl, law_post rfl rfl 4 (by kernel_rfl) Try.underlying4 (by kernel_rfl) (of_decide_eq_true (by kernel_rfl)) hW' hg⟩

theorem k_wf : Rows.windowNumbersRow.wf (OpenSpec.ofChange Rows.windowNumbersSpec) = true := by kernel_rfl
theorem k_pr : Try.f3.params.all (Try.prog.readableRec ·) = true := by kernel_rfl
theorem k_nt : namedTie Try.prog Rows.windowNumbersRow.named Rows.windowNumbersSpec.vars = true := by kernel_rfl
theorem k_st : (Rows.windowNumbersRow.stops == []) = true := by kernel_rfl
theorem k_kn : (Rows.windowNumbersRow.knobs == []) = true := by kernel_rfl
theorem k_ip : (Rows.windowNumbersRow.inPlace == Try.prog.inPlace 3) = true := by kernel_rfl
theorem k_uf : (Rows.windowNumbersRow.unfollowed == Try.prog.unfollowed 3) = true := by kernel_rfl
theorem k_re : (Rows.windowNumbersRow.recurses == Try.prog.recurses 3) = true := by kernel_rfl
theorem k_nm : (Rows.windowNumbersRow.named == Try.prog.varsNamed 3) = true := by kernel_rfl
theorem k_mp : (Rows.windowNumbersRow.maps == (Try.f3.params.toList ++ Rows.windowNumbersSpec.plain.varTypes Try.prog).any (Try.prog.mapsRec ·)) = true := by kernel_rfl
theorem k_fc : (Rows.windowNumbersRow.ifaces == (Try.f3.params.toList ++ Rows.windowNumbersSpec.plain.varTypes Try.prog).any (Try.prog.ifacesRec ·)) = true := by kernel_rfl
theorem k_mo : (Rows.windowNumbersRow.mapsOut == Try.prog.mapsAmong Try.f3.resultTypes.toList) = true := by kernel_rfl
theorem k_lp : (Rows.windowNumbersRow.loops == (Try.f3.params.toList ++ Rows.windowNumbersSpec.plain.varTypes Try.prog).any (Try.prog.loopsFrom ·)) = true := by kernel_rfl
theorem k_wk : (Rows.windowNumbersRow.wideKeys == (Try.f3.params.toList ++ Rows.windowNumbersSpec.plain.varTypes Try.prog ++ Try.f3.resultTypes.toList).any (Try.prog.wideKeysFrom ·)) = true := by kernel_rfl
theorem k_vr : Rows.windowNumbersSpec.vars.all (Try.prog.varReadable ·) = true := by kernel_rfl
theorem k_rr : Try.f3.resultTypes.all (fun t => Try.prog.readableRec t && decide (t < Try.prog.types.size)) = true := by kernel_rfl
theorem k_io : (Rows.windowNumbersRow.ifacesOut == Try.f3.resultTypes.toList.any (Try.prog.ifacesRec ·)) = true := by kernel_rfl
theorem k_lo : (Rows.windowNumbersRow.loopsOut == Try.f3.resultTypes.toList.any (Try.prog.loopsFrom ·)) = true := by kernel_rfl
theorem k_pk : (Rows.windowNumbersRow.plainKeys == true) = true := by kernel_rfl
theorem k_sh : Rows.windowNumbersRow.shortTexts.isNone = true := by kernel_rfl
theorem k_lf : (Rows.windowNumbersRow.lifted == false) = true := by kernel_rfl
theorem k_mk : (some Make.cut == some Rows.windowNumbersRow.make) = true := by kernel_rfl
theorem k_kd : (Rows.windowNumbersRow.kinds == (if Rows.windowNumbersRow.domain.isEmpty then [] else Try.f3.params.toList.map fun t => match Try.prog.underlying t with | some (.int k) => some k | _ => none)) = true := by kernel_rfl
theorem k_pi : (Rows.windowNumbersRow.pinned == Rows.windowNumbersRow.pinnedBy) = true := by kernel_rfl
theorem k_ve : (Rows.windowNumbersRow.veiled == (Try.f3.params.toList ++ Rows.windowNumbersSpec.plain.varTypes Try.prog ++ Try.f3.resultTypes.toList).any (Try.prog.veiledRec ·)) = true := by kernel_rfl
theorem k_vf : Rows.windowNumbersRow.veiledFits Try.prog Try.f3.params.toList (Try.f3.params.toList ++ Rows.windowNumbersSpec.plain.varTypes Try.prog ++ Try.f3.resultTypes.toList) = true := by kernel_rfl
theorem closed : joinedFacts Try.pinned.checked.prog 3 Try.f3 Rows.windowNumbersSpec Rows.windowNumbersRow = true := by
  show joinedFacts Try.prog 3 Try.f3 Rows.windowNumbersSpec Rows.windowNumbersRow = true
  unfold joinedFacts
  rw [Facts.laid, Facts.mapsR, Facts.heard, Facts.may, Facts.lifts, Facts.make_, Facts.plain, Facts.stops, Facts.knobs]
  simp only [Bool.and_eq_true]
  exact ⟨⟨⟨⟨⟨⟨⟨⟨⟨⟨⟨⟨⟨⟨⟨⟨⟨⟨⟨⟨⟨⟨⟨⟨⟨⟨⟨⟨⟨⟨⟨k_wf, trivial⟩, trivial⟩, k_pr⟩, k_nt⟩, k_st⟩, beq_self_eq_true _⟩, k_kn⟩, beq_self_eq_true _⟩, k_ip⟩, k_uf⟩, k_re⟩, k_nm⟩, k_mp⟩, k_fc⟩, k_mo⟩, k_lp⟩, k_wk⟩, k_vr⟩, k_rr⟩, k_io⟩, k_lo⟩, k_pk⟩, k_sh⟩, trivial⟩, trivial⟩, k_lf⟩, k_mk⟩, k_kd⟩, k_pi⟩, k_ve⟩, k_vf⟩
theorem named : Try.pinned.checked.prog.funcNamed Rows.windowNumbersRow.func = some 3 := by kernel_rfl
theorem inst : Try.f3.isInstance Try.pinned.checked.prog Rows.windowNumbersRow.origin Rows.windowNumbersRow.targs := of_decide_eq_true (by kernel_rfl)
theorem over : Rows.windowNumbersRow.holds Try.pinned (OpenSpec.ofChange Rows.windowNumbersSpec) :=
  OpenClaim.holds_of_wide 3 Try.f3 rfl rfl rfl rfl rfl rfl rfl ⟨rfl, rfl, rfl, rfl, rfl⟩ rfl rfl rfl rfl rfl named Try.func3 closed
    inst (by unfold Func.isWrapper; first | (rw [if_pos (by decide +kernel)]; kernel_rfl) | (rw [if_neg (by decide +kernel)]; exact ⟨rfl, rfl⟩))
    (fun os started H enc _ => lifted os started H enc)

theorem windowNumbers_holds : Rows.WindowNumbersSaid :=
  over
end Go.Proofs.Ytamfpppbjaelaaa.windowNumbers
