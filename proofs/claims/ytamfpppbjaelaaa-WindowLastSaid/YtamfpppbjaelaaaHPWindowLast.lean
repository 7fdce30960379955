/-
  A text of the proof of the law WindowLast; no condition beside the row's own.
-/
import Derived.Test.YtamfpppbjaelaaaFacts
import Derived.Test.YtamfpppbjaelaaaGD
import Derived.Test.YtamfpppbjaelaaaGH
import Derived.Test.YtamfpppbjaelaaaGS
import Derived.Test.YtamfpppbjaelaaaGVad
import Derived.Test.YtamfpppbjaelaaaGT
import Derived.Test.YtamfpppbjaelaaaHLawWLast
set_option maxRecDepth 100000
namespace Go.Proofs.Ytamfpppbjaelaaa.windowLast
open Go.ChangeShapes Go.WideShapes Go.ChangeAt Go.RowKit Go.Calm Go.Proofs.Ytamfpppbjaelaaa
set_option linter.unusedVariables false
theorem own : ownKnob Try.prog.godebug = none := by kernel_rfl

theorem lifted (os : Os) (started : os.Started) (H : Type) (enc : TypeId × Value → H) :
    ReturnsInHanded {} Try.checked os 6 .any (Rows.windowLastSpec.pre6 enc Try.prog Try.f6 Rows.windowLastRow.domain false) (Rows.windowLastSpec.post enc Try.prog Try.f6 false true false false) := by
  refine returnsInHanded_of_change_sized (C := Try.checked) own started (by kernel_rfl) Try.func6
    (ChangeSpec.witness6 (enc := enc) (C := Try.checked) false ⟨#[], #[.slice none 0 0, .slice none 0 0, .agg #[.int .i64 1, .int .i64 1, .int .i64 0, .string ⟨#[]⟩, .int .i64 0, .slice none 0 0], .slice none 0 0], []⟩ 8 (by kernel_rfl) (by kernel_rfl) (by kernel_rfl) (by kernel_rfl)) ?_
  intro W base args ds gs before hval0 hW hcnd hsz _
  have hval : ∀ (j : Nat) t v, Try.f6.params[j]? = some t → args[j]? = some v → Value.okWide Try.prog W .any base t v := hval0
  have hW' := hW
  obtain ⟨p, q, hA0, hV, hpq, hfz, hnd⟩ := hW
  have hA : DataW.TrodAll enc Try.prog W 0 (fun _ => true) true Try.f6.params.toList args.toList ds p := hA0
  rw [Try.params6] at hA hval
  obtain ⟨v0, vs0, d0, ds0, p0, q0, hargs, hds, hq0, h0, r0⟩ := trodAll_cons hA
  obtain ⟨v1, vs1, d1, ds1, p1, q1, rfl, rfl, hq1, h1, r1⟩ := trodAll_cons r0
  obtain ⟨v2, vs2, d2, ds2, p2, q2, rfl, rfl, hq2, h2, r2⟩ := trodAll_cons r1
  obtain ⟨v3, vs3, d3, ds3, p3, q3, rfl, rfl, hq3, h3, r3⟩ := trodAll_cons r2
  obtain ⟨rfl, rfl, _⟩ := trodAll_nil r3
  obtain rfl : args = #[v0, v1, v2, v3] := by cases args; simp_all
  subst hds
  obtain ⟨rfl, hqq⟩ := trodVars_none hV
  obtain ⟨A0, x0, c0, rfl, s0, l0, cl0, b0⟩ := ints_read (hval 0 22 v0 rfl rfl) h0
  obtain ⟨A1, x1, c1, rfl, s1, l1, cl1⟩ := exs_read (hval 1 23 v1 rfl rfl) h1
  obtain ⟨x2, rfl, b2⟩ := ex_read (hval 2 32 v2 rfl rfl) h2
  obtain ⟨A3, x3, c3, rfl, z3, l3, k3, b3⟩ := zrows_read (hval 3 24 v3 rfl rfl) h3
  have m0 : x0.length ≤ 140737488355328 := slice_bound hsz 0 (by kernel_rfl) rfl Try.underlying22 (by kernel_rfl) h0
  have m1 : x1.length ≤ 140737488355328 := slice_bound hsz 1 (by kernel_rfl) rfl Try.underlying23 (by kernel_rfl) h1
  refine (law_wlast x0 A0 c0 x1 A1 c1 x2 x3 A3 c3 W m0 m1 s0 s1 b2 ⟨z3, k3, (by show x3.length ≤ _; have := l3; unfold maxLen at this; omega), fun x hx => (by have := (b3 x hx).len; unfold maxLen at this; omega)⟩).mono fun e W' ⟨he, hg⟩ => ?_
  subst he
  exact ⟨_, rfl, law_post rfl rfl 4 (by kernel_rfl) Try.underlying4 (by kernel_rfl) (of_decide_eq_true (by kernel_rfl)) hW' hg⟩

theorem k_wf : Rows.windowLastRow.wf (OpenSpec.ofChange Rows.windowLastSpec) = true := by kernel_rfl
theorem k_pr : Try.f6.params.all (Try.prog.readableRec ·) = true := by kernel_rfl
theorem k_nt : namedTie Try.prog Rows.windowLastRow.named Rows.windowLastSpec.vars = true := by kernel_rfl
theorem k_st : (Rows.windowLastRow.stops == []) = true := by kernel_rfl
theorem k_kn : (Rows.windowLastRow.knobs == []) = true := by kernel_rfl
theorem k_ip : (Rows.windowLastRow.inPlace == Try.prog.inPlace 6) = true := by kernel_rfl
theorem k_uf : (Rows.windowLastRow.unfollowed == Try.prog.unfollowed 6) = true := by kernel_rfl
theorem k_re : (Rows.windowLastRow.recurses == Try.prog.recurses 6) = true := by kernel_rfl
theorem k_nm : (Rows.windowLastRow.named == Try.prog.varsNamed 6) = true := by kernel_rfl
theorem k_mp : (Rows.windowLastRow.maps == (Try.f6.params.toList ++ Rows.windowLastSpec.plain.varTypes Try.prog).any (Try.prog.mapsRec ·)) = true := by kernel_rfl
theorem k_fc : (Rows.windowLastRow.ifaces == (Try.f6.params.toList ++ Rows.windowLastSpec.plain.varTypes Try.prog).any (Try.prog.ifacesRec ·)) = true := by kernel_rfl
theorem k_mo : (Rows.windowLastRow.mapsOut == Try.prog.mapsAmong Try.f6.resultTypes.toList) = true := by kernel_rfl
theorem k_lp : (Rows.windowLastRow.loops == (Try.f6.params.toList ++ Rows.windowLastSpec.plain.varTypes Try.prog).any (Try.prog.loopsFrom ·)) = true := by kernel_rfl
theorem k_wk : (Rows.windowLastRow.wideKeys == (Try.f6.params.toList ++ Rows.windowLastSpec.plain.varTypes Try.prog ++ Try.f6.resultTypes.toList).any (Try.prog.wideKeysFrom ·)) = true := by kernel_rfl
theorem k_vr : Rows.windowLastSpec.vars.all (Try.prog.varReadable ·) = true := by kernel_rfl
theorem k_rr : Try.f6.resultTypes.all (fun t => Try.prog.readableRec t && decide (t < Try.prog.types.size)) = true := by kernel_rfl
theorem k_io : (Rows.windowLastRow.ifacesOut == Try.f6.resultTypes.toList.any (Try.prog.ifacesRec ·)) = true := by kernel_rfl
theorem k_lo : (Rows.windowLastRow.loopsOut == Try.f6.resultTypes.toList.any (Try.prog.loopsFrom ·)) = true := by kernel_rfl
theorem k_pk : (Rows.windowLastRow.plainKeys == true) = true := by kernel_rfl
theorem k_sh : Rows.windowLastRow.shortTexts.isNone = true := by kernel_rfl
theorem k_lf : (Rows.windowLastRow.lifted == false) = true := by kernel_rfl
theorem k_mk : (some Make.cut == some Rows.windowLastRow.make) = true := by kernel_rfl
theorem k_kd : (Rows.windowLastRow.kinds == (if Rows.windowLastRow.domain.isEmpty then [] else Try.f6.params.toList.map fun t => match Try.prog.underlying t with | some (.int k) => some k | _ => none)) = true := by kernel_rfl
theorem k_pi : (Rows.windowLastRow.pinned == Rows.windowLastRow.pinnedBy) = true := by kernel_rfl
theorem k_ve : (Rows.windowLastRow.veiled == (Try.f6.params.toList ++ Rows.windowLastSpec.plain.varTypes Try.prog ++ Try.f6.resultTypes.toList).any (Try.prog.veiledRec ·)) = true := by kernel_rfl
theorem k_vf : Rows.windowLastRow.veiledFits Try.prog Try.f6.params.toList (Try.f6.params.toList ++ Rows.windowLastSpec.plain.varTypes Try.prog ++ Try.f6.resultTypes.toList) = true := by kernel_rfl
theorem closed : joinedFacts Try.pinned.checked.prog 6 Try.f6 Rows.windowLastSpec Rows.windowLastRow = true := by
  show joinedFacts Try.prog 6 Try.f6 Rows.windowLastSpec Rows.windowLastRow = true
  unfold joinedFacts
  rw [Facts.laid, Facts.mapsR, Facts.heard, Facts.may, Facts.lifts, Facts.make_, Facts.plain, Facts.stops, Facts.knobs]
  simp only [Bool.and_eq_true]
  exact ⟨⟨⟨⟨⟨⟨⟨⟨⟨⟨⟨⟨⟨⟨⟨⟨⟨⟨⟨⟨⟨⟨⟨⟨⟨⟨⟨⟨⟨⟨⟨k_wf, trivial⟩, trivial⟩, k_pr⟩, k_nt⟩, k_st⟩, beq_self_eq_true _⟩, k_kn⟩, beq_self_eq_true _⟩, k_ip⟩, k_uf⟩, k_re⟩, k_nm⟩, k_mp⟩, k_fc⟩, k_mo⟩, k_lp⟩, k_wk⟩, k_vr⟩, k_rr⟩, k_io⟩, k_lo⟩, k_pk⟩, k_sh⟩, trivial⟩, trivial⟩, k_lf⟩, k_mk⟩, k_kd⟩, k_pi⟩, k_ve⟩, k_vf⟩
theorem named : Try.pinned.checked.prog.funcNamed Rows.windowLastRow.func = some 6 := by kernel_rfl
theorem inst : Try.f6.isInstance Try.pinned.checked.prog Rows.windowLastRow.origin Rows.windowLastRow.targs := of_decide_eq_true (by kernel_rfl)
theorem over : Rows.windowLastRow.holds Try.pinned (OpenSpec.ofChange Rows.windowLastSpec) :=
  OpenClaim.holds_of_wide 6 Try.f6 rfl rfl rfl rfl rfl rfl rfl ⟨rfl, rfl, rfl, rfl, rfl⟩ rfl rfl rfl rfl rfl named Try.func6 closed
    inst (by unfold Func.isWrapper; first | (rw [if_pos (by decide +kernel)]; kernel_rfl) | (rw [if_neg (by decide +kernel)]; exact ⟨rfl, rfl⟩))
    (fun os started H enc _ => lifted os started H enc)

theorem windowLast_holds : Rows.WindowLastSaid :=
  over
end Go.Proofs.Ytamfpppbjaelaaa.windowLast
