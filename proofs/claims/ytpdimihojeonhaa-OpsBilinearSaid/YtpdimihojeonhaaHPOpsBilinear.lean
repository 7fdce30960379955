/-
  A text of the proof of the law OpsBilinear; no condition beside the row's own.
-/
import Derived.Test.YtpdimihojeonhaaFacts
import Derived.Test.YtpdimihojeonhaaGD
import Derived.Test.YtpdimihojeonhaaGH
import Derived.Test.YtpdimihojeonhaaGS
import Derived.Test.YtpdimihojeonhaaGT
import Derived.Test.YtpdimihojeonhaaHLawOBil
/-
  The law OpsBilinear of chapter 4 holds: for every input of its row it returns true and leaves its arguments as they were. No condition beside the row's own.
-/
namespace Go.Proofs.Ytpdimihojeonhaa.opsBilinear
open Go.ChangeShapes Go.WideShapes Go.ChangeAt Go.RowKit Go.Calm Go.Proofs.Ytpdimihojeonhaa
set_option linter.unusedVariables false

theorem own : ownKnob Try.prog.godebug = none := by kernel_rfl

set_option maxRecDepth 100000 in
theorem lifted (os : Os) (started : os.Started) (H : Type) (enc : TypeId × Value → H) :
    ReturnsInHanded {} Try.checked os 3 .any (Rows.opsBilinearSpec.pre6 enc Try.prog Try.f3 Rows.opsBilinearRow.domain false) (Rows.opsBilinearSpec.post enc Try.prog Try.f3 false true false false) := by
  refine returnsInHanded_of_change_sized (C := Try.checked) own started (by kernel_rfl) Try.func3
    (ChangeSpec.witness6 (enc := enc) (C := Try.checked) false ⟨#[], #[.slice none 0 0, .slice none 0 0, .agg #[.int .i64 1, .int .i64 1, .int .i64 0, .string ⟨#[]⟩, .int .i64 0, .slice none 0 0], .slice none 0 0, .slice none 0 0, .slice none 0 0, .slice none 0 0], []⟩ 8 (by kernel_rfl) (by kernel_rfl) (by kernel_rfl) (by kernel_rfl)) ?_
  intro W base args ds gs before hval0 hW hcnd hsz _
  have hval : ∀ (j : Nat) t v, Try.f3.params[j]? = some t → args[j]? = some v → Value.okWide Try.prog W .any base t v := hval0
  have hW' := hW
  obtain ⟨p, q, hA0, hV, hpq, hfz, hnd⟩ := hW
  have hA : DataW.TrodAll enc Try.prog W 0 (fun _ => true) true Try.f3.params.toList args.toList ds p := hA0
  rw [Try.params3] at hA hval
  obtain ⟨v0, vs0, d0, ds0, p0, q0, hargs, hds, hq0, h0, r0⟩ := trodAll_cons hA
  obtain ⟨v1, vs1, d1, ds1, p1, q1, rfl, rfl, hq1, h1, r1⟩ := trodAll_cons r0
  obtain ⟨v2, vs2, d2, ds2, p2, q2, rfl, rfl, hq2, h2, r2⟩ := trodAll_cons r1
  obtain ⟨v3, vs3, d3, ds3, p3, q3, rfl, rfl, hq3, h3, r3⟩ := trodAll_cons r2
  obtain ⟨v4, vs4, d4, ds4, p4, q4, rfl, rfl, hq4, h4, r4⟩ := trodAll_cons r3
  obtain ⟨v5, vs5, d5, ds5, p5, q5, rfl, rfl, hq5, h5, r5⟩ := trodAll_cons r4
  obtain ⟨v6, vs6, d6, ds6, p6, q6, rfl, rfl, hq6, h6, r6⟩ := trodAll_cons r5
  obtain ⟨rfl, rfl, _⟩ := trodAll_nil r6
  obtain rfl : args = #[v0, v1, v2, v3, v4, v5, v6] := by cases args; simp_all
  subst hds
  obtain ⟨rfl, hqq⟩ := trodVars_none hV
  obtain ⟨A0, x0, c0, rfl, s0, l0, cl0, b0⟩ := ints_read (hval 0 22 v0 rfl rfl) h0
  obtain ⟨A1, x1, c1, rfl, s1, l1, cl1, b1⟩ := ints_read (hval 1 22 v1 rfl rfl) h1
  obtain ⟨x2, rfl, b2⟩ := ex_read (hval 2 27 v2 rfl rfl) h2
  obtain ⟨A3, x3, c3, rfl, z3, l3, k3, b3⟩ := zrows_read (hval 3 28 v3 rfl rfl) h3
  obtain ⟨A4, x4, c4, rfl, z4, l4, k4, b4⟩ := zrows_read (hval 4 28 v4 rfl rfl) h4
  obtain ⟨A5, x5, c5, rfl, z5, l5, k5, b5⟩ := zrows_read (hval 5 28 v5 rfl rfl) h5
  obtain ⟨A6, x6, c6, rfl, z6, l6, k6, b6⟩ := zrows_read (hval 6 28 v6 rfl rfl) h6
  have m0 : x0.length ≤ 140737488355328 := slice_bound hsz 0 (by kernel_rfl) rfl Try.underlying22 (by kernel_rfl) h0
  have m1 : x1.length ≤ 140737488355328 := slice_bound hsz 1 (by kernel_rfl) rfl Try.underlying22 (by kernel_rfl) h1
  refine (law_obilinear ⟨A0, x0, c0⟩ ⟨A1, x1, c1⟩ x2 ⟨A3, x3, c3⟩ ⟨A4, x4, c4⟩ ⟨A5, x5, c5⟩ ⟨A6, x6, c6⟩ W m0 m1 s0 s1 b2 ⟨z3, k3, (by show x3.length ≤ _; have := l3; unfold maxLen at this; omega), fun x hx => (by have := (b3 x hx).len; unfold maxLen at this; omega)⟩ ⟨z4, k4, (by show x4.length ≤ _; have := l4; unfold maxLen at this; omega), fun x hx => (by have := (b4 x hx).len; unfold maxLen at this; omega)⟩ ⟨z5, k5, (by show x5.length ≤ _; have := l5; unfold maxLen at this; omega), fun x hx => (by have := (b5 x hx).len; unfold maxLen at this; omega)⟩ ⟨z6, k6, (by show x6.length ≤ _; have := l6; unfold maxLen at this; omega), fun x hx => (by have := (b6 x hx).len; unfold maxLen at this; omega)⟩).mono fun e W' ⟨he, hg⟩ => ?_
  subst he
  exact ⟨_, rfl, law_post rfl rfl 4 (by kernel_rfl) Try.underlying4 (by kernel_rfl) (of_decide_eq_true (by kernel_rfl)) hW' hg⟩

theorem k_wf : Rows.opsBilinearRow.wf (OpenSpec.ofChange Rows.opsBilinearSpec) = true := by kernel_rfl
theorem k_pr : Try.f3.params.all (Try.prog.readableRec ·) = true := by kernel_rfl
theorem k_nt : namedTie Try.prog Rows.opsBilinearRow.named Rows.opsBilinearSpec.vars = true := by kernel_rfl
theorem k_st : (Rows.opsBilinearRow.stops == []) = true := by kernel_rfl
theorem k_kn : (Rows.opsBilinearRow.knobs == []) = true := by kernel_rfl
theorem k_ip : (Rows.opsBilinearRow.inPlace == Try.prog.inPlace 3) = true := by kernel_rfl
theorem k_uf : (Rows.opsBilinearRow.unfollowed == Try.prog.unfollowed 3) = true := by kernel_rfl
theorem k_re : (Rows.opsBilinearRow.recurses == Try.prog.recurses 3) = true := by kernel_rfl
theorem k_nm : (Rows.opsBilinearRow.named == Try.prog.varsNamed 3) = true := by kernel_rfl
theorem k_mp : (Rows.opsBilinearRow.maps == (Try.f3.params.toList ++ Rows.opsBilinearSpec.plain.varTypes Try.prog).any (Try.prog.mapsRec ·)) = true := by kernel_rfl
theorem k_fc : (Rows.opsBilinearRow.ifaces == (Try.f3.params.toList ++ Rows.opsBilinearSpec.plain.varTypes Try.prog).any (Try.prog.ifacesRec ·)) = true := by kernel_rfl
theorem k_mo : (Rows.opsBilinearRow.mapsOut == Try.prog.mapsAmong Try.f3.resultTypes.toList) = true := by kernel_rfl
theorem k_lp : (Rows.opsBilinearRow.loops == (Try.f3.params.toList ++ Rows.opsBilinearSpec.plain.varTypes Try.prog).any (Try.prog.loopsFrom ·)) = true := by kernel_rfl
theorem k_wk : (Rows.opsBilinearRow.wideKeys == (Try.f3.params.toList ++ Rows.opsBilinearSpec.plain.varTypes Try.prog ++ Try.f3.resultTypes.toList).any (Try.prog.wideKeysFrom ·)) = true := by kernel_rfl
theorem k_vr : Rows.opsBilinearSpec.vars.all (Try.prog.varReadable ·) = true := by kernel_rfl
theorem k_rr : Try.f3.resultTypes.all (fun t => Try.prog.readableRec t && decide (t < Try.prog.types.size)) = true := by kernel_rfl
theorem k_io : (Rows.opsBilinearRow.ifacesOut == Try.f3.resultTypes.toList.any (Try.prog.ifacesRec ·)) = true := by kernel_rfl
theorem k_lo : (Rows.opsBilinearRow.loopsOut == Try.f3.resultTypes.toList.any (Try.prog.loopsFrom ·)) = true := by kernel_rfl
theorem k_pk : (Rows.opsBilinearRow.plainKeys == true) = true := by kernel_rfl
theorem k_sh : Rows.opsBilinearRow.shortTexts.isNone = true := by kernel_rfl
theorem k_lf : (Rows.opsBilinearRow.lifted == false) = true := by kernel_rfl
theorem k_mk : (some Make.cut == some Rows.opsBilinearRow.make) = true := by kernel_rfl
theorem k_kd : (Rows.opsBilinearRow.kinds == (if Rows.opsBilinearRow.domain.isEmpty then [] else Try.f3.params.toList.map fun t => match Try.prog.underlying t with | some (.int k) => some k | _ => none)) = true := by kernel_rfl
theorem k_pi : (Rows.opsBilinearRow.pinned == Rows.opsBilinearRow.pinnedBy) = true := by kernel_rfl
theorem k_ve : (Rows.opsBilinearRow.veiled == (Try.f3.params.toList ++ Rows.opsBilinearSpec.plain.varTypes Try.prog ++ Try.f3.resultTypes.toList).any (Try.prog.veiledRec ·)) = true := by kernel_rfl
theorem k_vf : Rows.opsBilinearRow.veiledFits Try.prog Try.f3.params.toList (Try.f3.params.toList ++ Rows.opsBilinearSpec.plain.varTypes Try.prog ++ Try.f3.resultTypes.toList) = true := by kernel_rfl
set_option maxRecDepth 100000 in
theorem closed : joinedFacts Try.pinned.checked.prog 3 Try.f3 Rows.opsBilinearSpec Rows.opsBilinearRow = true := by
  show joinedFacts Try.prog 3 Try.f3 Rows.opsBilinearSpec Rows.opsBilinearRow = true
  unfold joinedFacts
  rw [Facts.laid, Facts.mapsR, Facts.heard, Facts.may, Facts.lifts, Facts.make_, Facts.plain, Facts.stops, Facts.knobs]
  simp only [Bool.and_eq_true]
  exact ⟨⟨⟨⟨⟨⟨⟨⟨⟨⟨⟨⟨⟨⟨⟨⟨⟨⟨⟨⟨⟨⟨⟨⟨⟨⟨⟨⟨⟨⟨⟨k_wf, trivial⟩, trivial⟩, k_pr⟩, k_nt⟩, k_st⟩, beq_self_eq_true _⟩, k_kn⟩, beq_self_eq_true _⟩, k_ip⟩, k_uf⟩, k_re⟩, k_nm⟩, k_mp⟩, k_fc⟩, k_mo⟩, k_lp⟩, k_wk⟩, k_vr⟩, k_rr⟩, k_io⟩, k_lo⟩, k_pk⟩, k_sh⟩, trivial⟩, trivial⟩, k_lf⟩, k_mk⟩, k_kd⟩, k_pi⟩, k_ve⟩, k_vf⟩
theorem named : Try.pinned.checked.prog.funcNamed Rows.opsBilinearRow.func = some 3 := by kernel_rfl
theorem inst : Try.f3.isInstance Try.pinned.checked.prog Rows.opsBilinearRow.origin Rows.opsBilinearRow.targs := of_decide_eq_true (by kernel_rfl)
theorem over : Rows.opsBilinearRow.holds Try.pinned (OpenSpec.ofChange Rows.opsBilinearSpec) :=
  OpenClaim.holds_of_wide 3 Try.f3 rfl rfl rfl rfl rfl rfl rfl ⟨rfl, rfl, rfl, rfl, rfl⟩ rfl rfl rfl rfl rfl named Try.func3 closed
    inst (by unfold Func.isWrapper; first | (rw [if_pos (by decide +kernel)]; kernel_rfl) | (rw [if_neg (by decide +kernel)]; exact ⟨rfl, rfl⟩))
    (fun os started H enc _ => lifted os started H enc)

theorem opsBilinear_holds : Rows.OpsBilinearSaid :=
  over
end Go.Proofs.Ytpdimihojeonhaa.opsBilinear
