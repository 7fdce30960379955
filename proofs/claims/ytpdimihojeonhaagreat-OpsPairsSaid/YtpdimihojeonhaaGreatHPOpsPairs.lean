/-
  A text of the proof of the law OpsPairs; no condition beside the row's own.
-/
import Derived.Test.YtpdimihojeonhaaGreatFacts
import Derived.Test.YtpdimihojeonhaaGreatGD
import Derived.Test.YtpdimihojeonhaaGreatGH
import Derived.Test.YtpdimihojeonhaaGreatGS
import Derived.Test.YtpdimihojeonhaaGreatGT
import Derived.Test.YtpdimihojeonhaaGreatHLawOPairs
/-
  The law OpsPairs of chapter 4 holds: for every input of its row it returns true and leaves its arguments as they were. No condition beside the row's own.
-/
namespace Go.Proofs.YtpdimihojeonhaaGreat.opsPairs
open Go.ChangeShapes Go.WideShapes Go.ChangeAt Go.RowKit Go.Calm Go.Proofs.YtpdimihojeonhaaGreat
set_option linter.unusedVariables false

theorem own : ownKnob Tryz.prog.godebug = none := by kernel_rfl

set_option maxRecDepth 100000 in
theorem lifted (os : Os) (started : os.Started) (H : Type) (enc : TypeId × Value → H) :
    ReturnsInHanded {} Tryz.checked os 4 .any (Rows.opsPairsSpec.pre6 enc Tryz.prog Tryz.f4 Rows.opsPairsRow.domain false) (Rows.opsPairsSpec.post enc Tryz.prog Tryz.f4 false true false false) := by
  refine returnsInHanded_of_change_sized (C := Tryz.checked) own started (by kernel_rfl) Tryz.func4
    (ChangeSpec.witness6 (enc := enc) (C := Tryz.checked) false ⟨#[], #[.slice none 0 0, .slice none 0 0, .agg #[.int .i64 1, .int .i64 1, .int .i64 0, .string ⟨#[]⟩, .int .i64 0, .slice none 0 0], .slice none 0 0, .slice none 0 0], []⟩ 8 (by kernel_rfl) (by kernel_rfl) (by kernel_rfl) (by kernel_rfl)) ?_
  intro W base args ds gs before hval0 hW hcnd hsz _
  have hval : ∀ (j : Nat) t v, Tryz.f4.params[j]? = some t → args[j]? = some v → Value.okWide Tryz.prog W .any base t v := hval0
  have hW' := hW
  obtain ⟨p, q, hA0, hV, hpq, hfz, hnd⟩ := hW
  have hA : DataW.TrodAll enc Tryz.prog W 0 (fun _ => true) true Tryz.f4.params.toList args.toList ds p := hA0
  rw [Tryz.params4] at hA hval
  obtain ⟨v0, vs0, d0, ds0, p0, q0, hargs, hds, hq0, h0, r0⟩ := trodAll_cons hA
  obtain ⟨v1, vs1, d1, ds1, p1, q1, rfl, rfl, hq1, h1, r1⟩ := trodAll_cons r0
  obtain ⟨v2, vs2, d2, ds2, p2, q2, rfl, rfl, hq2, h2, r2⟩ := trodAll_cons r1
  obtain ⟨v3, vs3, d3, ds3, p3, q3, rfl, rfl, hq3, h3, r3⟩ := trodAll_cons r2
  obtain ⟨v4, vs4, d4, ds4, p4, q4, rfl, rfl, hq4, h4, r4⟩ := trodAll_cons r3
  obtain ⟨rfl, rfl, _⟩ := trodAll_nil r4
  obtain rfl : args = #[v0, v1, v2, v3, v4] := by cases args; simp_all
  subst hds
  obtain ⟨rfl, hqq⟩ := trodVars_none hV
  obtain ⟨A0, x0, c0, rfl, s0, l0, cl0, b0⟩ := ints_read (hval 0 22 v0 rfl rfl) h0
  obtain ⟨A1, x1, c1, rfl, s1, l1, cl1, b1⟩ := ints_read (hval 1 22 v1 rfl rfl) h1
  obtain ⟨x2, rfl, b2⟩ := ex_read (hval 2 27 v2 rfl rfl) h2
  obtain ⟨A3, x3, c3, rfl, z3, l3, k3, b3⟩ := zrows_read (hval 3 28 v3 rfl rfl) h3
  obtain ⟨A4, x4, c4, rfl, z4, l4, k4, b4⟩ := zrows_read (hval 4 28 v4 rfl rfl) h4
  have m0 : x0.length ≤ 140737488355328 := slice_bound hsz 0 (by kernel_rfl) rfl Tryz.underlying22 (by kernel_rfl) h0
  have m1 : x1.length ≤ 140737488355328 := slice_bound hsz 1 (by kernel_rfl) rfl Tryz.underlying22 (by kernel_rfl) h1
  refine (law_opairs ⟨A0, x0, c0⟩ ⟨A1, x1, c1⟩ x2 ⟨A3, x3, c3⟩ ⟨A4, x4, c4⟩ W m0 m1 s0 s1 b2 ⟨z3, k3, (by show x3.length ≤ _; have := l3; unfold maxLen at this; omega), fun x hx => (by have := (b3 x hx).len; unfold maxLen at this; omega)⟩ ⟨z4, k4, (by show x4.length ≤ _; have := l4; unfold maxLen at this; omega), fun x hx => (by have := (b4 x hx).len; unfold maxLen at this; omega)⟩).mono fun e W' ⟨he, hg⟩ => ?_
  subst he
  exact ⟨_, rfl, law_post rfl rfl 4 (by kernel_rfl) Tryz.underlying4 (by kernel_rfl) (of_decide_eq_true (by kernel_rfl)) hW' hg⟩

theorem k_wf : Rows.opsPairsRow.wf (OpenSpec.ofChange Rows.opsPairsSpec) = true := by kernel_rfl
theorem k_pr : Tryz.f4.params.all (Tryz.prog.readableRec ·) = true := by kernel_rfl
theorem k_nt : namedTie Tryz.prog Rows.opsPairsRow.named Rows.opsPairsSpec.vars = true := by kernel_rfl
theorem k_st : (Rows.opsPairsRow.stops == []) = true := by kernel_rfl
theorem k_kn : (Rows.opsPairsRow.knobs == []) = true := by kernel_rfl
theorem k_ip : (Rows.opsPairsRow.inPlace == Tryz.prog.inPlace 4) = true := by kernel_rfl
theorem k_uf : (Rows.opsPairsRow.unfollowed == Tryz.prog.unfollowed 4) = true := by kernel_rfl
theorem k_re : (Rows.opsPairsRow.recurses == Tryz.prog.recurses 4) = true := by kernel_rfl
theorem k_nm : (Rows.opsPairsRow.named == Tryz.prog.varsNamed 4) = true := by kernel_rfl
theorem k_mp : (Rows.opsPairsRow.maps == (Tryz.f4.params.toList ++ Rows.opsPairsSpec.plain.varTypes Tryz.prog).any (Tryz.prog.mapsRec ·)) = true := by kernel_rfl
theorem k_fc : (Rows.opsPairsRow.ifaces == (Tryz.f4.params.toList ++ Rows.opsPairsSpec.plain.varTypes Tryz.prog).any (Tryz.prog.ifacesRec ·)) = true := by kernel_rfl
theorem k_mo : (Rows.opsPairsRow.mapsOut == Tryz.prog.mapsAmong Tryz.f4.resultTypes.toList) = true := by kernel_rfl
theorem k_lp : (Rows.opsPairsRow.loops == (Tryz.f4.params.toList ++ Rows.opsPairsSpec.plain.varTypes Tryz.prog).any (Tryz.prog.loopsFrom ·)) = true := by kernel_rfl
theorem k_wk : (Rows.opsPairsRow.wideKeys == (Tryz.f4.params.toList ++ Rows.opsPairsSpec.plain.varTypes Tryz.prog ++ Tryz.f4.resultTypes.toList).any (Tryz.prog.wideKeysFrom ·)) = true := by kernel_rfl
theorem k_vr : Rows.opsPairsSpec.vars.all (Tryz.prog.varReadable ·) = true := by kernel_rfl
theorem k_rr : Tryz.f4.resultTypes.all (fun t => Tryz.prog.readableRec t && decide (t < Tryz.prog.types.size)) = true := by kernel_rfl
theorem k_io : (Rows.opsPairsRow.ifacesOut == Tryz.f4.resultTypes.toList.any (Tryz.prog.ifacesRec ·)) = true := by kernel_rfl
theorem k_lo : (Rows.opsPairsRow.loopsOut == Tryz.f4.resultTypes.toList.any (Tryz.prog.loopsFrom ·)) = true := by kernel_rfl
theorem k_pk : (Rows.opsPairsRow.plainKeys == true) = true := by kernel_rfl
theorem k_sh : Rows.opsPairsRow.shortTexts.isNone = true := by kernel_rfl
theorem k_lf : (Rows.opsPairsRow.lifted == false) = true := by kernel_rfl
theorem k_mk : (some Make.cut == some Rows.opsPairsRow.make) = true := by kernel_rfl
theorem k_kd : (Rows.opsPairsRow.kinds == (if Rows.opsPairsRow.domain.isEmpty then [] else Tryz.f4.params.toList.map fun t => match Tryz.prog.underlying t with | some (.int k) => some k | _ => none)) = true := by kernel_rfl
theorem k_pi : (Rows.opsPairsRow.pinned == Rows.opsPairsRow.pinnedBy) = true := by kernel_rfl
theorem k_ve : (Rows.opsPairsRow.veiled == (Tryz.f4.params.toList ++ Rows.opsPairsSpec.plain.varTypes Tryz.prog ++ Tryz.f4.resultTypes.toList).any (Tryz.prog.veiledRec ·)) = true := by kernel_rfl
theorem k_vf : Rows.opsPairsRow.veiledFits Tryz.prog Tryz.f4.params.toList (Tryz.f4.params.toList ++ Rows.opsPairsSpec.plain.varTypes Tryz.prog ++ Tryz.f4.resultTypes.toList) = true := by kernel_rfl
set_option maxRecDepth 100000 in
theorem closed : joinedFacts Tryz.pinned.checked.prog 4 Tryz.f4 Rows.opsPairsSpec Rows.opsPairsRow = true := by
  show joinedFacts Tryz.prog 4 Tryz.f4 Rows.opsPairsSpec Rows.opsPairsRow = true
  unfold joinedFacts
  rw [Facts.laid, Facts.mapsR, Facts.heard, Facts.may, Facts.lifts, Facts.make_, Facts.plain, Facts.stops, Facts.knobs]
  simp only [Bool.and_eq_true]
  exact ⟨⟨⟨⟨⟨⟨⟨⟨⟨⟨⟨⟨⟨⟨⟨⟨⟨⟨⟨⟨⟨⟨⟨⟨⟨⟨⟨⟨⟨⟨⟨k_wf, trivial⟩, trivial⟩, k_pr⟩, k_nt⟩, k_st⟩, beq_self_eq_true _⟩, k_kn⟩, beq_self_eq_true _⟩, k_ip⟩, k_uf⟩, k_re⟩, k_nm⟩, k_mp⟩, k_fc⟩, k_mo⟩, k_lp⟩, k_wk⟩, k_vr⟩, k_rr⟩, k_io⟩, k_lo⟩, k_pk⟩, k_sh⟩, trivial⟩, trivial⟩, k_lf⟩, k_mk⟩, k_kd⟩, k_pi⟩, k_ve⟩, k_vf⟩
theorem named : Tryz.pinned.checked.prog.funcNamed Rows.opsPairsRow.func = some 4 := by kernel_rfl
theorem inst : Tryz.f4.isInstance Tryz.pinned.checked.prog Rows.opsPairsRow.origin Rows.opsPairsRow.targs := of_decide_eq_true (by kernel_rfl)
theorem over : Rows.opsPairsRow.holds Tryz.pinned (OpenSpec.ofChange Rows.opsPairsSpec) :=
  OpenClaim.holds_of_wide 4 Tryz.f4 rfl rfl rfl rfl rfl rfl rfl ⟨rfl, rfl, rfl, rfl, rfl⟩ rfl rfl rfl rfl rfl named Tryz.func4 closed
    inst (by unfold Func.isWrapper; first | (rw [if_pos (by decide +kernel)]; kernel_rfl) | (rw [if_neg (by decide +kernel)]; exact ⟨rfl, rfl⟩))
    (fun os started H enc _ => lifted os started H enc)

theorem opsPairs_holds : Rows.OpsPairsSaid :=
  over
end Go.Proofs.YtpdimihojeonhaaGreat.opsPairs
