/-
  A text of the proof of the law OpsGroup; no condition beside the row's own.
-/
import Derived.Test.YtigpbihjjadmlaaGreatFacts
import Derived.Test.YtigpbihjjadmlaaGreatGD
import Derived.Test.YtigpbihjjadmlaaGreatGH
import Derived.Test.YtigpbihjjadmlaaGreatGS
import Derived.Test.YtigpbihjjadmlaaGreatGAa
import Derived.Test.YtigpbihjjadmlaaGreatGT
import Derived.Test.YtigpbihjjadmlaaGreatHLawOGroup
namespace Go.Proofs.YtigpbihjjadmlaaGreat.opsGroup
open Go.ChangeShapes Go.WideShapes Go.ChangeAt Go.RowKit Go.Calm Go.Proofs.YtigpbihjjadmlaaGreat
set_option linter.unusedVariables false

theorem own : ownKnob Tryz.prog.godebug = none := by kernel_rfl

set_option maxRecDepth 100000 in
theorem lifted (os : Os) (started : os.Started) (H : Type) (enc : TypeId × Value → H) :
    ReturnsInHanded {} Tryz.checked os 4 .any (Rows.opsGroupSpec.pre6 enc Tryz.prog Tryz.f4 Rows.opsGroupRow.domain false) (Rows.opsGroupSpec.post enc Tryz.prog Tryz.f4 false true false false) := by
  refine returnsInHanded_of_change_sized (C := Tryz.checked) own started (by kernel_rfl) Tryz.func4
    (ChangeSpec.witness6 (enc := enc) (C := Tryz.checked) false ⟨#[], #[.slice none 0 0, .slice none 0 0, .slice none 0 0, .slice none 0 0], []⟩ 8 (by kernel_rfl) (by kernel_rfl) (by kernel_rfl) (by kernel_rfl)) ?_
  intro W base args ds gs before hval0 hW hcnd hsz _
  have hval : ∀ (j : Nat) t v, Tryz.f4.params[j]? = some t → args[j]? = some v → Value.okWide Tryz.prog W .any base t v := hval0
  have hW' := hW
  obtain ⟨p, q, hA0, hV, hpq, hfz, hnd⟩ := hW
  have hA : DataW.TrodAll enc Tryz.prog W 0 (fun _ => true) true Tryz.f4.params.toList args.toList ds p := hA0
  rw [Tryz.params4] at hA hval
  obtain ⟨v0, vs0, d0, ds0, p0, q0, hargs, hds, hq0, h0, r0⟩ := trodAll_cons hA
  obtain ⟨v1, vs1, d1, ds1, p1, q1, rfl, rfl, hq1, h1, r1⟩ := trodAll_cons r0
  obtain ⟨v2, vs2, d2, ds2, p2, q2, rfl, rfl, hq2, h2, r2⟩ := trodAll_cons r1
  obtain ⟨v3, vs3, d3, ds3, p3, q3, rfl, rfl, hq3, h3, r3⟩ := trodAll_cons r2
  obtain ⟨rfl, rfl, _⟩ := trodAll_nil r3
  obtain rfl : args = #[v0, v1, v2, v3] := by cases args; simp_all
  subst hds
  obtain ⟨rfl, hqq⟩ := trodVars_none hV
  obtain ⟨A0, x0, c0, rfl, s0, l0, cl0, b0⟩ := ints_read (hval 0 22 v0 rfl rfl) h0
  obtain ⟨A1, x1, c1, rfl, s1, l1, cl1⟩ := exs_read (hval 1 23 v1 rfl rfl) h1
  obtain ⟨A2, x2, c2, rfl, s2, l2, cl2⟩ := aggs_read (hval 2 31 v2 rfl rfl) h2
  obtain ⟨A3, x3, c3, rfl, z3, l3, k3, b3⟩ := zrows_read (hval 3 25 v3 rfl rfl) h3
  have m1 : x1.length ≤ 140737488355328 := slice_bound hsz 1 (by kernel_rfl) rfl Tryz.underlying23 (by kernel_rfl) h1
  have m2 : x2.length ≤ 140737488355328 := slice_bound hsz 2 (by kernel_rfl) rfl Tryz.underlying31 (by kernel_rfl) h2
  refine (law_ogroup x0 A0 c0 x1 A1 c1 x2 A2 c2 ⟨A3, x3, c3⟩ W (by have := l0; unfold maxLen at this; omega) m1 m2 s0 s1 s2 ⟨z3, k3, (by show x3.length ≤ _; have := l3; unfold maxLen at this; omega), fun x hx => (by have := (b3 x hx).len; unfold maxLen at this; omega)⟩).mono fun e W' ⟨he, hg⟩ => ?_
  subst he
  exact ⟨_, rfl, law_post rfl rfl 4 (by kernel_rfl) Tryz.underlying4 (by kernel_rfl) (of_decide_eq_true (by kernel_rfl)) hW' hg⟩

theorem k_wf : Rows.opsGroupRow.wf (OpenSpec.ofChange Rows.opsGroupSpec) = true := by kernel_rfl
theorem k_pr : Tryz.f4.params.all (Tryz.prog.readableRec ·) = true := by kernel_rfl
theorem k_nt : namedTie Tryz.prog Rows.opsGroupRow.named Rows.opsGroupSpec.vars = true := by kernel_rfl
theorem k_st : (Rows.opsGroupRow.stops == []) = true := by kernel_rfl
theorem k_kn : (Rows.opsGroupRow.knobs == []) = true := by kernel_rfl
theorem k_ip : (Rows.opsGroupRow.inPlace == Tryz.prog.inPlace 4) = true := by kernel_rfl
theorem k_uf : (Rows.opsGroupRow.unfollowed == Tryz.prog.unfollowed 4) = true := by kernel_rfl
theorem k_re : (Rows.opsGroupRow.recurses == Tryz.prog.recurses 4) = true := by kernel_rfl
theorem k_nm : (Rows.opsGroupRow.named == Tryz.prog.varsNamed 4) = true := by kernel_rfl
theorem k_mp : (Rows.opsGroupRow.maps == (Tryz.f4.params.toList ++ Rows.opsGroupSpec.plain.varTypes Tryz.prog).any (Tryz.prog.mapsRec ·)) = true := by kernel_rfl
theorem k_fc : (Rows.opsGroupRow.ifaces == (Tryz.f4.params.toList ++ Rows.opsGroupSpec.plain.varTypes Tryz.prog).any (Tryz.prog.ifacesRec ·)) = true := by kernel_rfl
theorem k_mo : (Rows.opsGroupRow.mapsOut == Tryz.prog.mapsAmong Tryz.f4.resultTypes.toList) = true := by kernel_rfl
theorem k_lp : (Rows.opsGroupRow.loops == (Tryz.f4.params.toList ++ Rows.opsGroupSpec.plain.varTypes Tryz.prog).any (Tryz.prog.loopsFrom ·)) = true := by kernel_rfl
theorem k_wk : (Rows.opsGroupRow.wideKeys == (Tryz.f4.params.toList ++ Rows.opsGroupSpec.plain.varTypes Tryz.prog ++ Tryz.f4.resultTypes.toList).any (Tryz.prog.wideKeysFrom ·)) = true := by kernel_rfl
theorem k_vr : Rows.opsGroupSpec.vars.all (Tryz.prog.varReadable ·) = true := by kernel_rfl
theorem k_rr : Tryz.f4.resultTypes.all (fun t => Tryz.prog.readableRec t && decide (t < Tryz.prog.types.size)) = true := by kernel_rfl
theorem k_io : (Rows.opsGroupRow.ifacesOut == Tryz.f4.resultTypes.toList.any (Tryz.prog.ifacesRec ·)) = true := by kernel_rfl
theorem k_lo : (Rows.opsGroupRow.loopsOut == Tryz.f4.resultTypes.toList.any (Tryz.prog.loopsFrom ·)) = true := by kernel_rfl
theorem k_pk : (Rows.opsGroupRow.plainKeys == true) = true := by kernel_rfl
theorem k_sh : Rows.opsGroupRow.shortTexts.isNone = true := by kernel_rfl
theorem k_lf : (Rows.opsGroupRow.lifted == false) = true := by kernel_rfl
theorem k_mk : (some Make.cut == some Rows.opsGroupRow.make) = true := by kernel_rfl
theorem k_kd : (Rows.opsGroupRow.kinds == (if Rows.opsGroupRow.domain.isEmpty then [] else Tryz.f4.params.toList.map fun t => match Tryz.prog.underlying t with | some (.int k) => some k | _ => none)) = true := by kernel_rfl
theorem k_pi : (Rows.opsGroupRow.pinned == Rows.opsGroupRow.pinnedBy) = true := by kernel_rfl
theorem k_ve : (Rows.opsGroupRow.veiled == (Tryz.f4.params.toList ++ Rows.opsGroupSpec.plain.varTypes Tryz.prog ++ Tryz.f4.resultTypes.toList).any (Tryz.prog.veiledRec ·)) = true := by kernel_rfl
theorem k_vf : Rows.opsGroupRow.veiledFits Tryz.prog Tryz.f4.params.toList (Tryz.f4.params.toList ++ Rows.opsGroupSpec.plain.varTypes Tryz.prog ++ Tryz.f4.resultTypes.toList) = true := by kernel_rfl
set_option maxRecDepth 100000 in
theorem closed : joinedFacts Tryz.pinned.checked.prog 4 Tryz.f4 Rows.opsGroupSpec Rows.opsGroupRow = true := by
  show joinedFacts Tryz.prog 4 Tryz.f4 Rows.opsGroupSpec Rows.opsGroupRow = true
  unfold joinedFacts
  rw [Facts.laid, Facts.mapsR, Facts.heard, Facts.may, Facts.lifts, Facts.make_, Facts.plain, Facts.stops, Facts.knobs]
  simp only [Bool.and_eq_true]
  exact ⟨⟨⟨⟨⟨⟨⟨⟨⟨⟨⟨⟨⟨⟨⟨⟨⟨⟨⟨⟨⟨⟨⟨⟨⟨⟨⟨⟨⟨⟨⟨k_wf, trivial⟩, trivial⟩, k_pr⟩, k_nt⟩, k_st⟩, beq_self_eq_true _⟩, k_kn⟩, beq_self_eq_true _⟩, k_ip⟩, k_uf⟩, k_re⟩, k_nm⟩, k_mp⟩, k_fc⟩, k_mo⟩, k_lp⟩, k_wk⟩, k_vr⟩, k_rr⟩, k_io⟩, k_lo⟩, k_pk⟩, k_sh⟩, trivial⟩, trivial⟩, k_lf⟩, k_mk⟩, k_kd⟩, k_pi⟩, k_ve⟩, k_vf⟩
theorem named : Tryz.pinned.checked.prog.funcNamed Rows.opsGroupRow.func = some 4 := by kernel_rfl
theorem inst : Tryz.f4.isInstance Tryz.pinned.checked.prog Rows.opsGroupRow.origin Rows.opsGroupRow.targs := of_decide_eq_true (by kernel_rfl)
theorem over : Rows.opsGroupRow.holds Tryz.pinned (OpenSpec.ofChange Rows.opsGroupSpec) :=
  OpenClaim.holds_of_wide 4 Tryz.f4 rfl rfl rfl rfl rfl rfl rfl ⟨rfl, rfl, rfl, rfl, rfl⟩ rfl rfl rfl rfl rfl named Tryz.func4 closed
    inst (by unfold Func.isWrapper; first | (rw [if_pos (by decide +kernel)]; kernel_rfl) | (rw [if_neg (by decide +kernel)]; exact ⟨rfl, rfl⟩))
    (fun os started H enc _ => lifted os started H enc)

theorem opsGroup_holds : Rows.OpsGroupSaid :=
  over
end Go.Proofs.YtigpbihjjadmlaaGreat.opsGroup
