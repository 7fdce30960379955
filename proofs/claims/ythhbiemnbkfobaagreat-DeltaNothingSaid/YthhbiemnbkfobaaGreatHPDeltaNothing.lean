/-
  The law DeltaNothing. No condition beside the row's own.
-/
import Derived.Test.YthhbiemnbkfobaaGreatFacts
import Derived.Test.YthhbiemnbkfobaaGreatHLawDNothing
set_option maxRecDepth 100000
namespace Go.Proofs.YthhbiemnbkfobaaGreat.deltaNothing
open Go.ChangeShapes Go.WideShapes Go.ChangeAt Go.RowKit Go.Calm Go.Proofs.YthhbiemnbkfobaaGreat
set_option linter.unusedVariables false
theorem own : ownKnob Tryz.prog.godebug = none := by kernel_rfl

theorem lifted (os : Os) (started : os.Started) (H : Type) (enc : TypeId × Value → H) :
    ReturnsInHanded {} Tryz.checked os 3 .any (Rows.deltaNothingSpec.pre6 enc Tryz.prog Tryz.f3 Rows.deltaNothingRow.domain false) (Rows.deltaNothingSpec.post enc Tryz.prog Tryz.f3 false true false false) := by
  refine returnsInHanded_of_change_sized (C := Tryz.checked) own started (by kernel_rfl) Tryz.func3
    (ChangeSpec.witness6 (enc := enc) (C := Tryz.checked) false ⟨#[], #[.slice none 0 0, .agg #[.int .i64 0, .int .i64 0, .int .i64 0, .int .i64 0, .int .i64 0, .string ⟨#[]⟩, .int .i64 0, .slice none 0 0, .slice none 0 0, .slice none 0 0, .slice none 0 0], .slice none 0 0], []⟩ 8 (by kernel_rfl) (by kernel_rfl) (by kernel_rfl) (by kernel_rfl)) ?_
  intro W base args ds gs before hval0 hW hcnd hsz _
  have hval : ∀ (j : Nat) t v, Tryz.f3.params[j]? = some t → args[j]? = some v → Value.okWide Tryz.prog W .any base t v := hval0
  have hW' := hW
  obtain ⟨p, q, hA0, hV, hpq, hfz, hnd⟩ := hW
  have hA : DataW.TrodAll enc Tryz.prog W 0 (fun _ => true) true Tryz.f3.params.toList args.toList ds p := hA0
  rw [Tryz.params3] at hA hval
  obtain ⟨v0, vs0, d0, ds0, p0, q0, hargs, hds, hq0, h0, r0⟩ := trodAll_cons hA
  obtain ⟨v1, vs1, d1, ds1, p1, q1, rfl, rfl, hq1, h1, r1⟩ := trodAll_cons r0
  obtain ⟨v2, vs2, d2, ds2, p2, q2, rfl, rfl, hq2, h2, r2⟩ := trodAll_cons r1
  obtain ⟨rfl, rfl, _⟩ := trodAll_nil r2
  obtain rfl : args = #[v0, v1, v2] := by cases args; simp_all
  subst hds
  obtain ⟨rfl, hqq⟩ := trodVars_none hV
  obtain ⟨A0, x0, c0, rfl, s0, l0, b0⟩ := ST hsz 0 (by kernel_rfl) rfl (hval 0 22 v0 rfl rfl) h0
  obtain ⟨x1, rfl, b1⟩ := Bl hsz 1 (by kernel_rfl) rfl (hval 1 31 v1 rfl rfl) h1
  obtain ⟨A2, x2, c2, rfl, s2⟩ := Ph (hval 2 32 v2 rfl rfl) h2
  refine (Ku x0 A0 c0 x1 x2 A2 c2 W l0 b0 s0 b1 s2).mono fun e W' ⟨he, hg⟩ => ?_
  subst he
  exact ⟨_, rfl, T5 rfl rfl 4 (by kernel_rfl) Tryz.underlying4 (by kernel_rfl) (of_decide_eq_true (by kernel_rfl)) hW' hg⟩

theorem k_wf : Rows.deltaNothingRow.wf (OpenSpec.ofChange Rows.deltaNothingSpec) = true := by kernel_rfl
theorem k_pr : Tryz.f3.params.all (Tryz.prog.readableRec ·) = true := by kernel_rfl
theorem k_nt : namedTie Tryz.prog Rows.deltaNothingRow.named Rows.deltaNothingSpec.vars = true := by kernel_rfl
theorem k_st : (Rows.deltaNothingRow.stops == []) = true := by kernel_rfl
theorem k_kn : (Rows.deltaNothingRow.knobs == []) = true := by kernel_rfl
theorem k_ip : (Rows.deltaNothingRow.inPlace == Tryz.prog.inPlace 3) = true := by kernel_rfl
theorem k_uf : (Rows.deltaNothingRow.unfollowed == Tryz.prog.unfollowed 3) = true := by kernel_rfl
theorem k_re : (Rows.deltaNothingRow.recurses == Tryz.prog.recurses 3) = true := by kernel_rfl
theorem k_nm : (Rows.deltaNothingRow.named == Tryz.prog.varsNamed 3) = true := by kernel_rfl
theorem k_mp : (Rows.deltaNothingRow.maps == (Tryz.f3.params.toList ++ Rows.deltaNothingSpec.plain.varTypes Tryz.prog).any (Tryz.prog.mapsRec ·)) = true := by kernel_rfl
theorem k_fc : (Rows.deltaNothingRow.ifaces == (Tryz.f3.params.toList ++ Rows.deltaNothingSpec.plain.varTypes Tryz.prog).any (Tryz.prog.ifacesRec ·)) = true := by kernel_rfl
theorem k_mo : (Rows.deltaNothingRow.mapsOut == Tryz.prog.mapsAmong Tryz.f3.resultTypes.toList) = true := by kernel_rfl
theorem k_lp : (Rows.deltaNothingRow.loops == (Tryz.f3.params.toList ++ Rows.deltaNothingSpec.plain.varTypes Tryz.prog).any (Tryz.prog.loopsFrom ·)) = true := by kernel_rfl
theorem k_wk : (Rows.deltaNothingRow.wideKeys == (Tryz.f3.params.toList ++ Rows.deltaNothingSpec.plain.varTypes Tryz.prog ++ Tryz.f3.resultTypes.toList).any (Tryz.prog.wideKeysFrom ·)) = true := by kernel_rfl
theorem k_vr : Rows.deltaNothingSpec.vars.all (Tryz.prog.varReadable ·) = true := by kernel_rfl
theorem k_rr : Tryz.f3.resultTypes.all (fun t => Tryz.prog.readableRec t && decide (t < Tryz.prog.types.size)) = true := by kernel_rfl
theorem k_io : (Rows.deltaNothingRow.ifacesOut == Tryz.f3.resultTypes.toList.any (Tryz.prog.ifacesRec ·)) = true := by kernel_rfl
theorem k_lo : (Rows.deltaNothingRow.loopsOut == Tryz.f3.resultTypes.toList.any (Tryz.prog.loopsFrom ·)) = true := by kernel_rfl
theorem k_pk : (Rows.deltaNothingRow.plainKeys == true) = true := by kernel_rfl
theorem k_sh : Rows.deltaNothingRow.shortTexts.isNone = true := by kernel_rfl
theorem k_lf : (Rows.deltaNothingRow.lifted == false) = true := by kernel_rfl
theorem k_mk : (some Make.cut == some Rows.deltaNothingRow.make) = true := by kernel_rfl
theorem k_kd : (Rows.deltaNothingRow.kinds == (if Rows.deltaNothingRow.domain.isEmpty then [] else Tryz.f3.params.toList.map fun t => match Tryz.prog.underlying t with | some (.int k) => some k | _ => none)) = true := by kernel_rfl
theorem k_pi : (Rows.deltaNothingRow.pinned == Rows.deltaNothingRow.pinnedBy) = true := by kernel_rfl
theorem k_ve : (Rows.deltaNothingRow.veiled == (Tryz.f3.params.toList ++ Rows.deltaNothingSpec.plain.varTypes Tryz.prog ++ Tryz.f3.resultTypes.toList).any (Tryz.prog.veiledRec ·)) = true := by kernel_rfl
theorem k_vf : Rows.deltaNothingRow.veiledFits Tryz.prog Tryz.f3.params.toList (Tryz.f3.params.toList ++ Rows.deltaNothingSpec.plain.varTypes Tryz.prog ++ Tryz.f3.resultTypes.toList) = true := by kernel_rfl
theorem closed : joinedFacts Tryz.pinned.checked.prog 3 Tryz.f3 Rows.deltaNothingSpec Rows.deltaNothingRow = true := by
  show joinedFacts Tryz.prog 3 Tryz.f3 Rows.deltaNothingSpec Rows.deltaNothingRow = true
  unfold joinedFacts
  rw [Facts.laid, Facts.mapsR, Facts.heard, Facts.may, Facts.lifts, Facts.make_, Facts.plain, Facts.stops, Facts.knobs]
  simp only [Bool.and_eq_true]
  exact ⟨⟨⟨⟨⟨⟨⟨⟨⟨⟨⟨⟨⟨⟨⟨⟨⟨⟨⟨⟨⟨⟨⟨⟨⟨⟨⟨⟨⟨⟨⟨k_wf, trivial⟩, trivial⟩, k_pr⟩, k_nt⟩, k_st⟩, beq_self_eq_true _⟩, k_kn⟩, beq_self_eq_true _⟩, k_ip⟩, k_uf⟩, k_re⟩, k_nm⟩, k_mp⟩, k_fc⟩, k_mo⟩, k_lp⟩, k_wk⟩, k_vr⟩, k_rr⟩, k_io⟩, k_lo⟩, k_pk⟩, k_sh⟩, trivial⟩, trivial⟩, k_lf⟩, k_mk⟩, k_kd⟩, k_pi⟩, k_ve⟩, k_vf⟩
theorem named : Tryz.pinned.checked.prog.funcNamed Rows.deltaNothingRow.func = some 3 := by kernel_rfl
theorem inst : Tryz.f3.isInstance Tryz.pinned.checked.prog Rows.deltaNothingRow.origin Rows.deltaNothingRow.targs := of_decide_eq_true (by kernel_rfl)
theorem over : Rows.deltaNothingRow.holds Tryz.pinned (OpenSpec.ofChange Rows.deltaNothingSpec) :=
  OpenClaim.holds_of_wide 3 Tryz.f3 rfl rfl rfl rfl rfl rfl rfl ⟨rfl, rfl, rfl, rfl, rfl⟩ rfl rfl rfl rfl rfl named Tryz.func3 closed
    inst (by unfold Func.isWrapper; first | (rw [if_pos (by decide +kernel)]; kernel_rfl) | (rw [if_neg (by decide +kernel)]; exact ⟨rfl, rfl⟩))
    (fun os started H enc _ => lifted os started H enc)

theorem deltaNothing_holds : Rows.DeltaNothingSaid :=
  over
end Go.Proofs.YthhbiemnbkfobaaGreat.deltaNothing
