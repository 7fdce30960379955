/-
  A text of the proof of the law OpsFirst; no condition beside the row's own.
-/
import Derived.Test.YtpdimihojeonhaaFacts
import Derived.Test.YtpdimihojeonhaaGD
import Derived.Test.YtpdimihojeonhaaGH
import Derived.Test.YtpdimihojeonhaaGS
import Derived.Test.YtpdimihojeonhaaHLawOFirst
/-
  The law OpsFirst of chapter 4 holds: for every input of its row it returns true and leaves its arguments as they were. No condition beside the row's own.
-/
namespace Go.Proofs.Ytpdimihojeonhaa.opsFirst
open Go.ChangeShapes Go.WideShapes Go.ChangeAt Go.RowKit Go.Calm Go.Proofs.Ytpdimihojeonhaa
set_option linter.unusedVariables false

theorem own : ownKnob Try.prog.godebug = none := by kernel_rfl

set_option maxRecDepth 100000 in
theorem lifted (os : Os) (started : os.Started) (H : Type) (enc : TypeId × Value → H) :
    ReturnsInHanded {} Try.checked os 5 .any (Rows.opsFirstSpec.pre6 enc Try.prog Try.f5 Rows.opsFirstRow.domain false) (Rows.opsFirstSpec.post enc Try.prog Try.f5 false true false false) := by
  refine returnsInHanded_of_change (C := Try.checked) own started (by kernel_rfl) Try.func5
    (ChangeSpec.witness6 (enc := enc) (C := Try.checked) false ⟨#[], #[.slice none 0 0, .int .i64 0, .int .i64 0, .slice none 0 0], []⟩ 8 (by kernel_rfl) (by kernel_rfl) (by kernel_rfl) (by kernel_rfl)) ?_
  intro W base args ds gs before hval0 hW hcnd _
  have hval : ∀ (j : Nat) t v, Try.f5.params[j]? = some t → args[j]? = some v → Value.okWide Try.prog W .any base t v := hval0
  have hW' := hW
  obtain ⟨p, q, hA0, hV, hpq, hfz, hnd⟩ := hW
  have hA : DataW.TrodAll enc Try.prog W 0 (fun _ => true) true Try.f5.params.toList args.toList ds p := hA0
  rw [Try.params5] at hA hval
  obtain ⟨v0, vs0, d0, ds0, p0, q0, hargs, hds, hq0, h0, r0⟩ := trodAll_cons hA
  obtain ⟨v1, vs1, d1, ds1, p1, q1, rfl, rfl, hq1, h1, r1⟩ := trodAll_cons r0
  obtain ⟨v2, vs2, d2, ds2, p2, q2, rfl, rfl, hq2, h2, r2⟩ := trodAll_cons r1
  obtain ⟨v3, vs3, d3, ds3, p3, q3, rfl, rfl, hq3, h3, r3⟩ := trodAll_cons r2
  obtain ⟨rfl, rfl, _⟩ := trodAll_nil r3
  obtain rfl : args = #[v0, v1, v2, v3] := by cases args; simp_all
  subst hds
  obtain ⟨rfl, hqq⟩ := trodVars_none hV
  obtain ⟨A0, x0, c0, rfl, s0, l0, cl0, b0⟩ := ints_read (hval 0 22 v0 rfl rfl) h0
  obtain ⟨a1, rfl, rfl, rfl, w1⟩ := open_int Try.underlying3 (hval 1 3 v1 rfl rfl) h1
  obtain ⟨a2, rfl, rfl, rfl, w2⟩ := open_int Try.underlying3 (hval 2 3 v2 rfl rfl) h2
  obtain ⟨A3, x3, c3, rfl, z3, l3, k3, b3⟩ := zrows_read (hval 3 28 v3 rfl rfl) h3
  refine (law_ofirst x0 A0 c0 a1 a2 ⟨A3, x3, c3⟩ W (by have := l0; unfold maxLen at this; omega) (wf_i64 w1) s0 ⟨z3, k3, (by show x3.length ≤ _; have := l3; unfold maxLen at this; omega), fun x hx => (by have := (b3 x hx).len; unfold maxLen at this; omega)⟩).mono fun e W' ⟨he, hg⟩ => ?_
  subst he
  exact ⟨_, rfl, law_post rfl rfl 4 (by kernel_rfl) Try.underlying4 (by kernel_rfl) (of_decide_eq_true (by kernel_rfl)) hW' hg⟩

theorem k_wf : Rows.opsFirstRow.wf (OpenSpec.ofChange Rows.opsFirstSpec) = true := by kernel_rfl
theorem k_pr : Try.f5.params.all (Try.prog.readableRec ·) = true := by kernel_rfl
theorem k_nt : namedTie Try.prog Rows.opsFirstRow.named Rows.opsFirstSpec.vars = true := by kernel_rfl
theorem k_st : (Rows.opsFirstRow.stops == []) = true := by kernel_rfl
theorem k_kn : (Rows.opsFirstRow.knobs == []) = true := by kernel_rfl
theorem k_ip : (Rows.opsFirstRow.inPlace == Try.prog.inPlace 5) = true := by kernel_rfl
theorem k_uf : (Rows.opsFirstRow.unfollowed == Try.prog.unfollowed 5) = true := by kernel_rfl
theorem k_re : (Rows.opsFirstRow.recurses == Try.prog.recurses 5) = true := by kernel_rfl
theorem k_nm : (Rows.opsFirstRow.named == Try.prog.varsNamed 5) = true := by kernel_rfl
theorem k_mp : (Rows.opsFirstRow.maps == (Try.f5.params.toList ++ Rows.opsFirstSpec.plain.varTypes Try.prog).any (Try.prog.mapsRec ·)) = true := by kernel_rfl
theorem k_fc : (Rows.opsFirstRow.ifaces == (Try.f5.params.toList ++ Rows.opsFirstSpec.plain.varTypes Try.prog).any (Try.prog.ifacesRec ·)) = true := by kernel_rfl
theorem k_mo : (Rows.opsFirstRow.mapsOut == Try.prog.mapsAmong Try.f5.resultTypes.toList) = true := by kernel_rfl
theorem k_lp : (Rows.opsFirstRow.loops == (Try.f5.params.toList ++ Rows.opsFirstSpec.plain.varTypes Try.prog).any (Try.prog.loopsFrom ·)) = true := by kernel_rfl
theorem k_wk : (Rows.opsFirstRow.wideKeys == (Try.f5.params.toList ++ Rows.opsFirstSpec.plain.varTypes Try.prog ++ Try.f5.resultTypes.toList).any (Try.prog.wideKeysFrom ·)) = true := by kernel_rfl
theorem k_vr : Rows.opsFirstSpec.vars.all (Try.prog.varReadable ·) = true := by kernel_rfl
theorem k_rr : Try.f5.resultTypes.all (fun t => Try.prog.readableRec t && decide (t < Try.prog.types.size)) = true := by kernel_rfl
theorem k_io : (Rows.opsFirstRow.ifacesOut == Try.f5.resultTypes.toList.any (Try.prog.ifacesRec ·)) = true := by kernel_rfl
theorem k_lo : (Rows.opsFirstRow.loopsOut == Try.f5.resultTypes.toList.any (Try.prog.loopsFrom ·)) = true := by kernel_rfl
theorem k_pk : (Rows.opsFirstRow.plainKeys == true) = true := by kernel_rfl
theorem k_sh : Rows.opsFirstRow.shortTexts.isNone = true := by kernel_rfl
theorem k_lf : (Rows.opsFirstRow.lifted == false) = true := by kernel_rfl
theorem k_mk : (some Make.cut == some Rows.opsFirstRow.make) = true := by kernel_rfl
theorem k_kd : (Rows.opsFirstRow.kinds == (if Rows.opsFirstRow.domain.isEmpty then [] else Try.f5.params.toList.map fun t => match Try.prog.underlying t with | some (.int k) => some k | _ => none)) = true := by kernel_rfl
theorem k_pi : (Rows.opsFirstRow.pinned == Rows.opsFirstRow.pinnedBy) = true := by kernel_rfl
theorem k_ve : (Rows.opsFirstRow.veiled == (Try.f5.params.toList ++ Rows.opsFirstSpec.plain.varTypes Try.prog ++ Try.f5.resultTypes.toList).any (Try.prog.veiledRec ·)) = true := by kernel_rfl
theorem k_vf : Rows.opsFirstRow.veiledFits Try.prog Try.f5.params.toList (Try.f5.params.toList ++ Rows.opsFirstSpec.plain.varTypes Try.prog ++ Try.f5.resultTypes.toList) = true := by kernel_rfl
set_option maxRecDepth 100000 in
theorem closed : joinedFacts Try.pinned.checked.prog 5 Try.f5 Rows.opsFirstSpec Rows.opsFirstRow = true := by
  show joinedFacts Try.prog 5 Try.f5 Rows.opsFirstSpec Rows.opsFirstRow = true
  unfold joinedFacts
  rw [Facts.laid, Facts.mapsR, Facts.heard, Facts.may, Facts.lifts, Facts.make_, Facts.plain, Facts.stops, Facts.knobs]
  simp only [Bool.and_eq_true]
  exact ⟨⟨⟨⟨⟨⟨⟨⟨⟨⟨⟨⟨⟨⟨⟨⟨⟨⟨⟨⟨⟨⟨⟨⟨⟨⟨⟨⟨⟨⟨⟨k_wf, trivial⟩, trivial⟩, k_pr⟩, k_nt⟩, k_st⟩, beq_self_eq_true _⟩, k_kn⟩, beq_self_eq_true _⟩, k_ip⟩, k_uf⟩, k_re⟩, k_nm⟩, k_mp⟩, k_fc⟩, k_mo⟩, k_lp⟩, k_wk⟩, k_vr⟩, k_rr⟩, k_io⟩, k_lo⟩, k_pk⟩, k_sh⟩, trivial⟩, trivial⟩, k_lf⟩, k_mk⟩, k_kd⟩, k_pi⟩, k_ve⟩, k_vf⟩
theorem named : Try.pinned.checked.prog.funcNamed Rows.opsFirstRow.func = some 5 := by kernel_rfl
theorem inst : Try.f5.isInstance Try.pinned.checked.prog Rows.opsFirstRow.origin Rows.opsFirstRow.targs := of_decide_eq_true (by kernel_rfl)
theorem over : Rows.opsFirstRow.holds Try.pinned (OpenSpec.ofChange Rows.opsFirstSpec) :=
  OpenClaim.holds_of_wide 5 Try.f5 rfl rfl rfl rfl rfl rfl rfl ⟨rfl, rfl, rfl, rfl, rfl⟩ rfl rfl rfl rfl rfl named Try.func5 closed
    inst (by unfold Func.isWrapper; first | (rw [if_pos (by decide +kernel)]; kernel_rfl) | (rw [if_neg (by decide +kernel)]; exact ⟨rfl, rfl⟩))
    (fun os started H enc _ => lifted os started H enc)

theorem opsFirst_holds : Rows.OpsFirstSaid :=
  over
end Go.Proofs.Ytpdimihojeonhaa.opsFirst
