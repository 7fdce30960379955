/-
  A text of the proof of the law ZsetsForm; no condition beside the row's own.
-/
import Derived.Test.YtjhcbehnopmnpaaFacts
import Derived.Test.YtjhcbehnopmnpaaGH
import Derived.Test.YtjhcbehnopmnpaaHLawZForm
/-
  The law ZsetsForm of chapter 2 holds: for every input of its row it returns true and leaves its arguments as they were. No condition beside the row's own.
-/
namespace Go.Proofs.Ytjhcbehnopmnpaa.zsetsForm
open Go.ChangeShapes Go.WideShapes Go.ChangeAt Go.RowKit Go.Calm Go.Proofs.Ytjhcbehnopmnpaa
set_option linter.unusedVariables false

theorem own : ownKnob Try.prog.godebug = none := by kernel_rfl

set_option maxRecDepth 100000 in
theorem lifted (os : Os) (started : os.Started) (H : Type) (enc : TypeId × Value → H) :
    ReturnsInHanded {} Try.checked os 16 .any (Rows.zsetsFormSpec.pre6 enc Try.prog Try.f16 Rows.zsetsFormRow.domain false) (Rows.zsetsFormSpec.post enc Try.prog Try.f16 false true false false) := by
  refine returnsInHanded_of_change (C := Try.checked) own started (by kernel_rfl) Try.func16
    (ChangeSpec.witness6 (enc := enc) (C := Try.checked) false ⟨#[], #[.slice none 0 0, .int .i64 0], []⟩ 8 (by kernel_rfl) (by kernel_rfl) (by kernel_rfl) (by kernel_rfl)) ?_
  intro W base args ds gs before hval0 hW hcnd _
  have hval : ∀ (j : Nat) t v, Try.f16.params[j]? = some t → args[j]? = some v → Value.okWide Try.prog W .any base t v := hval0
  have hW' := hW
  obtain ⟨p, q, hA0, hV, hpq, hfz, hnd⟩ := hW
  have hA : DataW.TrodAll enc Try.prog W 0 (fun _ => true) true Try.f16.params.toList args.toList ds p := hA0
  rw [Try.params16] at hA hval
  obtain ⟨v0, vs0, d0, ds0, p0, q0, hargs, hds, hq0, h0, r0⟩ := trodAll_cons hA
  obtain ⟨v1, vs1, d1, ds1, p1, q1, rfl, rfl, hq1, h1, r1⟩ := trodAll_cons r0
  obtain ⟨rfl, rfl, _⟩ := trodAll_nil r1
  obtain rfl : args = #[v0, v1] := by cases args; simp_all
  subst hds
  obtain ⟨rfl, hqq⟩ := trodVars_none hV
  obtain ⟨A0, x0, c0, rfl, z0, l0, k0, b0⟩ := zrows_read (hval 0 62 v0 rfl rfl) h0
  obtain ⟨a1, rfl, rfl, rfl, w1⟩ := open_int Try.underlying3 (hval 1 3 v1 rfl rfl) h1
  refine (law_zform x0 A0 c0 a1 W ⟨z0, k0, (by show x0.length ≤ _; have := l0; unfold maxLen at this; omega), fun x hx => (by have := (b0 x hx).len; unfold maxLen at this; omega)⟩).mono fun e W' ⟨he, hg⟩ => ?_
  subst he
  exact ⟨_, rfl, law_post rfl rfl 4 (by kernel_rfl) Try.underlying4 (by kernel_rfl) (of_decide_eq_true (by kernel_rfl)) hW' hg⟩

theorem k_wf : Rows.zsetsFormRow.wf (OpenSpec.ofChange Rows.zsetsFormSpec) = true := by kernel_rfl
theorem k_pr : Try.f16.params.all (Try.prog.readableRec ·) = true := by kernel_rfl
theorem k_nt : namedTie Try.prog Rows.zsetsFormRow.named Rows.zsetsFormSpec.vars = true := by kernel_rfl
theorem k_st : (Rows.zsetsFormRow.stops == []) = true := by kernel_rfl
theorem k_kn : (Rows.zsetsFormRow.knobs == []) = true := by kernel_rfl
theorem k_ip : (Rows.zsetsFormRow.inPlace == Try.prog.inPlace 16) = true := by kernel_rfl
theorem k_uf : (Rows.zsetsFormRow.unfollowed == Try.prog.unfollowed 16) = true := by kernel_rfl
theorem k_re : (Rows.zsetsFormRow.recurses == Try.prog.recurses 16) = true := by kernel_rfl
theorem k_nm : (Rows.zsetsFormRow.named == Try.prog.varsNamed 16) = true := by kernel_rfl
theorem k_mp : (Rows.zsetsFormRow.maps == (Try.f16.params.toList ++ Rows.zsetsFormSpec.plain.varTypes Try.prog).any (Try.prog.mapsRec ·)) = true := by kernel_rfl
theorem k_fc : (Rows.zsetsFormRow.ifaces == (Try.f16.params.toList ++ Rows.zsetsFormSpec.plain.varTypes Try.prog).any (Try.prog.ifacesRec ·)) = true := by kernel_rfl
theorem k_mo : (Rows.zsetsFormRow.mapsOut == Try.prog.mapsAmong Try.f16.resultTypes.toList) = true := by kernel_rfl
theorem k_lp : (Rows.zsetsFormRow.loops == (Try.f16.params.toList ++ Rows.zsetsFormSpec.plain.varTypes Try.prog).any (Try.prog.loopsFrom ·)) = true := by kernel_rfl
theorem k_wk : (Rows.zsetsFormRow.wideKeys == (Try.f16.params.toList ++ Rows.zsetsFormSpec.plain.varTypes Try.prog ++ Try.f16.resultTypes.toList).any (Try.prog.wideKeysFrom ·)) = true := by kernel_rfl
theorem k_vr : Rows.zsetsFormSpec.vars.all (Try.prog.varReadable ·) = true := by kernel_rfl
theorem k_rr : Try.f16.resultTypes.all (fun t => Try.prog.readableRec t && decide (t < Try.prog.types.size)) = true := by kernel_rfl
theorem k_io : (Rows.zsetsFormRow.ifacesOut == Try.f16.resultTypes.toList.any (Try.prog.ifacesRec ·)) = true := by kernel_rfl
theorem k_lo : (Rows.zsetsFormRow.loopsOut == Try.f16.resultTypes.toList.any (Try.prog.loopsFrom ·)) = true := by kernel_rfl
theorem k_pk : (Rows.zsetsFormRow.plainKeys == true) = true := by kernel_rfl
theorem k_sh : Rows.zsetsFormRow.shortTexts.isNone = true := by kernel_rfl
theorem k_lf : (Rows.zsetsFormRow.lifted == false) = true := by kernel_rfl
theorem k_mk : (some Make.cut == some Rows.zsetsFormRow.make) = true := by kernel_rfl
theorem k_kd : (Rows.zsetsFormRow.kinds == (if Rows.zsetsFormRow.domain.isEmpty then [] else Try.f16.params.toList.map fun t => match Try.prog.underlying t with | some (.int k) => some k | _ => none)) = true := by kernel_rfl
theorem k_pi : (Rows.zsetsFormRow.pinned == Rows.zsetsFormRow.pinnedBy) = true := by kernel_rfl
theorem k_ve : (Rows.zsetsFormRow.veiled == (Try.f16.params.toList ++ Rows.zsetsFormSpec.plain.varTypes Try.prog ++ Try.f16.resultTypes.toList).any (Try.prog.veiledRec ·)) = true := by kernel_rfl
theorem k_vf : Rows.zsetsFormRow.veiledFits Try.prog Try.f16.params.toList (Try.f16.params.toList ++ Rows.zsetsFormSpec.plain.varTypes Try.prog ++ Try.f16.resultTypes.toList) = true := by kernel_rfl
set_option maxRecDepth 100000 in
theorem closed : joinedFacts Try.pinned.checked.prog 16 Try.f16 Rows.zsetsFormSpec Rows.zsetsFormRow = true := by
  show joinedFacts Try.prog 16 Try.f16 Rows.zsetsFormSpec Rows.zsetsFormRow = true
  unfold joinedFacts
  rw [Facts.laid, Facts.mapsR, Facts.heard, Facts.may, Facts.lifts, Facts.make_, Facts.plain, Facts.stops, Facts.knobs]
  simp only [Bool.and_eq_true]
  exact ⟨⟨⟨⟨⟨⟨⟨⟨⟨⟨⟨⟨⟨⟨⟨⟨⟨⟨⟨⟨⟨⟨⟨⟨⟨⟨⟨⟨⟨⟨⟨k_wf, trivial⟩, trivial⟩, k_pr⟩, k_nt⟩, k_st⟩, beq_self_eq_true _⟩, k_kn⟩, beq_self_eq_true _⟩, k_ip⟩, k_uf⟩, k_re⟩, k_nm⟩, k_mp⟩, k_fc⟩, k_mo⟩, k_lp⟩, k_wk⟩, k_vr⟩, k_rr⟩, k_io⟩, k_lo⟩, k_pk⟩, k_sh⟩, trivial⟩, trivial⟩, k_lf⟩, k_mk⟩, k_kd⟩, k_pi⟩, k_ve⟩, k_vf⟩
theorem named : Try.pinned.checked.prog.funcNamed Rows.zsetsFormRow.func = some 16 := by kernel_rfl
theorem inst : Try.f16.isInstance Try.pinned.checked.prog Rows.zsetsFormRow.origin Rows.zsetsFormRow.targs := of_decide_eq_true (by kernel_rfl)
theorem over : Rows.zsetsFormRow.holds Try.pinned (OpenSpec.ofChange Rows.zsetsFormSpec) :=
  OpenClaim.holds_of_wide 16 Try.f16 rfl rfl rfl rfl rfl rfl rfl ⟨rfl, rfl, rfl, rfl, rfl⟩ rfl rfl rfl rfl rfl named Try.func16 closed
    inst (by unfold Func.isWrapper; first | (rw [if_pos (by decide +kernel)]; kernel_rfl) | (rw [if_neg (by decide +kernel)]; exact ⟨rfl, rfl⟩))
    (fun os started H enc _ => lifted os started H enc)

theorem zsetsForm_holds : Rows.ZsetsFormSaid :=
  over
end Go.Proofs.Ytjhcbehnopmnpaa.zsetsForm
