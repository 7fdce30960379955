/-
  A text of the proof of the law ZsetsOnce; no condition beside the row's own.
-/
import Derived.Test.YtjhcbehnopmnpaaFacts
import Derived.Test.YtjhcbehnopmnpaaGH
import Derived.Test.YtjhcbehnopmnpaaHLawZOnce
/-
  The law ZsetsOnce of chapter 2 holds: for every input of its row it returns true and leaves its arguments as they were. No condition beside the row's own.
-/
namespace Go.Proofs.Ytjhcbehnopmnpaa.zsetsOnce
open Go.ChangeShapes Go.WideShapes Go.ChangeAt Go.RowKit Go.Calm Go.Proofs.Ytjhcbehnopmnpaa
set_option linter.unusedVariables false

theorem own : ownKnob Try.prog.godebug = none := by kernel_rfl

set_option maxRecDepth 100000 in
theorem lifted (os : Os) (started : os.Started) (H : Type) (enc : TypeId × Value → H) :
    ReturnsInHanded {} Try.checked os 17 .any (Rows.zsetsOnceSpec.pre6 enc Try.prog Try.f17 Rows.zsetsOnceRow.domain false) (Rows.zsetsOnceSpec.post enc Try.prog Try.f17 false true false false) := by
  refine returnsInHanded_of_change (C := Try.checked) own started (by kernel_rfl) Try.func17
    (ChangeSpec.witness6 (enc := enc) (C := Try.checked) false ⟨#[], #[.slice none 0 0], []⟩ 8 (by kernel_rfl) (by kernel_rfl) (by kernel_rfl) (by kernel_rfl)) ?_
  intro W base args ds gs before hval0 hW hcnd _
  have hval : ∀ (j : Nat) t v, Try.f17.params[j]? = some t → args[j]? = some v → Value.okWide Try.prog W .any base t v := hval0
  have hW' := hW
  obtain ⟨p, q, hA0, hV, hpq, hfz, hnd⟩ := hW
  have hA : DataW.TrodAll enc Try.prog W 0 (fun _ => true) true Try.f17.params.toList args.toList ds p := hA0
  rw [Try.params17] at hA hval
  obtain ⟨v0, vs0, d0, ds0, p0, q0, hargs, hds, hq0, h0, r0⟩ := trodAll_cons hA
  obtain ⟨rfl, rfl, _⟩ := trodAll_nil r0
  obtain rfl : args = #[v0] := by cases args; simp_all
  subst hds
  obtain ⟨rfl, hqq⟩ := trodVars_none hV
  obtain ⟨A0, x0, c0, rfl, z0, l0, k0, b0⟩ := zrows_read (hval 0 62 v0 rfl rfl) h0
  refine (law_zonce x0 A0 c0 W ⟨z0, k0, (by show x0.length ≤ _; have := l0; unfold maxLen at this; omega), fun x hx => (by have := (b0 x hx).len; unfold maxLen at this; omega)⟩).mono fun e W' ⟨he, hg⟩ => ?_
  subst he
  exact ⟨_, rfl, law_post rfl rfl 4 (by kernel_rfl) Try.underlying4 (by kernel_rfl) (of_decide_eq_true (by kernel_rfl)) hW' hg⟩

theorem k_wf : Rows.zsetsOnceRow.wf (OpenSpec.ofChange Rows.zsetsOnceSpec) = true := by kernel_rfl
theorem k_pr : Try.f17.params.all (Try.prog.readableRec ·) = true := by kernel_rfl
theorem k_nt : namedTie Try.prog Rows.zsetsOnceRow.named Rows.zsetsOnceSpec.vars = true := by kernel_rfl
theorem k_st : (Rows.zsetsOnceRow.stops == []) = true := by kernel_rfl
theorem k_kn : (Rows.zsetsOnceRow.knobs == []) = true := by kernel_rfl
theorem k_ip : (Rows.zsetsOnceRow.inPlace == Try.prog.inPlace 17) = true := by kernel_rfl
theorem k_uf : (Rows.zsetsOnceRow.unfollowed == Try.prog.unfollowed 17) = true := by kernel_rfl
theorem k_re : (Rows.zsetsOnceRow.recurses == Try.prog.recurses 17) = true := by kernel_rfl
theorem k_nm : (Rows.zsetsOnceRow.named == Try.prog.varsNamed 17) = true := by kernel_rfl
theorem k_mp : (Rows.zsetsOnceRow.maps == (Try.f17.params.toList ++ Rows.zsetsOnceSpec.plain.varTypes Try.prog).any (Try.prog.mapsRec ·)) = true := by kernel_rfl
theorem k_fc : (Rows.zsetsOnceRow.ifaces == (Try.f17.params.toList ++ Rows.zsetsOnceSpec.plain.varTypes Try.prog).any (Try.prog.ifacesRec ·)) = true := by kernel_rfl
theorem k_mo : (Rows.zsetsOnceRow.mapsOut == Try.prog.mapsAmong Try.f17.resultTypes.toList) = true := by kernel_rfl
theorem k_lp : (Rows.zsetsOnceRow.loops == (Try.f17.params.toList ++ Rows.zsetsOnceSpec.plain.varTypes Try.prog).any (Try.prog.loopsFrom ·)) = true := by kernel_rfl
theorem k_wk : (Rows.zsetsOnceRow.wideKeys == (Try.f17.params.toList ++ Rows.zsetsOnceSpec.plain.varTypes Try.prog ++ Try.f17.resultTypes.toList).any (Try.prog.wideKeysFrom ·)) = true := by kernel_rfl
theorem k_vr : Rows.zsetsOnceSpec.vars.all (Try.prog.varReadable ·) = true := by kernel_rfl
theorem k_rr : Try.f17.resultTypes.all (fun t => Try.prog.readableRec t && decide (t < Try.prog.types.size)) = true := by kernel_rfl
theorem k_io : (Rows.zsetsOnceRow.ifacesOut == Try.f17.resultTypes.toList.any (Try.prog.ifacesRec ·)) = true := by kernel_rfl
theorem k_lo : (Rows.zsetsOnceRow.loopsOut == Try.f17.resultTypes.toList.any (Try.prog.loopsFrom ·)) = true := by kernel_rfl
theorem k_pk : (Rows.zsetsOnceRow.plainKeys == true) = true := by kernel_rfl
theorem k_sh : Rows.zsetsOnceRow.shortTexts.isNone = true := by kernel_rfl
theorem k_lf : (Rows.zsetsOnceRow.lifted == false) = true := by kernel_rfl
theorem k_mk : (some Make.cut == some Rows.zsetsOnceRow.make) = true := by kernel_rfl
theorem k_kd : (Rows.zsetsOnceRow.kinds == (if Rows.zsetsOnceRow.domain.isEmpty then [] else Try.f17.params.toList.map fun t => match Try.prog.underlying t with | some (.int k) => some k | _ => none)) = true := by kernel_rfl
theorem k_pi : (Rows.zsetsOnceRow.pinned == Rows.zsetsOnceRow.pinnedBy) = true := by kernel_rfl
theorem k_ve : (Rows.zsetsOnceRow.veiled == (Try.f17.params.toList ++ Rows.zsetsOnceSpec.plain.varTypes Try.prog ++ Try.f17.resultTypes.toList).any (Try.prog.veiledRec ·)) = true := by kernel_rfl
theorem k_vf : Rows.zsetsOnceRow.veiledFits Try.prog Try.f17.params.toList (Try.f17.params.toList ++ Rows.zsetsOnceSpec.plain.varTypes Try.prog ++ Try.f17.resultTypes.toList) = true := by kernel_rfl
set_option maxRecDepth 100000 in
theorem closed : joinedFacts Try.pinned.checked.prog 17 Try.f17 Rows.zsetsOnceSpec Rows.zsetsOnceRow = true := by
  show joinedFacts Try.prog 17 Try.f17 Rows.zsetsOnceSpec Rows.zsetsOnceRow = true
  unfold joinedFacts
  rw [Facts.laid, Facts.mapsR, Facts.heard, Facts.may, Facts.lifts, Facts.make_, Facts.plain, Facts.stops, Facts.knobs]
  simp only [Bool.and_eq_true]
  exact ⟨⟨⟨⟨⟨⟨⟨⟨⟨⟨⟨⟨⟨⟨⟨⟨⟨⟨⟨⟨⟨⟨⟨⟨⟨⟨⟨⟨⟨⟨⟨k_wf, trivial⟩, trivial⟩, k_pr⟩, k_nt⟩, k_st⟩, beq_self_eq_true _⟩, k_kn⟩, beq_self_eq_true _⟩, k_ip⟩, k_uf⟩, k_re⟩, k_nm⟩, k_mp⟩, k_fc⟩, k_mo⟩, k_lp⟩, k_wk⟩, k_vr⟩, k_rr⟩, k_io⟩, k_lo⟩, k_pk⟩, k_sh⟩, trivial⟩, trivial⟩, k_lf⟩, k_mk⟩, k_kd⟩, k_pi⟩, k_ve⟩, k_vf⟩
theorem named : Try.pinned.checked.prog.funcNamed Rows.zsetsOnceRow.func = some 17 := by kernel_rfl
theorem inst : Try.f17.isInstance Try.pinned.checked.prog Rows.zsetsOnceRow.origin Rows.zsetsOnceRow.targs := of_decide_eq_true (by kernel_rfl)
theorem over : Rows.zsetsOnceRow.holds Try.pinned (OpenSpec.ofChange Rows.zsetsOnceSpec) :=
  OpenClaim.holds_of_wide 17 Try.f17 rfl rfl rfl rfl rfl rfl rfl ⟨rfl, rfl, rfl, rfl, rfl⟩ rfl rfl rfl rfl rfl named Try.func17 closed
    inst (by unfold Func.isWrapper; first | (rw [if_pos (by decide +kernel)]; kernel_rfl) | (rw [if_neg (by decide +kernel)]; exact ⟨rfl, rfl⟩))
    (fun os started H enc _ => lifted os started H enc)

theorem zsetsOnce_holds : Rows.ZsetsOnceSaid :=
  over
end Go.Proofs.Ytjhcbehnopmnpaa.zsetsOnce
