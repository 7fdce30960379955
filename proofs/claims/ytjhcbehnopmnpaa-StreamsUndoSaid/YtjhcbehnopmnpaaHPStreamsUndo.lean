/-
  A text of the proof of the law StreamsUndo; no condition beside the row's own.
-/
import Derived.Test.YtjhcbehnopmnpaaFacts
import Derived.Test.YtjhcbehnopmnpaaGN
import Derived.Test.YtjhcbehnopmnpaaHLawSUndo
/-
  The law StreamsUndo of chapter 8 holds: for every input of its row it returns true and leaves its arguments as they were. No condition beside the row's own.
-/
namespace Go.Proofs.Ytjhcbehnopmnpaa.streamsUndo
open Go.ChangeShapes Go.WideShapes Go.ChangeAt Go.RowKit Go.Calm Go.Proofs.Ytjhcbehnopmnpaa
set_option linter.unusedVariables false

theorem own : ownKnob Try.prog.godebug = none := by kernel_rfl

set_option maxRecDepth 100000 in
theorem lifted (os : Os) (started : os.Started) (H : Type) (enc : TypeId × Value → H) :
    ReturnsInHanded {} Try.checked os 20 .any (Rows.streamsUndoSpec.pre6 enc Try.prog Try.f20 Rows.streamsUndoRow.domain false) (Rows.streamsUndoSpec.post enc Try.prog Try.f20 false true false false) := by
  refine returnsInHanded_of_change (C := Try.checked) own started (by kernel_rfl) Try.func20
    (ChangeSpec.witness6 (enc := enc) (C := Try.checked) false ⟨#[], #[.slice none 0 0], []⟩ 8 (by kernel_rfl) (by kernel_rfl) (by kernel_rfl) (by kernel_rfl)) ?_
  intro W base args ds gs before hval0 hW hcnd _
  have hval : ∀ (j : Nat) t v, Try.f20.params[j]? = some t → args[j]? = some v → Value.okWide Try.prog W .any base t v := hval0
  have hW' := hW
  obtain ⟨p, q, hA0, hV, hpq, hfz, hnd⟩ := hW
  have hA : DataW.TrodAll enc Try.prog W 0 (fun _ => true) true Try.f20.params.toList args.toList ds p := hA0
  rw [Try.params20] at hA hval
  obtain ⟨v0, vs0, d0, ds0, p0, q0, hargs, hds, hq0, h0, r0⟩ := trodAll_cons hA
  obtain ⟨rfl, rfl, _⟩ := trodAll_nil r0
  obtain rfl : args = #[v0] := by cases args; simp_all
  subst hds
  obtain ⟨rfl, hqq⟩ := trodVars_none hV
  obtain ⟨A0, x0, c0, rfl, s0⟩ := zsets_read (hval 0 79 v0 rfl rfl) h0
  refine (law_sundo x0 A0 c0 W s0).mono fun e W' ⟨he, hg⟩ => ?_
  subst he
  exact ⟨_, rfl, law_post rfl rfl 4 (by kernel_rfl) Try.underlying4 (by kernel_rfl) (of_decide_eq_true (by kernel_rfl)) hW' hg⟩

theorem k_wf : Rows.streamsUndoRow.wf (OpenSpec.ofChange Rows.streamsUndoSpec) = true := by kernel_rfl
theorem k_pr : Try.f20.params.all (Try.prog.readableRec ·) = true := by kernel_rfl
theorem k_nt : namedTie Try.prog Rows.streamsUndoRow.named Rows.streamsUndoSpec.vars = true := by kernel_rfl
theorem k_st : (Rows.streamsUndoRow.stops == []) = true := by kernel_rfl
theorem k_kn : (Rows.streamsUndoRow.knobs == []) = true := by kernel_rfl
theorem k_ip : (Rows.streamsUndoRow.inPlace == Try.prog.inPlace 20) = true := by kernel_rfl
theorem k_uf : (Rows.streamsUndoRow.unfollowed == Try.prog.unfollowed 20) = true := by kernel_rfl
theorem k_re : (Rows.streamsUndoRow.recurses == Try.prog.recurses 20) = true := by kernel_rfl
theorem k_nm : (Rows.streamsUndoRow.named == Try.prog.varsNamed 20) = true := by kernel_rfl
theorem k_mp : (Rows.streamsUndoRow.maps == (Try.f20.params.toList ++ Rows.streamsUndoSpec.plain.varTypes Try.prog).any (Try.prog.mapsRec ·)) = true := by kernel_rfl
theorem k_fc : (Rows.streamsUndoRow.ifaces == (Try.f20.params.toList ++ Rows.streamsUndoSpec.plain.varTypes Try.prog).any (Try.prog.ifacesRec ·)) = true := by kernel_rfl
theorem k_mo : (Rows.streamsUndoRow.mapsOut == Try.prog.mapsAmong Try.f20.resultTypes.toList) = true := by kernel_rfl
theorem k_lp : (Rows.streamsUndoRow.loops == (Try.f20.params.toList ++ Rows.streamsUndoSpec.plain.varTypes Try.prog).any (Try.prog.loopsFrom ·)) = true := by kernel_rfl
theorem k_wk : (Rows.streamsUndoRow.wideKeys == (Try.f20.params.toList ++ Rows.streamsUndoSpec.plain.varTypes Try.prog ++ Try.f20.resultTypes.toList).any (Try.prog.wideKeysFrom ·)) = true := by kernel_rfl
theorem k_vr : Rows.streamsUndoSpec.vars.all (Try.prog.varReadable ·) = true := by kernel_rfl
theorem k_rr : Try.f20.resultTypes.all (fun t => Try.prog.readableRec t && decide (t < Try.prog.types.size)) = true := by kernel_rfl
theorem k_io : (Rows.streamsUndoRow.ifacesOut == Try.f20.resultTypes.toList.any (Try.prog.ifacesRec ·)) = true := by kernel_rfl
theorem k_lo : (Rows.streamsUndoRow.loopsOut == Try.f20.resultTypes.toList.any (Try.prog.loopsFrom ·)) = true := by kernel_rfl
theorem k_pk : (Rows.streamsUndoRow.plainKeys == true) = true := by kernel_rfl
theorem k_sh : Rows.streamsUndoRow.shortTexts.isNone = true := by kernel_rfl
theorem k_lf : (Rows.streamsUndoRow.lifted == false) = true := by kernel_rfl
theorem k_mk : (some Make.cut == some Rows.streamsUndoRow.make) = true := by kernel_rfl
theorem k_kd : (Rows.streamsUndoRow.kinds == (if Rows.streamsUndoRow.domain.isEmpty then [] else Try.f20.params.toList.map fun t => match Try.prog.underlying t with | some (.int k) => some k | _ => none)) = true := by kernel_rfl
theorem k_pi : (Rows.streamsUndoRow.pinned == Rows.streamsUndoRow.pinnedBy) = true := by kernel_rfl
theorem k_ve : (Rows.streamsUndoRow.veiled == (Try.f20.params.toList ++ Rows.streamsUndoSpec.plain.varTypes Try.prog ++ Try.f20.resultTypes.toList).any (Try.prog.veiledRec ·)) = true := by kernel_rfl
theorem k_vf : Rows.streamsUndoRow.veiledFits Try.prog Try.f20.params.toList (Try.f20.params.toList ++ Rows.streamsUndoSpec.plain.varTypes Try.prog ++ Try.f20.resultTypes.toList) = true := by kernel_rfl
set_option maxRecDepth 100000 in
theorem closed : joinedFacts Try.pinned.checked.prog 20 Try.f20 Rows.streamsUndoSpec Rows.streamsUndoRow = true := by
  show joinedFacts Try.prog 20 Try.f20 Rows.streamsUndoSpec Rows.streamsUndoRow = true
  unfold joinedFacts
  rw [Facts.laid, Facts.mapsR, Facts.heard, Facts.may, Facts.lifts, Facts.make_, Facts.plain, Facts.stops, Facts.knobs]
  simp only [Bool.and_eq_true]
  exact ⟨⟨⟨⟨⟨⟨⟨⟨⟨⟨⟨⟨⟨⟨⟨⟨⟨⟨⟨⟨⟨⟨⟨⟨⟨⟨⟨⟨⟨⟨⟨k_wf, trivial⟩, trivial⟩, k_pr⟩, k_nt⟩, k_st⟩, beq_self_eq_true _⟩, k_kn⟩, beq_self_eq_true _⟩, k_ip⟩, k_uf⟩, k_re⟩, k_nm⟩, k_mp⟩, k_fc⟩, k_mo⟩, k_lp⟩, k_wk⟩, k_vr⟩, k_rr⟩, k_io⟩, k_lo⟩, k_pk⟩, k_sh⟩, trivial⟩, trivial⟩, k_lf⟩, k_mk⟩, k_kd⟩, k_pi⟩, k_ve⟩, k_vf⟩
theorem named : Try.pinned.checked.prog.funcNamed Rows.streamsUndoRow.func = some 20 := by kernel_rfl
theorem inst : Try.f20.isInstance Try.pinned.checked.prog Rows.streamsUndoRow.origin Rows.streamsUndoRow.targs := of_decide_eq_true (by kernel_rfl)
theorem over : Rows.streamsUndoRow.holds Try.pinned (OpenSpec.ofChange Rows.streamsUndoSpec) :=
  OpenClaim.holds_of_wide 20 Try.f20 rfl rfl rfl rfl rfl rfl rfl ⟨rfl, rfl, rfl, rfl, rfl⟩ rfl rfl rfl rfl rfl named Try.func20 closed
    inst (by unfold Func.isWrapper; first | (rw [if_pos (by decide +kernel)]; kernel_rfl) | (rw [if_neg (by decide +kernel)]; exact ⟨rfl, rfl⟩))
    (fun os started H enc _ => lifted os started H enc)

theorem streamsUndo_holds : Rows.StreamsUndoSaid :=
  over
end Go.Proofs.Ytjhcbehnopmnpaa.streamsUndo
