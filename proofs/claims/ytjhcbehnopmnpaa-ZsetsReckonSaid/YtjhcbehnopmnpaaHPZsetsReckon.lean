/-
  A text of the proof of the law ZsetsReckon; no condition beside the row's own.
-/
import Derived.Test.YtjhcbehnopmnpaaFacts
import Derived.Test.YtjhcbehnopmnpaaGH
import Derived.Test.YtjhcbehnopmnpaaHLawZReckon
/-
  The law ZsetsReckon of chapter 2 holds: for every input of its row it returns true and leaves its arguments as they were. No condition beside the row's own.
-/
namespace Go.Proofs.Ytjhcbehnopmnpaa.zsetsReckon
open Go.ChangeShapes Go.WideShapes Go.ChangeAt Go.RowKit Go.Calm Go.Proofs.Ytjhcbehnopmnpaa
set_option linter.unusedVariables false

theorem own : ownKnob Try.prog.godebug = none := by kernel_rfl

set_option maxRecDepth 100000 in
theorem lifted (os : Os) (started : os.Started) (H : Type) (enc : TypeId × Value → H) :
    ReturnsInHanded {} Try.checked os 19 .any (Rows.zsetsReckonSpec.pre6 enc Try.prog Try.f19 Rows.zsetsReckonRow.domain false) (Rows.zsetsReckonSpec.post enc Try.prog Try.f19 false true false false) := by
  refine returnsInHanded_of_change (C := Try.checked) own started (by kernel_rfl) Try.func19
    (ChangeSpec.witness6 (enc := enc) (C := Try.checked) false ⟨#[], #[.slice none 0 0, .slice none 0 0], []⟩ 8 (by kernel_rfl) (by kernel_rfl) (by kernel_rfl) (by kernel_rfl)) ?_
  intro W base args ds gs before hval0 hW hcnd _
  have hval : ∀ (j : Nat) t v, Try.f19.params[j]? = some t → args[j]? = some v → Value.okWide Try.prog W .any base t v := hval0
  have hW' := hW
  obtain ⟨p, q, hA0, hV, hpq, hfz, hnd⟩ := hW
  have hA : DataW.TrodAll enc Try.prog W 0 (fun _ => true) true Try.f19.params.toList args.toList ds p := hA0
  rw [Try.params19] at hA hval
  obtain ⟨v0, vs0, d0, ds0, p0, q0, hargs, hds, hq0, h0, r0⟩ := trodAll_cons hA
  obtain ⟨v1, vs1, d1, ds1, p1, q1, rfl, rfl, hq1, h1, r1⟩ := trodAll_cons r0
  obtain ⟨rfl, rfl, _⟩ := trodAll_nil r1
  obtain rfl : args = #[v0, v1] := by cases args; simp_all
  subst hds
  obtain ⟨rfl, hqq⟩ := trodVars_none hV
  obtain ⟨A0, x0, c0, rfl, z0, l0, k0, b0⟩ := zrows_read (hval 0 62 v0 rfl rfl) h0
  obtain ⟨A1, x1, c1, rfl, z1, l1, k1, b1⟩ := zrows_read (hval 1 62 v1 rfl rfl) h1
  refine (law_zreckon ⟨A0, x0, c0⟩ ⟨A1, x1, c1⟩ W ⟨z0, k0, (by show x0.length ≤ _; have := l0; unfold maxLen at this; omega), fun x hx => (by have := (b0 x hx).len; unfold maxLen at this; omega)⟩ ⟨z1, k1, (by show x1.length ≤ _; have := l1; unfold maxLen at this; omega), fun x hx => (by have := (b1 x hx).len; unfold maxLen at this; omega)⟩).mono fun e W' ⟨he, hg⟩ => ?_
  subst he
  exact ⟨_, rfl, law_post rfl rfl 4 (by kernel_rfl) Try.underlying4 (by kernel_rfl) (of_decide_eq_true (by kernel_rfl)) hW' hg⟩

theorem k_wf : Rows.zsetsReckonRow.wf (OpenSpec.ofChange Rows.zsetsReckonSpec) = true := by kernel_rfl
theorem k_pr : Try.f19.params.all (Try.prog.readableRec ·) = true := by kernel_rfl
theorem k_nt : namedTie Try.prog Rows.zsetsReckonRow.named Rows.zsetsReckonSpec.vars = true := by kernel_rfl
theorem k_st : (Rows.zsetsReckonRow.stops == []) = true := by kernel_rfl
theorem k_kn : (Rows.zsetsReckonRow.knobs == []) = true := by kernel_rfl
theorem k_ip : (Rows.zsetsReckonRow.inPlace == Try.prog.inPlace 19) = true := by kernel_rfl
theorem k_uf : (Rows.zsetsReckonRow.unfollowed == Try.prog.unfollowed 19) = true := by kernel_rfl
theorem k_re : (Rows.zsetsReckonRow.recurses == Try.prog.recurses 19) = true := by kernel_rfl
theorem k_nm : (Rows.zsetsReckonRow.named == Try.prog.varsNamed 19) = true := by kernel_rfl
theorem k_mp : (Rows.zsetsReckonRow.maps == (Try.f19.params.toList ++ Rows.zsetsReckonSpec.plain.varTypes Try.prog).any (Try.prog.mapsRec ·)) = true := by kernel_rfl
theorem k_fc : (Rows.zsetsReckonRow.ifaces == (Try.f19.params.toList ++ Rows.zsetsReckonSpec.plain.varTypes Try.prog).any (Try.prog.ifacesRec ·)) = true := by kernel_rfl
theorem k_mo : (Rows.zsetsReckonRow.mapsOut == Try.prog.mapsAmong Try.f19.resultTypes.toList) = true := by kernel_rfl
theorem k_lp : (Rows.zsetsReckonRow.loops == (Try.f19.params.toList ++ Rows.zsetsReckonSpec.plain.varTypes Try.prog).any (Try.prog.loopsFrom ·)) = true := by kernel_rfl
theorem k_wk : (Rows.zsetsReckonRow.wideKeys == (Try.f19.params.toList ++ Rows.zsetsReckonSpec.plain.varTypes Try.prog ++ Try.f19.resultTypes.toList).any (Try.prog.wideKeysFrom ·)) = true := by kernel_rfl
theorem k_vr : Rows.zsetsReckonSpec.vars.all (Try.prog.varReadable ·) = true := by kernel_rfl
theorem k_rr : Try.f19.resultTypes.all (fun t => Try.prog.readableRec t && decide (t < Try.prog.types.size)) = true := by kernel_rfl
theorem k_io : (Rows.zsetsReckonRow.ifacesOut == Try.f19.resultTypes.toList.any (Try.prog.ifacesRec ·)) = true := by kernel_rfl
theorem k_lo : (Rows.zsetsReckonRow.loopsOut == Try.f19.resultTypes.toList.any (Try.prog.loopsFrom ·)) = true := by kernel_rfl
theorem k_pk : (Rows.zsetsReckonRow.plainKeys == true) = true := by kernel_rfl
theorem k_sh : Rows.zsetsReckonRow.shortTexts.isNone = true := by kernel_rfl
theorem k_lf : (Rows.zsetsReckonRow.lifted == false) = true := by kernel_rfl
theorem k_mk : (some Make.cut == some Rows.zsetsReckonRow.make) = true := by kernel_rfl
theorem k_kd : (Rows.zsetsReckonRow.kinds == (if Rows.zsetsReckonRow.domain.isEmpty then [] else Try.f19.params.toList.map fun t => match Try.prog.underlying t with | some (.int k) => some k | _ => none)) = true := by kernel_rfl
theorem k_pi : (Rows.zsetsReckonRow.pinned == Rows.zsetsReckonRow.pinnedBy) = true := by kernel_rfl
theorem k_ve : (Rows.zsetsReckonRow.veiled == (Try.f19.params.toList ++ Rows.zsetsReckonSpec.plain.varTypes Try.prog ++ Try.f19.resultTypes.toList).any (Try.prog.veiledRec ·)) = true := by kernel_rfl
theorem k_vf : Rows.zsetsReckonRow.veiledFits Try.prog Try.f19.params.toList (Try.f19.params.toList ++ Rows.zsetsReckonSpec.plain.varTypes Try.prog ++ Try.f19.resultTypes.toList) = true := by kernel_rfl
set_option maxRecDepth 100000 in
theorem closed : joinedFacts Try.pinned.checked.prog 19 Try.f19 Rows.zsetsReckonSpec Rows.zsetsReckonRow = true := by
  show joinedFacts Try.prog 19 Try.f19 Rows.zsetsReckonSpec Rows.zsetsReckonRow = true
  unfold joinedFacts
  rw [Facts.laid, Facts.mapsR, Facts.heard, Facts.may, Facts.lifts, Facts.make_, Facts.plain, Facts.stops, Facts.knobs]
  simp only [Bool.and_eq_true]
  exact ⟨⟨⟨⟨⟨⟨⟨⟨⟨⟨⟨⟨⟨⟨⟨⟨⟨⟨⟨⟨⟨⟨⟨⟨⟨⟨⟨⟨⟨⟨⟨k_wf, trivial⟩, trivial⟩, k_pr⟩, k_nt⟩, k_st⟩, beq_self_eq_true _⟩, k_kn⟩, beq_self_eq_true _⟩, k_ip⟩, k_uf⟩, k_re⟩, k_nm⟩, k_mp⟩, k_fc⟩, k_mo⟩, k_lp⟩, k_wk⟩, k_vr⟩, k_rr⟩, k_io⟩, k_lo⟩, k_pk⟩, k_sh⟩, trivial⟩, trivial⟩, k_lf⟩, k_mk⟩, k_kd⟩, k_pi⟩, k_ve⟩, k_vf⟩
theorem named : Try.pinned.checked.prog.funcNamed Rows.zsetsReckonRow.func = some 19 := by kernel_rfl
theorem inst : Try.f19.isInstance Try.pinned.checked.prog Rows.zsetsReckonRow.origin Rows.zsetsReckonRow.targs := of_decide_eq_true (by kernel_rfl)
theorem over : Rows.zsetsReckonRow.holds Try.pinned (OpenSpec.ofChange Rows.zsetsReckonSpec) :=
  OpenClaim.holds_of_wide 19 Try.f19 rfl rfl rfl rfl rfl rfl rfl ⟨rfl, rfl, rfl, rfl, rfl⟩ rfl rfl rfl rfl rfl named Try.func19 closed
    inst (by unfold Func.isWrapper; first | (rw [if_pos (by decide +kernel)]; kernel_rfl) | (rw [if_neg (by decide +kernel)]; exact ⟨rfl, rfl⟩))
    (fun os started H enc _ => lifted os started H enc)

theorem zsetsReckon_holds : Rows.ZsetsReckonSaid :=
  over
end Go.Proofs.Ytjhcbehnopmnpaa.zsetsReckon
