/-
  A text of the proof of the law ZsetsPlaces; no condition beside the row's own.
-/
import Derived.Test.YtjhcbehnopmnpaaFacts
import Derived.Test.YtjhcbehnopmnpaaGH
import Derived.Test.YtjhcbehnopmnpaaHLawZPlaces
/-
  The law ZsetsPlaces of chapter 2 holds: for every input of its row it returns true and leaves its arguments as they were. No condition beside the row's own.
-/
namespace Go.Proofs.Ytjhcbehnopmnpaa.zsetsPlaces
open Go.ChangeShapes Go.WideShapes Go.ChangeAt Go.RowKit Go.Calm Go.Proofs.Ytjhcbehnopmnpaa
set_option linter.unusedVariables false

theorem own : ownKnob Try.prog.godebug = none := by kernel_rfl

set_option maxRecDepth 100000 in
theorem lifted (os : Os) (started : os.Started) (H : Type) (enc : TypeId × Value → H) :
    ReturnsInHanded {} Try.checked os 21 .any (Rows.zsetsPlacesSpec.pre6 enc Try.prog Try.f21 Rows.zsetsPlacesRow.domain false) (Rows.zsetsPlacesSpec.post enc Try.prog Try.f21 false true false false) := by
  refine returnsInHanded_of_change (C := Try.checked) own started (by kernel_rfl) Try.func21
    (ChangeSpec.witness6 (enc := enc) (C := Try.checked) false ⟨#[], #[.slice none 0 0, .slice none 0 0, .slice none 0 0], []⟩ 8 (by kernel_rfl) (by kernel_rfl) (by kernel_rfl) (by kernel_rfl)) ?_
  intro W base args ds gs before hval0 hW hcnd _
  have hval : ∀ (j : Nat) t v, Try.f21.params[j]? = some t → args[j]? = some v → Value.okWide Try.prog W .any base t v := hval0
  have hW' := hW
  obtain ⟨p, q, hA0, hV, hpq, hfz, hnd⟩ := hW
  have hA : DataW.TrodAll enc Try.prog W 0 (fun _ => true) true Try.f21.params.toList args.toList ds p := hA0
  rw [Try.params21] at hA hval
  obtain ⟨v0, vs0, d0, ds0, p0, q0, hargs, hds, hq0, h0, r0⟩ := trodAll_cons hA
  obtain ⟨v1, vs1, d1, ds1, p1, q1, rfl, rfl, hq1, h1, r1⟩ := trodAll_cons r0
  obtain ⟨v2, vs2, d2, ds2, p2, q2, rfl, rfl, hq2, h2, r2⟩ := trodAll_cons r1
  obtain ⟨rfl, rfl, _⟩ := trodAll_nil r2
  obtain rfl : args = #[v0, v1, v2] := by cases args; simp_all
  subst hds
  obtain ⟨rfl, hqq⟩ := trodVars_none hV
  obtain ⟨A0, x0, c0, rfl, z0, l0, k0, b0⟩ := zrows_read (hval 0 62 v0 rfl rfl) h0
  obtain ⟨A1, x1, c1, rfl, z1, l1, k1, b1⟩ := zrows_read (hval 1 62 v1 rfl rfl) h1
  obtain ⟨A2, x2, c2, rfl, s2, l2, b2⟩ := vals_read (hval 2 22 v2 rfl rfl) h2
  refine (law_zplaces ⟨A0, x0, c0⟩ ⟨A1, x1, c1⟩ x2 A2 c2 W ⟨z0, k0, (by show x0.length ≤ _; have := l0; unfold maxLen at this; omega), fun x hx => (by have := (b0 x hx).len; unfold maxLen at this; omega)⟩ ⟨z1, k1, (by show x1.length ≤ _; have := l1; unfold maxLen at this; omega), fun x hx => (by have := (b1 x hx).len; unfold maxLen at this; omega)⟩ s2 (by have := l2; unfold maxLen at this; omega)).mono fun e W' ⟨he, hg⟩ => ?_
  subst he
  exact ⟨_, rfl, law_post rfl rfl 4 (by kernel_rfl) Try.underlying4 (by kernel_rfl) (of_decide_eq_true (by kernel_rfl)) hW' hg⟩

theorem k_wf : Rows.zsetsPlacesRow.wf (OpenSpec.ofChange Rows.zsetsPlacesSpec) = true := by kernel_rfl
theorem k_pr : Try.f21.params.all (Try.prog.readableRec ·) = true := by kernel_rfl
theorem k_nt : namedTie Try.prog Rows.zsetsPlacesRow.named Rows.zsetsPlacesSpec.vars = true := by kernel_rfl
theorem k_st : (Rows.zsetsPlacesRow.stops == []) = true := by kernel_rfl
theorem k_kn : (Rows.zsetsPlacesRow.knobs == []) = true := by kernel_rfl
theorem k_ip : (Rows.zsetsPlacesRow.inPlace == Try.prog.inPlace 21) = true := by kernel_rfl
theorem k_uf : (Rows.zsetsPlacesRow.unfollowed == Try.prog.unfollowed 21) = true := by kernel_rfl
theorem k_re : (Rows.zsetsPlacesRow.recurses == Try.prog.recurses 21) = true := by kernel_rfl
theorem k_nm : (Rows.zsetsPlacesRow.named == Try.prog.varsNamed 21) = true := by kernel_rfl
theorem k_mp : (Rows.zsetsPlacesRow.maps == (Try.f21.params.toList ++ Rows.zsetsPlacesSpec.plain.varTypes Try.prog).any (Try.prog.mapsRec ·)) = true := by kernel_rfl
theorem k_fc : (Rows.zsetsPlacesRow.ifaces == (Try.f21.params.toList ++ Rows.zsetsPlacesSpec.plain.varTypes Try.prog).any (Try.prog.ifacesRec ·)) = true := by kernel_rfl
theorem k_mo : (Rows.zsetsPlacesRow.mapsOut == Try.prog.mapsAmong Try.f21.resultTypes.toList) = true := by kernel_rfl
theorem k_lp : (Rows.zsetsPlacesRow.loops == (Try.f21.params.toList ++ Rows.zsetsPlacesSpec.plain.varTypes Try.prog).any (Try.prog.loopsFrom ·)) = true := by kernel_rfl
theorem k_wk : (Rows.zsetsPlacesRow.wideKeys == (Try.f21.params.toList ++ Rows.zsetsPlacesSpec.plain.varTypes Try.prog ++ Try.f21.resultTypes.toList).any (Try.prog.wideKeysFrom ·)) = true := by kernel_rfl
theorem k_vr : Rows.zsetsPlacesSpec.vars.all (Try.prog.varReadable ·) = true := by kernel_rfl
theorem k_rr : Try.f21.resultTypes.all (fun t => Try.prog.readableRec t && decide (t < Try.prog.types.size)) = true := by kernel_rfl
theorem k_io : (Rows.zsetsPlacesRow.ifacesOut == Try.f21.resultTypes.toList.any (Try.prog.ifacesRec ·)) = true := by kernel_rfl
theorem k_lo : (Rows.zsetsPlacesRow.loopsOut == Try.f21.resultTypes.toList.any (Try.prog.loopsFrom ·)) = true := by kernel_rfl
theorem k_pk : (Rows.zsetsPlacesRow.plainKeys == true) = true := by kernel_rfl
theorem k_sh : Rows.zsetsPlacesRow.shortTexts.isNone = true := by kernel_rfl
theorem k_lf : (Rows.zsetsPlacesRow.lifted == false) = true := by kernel_rfl
theorem k_mk : (some Make.cut == some Rows.zsetsPlacesRow.make) = true := by kernel_rfl
theorem k_kd : (Rows.zsetsPlacesRow.kinds == (if Rows.zsetsPlacesRow.domain.isEmpty then [] else Try.f21.params.toList.map fun t => match Try.prog.underlying t with | some (.int k) => some k | _ => none)) = true := by kernel_rfl
theorem k_pi : (Rows.zsetsPlacesRow.pinned == Rows.zsetsPlacesRow.pinnedBy) = true := by kernel_rfl
theorem k_ve : (Rows.zsetsPlacesRow.veiled == (Try.f21.params.toList ++ Rows.zsetsPlacesSpec.plain.varTypes Try.prog ++ Try.f21.resultTypes.toList).any (Try.prog.veiledRec ·)) = true := by kernel_rfl
theorem k_vf : Rows.zsetsPlacesRow.veiledFits Try.prog Try.f21.params.toList (Try.f21.params.toList ++ Rows.zsetsPlacesSpec.plain.varTypes Try.prog ++ Try.f21.resultTypes.toList) = true := by kernel_rfl
set_option maxRecDepth 100000 in
theorem closed : joinedFacts Try.pinned.checked.prog 21 Try.f21 Rows.zsetsPlacesSpec Rows.zsetsPlacesRow = true := by
  show joinedFacts Try.prog 21 Try.f21 Rows.zsetsPlacesSpec Rows.zsetsPlacesRow = true
  unfold joinedFacts
  rw [Facts.laid, Facts.mapsR, Facts.heard, Facts.may, Facts.lifts, Facts.make_, Facts.plain, Facts.stops, Facts.knobs]
  simp only [Bool.and_eq_true]
  exact ⟨⟨⟨⟨⟨⟨⟨⟨⟨⟨⟨⟨⟨⟨⟨⟨⟨⟨⟨⟨⟨⟨⟨⟨⟨⟨⟨⟨⟨⟨⟨k_wf, trivial⟩, trivial⟩, k_pr⟩, k_nt⟩, k_st⟩, beq_self_eq_true _⟩, k_kn⟩, beq_self_eq_true _⟩, k_ip⟩, k_uf⟩, k_re⟩, k_nm⟩, k_mp⟩, k_fc⟩, k_mo⟩, k_lp⟩, k_wk⟩, k_vr⟩, k_rr⟩, k_io⟩, k_lo⟩, k_pk⟩, k_sh⟩, trivial⟩, trivial⟩, k_lf⟩, k_mk⟩, k_kd⟩, k_pi⟩, k_ve⟩, k_vf⟩
theorem named : Try.pinned.checked.prog.funcNamed Rows.zsetsPlacesRow.func = some 21 := by kernel_rfl
theorem inst : Try.f21.isInstance Try.pinned.checked.prog Rows.zsetsPlacesRow.origin Rows.zsetsPlacesRow.targs := of_decide_eq_true (by kernel_rfl)
theorem over : Rows.zsetsPlacesRow.holds Try.pinned (OpenSpec.ofChange Rows.zsetsPlacesSpec) :=
  OpenClaim.holds_of_wide 21 Try.f21 rfl rfl rfl rfl rfl rfl rfl ⟨rfl, rfl, rfl, rfl, rfl⟩ rfl rfl rfl rfl rfl named Try.func21 closed
    inst (by unfold Func.isWrapper; first | (rw [if_pos (by decide +kernel)]; kernel_rfl) | (rw [if_neg (by decide +kernel)]; exact ⟨rfl, rfl⟩))
    (fun os started H enc _ => lifted os started H enc)

theorem zsetsPlaces_holds : Rows.ZsetsPlacesSaid :=
  over
end Go.Proofs.Ytjhcbehnopmnpaa.zsetsPlaces
