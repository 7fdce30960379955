/-
  The law ValsRing of chapter 1 holds: for every input of its row it returns true and leaves its arguments as they were. No condition beside the row's own.
-/
import Derived.Test.YtjhcbehnopmnpaaFacts
import Derived.Test.YtjhcbehnopmnpaaRead
import Derived.Test.YtjhcbehnopmnpaaLawRing
namespace Go.Proofs.Ytjhcbehnopmnpaa.valsRing
open Go.ChangeShapes Go.WideShapes Go.ChangeAt Go.RowKit Go.Calm Go.Proofs.Ytjhcbehnopmnpaa
set_option linter.unusedVariables false

theorem own : ownKnob Try.prog.godebug = none := by kernel_rfl

set_option maxRecDepth 100000 in
theorem lifted (os : Os) (started : os.Started) (H : Type) (enc : TypeId × Value → H) :
    ReturnsInHanded {} Try.checked os 4 .any (Rows.valsRingSpec.pre6 enc Try.prog Try.f4 Rows.valsRingRow.domain false) (Rows.valsRingSpec.post enc Try.prog Try.f4 false true false false) := by
  refine returnsInHanded_of_change (C := Try.checked) own started (by kernel_rfl) Try.func4
    (ChangeSpec.witness6 (enc := enc) (C := Try.checked) false ⟨#[], #[.int .i64 0, .int .i64 0, .int .i64 0], []⟩ 8 (by kernel_rfl) (by kernel_rfl) (by kernel_rfl) (by kernel_rfl)) ?_
  intro W base args ds gs before hval0 hW hcnd _
  have hval : ∀ (j : Nat) t v, Try.f4.params[j]? = some t → args[j]? = some v → Value.okWide Try.prog W .any base t v := hval0
  have hW' := hW
  obtain ⟨p, q, hA0, hV, hpq, hfz, hnd⟩ := hW
  have hA : DataW.TrodAll enc Try.prog W 0 (fun _ => true) true Try.f4.params.toList args.toList ds p := hA0
  rw [Try.params4] at hA hval
  obtain ⟨v0, vs0, d0, ds0, p0, q0, hargs, hds, hq0, h0, r0⟩ := trodAll_cons hA
  obtain ⟨v1, vs1, d1, ds1, p1, q1, rfl, rfl, hq1, h1, r1⟩ := trodAll_cons r0
  obtain ⟨v2, vs2, d2, ds2, p2, q2, rfl, rfl, hq2, h2, r2⟩ := trodAll_cons r1
  obtain ⟨rfl, rfl, _⟩ := trodAll_nil r2
  obtain rfl : args = #[v0, v1, v2] := by cases args; simp_all
  subst hds
  obtain ⟨rfl, hqq⟩ := trodVars_none hV
  obtain ⟨a0, rfl, rfl, rfl, w0⟩ := open_int Try.underlying2 (hval 0 2 v0 rfl rfl) h0
  obtain ⟨a1, rfl, rfl, rfl, w1⟩ := open_int Try.underlying2 (hval 1 2 v1 rfl rfl) h1
  obtain ⟨a2, rfl, rfl, rfl, w2⟩ := open_int Try.underlying2 (hval 2 2 v2 rfl rfl) h2
  refine (law_ring a0 a1 a2 W).mono fun e W' ⟨he, hg⟩ => ?_
  subst he
  exact ⟨_, rfl, law_post rfl rfl 4 (by kernel_rfl) Try.underlying4 (by kernel_rfl) (of_decide_eq_true (by kernel_rfl)) hW' hg⟩

theorem k_wf : Rows.valsRingRow.wf (OpenSpec.ofChange Rows.valsRingSpec) = true := by kernel_rfl
theorem k_pr : Try.f4.params.all (Try.prog.readableRec ·) = true := by kernel_rfl
theorem k_nt : namedTie Try.prog Rows.valsRingRow.named Rows.valsRingSpec.vars = true := by kernel_rfl
theorem k_st : (Rows.valsRingRow.stops == []) = true := by kernel_rfl
theorem k_kn : (Rows.valsRingRow.knobs == []) = true := by kernel_rfl
theorem k_ip : (Rows.valsRingRow.inPlace == Try.prog.inPlace 4) = true := by kernel_rfl
theorem k_uf : (Rows.valsRingRow.unfollowed == Try.prog.unfollowed 4) = true := by kernel_rfl
theorem k_re : (Rows.valsRingRow.recurses == Try.prog.recurses 4) = true := by kernel_rfl
theorem k_nm : (Rows.valsRingRow.named == Try.prog.varsNamed 4) = true := by kernel_rfl
theorem k_mp : (Rows.valsRingRow.maps == (Try.f4.params.toList ++ Rows.valsRingSpec.plain.varTypes Try.prog).any (Try.prog.mapsRec ·)) = true := by kernel_rfl
theorem k_fc : (Rows.valsRingRow.ifaces == (Try.f4.params.toList ++ Rows.valsRingSpec.plain.varTypes Try.prog).any (Try.prog.ifacesRec ·)) = true := by kernel_rfl
theorem k_mo : (Rows.valsRingRow.mapsOut == Try.prog.mapsAmong Try.f4.resultTypes.toList) = true := by kernel_rfl
theorem k_lp : (Rows.valsRingRow.loops == (Try.f4.params.toList ++ Rows.valsRingSpec.plain.varTypes Try.prog).any (Try.prog.loopsFrom ·)) = true := by kernel_rfl
theorem k_wk : (Rows.valsRingRow.wideKeys == (Try.f4.params.toList ++ Rows.valsRingSpec.plain.varTypes Try.prog ++ Try.f4.resultTypes.toList).any (Try.prog.wideKeysFrom ·)) = true := by kernel_rfl
theorem k_vr : Rows.valsRingSpec.vars.all (Try.prog.varReadable ·) = true := by kernel_rfl
theorem k_rr : Try.f4.resultTypes.all (fun t => Try.prog.readableRec t && decide (t < Try.prog.types.size)) = true := by kernel_rfl
theorem k_io : (Rows.valsRingRow.ifacesOut == Try.f4.resultTypes.toList.any (Try.prog.ifacesRec ·)) = true := by kernel_rfl
theorem k_lo : (Rows.valsRingRow.loopsOut == Try.f4.resultTypes.toList.any (Try.prog.loopsFrom ·)) = true := by kernel_rfl
theorem k_pk : (Rows.valsRingRow.plainKeys == true) = true := by kernel_rfl
theorem k_sh : Rows.valsRingRow.shortTexts.isNone = true := by kernel_rfl
theorem k_lf : (Rows.valsRingRow.lifted == false) = true := by kernel_rfl
theorem k_mk : (some Make.cut == some Rows.valsRingRow.make) = true := by kernel_rfl
theorem k_kd : (Rows.valsRingRow.kinds == (if Rows.valsRingRow.domain.isEmpty then [] else Try.f4.params.toList.map fun t => match Try.prog.underlying t with | some (.int k) => some k | _ => none)) = true := by kernel_rfl
theorem k_pi : (Rows.valsRingRow.pinned == Rows.valsRingRow.pinnedBy) = true := by kernel_rfl
theorem k_ve : (Rows.valsRingRow.veiled == (Try.f4.params.toList ++ Rows.valsRingSpec.plain.varTypes Try.prog ++ Try.f4.resultTypes.toList).any (Try.prog.veiledRec ·)) = true := by kernel_rfl
theorem k_vf : Rows.valsRingRow.veiledFits Try.prog Try.f4.params.toList (Try.f4.params.toList ++ Rows.valsRingSpec.plain.varTypes Try.prog ++ Try.f4.resultTypes.toList) = true := by kernel_rfl
set_option maxRecDepth 100000 in
theorem closed : joinedFacts Try.pinned.checked.prog 4 Try.f4 Rows.valsRingSpec Rows.valsRingRow = true := by
  show joinedFacts Try.prog 4 Try.f4 Rows.valsRingSpec Rows.valsRingRow = true
  unfold joinedFacts
  rw [Facts.laid, Facts.mapsR, Facts.heard, Facts.may, Facts.lifts, Facts.make_, Facts.plain, Facts.stops, Facts.knobs]
  simp only [Bool.and_eq_true]
  exact ⟨⟨⟨⟨⟨⟨⟨⟨⟨⟨⟨⟨⟨⟨⟨⟨⟨⟨⟨⟨⟨⟨⟨⟨⟨⟨⟨⟨⟨⟨⟨k_wf, trivial⟩, trivial⟩, k_pr⟩, k_nt⟩, k_st⟩, beq_self_eq_true _⟩, k_kn⟩, beq_self_eq_true _⟩, k_ip⟩, k_uf⟩, k_re⟩, k_nm⟩, k_mp⟩, k_fc⟩, k_mo⟩, k_lp⟩, k_wk⟩, k_vr⟩, k_rr⟩, k_io⟩, k_lo⟩, k_pk⟩, k_sh⟩, trivial⟩, trivial⟩, k_lf⟩, k_mk⟩, k_kd⟩, k_pi⟩, k_ve⟩, k_vf⟩
theorem named : Try.pinned.checked.prog.funcNamed Rows.valsRingRow.func = some 4 := by kernel_rfl
theorem inst : Try.f4.isInstance Try.pinned.checked.prog Rows.valsRingRow.origin Rows.valsRingRow.targs := of_decide_eq_true (by kernel_rfl)
theorem over : Rows.valsRingRow.holds Try.pinned (OpenSpec.ofChange Rows.valsRingSpec) :=
  OpenClaim.holds_of_wide 4 Try.f4 rfl rfl rfl rfl rfl rfl rfl ⟨rfl, rfl, rfl, rfl, rfl⟩ rfl rfl rfl rfl rfl named Try.func4 closed
    inst (by unfold Func.isWrapper; first | (rw [if_pos (by decide +kernel)]; kernel_rfl) | (rw [if_neg (by decide +kernel)]; exact ⟨rfl, rfl⟩))
    (fun os started H enc _ => lifted os started H enc)

theorem valsRing_holds : Rows.ValsRingSaid :=
  over
end Go.Proofs.Ytjhcbehnopmnpaa.valsRing
