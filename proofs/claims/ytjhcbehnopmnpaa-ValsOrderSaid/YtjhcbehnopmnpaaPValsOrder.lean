/-
  The law ValsOrder of chapter 1 holds: for every input of its row it returns true and leaves its arguments as they were. No condition beside the row's own.
-/
import Derived.Test.YtjhcbehnopmnpaaFacts
import Derived.Test.YtjhcbehnopmnpaaRead
import Derived.Test.YtjhcbehnopmnpaaLawOrder
namespace Go.Proofs.Ytjhcbehnopmnpaa.valsOrder
open Go.ChangeShapes Go.WideShapes Go.ChangeAt Go.RowKit Go.Calm Go.Proofs.Ytjhcbehnopmnpaa
set_option linter.unusedVariables false

theorem own : ownKnob Try.prog.godebug = none := by kernel_rfl

set_option maxRecDepth 100000 in
theorem lifted (os : Os) (started : os.Started) (H : Type) (enc : TypeId × Value → H) :
    ReturnsInHanded {} Try.checked os 6 .any (Rows.valsOrderSpec.pre6 enc Try.prog Try.f6 Rows.valsOrderRow.domain false) (Rows.valsOrderSpec.post enc Try.prog Try.f6 false true false false) := by
  refine returnsInHanded_of_change (C := Try.checked) own started (by kernel_rfl) Try.func6
    (ChangeSpec.witness6 (enc := enc) (C := Try.checked) false ⟨#[], #[.agg #[.int .i64 1, .int .i64 0, .string ⟨#[]⟩], .agg #[.int .i64 1, .int .i64 0, .string ⟨#[]⟩], .agg #[.int .i64 1, .int .i64 0, .string ⟨#[]⟩]], []⟩ 8 (by kernel_rfl) (by kernel_rfl) (by kernel_rfl) (by kernel_rfl)) ?_
  intro W base args ds gs before hval0 hW hcnd _
  have hval : ∀ (j : Nat) t v, Try.f6.params[j]? = some t → args[j]? = some v → Value.okWide Try.prog W .any base t v := hval0
  have hW' := hW
  obtain ⟨p, q, hA0, hV, hpq, hfz, hnd⟩ := hW
  have hA : DataW.TrodAll enc Try.prog W 0 (fun _ => true) true Try.f6.params.toList args.toList ds p := hA0
  rw [Try.params6] at hA hval
  obtain ⟨v0, vs0, d0, ds0, p0, q0, hargs, hds, hq0, h0, r0⟩ := trodAll_cons hA
  obtain ⟨v1, vs1, d1, ds1, p1, q1, rfl, rfl, hq1, h1, r1⟩ := trodAll_cons r0
  obtain ⟨v2, vs2, d2, ds2, p2, q2, rfl, rfl, hq2, h2, r2⟩ := trodAll_cons r1
  obtain ⟨rfl, rfl, _⟩ := trodAll_nil r2
  obtain rfl : args = #[v0, v1, v2] := by cases args; simp_all
  subst hds
  obtain ⟨rfl, hqq⟩ := trodVars_none hV
  obtain ⟨x0, rfl, b0⟩ := val_read (hval 0 29 v0 rfl rfl) h0
  obtain ⟨x1, rfl, b1⟩ := val_read (hval 1 29 v1 rfl rfl) h1
  obtain ⟨x2, rfl, b2⟩ := val_read (hval 2 29 v2 rfl rfl) h2
  refine (law_order x0 x1 x2 W).mono fun e W' ⟨he, hg⟩ => ?_
  subst he
  exact ⟨_, rfl, law_post rfl rfl 4 (by kernel_rfl) Try.underlying4 (by kernel_rfl) (of_decide_eq_true (by kernel_rfl)) hW' hg⟩

theorem k_wf : Rows.valsOrderRow.wf (OpenSpec.ofChange Rows.valsOrderSpec) = true := by kernel_rfl
theorem k_pr : Try.f6.params.all (Try.prog.readableRec ·) = true := by kernel_rfl
theorem k_nt : namedTie Try.prog Rows.valsOrderRow.named Rows.valsOrderSpec.vars = true := by kernel_rfl
theorem k_st : (Rows.valsOrderRow.stops == []) = true := by kernel_rfl
theorem k_kn : (Rows.valsOrderRow.knobs == []) = true := by kernel_rfl
theorem k_ip : (Rows.valsOrderRow.inPlace == Try.prog.inPlace 6) = true := by kernel_rfl
theorem k_uf : (Rows.valsOrderRow.unfollowed == Try.prog.unfollowed 6) = true := by kernel_rfl
theorem k_re : (Rows.valsOrderRow.recurses == Try.prog.recurses 6) = true := by kernel_rfl
theorem k_nm : (Rows.valsOrderRow.named == Try.prog.varsNamed 6) = true := by kernel_rfl
theorem k_mp : (Rows.valsOrderRow.maps == (Try.f6.params.toList ++ Rows.valsOrderSpec.plain.varTypes Try.prog).any (Try.prog.mapsRec ·)) = true := by kernel_rfl
theorem k_fc : (Rows.valsOrderRow.ifaces == (Try.f6.params.toList ++ Rows.valsOrderSpec.plain.varTypes Try.prog).any (Try.prog.ifacesRec ·)) = true := by kernel_rfl
theorem k_mo : (Rows.valsOrderRow.mapsOut == Try.prog.mapsAmong Try.f6.resultTypes.toList) = true := by kernel_rfl
theorem k_lp : (Rows.valsOrderRow.loops == (Try.f6.params.toList ++ Rows.valsOrderSpec.plain.varTypes Try.prog).any (Try.prog.loopsFrom ·)) = true := by kernel_rfl
theorem k_wk : (Rows.valsOrderRow.wideKeys == (Try.f6.params.toList ++ Rows.valsOrderSpec.plain.varTypes Try.prog ++ Try.f6.resultTypes.toList).any (Try.prog.wideKeysFrom ·)) = true := by kernel_rfl
theorem k_vr : Rows.valsOrderSpec.vars.all (Try.prog.varReadable ·) = true := by kernel_rfl
theorem k_rr : Try.f6.resultTypes.all (fun t => Try.prog.readableRec t && decide (t < Try.prog.types.size)) = true := by kernel_rfl
theorem k_io : (Rows.valsOrderRow.ifacesOut == Try.f6.resultTypes.toList.any (Try.prog.ifacesRec ·)) = true := by kernel_rfl
theorem k_lo : (Rows.valsOrderRow.loopsOut == Try.f6.resultTypes.toList.any (Try.prog.loopsFrom ·)) = true := by kernel_rfl
theorem k_pk : (Rows.valsOrderRow.plainKeys == true) = true := by kernel_rfl
theorem k_sh : Rows.valsOrderRow.shortTexts.isNone = true := by kernel_rfl
theorem k_lf : (Rows.valsOrderRow.lifted == false) = true := by kernel_rfl
theorem k_mk : (some Make.cut == some Rows.valsOrderRow.make) = true := by kernel_rfl
theorem k_kd : (Rows.valsOrderRow.kinds == (if Rows.valsOrderRow.domain.isEmpty then [] else Try.f6.params.toList.map fun t => match Try.prog.underlying t with | some (.int k) => some k | _ => none)) = true := by kernel_rfl
theorem k_pi : (Rows.valsOrderRow.pinned == Rows.valsOrderRow.pinnedBy) = true := by kernel_rfl
theorem k_ve : (Rows.valsOrderRow.veiled == (Try.f6.params.toList ++ Rows.valsOrderSpec.plain.varTypes Try.prog ++ Try.f6.resultTypes.toList).any (Try.prog.veiledRec ·)) = true := by kernel_rfl
theorem k_vf : Rows.valsOrderRow.veiledFits Try.prog Try.f6.params.toList (Try.f6.params.toList ++ Rows.valsOrderSpec.plain.varTypes Try.prog ++ Try.f6.resultTypes.toList) = true := by kernel_rfl
set_option maxRecDepth 100000 in
theorem closed : joinedFacts Try.pinned.checked.prog 6 Try.f6 Rows.valsOrderSpec Rows.valsOrderRow = true := by
  show joinedFacts Try.prog 6 Try.f6 Rows.valsOrderSpec Rows.valsOrderRow = true
  unfold joinedFacts
  rw [Facts.laid, Facts.mapsR, Facts.heard, Facts.may, Facts.lifts, Facts.make_, Facts.plain, Facts.stops, Facts.knobs]
  simp only [Bool.and_eq_true]
  exact ⟨⟨⟨⟨⟨⟨⟨⟨⟨⟨⟨⟨⟨⟨⟨⟨⟨⟨⟨⟨⟨⟨⟨⟨⟨⟨⟨⟨⟨⟨⟨k_wf, trivial⟩, trivial⟩, k_pr⟩, k_nt⟩, k_st⟩, beq_self_eq_true _⟩, k_kn⟩, beq_self_eq_true _⟩, k_ip⟩, k_uf⟩, k_re⟩, k_nm⟩, k_mp⟩, k_fc⟩, k_mo⟩, k_lp⟩, k_wk⟩, k_vr⟩, k_rr⟩, k_io⟩, k_lo⟩, k_pk⟩, k_sh⟩, trivial⟩, trivial⟩, k_lf⟩, k_mk⟩, k_kd⟩, k_pi⟩, k_ve⟩, k_vf⟩
theorem named : Try.pinned.checked.prog.funcNamed Rows.valsOrderRow.func = some 6 := by kernel_rfl
theorem inst : Try.f6.isInstance Try.pinned.checked.prog Rows.valsOrderRow.origin Rows.valsOrderRow.targs := of_decide_eq_true (by kernel_rfl)
theorem over : Rows.valsOrderRow.holds Try.pinned (OpenSpec.ofChange Rows.valsOrderSpec) :=
  OpenClaim.holds_of_wide 6 Try.f6 rfl rfl rfl rfl rfl rfl rfl ⟨rfl, rfl, rfl, rfl, rfl⟩ rfl rfl rfl rfl rfl named Try.func6 closed
    inst (by unfold Func.isWrapper; first | (rw [if_pos (by decide +kernel)]; kernel_rfl) | (rw [if_neg (by decide +kernel)]; exact ⟨rfl, rfl⟩))
    (fun os started H enc _ => lifted os started H enc)

theorem valsOrder_holds : Rows.ValsOrderSaid :=
  over
end Go.Proofs.Ytjhcbehnopmnpaa.valsOrder
