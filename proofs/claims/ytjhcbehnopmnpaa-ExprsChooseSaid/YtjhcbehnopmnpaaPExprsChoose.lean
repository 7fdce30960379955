/-
  The law ExprsChoose of chapter 3 holds: for every input of its row it returns true and leaves its arguments as they were. No condition beside the row's own.
-/
import Derived.Test.YtjhcbehnopmnpaaFacts
import Derived.Test.YtjhcbehnopmnpaaReadI
import Derived.Test.YtjhcbehnopmnpaaEx
import Derived.Test.YtjhcbehnopmnpaaLawEChoose
namespace Go.Proofs.Ytjhcbehnopmnpaa.exprsChoose
open Go.ChangeShapes Go.WideShapes Go.ChangeAt Go.RowKit Go.Calm Go.Proofs.Ytjhcbehnopmnpaa
set_option linter.unusedVariables false

theorem own : ownKnob Try.prog.godebug = none := by kernel_rfl

set_option maxRecDepth 100000 in
theorem lifted (os : Os) (started : os.Started) (H : Type) (enc : TypeId × Value → H) :
    ReturnsInHanded {} Try.checked os 14 .any (Rows.exprsChooseSpec.pre6 enc Try.prog Try.f14 Rows.exprsChooseRow.domain false) (Rows.exprsChooseSpec.post enc Try.prog Try.f14 false true false false) := by
  refine returnsInHanded_of_change (C := Try.checked) own started (by kernel_rfl) Try.func14
    (ChangeSpec.witness6 (enc := enc) (C := Try.checked) false ⟨#[], #[.slice none 0 0, .agg #[.int .i64 1, .int .i64 1, .int .i64 0, .string ⟨#[]⟩, .int .i64 0, .slice none 0 0], .agg #[.int .i64 1, .int .i64 1, .int .i64 0, .string ⟨#[]⟩, .int .i64 0, .slice none 0 0], .agg #[.int .i64 1, .int .i64 1, .int .i64 0, .string ⟨#[]⟩, .int .i64 0, .slice none 0 0], .slice none 0 0], []⟩ 8 (by kernel_rfl) (by kernel_rfl) (by kernel_rfl) (by kernel_rfl)) ?_
  intro W base args ds gs before hval0 hW hcnd _
  have hval : ∀ (j : Nat) t v, Try.f14.params[j]? = some t → args[j]? = some v → Value.okWide Try.prog W .any base t v := hval0
  have hW' := hW
  obtain ⟨p, q, hA0, hV, hpq, hfz, hnd⟩ := hW
  have hA : DataW.TrodAll enc Try.prog W 0 (fun _ => true) true Try.f14.params.toList args.toList ds p := hA0
  rw [Try.params14] at hA hval
  obtain ⟨v0, vs0, d0, ds0, p0, q0, hargs, hds, hq0, h0, r0⟩ := trodAll_cons hA
  obtain ⟨v1, vs1, d1, ds1, p1, q1, rfl, rfl, hq1, h1, r1⟩ := trodAll_cons r0
  obtain ⟨v2, vs2, d2, ds2, p2, q2, rfl, rfl, hq2, h2, r2⟩ := trodAll_cons r1
  obtain ⟨v3, vs3, d3, ds3, p3, q3, rfl, rfl, hq3, h3, r3⟩ := trodAll_cons r2
  obtain ⟨v4, vs4, d4, ds4, p4, q4, rfl, rfl, hq4, h4, r4⟩ := trodAll_cons r3
  obtain ⟨rfl, rfl, _⟩ := trodAll_nil r4
  obtain rfl : args = #[v0, v1, v2, v3, v4] := by cases args; simp_all
  subst hds
  obtain ⟨rfl, hqq⟩ := trodVars_none hV
  obtain ⟨A0, x0, c0, rfl, s0, l0, cl0, b0⟩ := ints_read (hval 0 44 v0 rfl rfl) h0
  obtain ⟨x1, rfl, b1⟩ := ex_read (hval 1 47 v1 rfl rfl) h1
  obtain ⟨x2, rfl, b2⟩ := ex_read (hval 2 47 v2 rfl rfl) h2
  obtain ⟨x3, rfl, b3⟩ := ex_read (hval 3 47 v3 rfl rfl) h3
  obtain ⟨A4, x4, c4, rfl, s4, l4, b4⟩ := vals_read (hval 4 22 v4 rfl rfl) h4
  refine (law_echoose x0 x4 A0 A4 c0 c4 x1 x2 x3 W (by have := l0; unfold maxLen at this; omega) (by have := l4; unfold maxLen at this; omega) s0 s4 b1 b2 b3).mono fun e W' ⟨he, hg⟩ => ?_
  subst he
  exact ⟨_, rfl, law_post rfl rfl 4 (by kernel_rfl) Try.underlying4 (by kernel_rfl) (of_decide_eq_true (by kernel_rfl)) hW' hg⟩

theorem k_wf : Rows.exprsChooseRow.wf (OpenSpec.ofChange Rows.exprsChooseSpec) = true := by kernel_rfl
theorem k_pr : Try.f14.params.all (Try.prog.readableRec ·) = true := by kernel_rfl
theorem k_nt : namedTie Try.prog Rows.exprsChooseRow.named Rows.exprsChooseSpec.vars = true := by kernel_rfl
theorem k_st : (Rows.exprsChooseRow.stops == []) = true := by kernel_rfl
theorem k_kn : (Rows.exprsChooseRow.knobs == []) = true := by kernel_rfl
theorem k_ip : (Rows.exprsChooseRow.inPlace == Try.prog.inPlace 14) = true := by kernel_rfl
theorem k_uf : (Rows.exprsChooseRow.unfollowed == Try.prog.unfollowed 14) = true := by kernel_rfl
theorem k_re : (Rows.exprsChooseRow.recurses == Try.prog.recurses 14) = true := by kernel_rfl
theorem k_nm : (Rows.exprsChooseRow.named == Try.prog.varsNamed 14) = true := by kernel_rfl
theorem k_mp : (Rows.exprsChooseRow.maps == (Try.f14.params.toList ++ Rows.exprsChooseSpec.plain.varTypes Try.prog).any (Try.prog.mapsRec ·)) = true := by kernel_rfl
theorem k_fc : (Rows.exprsChooseRow.ifaces == (Try.f14.params.toList ++ Rows.exprsChooseSpec.plain.varTypes Try.prog).any (Try.prog.ifacesRec ·)) = true := by kernel_rfl
theorem k_mo : (Rows.exprsChooseRow.mapsOut == Try.prog.mapsAmong Try.f14.resultTypes.toList) = true := by kernel_rfl
theorem k_lp : (Rows.exprsChooseRow.loops == (Try.f14.params.toList ++ Rows.exprsChooseSpec.plain.varTypes Try.prog).any (Try.prog.loopsFrom ·)) = true := by kernel_rfl
theorem k_wk : (Rows.exprsChooseRow.wideKeys == (Try.f14.params.toList ++ Rows.exprsChooseSpec.plain.varTypes Try.prog ++ Try.f14.resultTypes.toList).any (Try.prog.wideKeysFrom ·)) = true := by kernel_rfl
theorem k_vr : Rows.exprsChooseSpec.vars.all (Try.prog.varReadable ·) = true := by kernel_rfl
theorem k_rr : Try.f14.resultTypes.all (fun t => Try.prog.readableRec t && decide (t < Try.prog.types.size)) = true := by kernel_rfl
theorem k_io : (Rows.exprsChooseRow.ifacesOut == Try.f14.resultTypes.toList.any (Try.prog.ifacesRec ·)) = true := by kernel_rfl
theorem k_lo : (Rows.exprsChooseRow.loopsOut == Try.f14.resultTypes.toList.any (Try.prog.loopsFrom ·)) = true := by kernel_rfl
theorem k_pk : (Rows.exprsChooseRow.plainKeys == true) = true := by kernel_rfl
theorem k_sh : Rows.exprsChooseRow.shortTexts.isNone = true := by kernel_rfl
theorem k_lf : (Rows.exprsChooseRow.lifted == false) = true := by kernel_rfl
theorem k_mk : (some Make.cut == some Rows.exprsChooseRow.make) = true := by kernel_rfl
theorem k_kd : (Rows.exprsChooseRow.kinds == (if Rows.exprsChooseRow.domain.isEmpty then [] else Try.f14.params.toList.map fun t => match Try.prog.underlying t with | some (.int k) => some k | _ => none)) = true := by kernel_rfl
theorem k_pi : (Rows.exprsChooseRow.pinned == Rows.exprsChooseRow.pinnedBy) = true := by kernel_rfl
theorem k_ve : (Rows.exprsChooseRow.veiled == (Try.f14.params.toList ++ Rows.exprsChooseSpec.plain.varTypes Try.prog ++ Try.f14.resultTypes.toList).any (Try.prog.veiledRec ·)) = true := by kernel_rfl
theorem k_vf : Rows.exprsChooseRow.veiledFits Try.prog Try.f14.params.toList (Try.f14.params.toList ++ Rows.exprsChooseSpec.plain.varTypes Try.prog ++ Try.f14.resultTypes.toList) = true := by kernel_rfl
set_option maxRecDepth 100000 in
theorem closed : joinedFacts Try.pinned.checked.prog 14 Try.f14 Rows.exprsChooseSpec Rows.exprsChooseRow = true := by
  show joinedFacts Try.prog 14 Try.f14 Rows.exprsChooseSpec Rows.exprsChooseRow = true
  unfold joinedFacts
  rw [Facts.laid, Facts.mapsR, Facts.heard, Facts.may, Facts.lifts, Facts.make_, Facts.plain, Facts.stops, Facts.knobs]
  simp only [Bool.and_eq_true]
  exact ⟨⟨⟨⟨⟨⟨⟨⟨⟨⟨⟨⟨⟨⟨⟨⟨⟨⟨⟨⟨⟨⟨⟨⟨⟨⟨⟨⟨⟨⟨⟨k_wf, trivial⟩, trivial⟩, k_pr⟩, k_nt⟩, k_st⟩, beq_self_eq_true _⟩, k_kn⟩, beq_self_eq_true _⟩, k_ip⟩, k_uf⟩, k_re⟩, k_nm⟩, k_mp⟩, k_fc⟩, k_mo⟩, k_lp⟩, k_wk⟩, k_vr⟩, k_rr⟩, k_io⟩, k_lo⟩, k_pk⟩, k_sh⟩, trivial⟩, trivial⟩, k_lf⟩, k_mk⟩, k_kd⟩, k_pi⟩, k_ve⟩, k_vf⟩
theorem named : Try.pinned.checked.prog.funcNamed Rows.exprsChooseRow.func = some 14 := by kernel_rfl
theorem inst : Try.f14.isInstance Try.pinned.checked.prog Rows.exprsChooseRow.origin Rows.exprsChooseRow.targs := of_decide_eq_true (by kernel_rfl)
theorem over : Rows.exprsChooseRow.holds Try.pinned (OpenSpec.ofChange Rows.exprsChooseSpec) :=
  OpenClaim.holds_of_wide 14 Try.f14 rfl rfl rfl rfl rfl rfl rfl ⟨rfl, rfl, rfl, rfl, rfl⟩ rfl rfl rfl rfl rfl named Try.func14 closed
    inst (by unfold Func.isWrapper; first | (rw [if_pos (by decide +kernel)]; kernel_rfl) | (rw [if_neg (by decide +kernel)]; exact ⟨rfl, rfl⟩))
    (fun os started H enc _ => lifted os started H enc)

theorem exprsChoose_holds : Rows.ExprsChooseSaid :=
  over
end Go.Proofs.Ytjhcbehnopmnpaa.exprsChoose
