/-
  The law ExprsKnow of chapter 3 holds: for every input of its row it returns true and leaves its arguments as they were. No condition beside the row's own.
-/
import Derived.Test.YtjhcbehnopmnpaaFacts
import Derived.Test.YtjhcbehnopmnpaaReadI
import Derived.Test.YtjhcbehnopmnpaaEx
import Derived.Test.YtjhcbehnopmnpaaLawEKnow
namespace Go.Proofs.Ytjhcbehnopmnpaa.exprsKnow
open Go.ChangeShapes Go.WideShapes Go.ChangeAt Go.RowKit Go.Calm Go.Proofs.Ytjhcbehnopmnpaa
set_option linter.unusedVariables false

theorem own : ownKnob Try.prog.godebug = none := by kernel_rfl

set_option maxRecDepth 100000 in
theorem lifted (os : Os) (started : os.Started) (H : Type) (enc : TypeId × Value → H) :
    ReturnsInHanded {} Try.checked os 13 .any (Rows.exprsKnowSpec.pre6 enc Try.prog Try.f13 Rows.exprsKnowRow.domain false) (Rows.exprsKnowSpec.post enc Try.prog Try.f13 false true false false) := by
  refine returnsInHanded_of_change (C := Try.checked) own started (by kernel_rfl) Try.func13
    (ChangeSpec.witness6 (enc := enc) (C := Try.checked) false ⟨#[], #[.slice none 0 0, .agg #[.int .i64 1, .int .i64 1, .int .i64 0, .string ⟨#[]⟩, .int .i64 0, .slice none 0 0], .slice none 0 0, .int .i64 0, .agg #[.int .i64 1, .int .i64 0, .string ⟨#[]⟩]], []⟩ 8 (by kernel_rfl) (by kernel_rfl) (by kernel_rfl) (by kernel_rfl)) ?_
  intro W base args ds gs before hval0 hW hcnd _
  have hval : ∀ (j : Nat) t v, Try.f13.params[j]? = some t → args[j]? = some v → Value.okWide Try.prog W .any base t v := hval0
  have hW' := hW
  obtain ⟨p, q, hA0, hV, hpq, hfz, hnd⟩ := hW
  have hA : DataW.TrodAll enc Try.prog W 0 (fun _ => true) true Try.f13.params.toList args.toList ds p := hA0
  rw [Try.params13] at hA hval
  obtain ⟨v0, vs0, d0, ds0, p0, q0, hargs, hds, hq0, h0, r0⟩ := trodAll_cons hA
  obtain ⟨v1, vs1, d1, ds1, p1, q1, rfl, rfl, hq1, h1, r1⟩ := trodAll_cons r0
  obtain ⟨v2, vs2, d2, ds2, p2, q2, rfl, rfl, hq2, h2, r2⟩ := trodAll_cons r1
  obtain ⟨v3, vs3, d3, ds3, p3, q3, rfl, rfl, hq3, h3, r3⟩ := trodAll_cons r2
  obtain ⟨v4, vs4, d4, ds4, p4, q4, rfl, rfl, hq4, h4, r4⟩ := trodAll_cons r3
  obtain ⟨rfl, rfl, _⟩ := trodAll_nil r4
  obtain rfl : args = #[v0, v1, v2, v3, v4] := by cases args; simp_all
  subst hds
  obtain ⟨rfl, hqq⟩ := trodVars_none hV
  obtain ⟨A0, x0, c0, rfl, s0, l0, cl0, b0⟩ := ints_read (hval 0 44 v0 rfl rfl) h0
  obtain ⟨x1, rfl, b1⟩ := ex_read (hval 1 47 v1 rfl rfl) h1
  obtain ⟨A2, x2, c2, rfl, s2, l2, b2⟩ := vals_read (hval 2 22 v2 rfl rfl) h2
  obtain ⟨a3, rfl, rfl, rfl, w3⟩ := open_int Try.underlying3 (hval 3 3 v3 rfl rfl) h3
  obtain ⟨x4, rfl, b4⟩ := val_read (hval 4 29 v4 rfl rfl) h4
  refine (law_eknow x0 x2 A0 A2 c0 c2 x1 a3 x4 W (by have := l0; unfold maxLen at this; omega) (by have := l2; unfold maxLen at this; omega) s0 s2 b1).mono fun e W' ⟨he, hg⟩ => ?_
  subst he
  exact ⟨_, rfl, law_post rfl rfl 4 (by kernel_rfl) Try.underlying4 (by kernel_rfl) (of_decide_eq_true (by kernel_rfl)) hW' hg⟩

theorem k_wf : Rows.exprsKnowRow.wf (OpenSpec.ofChange Rows.exprsKnowSpec) = true := by kernel_rfl
theorem k_pr : Try.f13.params.all (Try.prog.readableRec ·) = true := by kernel_rfl
theorem k_nt : namedTie Try.prog Rows.exprsKnowRow.named Rows.exprsKnowSpec.vars = true := by kernel_rfl
theorem k_st : (Rows.exprsKnowRow.stops == []) = true := by kernel_rfl
theorem k_kn : (Rows.exprsKnowRow.knobs == []) = true := by kernel_rfl
theorem k_ip : (Rows.exprsKnowRow.inPlace == Try.prog.inPlace 13) = true := by kernel_rfl
theorem k_uf : (Rows.exprsKnowRow.unfollowed == Try.prog.unfollowed 13) = true := by kernel_rfl
theorem k_re : (Rows.exprsKnowRow.recurses == Try.prog.recurses 13) = true := by kernel_rfl
theorem k_nm : (Rows.exprsKnowRow.named == Try.prog.varsNamed 13) = true := by kernel_rfl
theorem k_mp : (Rows.exprsKnowRow.maps == (Try.f13.params.toList ++ Rows.exprsKnowSpec.plain.varTypes Try.prog).any (Try.prog.mapsRec ·)) = true := by kernel_rfl
theorem k_fc : (Rows.exprsKnowRow.ifaces == (Try.f13.params.toList ++ Rows.exprsKnowSpec.plain.varTypes Try.prog).any (Try.prog.ifacesRec ·)) = true := by kernel_rfl
theorem k_mo : (Rows.exprsKnowRow.mapsOut == Try.prog.mapsAmong Try.f13.resultTypes.toList) = true := by kernel_rfl
theorem k_lp : (Rows.exprsKnowRow.loops == (Try.f13.params.toList ++ Rows.exprsKnowSpec.plain.varTypes Try.prog).any (Try.prog.loopsFrom ·)) = true := by kernel_rfl
theorem k_wk : (Rows.exprsKnowRow.wideKeys == (Try.f13.params.toList ++ Rows.exprsKnowSpec.plain.varTypes Try.prog ++ Try.f13.resultTypes.toList).any (Try.prog.wideKeysFrom ·)) = true := by kernel_rfl
theorem k_vr : Rows.exprsKnowSpec.vars.all (Try.prog.varReadable ·) = true := by kernel_rfl
theorem k_rr : Try.f13.resultTypes.all (fun t => Try.prog.readableRec t && decide (t < Try.prog.types.size)) = true := by kernel_rfl
theorem k_io : (Rows.exprsKnowRow.ifacesOut == Try.f13.resultTypes.toList.any (Try.prog.ifacesRec ·)) = true := by kernel_rfl
theorem k_lo : (Rows.exprsKnowRow.loopsOut == Try.f13.resultTypes.toList.any (Try.prog.loopsFrom ·)) = true := by kernel_rfl
theorem k_pk : (Rows.exprsKnowRow.plainKeys == true) = true := by kernel_rfl
theorem k_sh : Rows.exprsKnowRow.shortTexts.isNone = true := by kernel_rfl
theorem k_lf : (Rows.exprsKnowRow.lifted == false) = true := by kernel_rfl
theorem k_mk : (some Make.cut == some Rows.exprsKnowRow.make) = true := by kernel_rfl
theorem k_kd : (Rows.exprsKnowRow.kinds == (if Rows.exprsKnowRow.domain.isEmpty then [] else Try.f13.params.toList.map fun t => match Try.prog.underlying t with | some (.int k) => some k | _ => none)) = true := by kernel_rfl
theorem k_pi : (Rows.exprsKnowRow.pinned == Rows.exprsKnowRow.pinnedBy) = true := by kernel_rfl
theorem k_ve : (Rows.exprsKnowRow.veiled == (Try.f13.params.toList ++ Rows.exprsKnowSpec.plain.varTypes Try.prog ++ Try.f13.resultTypes.toList).any (Try.prog.veiledRec ·)) = true := by kernel_rfl
theorem k_vf : Rows.exprsKnowRow.veiledFits Try.prog Try.f13.params.toList (Try.f13.params.toList ++ Rows.exprsKnowSpec.plain.varTypes Try.prog ++ Try.f13.resultTypes.toList) = true := by kernel_rfl
set_option maxRecDepth 100000 in
theorem closed : joinedFacts Try.pinned.checked.prog 13 Try.f13 Rows.exprsKnowSpec Rows.exprsKnowRow = true := by
  show joinedFacts Try.prog 13 Try.f13 Rows.exprsKnowSpec Rows.exprsKnowRow = true
  unfold joinedFacts
  rw [Facts.laid, Facts.mapsR, Facts.heard, Facts.may, Facts.lifts, Facts.make_, Facts.plain, Facts.stops, Facts.knobs]
  simp only [Bool.and_eq_true]
  exact ⟨⟨⟨⟨⟨⟨⟨⟨⟨⟨⟨⟨⟨⟨⟨⟨⟨⟨⟨⟨⟨⟨⟨⟨⟨⟨⟨⟨⟨⟨⟨k_wf, trivial⟩, trivial⟩, k_pr⟩, k_nt⟩, k_st⟩, beq_self_eq_true _⟩, k_kn⟩, beq_self_eq_true _⟩, k_ip⟩, k_uf⟩, k_re⟩, k_nm⟩, k_mp⟩, k_fc⟩, k_mo⟩, k_lp⟩, k_wk⟩, k_vr⟩, k_rr⟩, k_io⟩, k_lo⟩, k_pk⟩, k_sh⟩, trivial⟩, trivial⟩, k_lf⟩, k_mk⟩, k_kd⟩, k_pi⟩, k_ve⟩, k_vf⟩
theorem named : Try.pinned.checked.prog.funcNamed Rows.exprsKnowRow.func = some 13 := by kernel_rfl
theorem inst : Try.f13.isInstance Try.pinned.checked.prog Rows.exprsKnowRow.origin Rows.exprsKnowRow.targs := of_decide_eq_true (by kernel_rfl)
theorem over : Rows.exprsKnowRow.holds Try.pinned (OpenSpec.ofChange Rows.exprsKnowSpec) :=
  OpenClaim.holds_of_wide 13 Try.f13 rfl rfl rfl rfl rfl rfl rfl ⟨rfl, rfl, rfl, rfl, rfl⟩ rfl rfl rfl rfl rfl named Try.func13 closed
    inst (by unfold Func.isWrapper; first | (rw [if_pos (by decide +kernel)]; kernel_rfl) | (rw [if_neg (by decide +kernel)]; exact ⟨rfl, rfl⟩))
    (fun os started H enc _ => lifted os started H enc)

theorem exprsKnow_holds : Rows.ExprsKnowSaid :=
  over
end Go.Proofs.Ytjhcbehnopmnpaa.exprsKnow
