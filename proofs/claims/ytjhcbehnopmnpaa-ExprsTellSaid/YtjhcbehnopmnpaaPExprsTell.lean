/-
  The law ExprsTell of chapter 3 holds: for every input of its row it returns true and leaves its arguments as they were. No condition beside the row's own.
-/
import Derived.Test.YtjhcbehnopmnpaaFacts
import Derived.Test.YtjhcbehnopmnpaaReadI
import Derived.Test.YtjhcbehnopmnpaaEx
import Derived.Test.YtjhcbehnopmnpaaLawETell
namespace Go.Proofs.Ytjhcbehnopmnpaa.exprsTell
open Go.ChangeShapes Go.WideShapes Go.ChangeAt Go.RowKit Go.Calm Go.Proofs.Ytjhcbehnopmnpaa
set_option linter.unusedVariables false

theorem own : ownKnob Try.prog.godebug = none := by kernel_rfl

set_option maxRecDepth 100000 in
theorem lifted (os : Os) (started : os.Started) (H : Type) (enc : TypeId × Value → H) :
    ReturnsInHanded {} Try.checked os 9 .any (Rows.exprsTellSpec.pre6 enc Try.prog Try.f9 Rows.exprsTellRow.domain false) (Rows.exprsTellSpec.post enc Try.prog Try.f9 false true false false) := by
  refine returnsInHanded_of_change (C := Try.checked) own started (by kernel_rfl) Try.func9
    (ChangeSpec.witness6 (enc := enc) (C := Try.checked) false ⟨#[], #[.slice none 0 0, .agg #[.int .i64 1, .int .i64 1, .int .i64 0, .string ⟨#[]⟩, .int .i64 0, .slice none 0 0], .slice none 0 0], []⟩ 8 (by kernel_rfl) (by kernel_rfl) (by kernel_rfl) (by kernel_rfl)) ?_
  intro W base args ds gs before hval0 hW hcnd _
  have hval : ∀ (j : Nat) t v, Try.f9.params[j]? = some t → args[j]? = some v → Value.okWide Try.prog W .any base t v := hval0
  have hW' := hW
  obtain ⟨p, q, hA0, hV, hpq, hfz, hnd⟩ := hW
  have hA : DataW.TrodAll enc Try.prog W 0 (fun _ => true) true Try.f9.params.toList args.toList ds p := hA0
  rw [Try.params9] at hA hval
  obtain ⟨v0, vs0, d0, ds0, p0, q0, hargs, hds, hq0, h0, r0⟩ := trodAll_cons hA
  obtain ⟨v1, vs1, d1, ds1, p1, q1, rfl, rfl, hq1, h1, r1⟩ := trodAll_cons r0
  obtain ⟨v2, vs2, d2, ds2, p2, q2, rfl, rfl, hq2, h2, r2⟩ := trodAll_cons r1
  obtain ⟨rfl, rfl, _⟩ := trodAll_nil r2
  obtain rfl : args = #[v0, v1, v2] := by cases args; simp_all
  subst hds
  obtain ⟨rfl, hqq⟩ := trodVars_none hV
  obtain ⟨A0, x0, c0, rfl, s0, l0, cl0, b0⟩ := ints_read (hval 0 44 v0 rfl rfl) h0
  obtain ⟨x1, rfl, b1⟩ := ex_read (hval 1 47 v1 rfl rfl) h1
  obtain ⟨A2, x2, c2, rfl, s2, l2, b2⟩ := vals_read (hval 2 22 v2 rfl rfl) h2
  refine (law_etell x0 x2 A0 A2 c0 c2 x1 W (by have := l0; unfold maxLen at this; omega) (by have := l2; unfold maxLen at this; omega) s0 s2 b1).mono fun e W' ⟨he, hg⟩ => ?_
  subst he
  exact ⟨_, rfl, law_post rfl rfl 4 (by kernel_rfl) Try.underlying4 (by kernel_rfl) (of_decide_eq_true (by kernel_rfl)) hW' hg⟩

theorem k_wf : Rows.exprsTellRow.wf (OpenSpec.ofChange Rows.exprsTellSpec) = true := by kernel_rfl
theorem k_pr : Try.f9.params.all (Try.prog.readableRec ·) = true := by kernel_rfl
theorem k_nt : namedTie Try.prog Rows.exprsTellRow.named Rows.exprsTellSpec.vars = true := by kernel_rfl
theorem k_st : (Rows.exprsTellRow.stops == []) = true := by kernel_rfl
theorem k_kn : (Rows.exprsTellRow.knobs == []) = true := by kernel_rfl
theorem k_ip : (Rows.exprsTellRow.inPlace == Try.prog.inPlace 9) = true := by kernel_rfl
theorem k_uf : (Rows.exprsTellRow.unfollowed == Try.prog.unfollowed 9) = true := by kernel_rfl
theorem k_re : (Rows.exprsTellRow.recurses == Try.prog.recurses 9) = true := by kernel_rfl
theorem k_nm : (Rows.exprsTellRow.named == Try.prog.varsNamed 9) = true := by kernel_rfl
theorem k_mp : (Rows.exprsTellRow.maps == (Try.f9.params.toList ++ Rows.exprsTellSpec.plain.varTypes Try.prog).any (Try.prog.mapsRec ·)) = true := by kernel_rfl
theorem k_fc : (Rows.exprsTellRow.ifaces == (Try.f9.params.toList ++ Rows.exprsTellSpec.plain.varTypes Try.prog).any (Try.prog.ifacesRec ·)) = true := by kernel_rfl
theorem k_mo : (Rows.exprsTellRow.mapsOut == Try.prog.mapsAmong Try.f9.resultTypes.toList) = true := by kernel_rfl
theorem k_lp : (Rows.exprsTellRow.loops == (Try.f9.params.toList ++ Rows.exprsTellSpec.plain.varTypes Try.prog).any (Try.prog.loopsFrom ·)) = true := by kernel_rfl
theorem k_wk : (Rows.exprsTellRow.wideKeys == (Try.f9.params.toList ++ Rows.exprsTellSpec.plain.varTypes Try.prog ++ Try.f9.resultTypes.toList).any (Try.prog.wideKeysFrom ·)) = true := by kernel_rfl
theorem k_vr : Rows.exprsTellSpec.vars.all (Try.prog.varReadable ·) = true := by kernel_rfl
theorem k_rr : Try.f9.resultTypes.all (fun t => Try.prog.readableRec t && decide (t < Try.prog.types.size)) = true := by kernel_rfl
theorem k_io : (Rows.exprsTellRow.ifacesOut == Try.f9.resultTypes.toList.any (Try.prog.ifacesRec ·)) = true := by kernel_rfl
theorem k_lo : (Rows.exprsTellRow.loopsOut == Try.f9.resultTypes.toList.any (Try.prog.loopsFrom ·)) = true := by kernel_rfl
theorem k_pk : (Rows.exprsTellRow.plainKeys == true) = true := by kernel_rfl
theorem k_sh : Rows.exprsTellRow.shortTexts.isNone = true := by kernel_rfl
theorem k_lf : (Rows.exprsTellRow.lifted == false) = true := by kernel_rfl
theorem k_mk : (some Make.cut == some Rows.exprsTellRow.make) = true := by kernel_rfl
theorem k_kd : (Rows.exprsTellRow.kinds == (if Rows.exprsTellRow.domain.isEmpty then [] else Try.f9.params.toList.map fun t => match Try.prog.underlying t with | some (.int k) => some k | _ => none)) = true := by kernel_rfl
theorem k_pi : (Rows.exprsTellRow.pinned == Rows.exprsTellRow.pinnedBy) = true := by kernel_rfl
theorem k_ve : (Rows.exprsTellRow.veiled == (Try.f9.params.toList ++ Rows.exprsTellSpec.plain.varTypes Try.prog ++ Try.f9.resultTypes.toList).any (Try.prog.veiledRec ·)) = true := by kernel_rfl
theorem k_vf : Rows.exprsTellRow.veiledFits Try.prog Try.f9.params.toList (Try.f9.params.toList ++ Rows.exprsTellSpec.plain.varTypes Try.prog ++ Try.f9.resultTypes.toList) = true := by kernel_rfl
set_option maxRecDepth 100000 in
theorem closed : joinedFacts Try.pinned.checked.prog 9 Try.f9 Rows.exprsTellSpec Rows.exprsTellRow = true := by
  show joinedFacts Try.prog 9 Try.f9 Rows.exprsTellSpec Rows.exprsTellRow = true
  unfold joinedFacts
  rw [Facts.laid, Facts.mapsR, Facts.heard, Facts.may, Facts.lifts, Facts.make_, Facts.plain, Facts.stops, Facts.knobs]
  simp only [Bool.and_eq_true]
  exact ⟨⟨⟨⟨⟨⟨⟨⟨⟨⟨⟨⟨⟨⟨⟨⟨⟨⟨⟨⟨⟨⟨⟨⟨⟨⟨⟨⟨⟨⟨⟨k_wf, trivial⟩, trivial⟩, k_pr⟩, k_nt⟩, k_st⟩, beq_self_eq_true _⟩, k_kn⟩, beq_self_eq_true _⟩, k_ip⟩, k_uf⟩, k_re⟩, k_nm⟩, k_mp⟩, k_fc⟩, k_mo⟩, k_lp⟩, k_wk⟩, k_vr⟩, k_rr⟩, k_io⟩, k_lo⟩, k_pk⟩, k_sh⟩, trivial⟩, trivial⟩, k_lf⟩, k_mk⟩, k_kd⟩, k_pi⟩, k_ve⟩, k_vf⟩
theorem named : Try.pinned.checked.prog.funcNamed Rows.exprsTellRow.func = some 9 := by kernel_rfl
theorem inst : Try.f9.isInstance Try.pinned.checked.prog Rows.exprsTellRow.origin Rows.exprsTellRow.targs := of_decide_eq_true (by kernel_rfl)
theorem over : Rows.exprsTellRow.holds Try.pinned (OpenSpec.ofChange Rows.exprsTellSpec) :=
  OpenClaim.holds_of_wide 9 Try.f9 rfl rfl rfl rfl rfl rfl rfl ⟨rfl, rfl, rfl, rfl, rfl⟩ rfl rfl rfl rfl rfl named Try.func9 closed
    inst (by unfold Func.isWrapper; first | (rw [if_pos (by decide +kernel)]; kernel_rfl) | (rw [if_neg (by decide +kernel)]; exact ⟨rfl, rfl⟩))
    (fun os started H enc _ => lifted os started H enc)

theorem exprsTell_holds : Rows.ExprsTellSaid :=
  over
end Go.Proofs.Ytjhcbehnopmnpaa.exprsTell
