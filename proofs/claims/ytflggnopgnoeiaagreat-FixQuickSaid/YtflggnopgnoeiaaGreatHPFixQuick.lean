/-
 The law FixQuick. No condition beside the row's own.
-/
import Derived.Test.YtflggnopgnoeiaaGreatFacts
import Derived.Test.YtflggnopgnoeiaaGreatHLawFQuick
set_option maxRecDepth 100000
namespace Go.Proofs.YtflggnopgnoeiaaGreat.fixQuick
open Go.ChangeShapes Go.WideShapes Go.ChangeAt Go.RowKit Go.Calm Go.Proofs.YtflggnopgnoeiaaGreat
set_option linter.unusedVariables false
theorem own : ownKnob Tryz.prog.godebug = none := by kernel_rfl
theorem lifted (os : Os) (started : os.Started) (H : Type) (enc : TypeId × Value → H) :
  ReturnsInHanded {} Tryz.checked os 5 .any (Rows.fixQuickSpec.pre6 enc Tryz.prog Tryz.f5 Rows.fixQuickRow.domain false) (Rows.fixQuickSpec.post enc Tryz.prog Tryz.f5 false true false false) := by
 refine returnsInHanded_of_change_sized (C := Tryz.checked) own started (by kernel_rfl) Tryz.func5
  (ChangeSpec.witness6 (enc := enc) (C := Tryz.checked) false ⟨#[], #[.slice none 0 0, .agg #[.int .i64 0, .int .i64 0, .int .i64 0, .int .i64 0, .int .i64 0, .string ⟨#[]⟩, .int .i64 0, .slice none 0 0, .slice none 0 0, .slice none 0 0, .slice none 0 0], .agg #[.int .i64 0, .int .i64 0, .int .i64 0, .int .i64 0, .int .i64 0, .string ⟨#[]⟩, .int .i64 0, .slice none 0 0, .slice none 0 0, .slice none 0 0, .slice none 0 0], .slice none 0 0], []⟩ 8 (by kernel_rfl) (by kernel_rfl) (by kernel_rfl) (by kernel_rfl)) ?_
 intro W base args ds gs before hval0 hW hcnd hsz _
 have hval : ∀ (j : Nat) t v, Tryz.f5.params[j]? = some t → args[j]? = some v → Value.okWide Tryz.prog W .any base t v := hval0
 have hW' := hW
 obtain ⟨p, q, hA0, hV, hpq, hfz, hnd⟩ := hW
 have hA : DataW.TrodAll enc Tryz.prog W 0 (fun _ => true) true Tryz.f5.params.toList args.toList ds p := hA0
 rw [Tryz.params5] at hA hval
 obtain ⟨v0, vs0, d0, ds0, p0, q0, hargs, hds, hq0, h0, r0⟩ := trodAll_cons hA
 obtain ⟨v1, vs1, d1, ds1, p1, q1, rfl, rfl, hq1, h1, r1⟩ := trodAll_cons r0
 obtain ⟨v2, vs2, d2, ds2, p2, q2, rfl, rfl, hq2, h2, r2⟩ := trodAll_cons r1
 obtain ⟨v3, vs3, d3, ds3, p3, q3, rfl, rfl, hq3, h3, r3⟩ := trodAll_cons r2
 obtain ⟨rfl, rfl, _⟩ := trodAll_nil r3
 obtain rfl : args = #[v0, v1, v2, v3] := by cases args; simp_all
 subst hds
 obtain ⟨rfl, hqq⟩ := trodVars_none hV
 obtain ⟨A0, x0, c0, rfl, s0, l0, b0⟩ := By hsz 0 (by kernel_rfl) rfl (hval 0 31 v0 rfl rfl) h0
 obtain ⟨x1, rfl, b1⟩ := TV hsz 1 (by kernel_rfl) rfl (hval 1 39 v1 rfl rfl) h1
 obtain ⟨x2, rfl, b2⟩ := TV hsz 2 (by kernel_rfl) rfl (hval 2 39 v2 rfl rfl) h2
 obtain ⟨A3, x3, c3, rfl, s3⟩ := Tl (hval 3 40 v3 rfl rfl) h3
 refine (Ns x0 A0 c0 x1 x2 x3 A3 c3 W l0 b0 s0 b1 b2 s3).mono fun e W' ⟨he, hg⟩ => ?_
 subst he
 exact ⟨_, rfl, PQ rfl rfl 4 (by kernel_rfl) Tryz.underlying4 (by kernel_rfl) (of_decide_eq_true (by kernel_rfl)) hW' hg⟩
theorem k_wf : Rows.fixQuickRow.wf (OpenSpec.ofChange Rows.fixQuickSpec) = true := by kernel_rfl
theorem k_pr : Tryz.f5.params.all (Tryz.prog.readableRec ·) = true := by kernel_rfl
theorem k_nt : namedTie Tryz.prog Rows.fixQuickRow.named Rows.fixQuickSpec.vars = true := by kernel_rfl
theorem k_st : (Rows.fixQuickRow.stops == []) = true := by kernel_rfl
theorem k_kn : (Rows.fixQuickRow.knobs == []) = true := by kernel_rfl
theorem k_ip : (Rows.fixQuickRow.inPlace == Tryz.prog.inPlace 5) = true := by kernel_rfl
theorem k_uf : (Rows.fixQuickRow.unfollowed == Tryz.prog.unfollowed 5) = true := by kernel_rfl
theorem k_re : (Rows.fixQuickRow.recurses == Tryz.prog.recurses 5) = true := by kernel_rfl
theorem k_nm : (Rows.fixQuickRow.named == Tryz.prog.varsNamed 5) = true := by kernel_rfl
theorem k_mp : (Rows.fixQuickRow.maps == (Tryz.f5.params.toList ++ Rows.fixQuickSpec.plain.varTypes Tryz.prog).any (Tryz.prog.mapsRec ·)) = true := by kernel_rfl
theorem k_fc : (Rows.fixQuickRow.ifaces == (Tryz.f5.params.toList ++ Rows.fixQuickSpec.plain.varTypes Tryz.prog).any (Tryz.prog.ifacesRec ·)) = true := by kernel_rfl
theorem k_mo : (Rows.fixQuickRow.mapsOut == Tryz.prog.mapsAmong Tryz.f5.resultTypes.toList) = true := by kernel_rfl
theorem k_lp : (Rows.fixQuickRow.loops == (Tryz.f5.params.toList ++ Rows.fixQuickSpec.plain.varTypes Tryz.prog).any (Tryz.prog.loopsFrom ·)) = true := by kernel_rfl
theorem k_wk : (Rows.fixQuickRow.wideKeys == (Tryz.f5.params.toList ++ Rows.fixQuickSpec.plain.varTypes Tryz.prog ++ Tryz.f5.resultTypes.toList).any (Tryz.prog.wideKeysFrom ·)) = true := by kernel_rfl
theorem k_vr : Rows.fixQuickSpec.vars.all (Tryz.prog.varReadable ·) = true := by kernel_rfl
theorem k_rr : Tryz.f5.resultTypes.all (fun t => Tryz.prog.readableRec t && decide (t < Tryz.prog.types.size)) = true := by kernel_rfl
theorem k_io : (Rows.fixQuickRow.ifacesOut == Tryz.f5.resultTypes.toList.any (Tryz.prog.ifacesRec ·)) = true := by kernel_rfl
theorem k_lo : (Rows.fixQuickRow.loopsOut == Tryz.f5.resultTypes.toList.any (Tryz.prog.loopsFrom ·)) = true := by kernel_rfl
theorem k_pk : (Rows.fixQuickRow.plainKeys == true) = true := by kernel_rfl
theorem k_sh : Rows.fixQuickRow.shortTexts.isNone = true := by kernel_rfl
theorem k_lf : (Rows.fixQuickRow.lifted == false) = true := by kernel_rfl
theorem k_mk : (some Make.cut == some Rows.fixQuickRow.make) = true := by kernel_rfl
theorem k_kd : (Rows.fixQuickRow.kinds == (if Rows.fixQuickRow.domain.isEmpty then [] else Tryz.f5.params.toList.map fun t => match Tryz.prog.underlying t with | some (.int k) => some k | _ => none)) = true := by kernel_rfl
theorem k_pi : (Rows.fixQuickRow.pinned == Rows.fixQuickRow.pinnedBy) = true := by kernel_rfl
theorem k_ve : (Rows.fixQuickRow.veiled == (Tryz.f5.params.toList ++ Rows.fixQuickSpec.plain.varTypes Tryz.prog ++ Tryz.f5.resultTypes.toList).any (Tryz.prog.veiledRec ·)) = true := by kernel_rfl
theorem k_vf : Rows.fixQuickRow.veiledFits Tryz.prog Tryz.f5.params.toList (Tryz.f5.params.toList ++ Rows.fixQuickSpec.plain.varTypes Tryz.prog ++ Tryz.f5.resultTypes.toList) = true := by kernel_rfl
theorem closed : joinedFacts Tryz.pinned.checked.prog 5 Tryz.f5 Rows.fixQuickSpec Rows.fixQuickRow = true := by
 show joinedFacts Tryz.prog 5 Tryz.f5 Rows.fixQuickSpec Rows.fixQuickRow = true
 unfold joinedFacts
 rw [Facts.laid, Facts.mapsR, Facts.heard, Facts.may, Facts.lifts, Facts.make_, Facts.plain, Facts.stops, Facts.knobs]
 simp only [Bool.and_eq_true]
 exact ⟨⟨⟨⟨⟨⟨⟨⟨⟨⟨⟨⟨⟨⟨⟨⟨⟨⟨⟨⟨⟨⟨⟨⟨⟨⟨⟨⟨⟨⟨⟨k_wf, trivial⟩, trivial⟩, k_pr⟩, k_nt⟩, k_st⟩, beq_self_eq_true _⟩, k_kn⟩, beq_self_eq_true _⟩, k_ip⟩, k_uf⟩, k_re⟩, k_nm⟩, k_mp⟩, k_fc⟩, k_mo⟩, k_lp⟩, k_wk⟩, k_vr⟩, k_rr⟩, k_io⟩, k_lo⟩, k_pk⟩, k_sh⟩, trivial⟩, trivial⟩, k_lf⟩, k_mk⟩, k_kd⟩, k_pi⟩, k_ve⟩, k_vf⟩
theorem named : Tryz.pinned.checked.prog.funcNamed Rows.fixQuickRow.func = some 5 := by kernel_rfl
theorem inst : Tryz.f5.isInstance Tryz.pinned.checked.prog Rows.fixQuickRow.origin Rows.fixQuickRow.targs := of_decide_eq_true (by kernel_rfl)
theorem over : Rows.fixQuickRow.holds Tryz.pinned (OpenSpec.ofChange Rows.fixQuickSpec) :=
 OpenClaim.holds_of_wide 5 Tryz.f5 rfl rfl rfl rfl rfl rfl rfl ⟨rfl, rfl, rfl, rfl, rfl⟩ rfl rfl rfl rfl rfl named Tryz.func5 closed
  inst (by unfold Func.isWrapper; first | (rw [if_pos (by decide +kernel)]; kernel_rfl) | (rw [if_neg (by decide +kernel)]; exact ⟨rfl, rfl⟩))
  (fun os started H enc _ => lifted os started H enc)
theorem fixQuick_holds : Rows.FixQuickSaid :=
 over
end Go.Proofs.YtflggnopgnoeiaaGreat.fixQuick

