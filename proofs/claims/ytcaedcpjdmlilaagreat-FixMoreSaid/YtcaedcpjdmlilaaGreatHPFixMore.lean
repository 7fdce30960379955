/-
 A text of the proof of the law FixMore; no condition beside the row's own.
-/
import Derived.Test.YtcaedcpjdmlilaaGreatFacts
import Derived.Test.YtcaedcpjdmlilaaGreatGWa
import Derived.Test.YtcaedcpjdmlilaaGreatGN
import Derived.Test.YtcaedcpjdmlilaaGreatReadB
import Derived.Test.YtcaedcpjdmlilaaGreatHLawFMore
set_option maxRecDepth 100000
namespace Go.Proofs.YtcaedcpjdmlilaaGreat.fixMore
open Go.ChangeShapes Go.WideShapes Go.ChangeAt Go.RowKit Go.Calm Go.Proofs.YtcaedcpjdmlilaaGreat
set_option linter.unusedVariables false
theorem own : ownKnob Tryz.prog.godebug = none := by kernel_rfl
theorem lifted (os : Os) (started : os.Started) (H : Type) (enc : TypeId × Value → H) :
  ReturnsInHanded {} Tryz.checked os 8 .any (Rows.fixMoreSpec.pre6 enc Tryz.prog Tryz.f8 Rows.fixMoreRow.domain false) (Rows.fixMoreSpec.post enc Tryz.prog Tryz.f8 false true false false) := by
 refine returnsInHanded_of_change_sized (C := Tryz.checked) own started (by kernel_rfl) Tryz.func8
  (ChangeSpec.witness6 (enc := enc) (C := Tryz.checked) false ⟨#[], #[.slice none 0 0, .agg #[.int .i64 0, .int .i64 0, .int .i64 0, .int .i64 0, .int .i64 0, .string ⟨#[]⟩, .int .i64 0, .slice none 0 0, .slice none 0 0, .slice none 0 0, .slice none 0 0], .agg #[.int .i64 0, .int .i64 0, .int .i64 0, .int .i64 0, .int .i64 0, .string ⟨#[]⟩, .int .i64 0, .slice none 0 0, .slice none 0 0, .slice none 0 0, .slice none 0 0], .slice none 0 0, .slice none 0 0], []⟩ 8 (by kernel_rfl) (by kernel_rfl) (by kernel_rfl) (by kernel_rfl)) ?_
 intro W base args ds gs before hval0 hW hcnd hsz _
 have hval : ∀ (j : Nat) t v, Tryz.f8.params[j]? = some t → args[j]? = some v → Value.okWide Tryz.prog W .any base t v := hval0
 have hW' := hW
 obtain ⟨p, q, hA0, hV, hpq, hfz, hnd⟩ := hW
 have hA : DataW.TrodAll enc Tryz.prog W 0 (fun _ => true) true Tryz.f8.params.toList args.toList ds p := hA0
 rw [Tryz.params8] at hA hval
 obtain ⟨v0, vs0, d0, ds0, p0, q0, hargs, hds, hq0, h0, r0⟩ := trodAll_cons hA
 obtain ⟨v1, vs1, d1, ds1, p1, q1, rfl, rfl, hq1, h1, r1⟩ := trodAll_cons r0
 obtain ⟨v2, vs2, d2, ds2, p2, q2, rfl, rfl, hq2, h2, r2⟩ := trodAll_cons r1
 obtain ⟨v3, vs3, d3, ds3, p3, q3, rfl, rfl, hq3, h3, r3⟩ := trodAll_cons r2
 obtain ⟨v4, vs4, d4, ds4, p4, q4, rfl, rfl, hq4, h4, r4⟩ := trodAll_cons r3
 obtain ⟨rfl, rfl, _⟩ := trodAll_nil r4
 obtain rfl : args = #[v0, v1, v2, v3, v4] := by cases args; simp_all
 subst hds
 obtain ⟨rfl, hqq⟩ := trodVars_none hV
 obtain ⟨A0, x0, c0, rfl, s0, l0, b0⟩ := Md hsz 0 (by kernel_rfl) rfl (hval 0 22 v0 rfl rfl) h0
 obtain ⟨x1, rfl, b1⟩ := M6 hsz 1 (by kernel_rfl) rfl (hval 1 31 v1 rfl rfl) h1
 obtain ⟨x2, rfl, b2⟩ := M6 hsz 2 (by kernel_rfl) rfl (hval 2 31 v2 rfl rfl) h2
 obtain ⟨A3, x3, c3, rfl, s3⟩ := ZP (hval 3 32 v3 rfl rfl) h3
 obtain ⟨A4, x4, c4, rfl, s4⟩ := ZP (hval 4 32 v4 rfl rfl) h4
 have y3 := slice_bytes hsz 3 (by kernel_rfl) rfl Tryz.underlying32 (by kernel_rfl) h3
 refine (Pz x0 A0 c0 x1 x2 x3 A3 c3 x4 A4 c4 W l0 b0 s0 b1 b2 s3 s4 (by omega)).mono fun e W' ⟨he, hg⟩ => ?_
 subst he
 exact ⟨_, rfl, PA rfl rfl 4 (by kernel_rfl) Tryz.underlying4 (by kernel_rfl) (of_decide_eq_true (by kernel_rfl)) hW' hg⟩
theorem k_wf : Rows.fixMoreRow.wf (OpenSpec.ofChange Rows.fixMoreSpec) = true := by kernel_rfl
theorem k_pr : Tryz.f8.params.all (Tryz.prog.readableRec ·) = true := by kernel_rfl
theorem k_nt : namedTie Tryz.prog Rows.fixMoreRow.named Rows.fixMoreSpec.vars = true := by kernel_rfl
theorem k_st : (Rows.fixMoreRow.stops == []) = true := by kernel_rfl
theorem k_kn : (Rows.fixMoreRow.knobs == []) = true := by kernel_rfl
theorem k_ip : (Rows.fixMoreRow.inPlace == Tryz.prog.inPlace 8) = true := by kernel_rfl
theorem k_uf : (Rows.fixMoreRow.unfollowed == Tryz.prog.unfollowed 8) = true := by kernel_rfl
theorem k_re : (Rows.fixMoreRow.recurses == Tryz.prog.recurses 8) = true := by kernel_rfl
theorem k_nm : (Rows.fixMoreRow.named == Tryz.prog.varsNamed 8) = true := by kernel_rfl
theorem k_mp : (Rows.fixMoreRow.maps == (Tryz.f8.params.toList ++ Rows.fixMoreSpec.plain.varTypes Tryz.prog).any (Tryz.prog.mapsRec ·)) = true := by kernel_rfl
theorem k_fc : (Rows.fixMoreRow.ifaces == (Tryz.f8.params.toList ++ Rows.fixMoreSpec.plain.varTypes Tryz.prog).any (Tryz.prog.ifacesRec ·)) = true := by kernel_rfl
theorem k_mo : (Rows.fixMoreRow.mapsOut == Tryz.prog.mapsAmong Tryz.f8.resultTypes.toList) = true := by kernel_rfl
theorem k_lp : (Rows.fixMoreRow.loops == (Tryz.f8.params.toList ++ Rows.fixMoreSpec.plain.varTypes Tryz.prog).any (Tryz.prog.loopsFrom ·)) = true := by kernel_rfl
theorem k_wk : (Rows.fixMoreRow.wideKeys == (Tryz.f8.params.toList ++ Rows.fixMoreSpec.plain.varTypes Tryz.prog ++ Tryz.f8.resultTypes.toList).any (Tryz.prog.wideKeysFrom ·)) = true := by kernel_rfl
theorem k_vr : Rows.fixMoreSpec.vars.all (Tryz.prog.varReadable ·) = true := by kernel_rfl
theorem k_rr : Tryz.f8.resultTypes.all (fun t => Tryz.prog.readableRec t && decide (t < Tryz.prog.types.size)) = true := by kernel_rfl
theorem k_io : (Rows.fixMoreRow.ifacesOut == Tryz.f8.resultTypes.toList.any (Tryz.prog.ifacesRec ·)) = true := by kernel_rfl
theorem k_lo : (Rows.fixMoreRow.loopsOut == Tryz.f8.resultTypes.toList.any (Tryz.prog.loopsFrom ·)) = true := by kernel_rfl
theorem k_pk : (Rows.fixMoreRow.plainKeys == true) = true := by kernel_rfl
theorem k_sh : Rows.fixMoreRow.shortTexts.isNone = true := by kernel_rfl
theorem k_lf : (Rows.fixMoreRow.lifted == false) = true := by kernel_rfl
theorem k_mk : (some Make.cut == some Rows.fixMoreRow.make) = true := by kernel_rfl
theorem k_kd : (Rows.fixMoreRow.kinds == (if Rows.fixMoreRow.domain.isEmpty then [] else Tryz.f8.params.toList.map fun t => match Tryz.prog.underlying t with | some (.int k) => some k | _ => none)) = true := by kernel_rfl
theorem k_pi : (Rows.fixMoreRow.pinned == Rows.fixMoreRow.pinnedBy) = true := by kernel_rfl
theorem k_ve : (Rows.fixMoreRow.veiled == (Tryz.f8.params.toList ++ Rows.fixMoreSpec.plain.varTypes Tryz.prog ++ Tryz.f8.resultTypes.toList).any (Tryz.prog.veiledRec ·)) = true := by kernel_rfl
theorem k_vf : Rows.fixMoreRow.veiledFits Tryz.prog Tryz.f8.params.toList (Tryz.f8.params.toList ++ Rows.fixMoreSpec.plain.varTypes Tryz.prog ++ Tryz.f8.resultTypes.toList) = true := by kernel_rfl
theorem closed : joinedFacts Tryz.pinned.checked.prog 8 Tryz.f8 Rows.fixMoreSpec Rows.fixMoreRow = true := by
 show joinedFacts Tryz.prog 8 Tryz.f8 Rows.fixMoreSpec Rows.fixMoreRow = true
 unfold joinedFacts
 rw [Facts.laid, Facts.mapsR, Facts.heard, Facts.may, Facts.lifts, Facts.make_, Facts.plain, Facts.stops, Facts.knobs]
 simp only [Bool.and_eq_true]
 exact ⟨⟨⟨⟨⟨⟨⟨⟨⟨⟨⟨⟨⟨⟨⟨⟨⟨⟨⟨⟨⟨⟨⟨⟨⟨⟨⟨⟨⟨⟨⟨k_wf, trivial⟩, trivial⟩, k_pr⟩, k_nt⟩, k_st⟩, beq_self_eq_true _⟩, k_kn⟩, beq_self_eq_true _⟩, k_ip⟩, k_uf⟩, k_re⟩, k_nm⟩, k_mp⟩, k_fc⟩, k_mo⟩, k_lp⟩, k_wk⟩, k_vr⟩, k_rr⟩, k_io⟩, k_lo⟩, k_pk⟩, k_sh⟩, trivial⟩, trivial⟩, k_lf⟩, k_mk⟩, k_kd⟩, k_pi⟩, k_ve⟩, k_vf⟩
theorem named : Tryz.pinned.checked.prog.funcNamed Rows.fixMoreRow.func = some 8 := by kernel_rfl
theorem inst : Tryz.f8.isInstance Tryz.pinned.checked.prog Rows.fixMoreRow.origin Rows.fixMoreRow.targs := of_decide_eq_true (by kernel_rfl)
theorem over : Rows.fixMoreRow.holds Tryz.pinned (OpenSpec.ofChange Rows.fixMoreSpec) :=
 OpenClaim.holds_of_wide 8 Tryz.f8 rfl rfl rfl rfl rfl rfl rfl ⟨rfl, rfl, rfl, rfl, rfl⟩ rfl rfl rfl rfl rfl named Tryz.func8 closed
  inst (by unfold Func.isWrapper; first | (rw [if_pos (by decide +kernel)]; kernel_rfl) | (rw [if_neg (by decide +kernel)]; exact ⟨rfl, rfl⟩))
  (fun os started H enc _ => lifted os started H enc)
theorem fixMore_holds : Rows.FixMoreSaid :=
 over
end Go.Proofs.YtcaedcpjdmlilaaGreat.fixMore

