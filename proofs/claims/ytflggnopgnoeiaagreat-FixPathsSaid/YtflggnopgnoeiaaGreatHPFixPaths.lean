/-
 The law FixPaths. No condition beside the row's own.
-/
import Derived.Test.YtflggnopgnoeiaaGreatFacts
import Derived.Test.YtflggnopgnoeiaaGreatHLawFPaths
set_option maxRecDepth 100000
namespace Go.Proofs.YtflggnopgnoeiaaGreat.fixPaths
open Go.ChangeShapes Go.WideShapes Go.ChangeAt Go.RowKit Go.Calm Go.Proofs.YtflggnopgnoeiaaGreat
set_option linter.unusedVariables false
theorem own : ownKnob Tryz.prog.godebug = none := by kernel_rfl
theorem lifted (os : Os) (started : os.Started) (H : Type) (enc : TypeId × Value → H) :
  ReturnsInHanded {} Tryz.checked os 6 .any (Rows.fixPathsSpec.pre6 enc Tryz.prog Tryz.f6 Rows.fixPathsRow.domain false) (Rows.fixPathsSpec.post enc Tryz.prog Tryz.f6 false true false false) := by
 refine returnsInHanded_of_change_sized (C := Tryz.checked) own started (by kernel_rfl) Tryz.func6
  (ChangeSpec.witness6 (enc := enc) (C := Tryz.checked) false ⟨#[], #[.slice none 0 0], []⟩ 8 (by kernel_rfl) (by kernel_rfl) (by kernel_rfl) (by kernel_rfl)) ?_
 intro W base args ds gs before hval0 hW hcnd hsz _
 have hval : ∀ (j : Nat) t v, Tryz.f6.params[j]? = some t → args[j]? = some v → Value.okWide Tryz.prog W .any base t v := hval0
 have hW' := hW
 obtain ⟨p, q, hA0, hV, hpq, hfz, hnd⟩ := hW
 have hA : DataW.TrodAll enc Tryz.prog W 0 (fun _ => true) true Tryz.f6.params.toList args.toList ds p := hA0
 rw [Tryz.params6] at hA hval
 obtain ⟨v0, vs0, d0, ds0, p0, q0, hargs, hds, hq0, h0, r0⟩ := trodAll_cons hA
 obtain ⟨rfl, rfl, _⟩ := trodAll_nil r0
 obtain rfl : args = #[v0] := by cases args; simp_all
 subst hds
 obtain ⟨rfl, hqq⟩ := trodVars_none hV
 obtain ⟨A0, x0, c0, rfl, s0, l0, cl0, b0⟩ := Vj (hval 0 22 v0 rfl rfl) h0
 refine (Nr x0 A0 c0 W (by have := l0; unfold maxLen at this; omega) s0).mono fun e W' ⟨he, hg⟩ => ?_
 subst he
 exact ⟨_, rfl, PQ rfl rfl 4 (by kernel_rfl) Tryz.underlying4 (by kernel_rfl) (of_decide_eq_true (by kernel_rfl)) hW' hg⟩
theorem k_wf : Rows.fixPathsRow.wf (OpenSpec.ofChange Rows.fixPathsSpec) = true := by kernel_rfl
theorem k_pr : Tryz.f6.params.all (Tryz.prog.readableRec ·) = true := by kernel_rfl
theorem k_nt : namedTie Tryz.prog Rows.fixPathsRow.named Rows.fixPathsSpec.vars = true := by kernel_rfl
theorem k_st : (Rows.fixPathsRow.stops == []) = true := by kernel_rfl
theorem k_kn : (Rows.fixPathsRow.knobs == []) = true := by kernel_rfl
theorem k_ip : (Rows.fixPathsRow.inPlace == Tryz.prog.inPlace 6) = true := by kernel_rfl
theorem k_uf : (Rows.fixPathsRow.unfollowed == Tryz.prog.unfollowed 6) = true := by kernel_rfl
theorem k_re : (Rows.fixPathsRow.recurses == Tryz.prog.recurses 6) = true := by kernel_rfl
theorem k_nm : (Rows.fixPathsRow.named == Tryz.prog.varsNamed 6) = true := by kernel_rfl
theorem k_mp : (Rows.fixPathsRow.maps == (Tryz.f6.params.toList ++ Rows.fixPathsSpec.plain.varTypes Tryz.prog).any (Tryz.prog.mapsRec ·)) = true := by kernel_rfl
theorem k_fc : (Rows.fixPathsRow.ifaces == (Tryz.f6.params.toList ++ Rows.fixPathsSpec.plain.varTypes Tryz.prog).any (Tryz.prog.ifacesRec ·)) = true := by kernel_rfl
theorem k_mo : (Rows.fixPathsRow.mapsOut == Tryz.prog.mapsAmong Tryz.f6.resultTypes.toList) = true := by kernel_rfl
theorem k_lp : (Rows.fixPathsRow.loops == (Tryz.f6.params.toList ++ Rows.fixPathsSpec.plain.varTypes Tryz.prog).any (Tryz.prog.loopsFrom ·)) = true := by kernel_rfl
theorem k_wk : (Rows.fixPathsRow.wideKeys == (Tryz.f6.params.toList ++ Rows.fixPathsSpec.plain.varTypes Tryz.prog ++ Tryz.f6.resultTypes.toList).any (Tryz.prog.wideKeysFrom ·)) = true := by kernel_rfl
theorem k_vr : Rows.fixPathsSpec.vars.all (Tryz.prog.varReadable ·) = true := by kernel_rfl
theorem k_rr : Tryz.f6.resultTypes.all (fun t => Tryz.prog.readableRec t && decide (t < Tryz.prog.types.size)) = true := by kernel_rfl
theorem k_io : (Rows.fixPathsRow.ifacesOut == Tryz.f6.resultTypes.toList.any (Tryz.prog.ifacesRec ·)) = true := by kernel_rfl
theorem k_lo : (Rows.fixPathsRow.loopsOut == Tryz.f6.resultTypes.toList.any (Tryz.prog.loopsFrom ·)) = true := by kernel_rfl
theorem k_pk : (Rows.fixPathsRow.plainKeys == true) = true := by kernel_rfl
theorem k_sh : Rows.fixPathsRow.shortTexts.isNone = true := by kernel_rfl
theorem k_lf : (Rows.fixPathsRow.lifted == false) = true := by kernel_rfl
theorem k_mk : (some Make.cut == some Rows.fixPathsRow.make) = true := by kernel_rfl
theorem k_kd : (Rows.fixPathsRow.kinds == (if Rows.fixPathsRow.domain.isEmpty then [] else Tryz.f6.params.toList.map fun t => match Tryz.prog.underlying t with | some (.int k) => some k | _ => none)) = true := by kernel_rfl
theorem k_pi : (Rows.fixPathsRow.pinned == Rows.fixPathsRow.pinnedBy) = true := by kernel_rfl
theorem k_ve : (Rows.fixPathsRow.veiled == (Tryz.f6.params.toList ++ Rows.fixPathsSpec.plain.varTypes Tryz.prog ++ Tryz.f6.resultTypes.toList).any (Tryz.prog.veiledRec ·)) = true := by kernel_rfl
theorem k_vf : Rows.fixPathsRow.veiledFits Tryz.prog Tryz.f6.params.toList (Tryz.f6.params.toList ++ Rows.fixPathsSpec.plain.varTypes Tryz.prog ++ Tryz.f6.resultTypes.toList) = true := by kernel_rfl
theorem closed : joinedFacts Tryz.pinned.checked.prog 6 Tryz.f6 Rows.fixPathsSpec Rows.fixPathsRow = true := by
 show joinedFacts Tryz.prog 6 Tryz.f6 Rows.fixPathsSpec Rows.fixPathsRow = true
 unfold joinedFacts
 rw [Facts.laid, Facts.mapsR, Facts.heard, Facts.may, Facts.lifts, Facts.make_, Facts.plain, Facts.stops, Facts.knobs]
 simp only [Bool.and_eq_true]
 exact ⟨⟨⟨⟨⟨⟨⟨⟨⟨⟨⟨⟨⟨⟨⟨⟨⟨⟨⟨⟨⟨⟨⟨⟨⟨⟨⟨⟨⟨⟨⟨k_wf, trivial⟩, trivial⟩, k_pr⟩, k_nt⟩, k_st⟩, beq_self_eq_true _⟩, k_kn⟩, beq_self_eq_true _⟩, k_ip⟩, k_uf⟩, k_re⟩, k_nm⟩, k_mp⟩, k_fc⟩, k_mo⟩, k_lp⟩, k_wk⟩, k_vr⟩, k_rr⟩, k_io⟩, k_lo⟩, k_pk⟩, k_sh⟩, trivial⟩, trivial⟩, k_lf⟩, k_mk⟩, k_kd⟩, k_pi⟩, k_ve⟩, k_vf⟩
theorem named : Tryz.pinned.checked.prog.funcNamed Rows.fixPathsRow.func = some 6 := by kernel_rfl
theorem inst : Tryz.f6.isInstance Tryz.pinned.checked.prog Rows.fixPathsRow.origin Rows.fixPathsRow.targs := of_decide_eq_true (by kernel_rfl)
theorem over : Rows.fixPathsRow.holds Tryz.pinned (OpenSpec.ofChange Rows.fixPathsSpec) :=
 OpenClaim.holds_of_wide 6 Tryz.f6 rfl rfl rfl rfl rfl rfl rfl ⟨rfl, rfl, rfl, rfl, rfl⟩ rfl rfl rfl rfl rfl named Tryz.func6 closed
  inst (by unfold Func.isWrapper; first | (rw [if_pos (by decide +kernel)]; kernel_rfl) | (rw [if_neg (by decide +kernel)]; exact ⟨rfl, rfl⟩))
  (fun os started H enc _ => lifted os started H enc)
theorem fixPaths_holds : Rows.FixPathsSaid :=
 over
end Go.Proofs.YtflggnopgnoeiaaGreat.fixPaths

