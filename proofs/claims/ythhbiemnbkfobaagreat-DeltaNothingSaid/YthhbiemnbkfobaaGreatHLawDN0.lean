/-
  The law DeltaNothing. No condition beside the row's own.
-/
import Derived.Test.YthhbiemnbkfobaaGreatGDf
import Derived.Test.YthhbiemnbkfobaaGreatGFc
set_option maxRecDepth 100000
set_option maxHeartbeats 8000000
set_option linter.unusedSimpArgs false
set_option linter.unusedVariables false
namespace Go.Proofs.YthhbiemnbkfobaaGreat
open Go.RowKit Go.Calm
/-! rows of sets without rows -/
def zS : S := ⟨none, [], 0⟩
theorem Sc (n : Nat) : madeCells #[.slice none 0 0] (n * 1) = (List.replicate n (Value.slice none 0 0)).toArray := by
  apply Array.ext_getElem?; intro i
  by_cases hi : i < n * 1
  · rw [YM _ _ _ hi]
    rw [List.getElem?_toArray, List.getElem?_replicate, if_pos vU_]; have : i % (#[Value.slice none 0 0] : Array Value).size = 0 := by simp; omega
    rw [this]; rfl
  · exact wB_
theorem Sd (n : Nat) (hn : n <= 1000000) (W : World) : (Instr.makeSlice 32 (.int .i64 (n : Int)) (.int .i64 (n : Int))).run Tryz.prog W = .ok (.slice (some ⟨W.heap.size, 0, none⟩) n n) (W.alloc (.cells (List.replicate n (Value.slice none 0 0)).toArray 34)) := by
  obtain ⟨i, hi, h1, h2, h3⟩ := QZ; have := run_make W 32 34 i _ Tryz.underlying32 hi h1 .i64 .i64 (n : Int) (n : Int) vU_ vU_ vH_ vU_; rw [this, h2]; simp only [Int.toNat_natCast]; rw [show (Value.slice none 0 0).cells = #[.slice none 0 0] from rfl, Sc]
theorem TT {w : World} {g n : Nat} {t : TypeId} (h : zc w g t (List.replicate n (Value.slice none 0 0)).toArray) (hn : n <= 1000000) : MT w (some ⟨g, 0, none⟩) (List.replicate n zS) n := by
  refine ⟨fun i s hs => ?_, fun s hs => ?_, ⟨by simp, fun e => by cases e⟩, by simp; omega⟩
  · obtain ⟨hi, e⟩ := qQ9.1 hs
    rw [List.getElem_replicate] at e; subst e; refine ⟨g, 0, rfl, ?_, zu _ _⟩; rw [h.cell]; simp at hi; simp [zS, hi]
  · rw [(List.mem_replicate.1 hs).2]
    exact NH w
theorem FS (n : Nat) (ds : List S) (h : n = ds.length) : (List.replicate n zS).map S.z = (ds.map S.z).map fun _ => [] := by
  subst h; rw [List.map_map, List.map_replicate]; apply List.ext_getElem vV_; intro i h1 h2; simp [zS, S.z]
/-! alive -/
theorem Lp (gk : Nat) : (zt [[3]] (Dh gk)).2 = 0 := by kernel_rfl
theorem Vg : xy 8 0 .leaf [] [] [[3], [3]] [[], []] = ([], 0) := by kernel_rfl
theorem Dk : yM [[3]] [[]] = 0 := by kernel_rfl
theorem Dl : yM [[3]] [[([nV 7], 2)]] = 0 := by kernel_rfl
theorem Di : (XS [[]] [[([nV 7], 2)]]).2 = 0 := by kernel_rfl
theorem Vh : zW ([([nV 7], 2)] ++ [([nV 7], 2)]) = [([nV 7], 4)] := by kernel_rfl
theorem Vi : yF [([nV 7], 4)] = ([([nV 7], 4)], 0) := by kernel_rfl
theorem Dj : (zt [[3]] (MV 0)).1 = [3] := by kernel_rfl
theorem FH : ∀ v ∈ [nV 7], RV v := ((jc [nV 7]).1 vP_).2
theorem Tc (gt nt gi gk gv gz gs0 gs1 gs : Nat) : Qq ⟨[⟨some ⟨gi, 0, none⟩, [3], 1⟩], some ⟨gt, 0, none⟩, nt, [zS], some ⟨gs0, 0, none⟩, 1, [⟨some ⟨gz, 0, none⟩, [⟨some ⟨gv, 0, none⟩, [nV 7], 1, 2⟩], 1⟩], some ⟨gs1, 0, none⟩, 1⟩ gs (Dh gk) [] [([nV 7], 4)] := by
  have sm : WO [([nV 7], 2)] := ⟨by simp, fun x hx => by simp at hx; subst hx; exact ⟨by simp, FH⟩⟩
  have sok : yP ([⟨some ⟨gv, 0, none⟩, [nV 7], 1, 2⟩] ++ [⟨some ⟨gv, 0, none⟩, [nV 7], 1, 2⟩]) := ⟨by simp, fun x hx => by simp at hx; subst hx; simp, fun x hx => by simp at hx; subst hx; exact FH, fun x hx => by simp at hx; subst hx; simp⟩
  refine Zf ⟨[⟨some ⟨gi, 0, none⟩, [3], 1⟩], some ⟨gt, 0, none⟩, nt, [zS], some ⟨gs0, 0, none⟩, 1, [⟨some ⟨gz, 0, none⟩, [⟨some ⟨gv, 0, none⟩, [nV 7], 1, 2⟩], 1⟩], some ⟨gs1, 0, none⟩, 1⟩ gs (show 1 <= zD by decide) (fun t ht => by simp at ht; subst ht; show 1 <= zD; decide) 8 0 .leaf Sh Sg (some ⟨gk, 0, none⟩) 2 2 (fun i => if i = 0 then MV 0 else MV 0) (fun _ => []) (fun _ => [([nV 7], 2)]) [] [([nV 7], 4)] vT_ (Lp gk) (fun i hi => ?_) (fun i hi => KQ) (fun i hi => sm) ?_ ?_
  · have h := Mh ⟨[⟨some ⟨gi, 0, none⟩, [3], 1⟩], some ⟨gt, 0, none⟩, nt, [zS], some ⟨gs0, 0, none⟩, 1, [⟨some ⟨gz, 0, none⟩, [⟨some ⟨gv, 0, none⟩, [nV 7], 1, 2⟩], 1⟩], some ⟨gs1, 0, none⟩, 1⟩ gs 0 .leaf Sh Sg none 0 0 (fun _ => .leaf) zS ⟨some ⟨gz, 0, none⟩, [⟨some ⟨gv, 0, none⟩, [nV 7], 1, 2⟩], 1⟩ rfl rfl vV_ vV_
    show Qq _ gs (if i = 0 then MV 0 else MV 0) [] [([nV 7], 2)]; rw [ite_self]; exact h
  · show xy 8 0 .leaf [] [] ((List.range 2).map (fun i => (zt [[3]] (if i = 0 then MV 0 else MV 0)).1)) [[], []] = ([], 0)
    rw [show (List.range 2).map (fun i => (zt [[3]] (if i = 0 then MV 0 else MV 0)).1) = [[3], [3]] from by simp [List.range_succ, Dj]]; exact Vg
  · intro gx ox base W cs zs es tc tz te hP hx oc oz oe iz ie hcm hzm hem
    obtain ⟨u, y, rfl, hu, hy⟩ := jA (show es.map S.z = [_, _] from hem); obtain ⟨g2, n2, rfl, E0, E1⟩ := xf.two (a := u) (b := y) oe
    have h := Cp 0 .leaf Sh Sg (some ⟨gk, 0, none⟩) 2 2 (fun i => if i = 0 then MV 0 else MV 0) gs gx ox g2 n2 tc tz u y W hx E0 E1 (ie u vV_) (ie y vV_) (by
      have m1 : ∀ q ∈ u.xs ++ y.xs, zp q = ([nV 7], 2) := fun q hq => by
        rcases List.mem_append.1 hq with hq | hq
        · have h1 : zp q ∈ u.z := qZ9 hq
          rw [hu] at h1; simpa using h1
        · have h1 : zp q ∈ y.z := qZ9 hq
          rw [hy] at h1; simpa using h1
      have r1 : ∀ q ∈ u.xs ++ y.xs, q.row = [nV 7] /\ q.w = 2 := fun q hq => ⟨congrArg Prod.fst (m1 q hq), congrArg Prod.snd (m1 q hq)⟩
      have l1 : u.xs.length = 1 := by have := congrArg List.length hu; simpa [S.z] using this
      have l2 : y.xs.length = 1 := by have := congrArg List.length hy; simpa [S.z] using this
      exact ⟨by rw [List.length_append]; omega, fun q hq => by rw [(r1 q hq).1]; simp, fun q hq => by rw [(r1 q hq).1]; exact FH, fun q hq => by rw [(r1 q hq).2]; omega⟩)
    refine h.mono fun en w' h9 => h9.as ?_
    rw [hu, hy]; exact Vh
theorem zc.nw {w : World} {g : Nat} {t : TypeId} {cs : Array Value} (h : w.heap.size = g) : zc (w.alloc (.cells cs t)) g t cs := by
  subst h; exact zc.new _ _ _
theorem Dg (w : World) : Calls Tryz.prog 7 #[] w fun en w' => en = .returned (.bool true) /\ za w w' := by
  have ct : ∀ (gi gt gk gv gz gs0 gs1 : Nat) (W : World), (zc W gi 3 #[.int .i64 3]) -> (zc W gt 55 #[.slice (some ⟨gi, 0, none⟩) 1 1]) -> (zc W gk 31 #[.int .i64 1, .int .i64 0, .int .i64 0, .int .i64 0, .int .i64 0, .string ⟨#[]⟩, .int .i64 0, .slice none 0 0, .slice none 0 0, .slice none 0 0, .slice none 0 0, .int .i64 1, .int .i64 0, .int .i64 0, .int .i64 0, .int .i64 0, .string ⟨#[]⟩, .int .i64 0, .slice none 0 0, .slice none 0 0, .slice none 0 0, .slice none 0 0]) ->
    (DV W gv [nV 7]) -> (DB W gz [⟨some ⟨gv, 0, none⟩, [nV 7], 1, 2⟩]) -> (zc W gs0 34 #[.slice none 0 0]) -> (zc W gs1 34 #[.slice (some ⟨gz, 0, none⟩) 1 1]) ->
    Calls Tryz.prog 9 #[.slice (some ⟨gt, 0, none⟩) 1 1, .agg #[.int .i64 8, .int .i64 0, .int .i64 0, .int .i64 0, .int .i64 0, .string ⟨#[]⟩, .int .i64 0, .slice none 0 0, .slice none 0 0, .slice none 0 0, .slice (some ⟨gk, 0, none⟩) 2 2], .slice (some ⟨gs0, 0, none⟩) 1 1, .slice (some ⟨gs1, 0, none⟩) 1 1] W fun en w' => yK W w' en ([([nV 7], 4)], 0) := fun gi gt gk gv gz gs0 gs1 W h0 h9 hk hv hz hs0 hs1 => by
    have hzi : yI W (some ⟨gz, 0, none⟩) [⟨some ⟨gv, 0, none⟩, [nV 7], 1, 2⟩] := Eo hz (fun x hx => by simp at hx; subst hx; exact hv.vsl); have hin : In W ⟨some ⟨gz, 0, none⟩, [⟨some ⟨gv, 0, none⟩, [nV 7], 1, 2⟩], 1⟩ := ⟨hzi, Wh vV_, by show (1 : Nat) <= _; decide, fun x hx => by simp at hx; subst hx; simp⟩
    have h := Tx [⟨some ⟨gi, 0, none⟩, [3], 1⟩] (some ⟨gt, 0, none⟩) 1 (Dh gk) [zS] (some ⟨gs0, 0, none⟩) 1 [⟨some ⟨gz, 0, none⟩, [⟨some ⟨gv, 0, none⟩, [nV 7], 1, 2⟩], 1⟩] (some ⟨gs1, 0, none⟩) 1 W (show 1 <= zD by decide) (fun t ht => by simp at ht; subst ht; show 1 <= zD; decide) (fun i s hs => by
      match i, hs with
      | 0, hs =>
        simp at hs; subst hs
        exact ⟨gt, 0, rfl, h9.cells rfl, fun i x hx => by
          match i, hx with
          | 0, hx => simp at hx; subst hx; exact ⟨gi, 0, rfl, h0.cells rfl⟩⟩) (D1 (p := MV 0) (q := MV 0) 2 hk (VZ ⟨by decide, by decide⟩) (CF W ⟨by decide, by decide⟩) (CF W ⟨by decide, by decide⟩))
      ⟨fun i s hs' => by
        match i, hs' with
        | 0, hs' => simp at hs'; subst hs'; exact ⟨gs0, 0, rfl, hs0.cells rfl, zu _ _⟩, fun s hs' => by simp at hs'; subst hs'; exact NH W, Wh vV_, by simp⟩
      ⟨fun i s hs' => by
        match i, hs' with
        | 0, hs' => simp at hs'; subst hs'; exact ⟨gs1, 0, rfl, hs1.cells rfl, hzi⟩, fun s hs' => by simp at hs'; subst hs'; exact hin, Wh vV_, by simp⟩
      (Lp gk) Dk Dl Di vV_ vV_ [] [([nV 7], 4)] (fun gs => Tc gt 1 gi gk gv gz gs0 gs1 gs) ⟨by simp, fun x hx => by simp at hx; subst hx; exact ⟨by simp, FH⟩, fun x hx => by simp at hx; subst hx; simp⟩
    rw [Vi] at h; exact h
  have CT := hh_ ct; clear ct; go_enter Tryz.func7, Tryz.ntmps7; go_upto_region 2 with fail
  refine zd (fun X => DV X w.heap.size [nV 7] /\ DB X (w.heap.size + 1) [⟨some ⟨w.heap.size, 0, none⟩, [nV 7], 1, 2⟩] /\ za w X) ⟨(zc.new w _ _).al _, zc.new' _ _ _ vV_, ((za.refl _).al _).al _⟩ ?_; generalize w.heap.size + 1 = gz; generalize w.heap.size = gv; rintro X ⟨V0, Z0, G⟩; have HV := hh_ (And.intro V0 Z0); clear V0 Z0; go_upto_region 3 with fail
  refine zd (fun Y => zc Y X.heap.size 31 #[.int .i64 1, .int .i64 0, .int .i64 0, .int .i64 0, .int .i64 0, .string ⟨#[]⟩, .int .i64 0, .slice none 0 0, .slice none 0 0, .slice none 0 0, .slice none 0 0] /\ za X Y) ⟨zc.new _ _ _, (za.refl _).al _⟩ ?_; rintro Y ⟨P0, GY⟩; obtain ⟨bp, fp⟩ := P0.rules; have lp := P0.lt; clear P0; generalize X.heap.size = gp at *; have HVY := hh_ (And.intro (HV.out.1.grow GY) (HV.out.2.grow GY)); go_upto_region 4 with (go_at_call 9; go_loud ((refine (CT.out (Y.heap.size) (Y.heap.size + 1) (Y.heap.size + 1 + 1) gv gz (Y.heap.size + 1 + 1 + 1) (Y.heap.size + 1 + 1 + 1 + 1) _ (((((zc.nw vV_).al _).al _).al _).al _) ((((zc.nw vV_).al _).al _).al _) (((zc.nw vV_).al _).al _) (((((HVY.out.1.grow ((za.refl _).al _)).grow ((za.refl _).al _)).grow ((za.refl _).al _)).grow ((za.refl _).al _)).grow ((za.refl _).al _)) (((((HVY.out.2.grow ((za.refl _).al _)).grow ((za.refl _).al _)).grow ((za.refl _).al _)).grow ((za.refl _).al _)).grow ((za.refl _).al _)) ((zc.nw vV_).al _) (zc.nw vV_)).mono ?_); rintro en w5 ⟨B, ys, cap9, rfl, hz, hm, hk, hg5⟩)); have G5 : za w w5 := (G.trans GY).trans (za.trans (((((((za.refl _).al _).al _).al _).al _).al _)) hg5); obtain ⟨y, rfl, hr, hw⟩ := VS hm; obtain ⟨gy, oy, eB, c1, c2, hv⟩ := hz 0 y rfl; have eB : B = some ⟨gy, oy, none⟩ := eB; subst eB; rw [hw] at c2
  try simp only [Nat.zero_mul, Nat.add_zero, List.length_singleton] at c1
  try simp only [Nat.zero_mul, Nat.add_zero, List.length_singleton] at c2
  clear hz hm hv hr hw bp fp lp; go_wp2; exact qX_ (v := .bool true) (by simp [results, Tryz.results7, go_sem]) rfl ⟨rfl, G5⟩
