/- Parts of a proof. No condition. -/
import Derived.Test.YthhbiemnbkfobaaGreatProg
import Derived.Test.YthhbiemnbkfobaaGreatGA
import Derived.WalkSpells
import Derived.WalkLawsBesides
import Derived.Handy
import Derived.BigGuardPart
import Derived.Test.YthhbiemnbkfobaaGreatRows
import Derived.ProofKit
import Derived.OpenShut
set_option maxRecDepth 100000
set_option maxHeartbeats 1000000
set_option maxRecDepth 100000
set_option linter.unusedSimpArgs false
set_option linter.unusedVariables false
namespace Go
variable {p : Prop}
theorem oR_ (h : p := by simp [results, Tryz.results124, go_sem, xO]) : p := h
theorem oS_ (h : p := by simp [results, Tryz.results150, go_sem, hc]) : p := h
theorem oT_ (h : p := by simp [results, Tryz.results149, go_sem, hc]) : p := h
theorem oU_ (h : p := by simp [results, Tryz.results151, go_sem, hc]) : p := h
theorem oV_ (h : p := by simp [results, Tryz.results152, go_sem, hc]) : p := h
theorem o7_ (h : p := by simp [results, Tryz.results78, go_sem]) : p := h
theorem vt_ (h : p := by rw [hxl]; exact hi) : p := h
theorem vD_ (h : p := by simpa using hx) : p := h
theorem vP_ (h : p := by kernel_rfl) : p := h
theorem vQ_ (h : p := by simp [hx]) : p := h
theorem vR_ (h : p := by simp [hy]) : p := h
theorem vY_ (h : p := by
 intro w1 hw1 hF K hK; go_simp; exact hK _ _ ((za.refl _).al _) ⟨_, rfl, zc.new _ _ _⟩) : p := h
theorem vZ_ (h : p := by
 simp [intOf]; omega) : p := h
theorem v0_ (h : p := by
 intro m
 induction m with
 | zero => exact fun _ => ⟨[], rfl, by simp, fun i x hx => by simp at hx⟩
 | succ m ih =>
   intro hm; obtain ⟨xs, hxl, hxb, hxs⟩ := ih vU_; obtain ⟨v, hb, g, o, hA, hc⟩ := pick m vU_; refine ⟨xs ++ [v], by simp [hxl], fun u hu => ?_, fun i x hx => ?_⟩
   · rcases List.mem_append.1 hu with h' | h'
     · exact hxb u h'
     · simp at h'; subst h'; exact hb
   · rcases Nat.lt_or_ge i xs.length with h' | h'
     · rw [List.getElem?_append_left h'] at hx
       exact hxs i x hx
     · rw [List.getElem?_append_right h'] at hx
       have : i - xs.length = 0 := by
         rcases Nat.eq_zero_or_pos (i - xs.length) with h0 | h0
         · exact h0
         · rw [List.getElem?_eq_none vN_] at hx; cases hx
       rw [this] at hx; simp at hx; subst hx; have hi' : i = m := by omega
       subst hi'; exact ⟨g, o, hA, hc⟩) : p := h
theorem v3_ (h : p := by
 obtain ⟨ys, hcell, _⟩ := get 0 vU_; obtain ⟨_, hyl, hat⟩ := World.cells?_some hcell; have h1 := hat 0 hc0; have h2 : ys[0]? = some (ys[0]' vU_) := qQ_ _; rw [h2, Nat.zero_mul] at h1; have e : (a.add 0) = a := rfl; rw [e] at h1; rcases Zq h1 with h3 | h3
 · exact h3
 · exact absurd rfl h3) : p := h
theorem v6_ (h : p := by
 have h1 := hel i hi; rw [hc] at h1; have h2 : elems[i]? = some (elems.getD i (.nil, [])) := by simp [hlen, hi]
 rw [h2] at h1; cases hcell : w.cells? base (a.add (i * c)) c with
 | none => rw [hcell] at h1; cases h1
 | some ys => rw [hcell] at h1; exact ⟨ys, rfl, h1⟩) : p := h
theorem us_ (h : p := by
 have e1 : xt n = ⟨1, 0, es⟩ := by unfold xt; rw [if_neg vU_]
 rw [e1]; clear e1; go_enter Tryz.func150, Tryz.ntmps150
 go_wp2_with ((go_at_call 115; ((with_reducible refine (jX _).mono ?_); rintro e w' ⟨rfl, hg⟩; obtain ⟨hc, hf, hz⟩ := hg.rules)))
 exact qX_ oS_ rfl ⟨rfl, zi⟩) : p := h
theorem wg_ (h : p := by
 go_enter Tryz.func124, Tryz.ntmps124
 go_wp2; exact qX_ oR_ rfl ⟨rfl, zi⟩) : p := h
end Go
namespace Go.Proofs.YthhbiemnbkfobaaGreat
open Go.RowKit Go.Calm
structure V where
  k : Int
  n : Int
  s : ByteArray
@[go_sem] abbrev V.val (v : V) : Value := .agg #[.int .i64 v.k, .int .i64 v.n, .string v.s]
abbrev es : ByteArray := ⟨#[]⟩
def bare (v : V) : V := if v.k = 1 then ⟨1, 0, es⟩ else if v.k = 4 then ⟨4, 0, v.s⟩ else ⟨v.k, v.n, es⟩
theorem jX (w : World) : Calls Tryz.prog 115 #[] w fun e w' => e = .returned (V.val ⟨1, 0, es⟩) /\ za w w' := by
  go_enter Tryz.func115, Tryz.ntmps115; go_wp2; exact qX_ (by simp [results, Tryz.results115, go_sem]) rfl ⟨rfl, (za.refl _).al _⟩
theorem Yw (v : V) (w : World) : Calls Tryz.prog 78 #[v.val] w fun e w' => e = .returned (bare v).val /\ za w w' := by
  unfold V.val
  by_cases h1 : v.k = 1
  · have hd1 : (v.k == 1) = true := by simpa using h1
    have e1 : bare v = ⟨1, 0, es⟩ := by simp [bare, h1]
    rw [e1]; clear e1 h1; go_enter Tryz.func78, Tryz.ntmps78
    go_wp2_with (go_at_call 115; refine (jX _).mono ?_; rintro e w' ⟨rfl, hg⟩; obtain ⟨hc, hf, _⟩ := hg.rules)
    exact qX_ (by simp [results, Tryz.results78, go_sem, hc]) rfl ⟨rfl, (((((za.refl _).al _).al _).trans hg).set vV_ _).set vV_ _ |>.set vV_ _⟩
  · have hd1 : (v.k == 1) = false := by simpa using h1
    by_cases h4 : v.k = 4
    · have hd4 : (v.k == 4) = true := by simpa using h4
      have e1 : bare v = ⟨4, 0, v.s⟩ := by simp [bare, h4]
      rw [e1]; clear e1 h1 h4; go_enter Tryz.func78, Tryz.ntmps78; go_wp2; exact qX_ o7_ rfl ⟨rfl, ((za.refl _).al _).al _⟩
    · have hd4 : (v.k == 4) = false := by simpa using h4
      have e1 : bare v = ⟨v.k, v.n, es⟩ := by simp [bare, h1, h4]
      rw [e1]; clear e1 h1 h4; go_enter Tryz.func78, Tryz.ntmps78; go_wp2; exact qX_ o7_ rfl ⟨rfl, ((za.refl _).al _).al _⟩
def XV (x y : Int) : Int := if x < y then -1 else if y < x then 1 else 0
theorem F1 (x : Int) (w : World) : Calls Tryz.prog 145 #[.int .i64 x] w fun e w' => e = .returned (.bool false) /\ w = w' := by
  go_enter Tryz.func145, Tryz.ntmps145; go_wp2; go_ret; exact ⟨by simp, rfl⟩
theorem Fh (x : Int) (w : World) : Calls Tryz.prog 168 #[.int .i64 x] w fun e w' => e = .returned (.bool false) /\ w = w' := by
  go_enter Tryz.func168, Tryz.ntmps168; go_wp2; go_ret; exact ⟨by simp, rfl⟩
theorem Pr (x y : Int) (w : World) : Calls Tryz.prog 110 #[.int .i64 x, .int .i64 y] w fun e w' => e = .returned (.int .i64 (XV x y)) /\ w = w' := by
  unfold XV; go_enter Tryz.func110, Tryz.ntmps110
  go_wp2_with (go_at_call 145; refine (F1 _ _).mono ?_; rintro e w' ⟨rfl, rfl⟩)
  all_goals go_ret
  all_goals (refine ⟨?_, rfl⟩; simp [*]; try omega)
theorem RD (x y : Int) (w : World) : Calls Tryz.prog 143 #[.int .i64 x, .int .i64 y] w fun e w' => e = .returned (.int .i64 (XV x y)) /\ w = w' := by
  unfold XV; go_enter Tryz.func143, Tryz.ntmps143
  go_wp2_with (go_at_call 168; refine (Fh _ _).mono ?_; rintro e w' ⟨rfl, rfl⟩)
  all_goals go_ret
  all_goals (refine ⟨?_, rfl⟩; simp [*]; try omega)
def U7 (x y z : Int) : Int := if x ≠ 0 then x else if y ≠ 0 then y else z
theorem Ue (x y z : Int) (g c : Nat) (w : World) (h0 : w.cell? ⟨g, 0, none⟩ = some (.int .i64 x)) (h1 : w.cell? ⟨g, 1, none⟩ = some (.int .i64 y)) (h2 : w.cell? ⟨g, 2, none⟩ = some (.int .i64 z)) :
    Calls Tryz.prog 142 #[.slice (some ⟨g, 0, none⟩) 3 c] w fun e w' => e = .returned (.int .i64 (U7 x y z)) /\ w = w' := by
  unfold U7
  by_cases hx : x = 0
  · have dx : (x != 0) = false := by simpa using hx
    rw [if_neg vD_]; clear hx
    by_cases hy : y = 0
    · have dy : (y != 0) = false := by simpa using hy
      rw [if_neg (by simpa using hy)]; clear hy
      by_cases hz : z = 0
      · have dz : (z != 0) = false := by simpa using hz
        subst hz; go_enter Tryz.func142, Tryz.ntmps142; go_wp2; refine wp_loop_rounds 4 ?_
        iterate 4 (rw [rounds_succ]; go_wp2)
        go_ret; exact ⟨rfl, rfl⟩
      · have dz : (z != 0) = true := by simpa using hz
        clear hz; go_enter Tryz.func142, Tryz.ntmps142; go_wp2; refine wp_loop_rounds 3 ?_
        iterate 3 (rw [rounds_succ]; go_wp2)
        go_ret; exact ⟨rfl, rfl⟩
    · have dy : (y != 0) = true := by simpa using hy
      rw [if_pos (by simpa using hy)]; clear hy; go_enter Tryz.func142, Tryz.ntmps142; go_wp2; refine wp_loop_rounds 3 ?_
      iterate 2 (rw [rounds_succ]; go_wp2)
      go_ret; exact ⟨rfl, rfl⟩
  · have dx : (x != 0) = true := by simpa using hx
    rw [if_pos vD_]; clear hx; go_enter Tryz.func142, Tryz.ntmps142; go_wp2; refine wp_loop_rounds 3 ?_
    iterate 1 (rw [rounds_succ]; go_wp2)
    go_ret; exact ⟨rfl, rfl⟩
theorem RC (a b : ByteArray) (w : World) : Calls Tryz.prog 169 #[.string a, .string b] w fun e w' => e = .returned (.int .i64 (kH a b)) /\ w = w' := by
  unfold kH; go_enter Tryz.func169, Tryz.ntmps169; go_wp2; rw [run_callFunc_extern Tryz.func181 vP_ vP_ vP_ (e := Extern.BytealgCompare.compare) vP_, Lib.run_compareString]; simp only [Result.andThen]; rw [Oper.upon_value]; go_wp2; go_ret; exact ⟨rfl, rfl⟩
theorem Vw (a b : ByteArray) (w : World) : Calls Tryz.prog 144 #[.string a, .string b] w fun e w' => e = .returned (.int .i64 (kH a b)) /\ w = w' := by
  go_enter Tryz.func144, Tryz.ntmps144
  go_wp2_with (go_at_call 169; refine (RC _ _ _).mono ?_; rintro e w' ⟨rfl, rfl⟩)
  go_ret; exact ⟨rfl, rfl⟩
def xP (a b : V) : Int := U7 (XV (bare a).k (bare b).k) (XV (bare a).n (bare b).n) (kH (bare a).s (bare b).s)
theorem qK (a b : V) (w : World) : Calls Tryz.prog 109 #[a.val, b.val] w fun e w' => e = .returned (.int .i64 (xP a b)) /\ za w w' := by
  unfold V.val; go_enter Tryz.func109, Tryz.ntmps109; go_wp2; refine zd (fun W => zc W w.heap.size 24 #[.int .i64 a.k, .int .i64 a.n, .string a.s] /\ zc W (w.heap.size + 1) 24 #[.int .i64 b.k, .int .i64 b.n, .string b.s] /\ za w W) ⟨(zc.new _ _ _).al _, zc.new' _ _ _ vV_, ((za.refl _).al _).al _⟩ ?_; rintro W ⟨A1, A2, G1⟩; apply zb 4 vP_ vP_
  case h' =>
    intro Q0 hQ0; simp only [List.take_succ_cons, List.take_zero]
    repeat (
      apply jh
      case h1 =>
        intro w1 hw1 hF K hK; obtain ⟨c1, f1⟩ := (zc.grow A1 hw1).rules; obtain ⟨c2, f2⟩ := (zc.grow A2 hw1).rules; go_simp
        first
          | exact hK _ (za.refl _)
          | (go_at_call 78; (with_reducible refine (Yw _ _).mono ?_); rintro e w' ⟨rfl, hg⟩; exact ⟨_, rfl, hK _ hg⟩)
      intro K hK; go_simp; apply hK
      clear hK K)
    refine zk ?_; intro w1 hw1 hF; clear hF; have B1 := zc.grow A1 hw1; have B2 := zc.grow A2 hw1; obtain ⟨c1, f1⟩ := B1.rules; obtain ⟨c2, f2⟩ := B2.rules; apply hQ0; clear hQ0; simp only [List.drop_succ_cons, List.drop_zero]; go_wp2; clear c1 f1 c2 f2
    refine zd (fun W => zc W w.heap.size 24 #[.int .i64 (bare a).k, .int .i64 (bare a).n, .string (bare a).s] /\ zc W (w.heap.size + 1) 24 #[.int .i64 (bare b).k, .int .i64 (bare b).n, .string (bare b).s] /\ za w W)
      ⟨(((((B1.set 0 _).set 1 _).set 2 _).far vV_ _).far vV_ _).far vV_ _, (((((B2.far vV_ _).far vV_ _).far vV_ _).set 0 _).set 1 _).set 2 _, ((((((G1.trans (hw1)).set vV_ _).set vV_ _).set vV_ _).set vV_ _).set vV_ _).set vV_ _⟩ ?_
    clear G1 A1 A2 B1 B2 hw1 w1 Q0 W; rintro W ⟨A1, A2, G1⟩; apply zb 18 vP_ vP_
    case h' =>
      intro Q0 hQ0; simp only [List.take_succ_cons, List.take_zero]
      repeat (
        apply jh
        case h1 =>
          intro w1 hw1 hF K hK; obtain ⟨c1, f1⟩ := (zc.grow A1 hw1).rules; obtain ⟨c2, f2⟩ := (zc.grow A2 hw1).rules; go_simp
          first
            | exact hK _ (za.refl _)
            | (go_at_call 110; (with_reducible refine (Pr _ _ _).mono ?_); rintro e w' ⟨rfl, rfl⟩; exact ⟨_, rfl, hK _ (za.refl _)⟩)
            | (go_at_call 143; (with_reducible refine (RD _ _ _).mono ?_); rintro e w' ⟨rfl, rfl⟩; exact ⟨_, rfl, hK _ (za.refl _)⟩)
            | (go_at_call 144; (with_reducible refine (Vw _ _ _).mono ?_); rintro e w' ⟨rfl, rfl⟩; exact ⟨_, rfl, hK _ (za.refl _)⟩)
        intro K hK; go_simp; apply hK
        clear hK K)
      apply WW (D := fun v w => ∃ g, v = .slice (some ⟨g, 0, none⟩) 3 3 /\ zc w g 3 #[.int .i64 (XV (bare a).k (bare b).k), .int .i64 (XV (bare a).n (bare b).n), .int .i64 (kH (bare a).s (bare b).s)])
      case h1 => exact vY_
      intro v K hK; go_simp; apply hK; clear hK K; apply jh
      case h1 =>
        intro w1 hw1 hF K hK; obtain ⟨g, rfl, hg⟩ := hF _ (List.mem_cons_self ..) ⟨_, rfl, by simp [Oper.looksAt, Op.operands, Call.operands]⟩; go_simp
        go_at_call 142
        (with_reducible refine (Ue _ _ _ _ _ _ (hg.cells rfl) (hg.cells rfl) (hg.cells rfl)).mono ?_)
        rintro e w' ⟨rfl, rfl⟩; exact ⟨_, rfl, hK _ (za.refl _)⟩
      intro K hK; go_simp; apply hK; clear hK K; apply jh
      case h1 =>
        intro w1 hw1 hF K hK; go_simp; exact hK _ (za.refl _)
      intro K hK; go_simp; apply hK; clear hK K; refine zk ?_; intro w1 hw1 hF; clear hF; apply hQ0; clear hQ0; simp only [List.drop_succ_cons, List.drop_zero]; go_wp2; go_ret; exact ⟨rfl, G1.trans hw1⟩
    case hp' => exact ⟨fun v w w' hg ⟨g, e, hb⟩ => ⟨g, e, hb.grow hg⟩, trivial⟩
  case hp' => trivial
def xO (b : Bool) : V := ⟨2, if b then 1 else 0, es⟩
theorem Yz (b : Bool) (w : World) : Calls Tryz.prog 124 #[.bool b] w fun e w' => e = .returned (xO b).val /\ za w w' := by
  cases b
  · exact wg_
  · exact wg_
def xt (n : Int) : V := if -1000000000000000 <= n /\ n <= 1000000000000000 then ⟨3, n, es⟩ else ⟨1, 0, es⟩
theorem kp (n : Int) (w : World) : Calls Tryz.prog 150 #[.int .i64 n] w fun e w' => e = .returned (xt n).val /\ za w w' := by
  by_cases h1 : 1000000000000000 < n
  · exact us_
  · by_cases h2 : n < -1000000000000000
    · exact us_
    · have e1 : xt n = ⟨3, n, es⟩ := by unfold xt; rw [if_pos vU_]
      rw [e1]; clear e1; go_enter Tryz.func150, Tryz.ntmps150; go_wp2; exact qX_ (by simp [results, Tryz.results150, go_sem]) rfl ⟨rfl, zi⟩
def ym (v : V) : Int := if v.k = 2 then 2 * v.n else 1
def RB (v : V) : Prop := v.k = 2 -> 0 <= v.n /\ v.n <= 1
theorem j4 (v : V) (h : RB v) (w : World) : Calls Tryz.prog 117 #[v.val] w fun e w' => e = .returned (.int .i64 (ym v)) /\ za w w' := by
  unfold V.val
  by_cases h1 : v.k = 2
  · have hd1 : (v.k != 2) = false := by simpa using h1
    have e1 : ym v = 2 * v.n := by simp [ym, h1]
    obtain ⟨h0, h2⟩ := h h1; rw [e1]; clear e1 h1; go_enter Tryz.func117, Tryz.ntmps117; go_wp2; go_ret; exact ⟨rfl, (za.refl _).al _⟩
  · have hd1 : (v.k != 2) = true := by simpa using h1
    have e1 : ym v = 1 := by simp [ym, h1]
    rw [e1]; clear e1 h1; go_enter Tryz.func117, Tryz.ntmps117; go_wp2; go_ret; exact ⟨rfl, (za.refl _).al _⟩
def yU (n : Int) : V := if n = 1 then ⟨1, 0, es⟩ else xO (n == 2)
theorem Ye (n : Int) (w : World) : Calls Tryz.prog 149 #[.int .i64 n] w fun e w' => e = .returned (yU n).val /\ za w w' := by
  by_cases h1 : n = 1
  · have hd1 : (n == 1) = true := by simpa using h1
    have e1 : yU n = ⟨1, 0, es⟩ := by simp [yU, h1]
    rw [e1]; clear e1 h1; go_enter Tryz.func149, Tryz.ntmps149
    go_wp2_with ((go_at_call 115; ((with_reducible refine (jX _).mono ?_); rintro e w' ⟨rfl, hg⟩; obtain ⟨hc, hf, hz⟩ := hg.rules)))
    exact qX_ oT_ rfl ⟨rfl, zi⟩
  · have hd1 : (n == 1) = false := by simpa using h1
    have e1 : yU n = xO (n == 2) := by simp [yU, h1]
    rw [e1]; clear e1 h1; go_enter Tryz.func149, Tryz.ntmps149
    go_wp2_with ((go_at_call 124; ((with_reducible refine (Yz _ _).mono ?_); rintro e w' ⟨rfl, hg⟩; obtain ⟨hc, hf, hz⟩ := hg.rules)))
    exact qX_ oT_ rfl ⟨rfl, zi⟩
def jf (a b : V) : Bool := decide (a.k = b.k /\ a.k ≠ 1)
theorem Xo (a b : V) (w : World) : Calls Tryz.prog 172 #[a.val, b.val] w fun e w' => e = .returned (.bool (jf a b)) /\ za w w' := by
  unfold V.val
  by_cases h1 : a.k = b.k
  · have hd1 : (a.k == b.k) = true := by simpa using h1
    by_cases h2 : b.k = 1
    · have hd2 : (b.k != 1) = false := by simpa using h2
      have hd3 : (a.k != 1) = false := by simpa [h1] using h2
      have e1 : jf a b = false := by simp [jf, h1, h2]
      rw [e1]; clear e1 h1 h2; go_enter Tryz.func172, Tryz.ntmps172; go_wp2; go_ret; exact ⟨rfl, zi⟩
    · have hd2 : (b.k != 1) = true := by simpa using h2
      have hd3 : (a.k != 1) = true := by simpa [h1] using h2
      have e1 : jf a b = true := by simp [jf, h1, h2]
      rw [e1]; clear e1 h1 h2; go_enter Tryz.func172, Tryz.ntmps172; go_wp2; go_ret; exact ⟨rfl, zi⟩
  · have hd1 : (a.k == b.k) = false := by simpa using h1
    have e1 : jf a b = false := by simp [jf, h1]
    rw [e1]; clear e1 h1; go_enter Tryz.func172, Tryz.ntmps172; go_wp2; go_ret; exact ⟨rfl, zi⟩
theorem YZ (v : V) (h : RB v) (w : World) : Calls Tryz.prog 86 #[v.val] w fun e w' => e = .returned (.bool (ym v == 2)) /\ za w w' := by
  unfold V.val; go_enter Tryz.func86, Tryz.ntmps86
  go_wp2_with ((go_at_call 117; ((with_reducible refine (j4 v h _).mono ?_); rintro e w' ⟨rfl, hg⟩; obtain ⟨hc, hf, hz⟩ := hg.rules)))
  go_ret; exact ⟨rfl, ((za.refl _).al _).trans hg⟩
theorem YR (v : V) (h : RB v) : 0 <= ym v /\ ym v <= 2 := by
  unfold ym; split
  · rename_i hk; have := h hk; omega
  · omega
theorem VY (v : V) (h : RB v) (w : World) : Calls Tryz.prog 119 #[v.val] w fun e w' => e = .returned (yU (2 - ym v)).val /\ za w w' := by
  obtain ⟨hr1, hr2⟩ := YR v h; unfold V.val; go_enter Tryz.func119, Tryz.ntmps119
  go_wp2_with (first | (go_at_call 117; ((with_reducible refine (j4 v h _).mono ?_); rintro e w' ⟨rfl, hg⟩; obtain ⟨hc, hf, hz⟩ := hg.rules)) | (go_at_call 149; ((with_reducible refine (Ye _ _).mono ?_); rintro e w2' ⟨rfl, hg2⟩; replace hg := hg.trans hg2; clear hg2 hc hf hz; obtain ⟨hc, hf, hz⟩ := hg.rules)))
  exact qX_ (by simp [results, Tryz.results119, go_sem, hc]) rfl ⟨rfl, zi⟩
def Ff (x y : Int) : Int := if y < x then y else x
def Fe (x y : Int) : Int := if x < y then y else x
def kG (a b : V) : V := yU (Ff (ym a) (ym b))
def K5 (a b : V) : V := yU (Fe (ym a) (ym b))
def js (a : V) : V := yU (2 - ym a)
theorem Vk (a b : V) (ha : RB a) (hb : RB b) (w : World) : Calls Tryz.prog 120 #[a.val, b.val] w fun e w' => e = .returned (kG a b).val /\ za w w' := by
  obtain ⟨ra1, ra2⟩ := YR a ha; obtain ⟨rb1, rb2⟩ := YR b hb; unfold V.val; have em : (if ym b < ym a then ym b else ym a) = Ff (ym a) (ym b) := rfl; go_enter Tryz.func120, Tryz.ntmps120; go_wp2
  refine zd (fun W => zc W w.heap.size 24 #[.int .i64 a.k, .int .i64 a.n, .string a.s] /\ zc W (w.heap.size + 1) 24 #[.int .i64 b.k, .int .i64 b.n, .string b.s] /\ zc W (w.heap.size + 2) 24 #[.int .i64 0, .int .i64 0, .string es] /\ za w W)
    ⟨((zc.new _ _ _).al _).al _, (zc.new' _ _ _ vV_).al _, zc.new' _ _ _ vV_, (((za.refl _).al _).al _).al _⟩ ?_
  rintro W ⟨A1, A2, A3, G1⟩; apply zb 6 vP_ vP_
  case h' =>
    intro Q0 hQ0; simp only [List.take_succ_cons, List.take_zero]
    repeat ((first | ((first | apply zh rfl | apply zo rfl rfl rfl); case h1 => (intro w1 hw1 hF K hK; obtain ⟨c1, f1⟩ := (zc.grow A1 hw1).rules; obtain ⟨c2, f2⟩ := (zc.grow A2 hw1).rules; go_simp; first | exact hK _ (za.refl _) | (go_at_call 117; ((with_reducible refine (j4 a ha _).mono ?_); rintro e w' ⟨rfl, hg⟩; exact ⟨_, rfl, hK _ hg⟩)) | (go_at_call 117; ((with_reducible refine (j4 b hb _).mono ?_); rintro e w' ⟨rfl, hg⟩; exact ⟨_, rfl, hK _ hg⟩)) | (go_at_call 149; ((with_reducible refine (Ye _ _).mono ?_); rintro e w' ⟨rfl, hg⟩; exact ⟨_, rfl, hK _ hg⟩)))) | apply zm rfl rfl rfl rfl); intro K hK; go_simp; apply hK; clear hK K)
    refine zk ?_; intro w1 hw1 hF; apply hQ0; clear hQ0; simp only [List.drop_succ_cons, List.drop_zero]; clear hF; obtain ⟨c3, f3⟩ := (zc.grow A3 hw1).rules; go_wp2; exact qX_ (by simp [results, Tryz.results120, go_sem, c3, kG]) rfl ⟨rfl, zi⟩
  case hp' => trivial
theorem DW (a b : V) (ha : RB a) (hb : RB b) (w : World) : Calls Tryz.prog 121 #[a.val, b.val] w fun e w' => e = .returned (K5 a b).val /\ za w w' := by
  obtain ⟨ra1, ra2⟩ := YR a ha; obtain ⟨rb1, rb2⟩ := YR b hb; unfold V.val; have em : (if ym a < ym b then ym b else ym a) = Fe (ym a) (ym b) := rfl; go_enter Tryz.func121, Tryz.ntmps121; go_wp2
  refine zd (fun W => zc W w.heap.size 24 #[.int .i64 a.k, .int .i64 a.n, .string a.s] /\ zc W (w.heap.size + 1) 24 #[.int .i64 b.k, .int .i64 b.n, .string b.s] /\ zc W (w.heap.size + 2) 24 #[.int .i64 0, .int .i64 0, .string es] /\ za w W)
    ⟨((zc.new _ _ _).al _).al _, (zc.new' _ _ _ vV_).al _, zc.new' _ _ _ vV_, (((za.refl _).al _).al _).al _⟩ ?_
  rintro W ⟨A1, A2, A3, G1⟩; apply zb 6 vP_ vP_
  case h' =>
    intro Q0 hQ0; simp only [List.take_succ_cons, List.take_zero]
    repeat ((first | ((first | apply zh rfl | apply zo rfl rfl rfl); case h1 => (intro w1 hw1 hF K hK; obtain ⟨c1, f1⟩ := (zc.grow A1 hw1).rules; obtain ⟨c2, f2⟩ := (zc.grow A2 hw1).rules; go_simp; first | exact hK _ (za.refl _) | (go_at_call 117; ((with_reducible refine (j4 a ha _).mono ?_); rintro e w' ⟨rfl, hg⟩; exact ⟨_, rfl, hK _ hg⟩)) | (go_at_call 117; ((with_reducible refine (j4 b hb _).mono ?_); rintro e w' ⟨rfl, hg⟩; exact ⟨_, rfl, hK _ hg⟩)) | (go_at_call 149; ((with_reducible refine (Ye _ _).mono ?_); rintro e w' ⟨rfl, hg⟩; exact ⟨_, rfl, hK _ hg⟩)))) | apply zm rfl rfl rfl rfl); intro K hK; go_simp; apply hK; clear hK K)
    refine zk ?_; intro w1 hw1 hF; apply hQ0; clear hQ0; simp only [List.drop_succ_cons, List.drop_zero]; clear hF; obtain ⟨c3, f3⟩ := (zc.grow A3 hw1).rules; go_wp2; exact qX_ (by simp [results, Tryz.results121, go_sem, c3, K5]) rfl ⟨rfl, zi⟩
  case hp' => trivial
end Go.Proofs.YthhbiemnbkfobaaGreat
namespace Go.Proofs.YthhbiemnbkfobaaGreat
open Go.RowKit Go.Calm
theorem zx {k : IntKind} {a b : Int} {P : Prop} (h : a = b) (p : P) : Ending.returned (.int k a) = .returned (.int k b) /\ P := ⟨by rw [h], p⟩
theorem jq {a b : Bool} {P : Prop} (h : a = b) (p : P) : Ending.returned (.bool a) = .returned (.bool b) /\ P := ⟨by rw [h], p⟩
def yC (v : V) : Int :=
  if v.k = 1 then 0
  else if v.k = 2 then (if v.n = 0 \/ v.n = 1 then 0 else 3)
  else if v.k = 3 then (if -1000000000000000 <= v.n /\ v.n <= 1000000000000000 then 0 else 3)
  else if v.k = 4 then (if v.s.size <= 60 then 0 else 4)
  else 1
theorem qA (v : V) (w : World) : Calls Tryz.prog 83 #[v.val] w fun e w' => e = .returned (.int .i64 (yC v)) /\ za w w' := by
  unfold V.val; go_enter Tryz.func83, Tryz.ntmps83; go_wp2
  all_goals
    go_ret; refine zx ?_ zi
    (try simp only [beq_iff_eq, beq_eq_false_iff_ne, bne_iff_ne, ne_eq, bne_eq_false_iff_eq, Bool.not_eq_true', Bool.not_eq_false', decide_eq_true_eq, decide_eq_false_iff_not] at *)
    unfold yC
    repeat' split
    all_goals first | rfl | omega
structure RV (v : V) : Prop where
  kind : v.k = 1 \/ v.k = 2 \/ v.k = 3 \/ v.k = 4
  bool : v.k = 2 -> v.n = 0 \/ v.n = 1
  int : v.k = 3 -> -1000000000000000 <= v.n /\ v.n <= 1000000000000000
  text : v.k = 4 -> v.s.size <= 60
theorem RV.of (v : V) : yC v = 0 ↔ RV v := by
  constructor
  · intro h
    unfold yC at h
    constructor
    · split at h
      · omega
      · split at h
        · omega
        · split at h
          · omega
          · split at h
            · omega
            · omega
    · intro hk
      simp only [hk] at h; simp at h; omega
    · intro hk
      simp only [hk] at h; simp at h; omega
    · intro hk
      simp only [hk] at h; simp at h; exact h
  · rintro ⟨h1, h2, h3, h4⟩
    unfold yC
    repeat' split
    all_goals first | rfl | omega
theorem RV.rb {v : V} (h : RV v) : RB v := fun hk => by have := h.bool hk; omega
def VN (v : V) (b : Bool) : Bool := decide (v.k = 2) && (decide (v.n = 1) == b)
def zX (a b : V) : Int :=
  if a.k < b.k then -1 else if b.k < a.k then 1 else if a.k = 1 then 0
  else if a.k = 4 then kH a.s b.s
  else (if a.n < b.n then -1 else if b.n < a.n then 1 else 0)
def LS (a b : V) : V := if jf a b then xO (xP a b == 0) else ⟨1, 0, es⟩
def xS (a b : V) : V := if jf a b then xO (decide (xP a b < 0)) else ⟨1, 0, es⟩
theorem TA (a b : V) (w : World) : Calls Tryz.prog 151 #[a.val, b.val] w fun e w' => e = .returned (LS a b).val /\ za w w' := by
  cases hal : jf a b
  · have e : LS a b = ⟨1, 0, es⟩ := by simp [LS, hal]
    rw [e]; clear e; unfold V.val; go_enter Tryz.func151, Tryz.ntmps151
    go_wp2_with (first | (go_at_call 172; ((with_reducible refine (Xo a b _).mono ?_); rintro e w' ⟨rfl, hg⟩; obtain ⟨hc, hf, hz⟩ := hg.rules)) | (go_at_call 115; ((with_reducible refine (jX _).mono ?_); rintro e w2' ⟨rfl, hg2⟩; replace hg := hg.trans hg2; clear hg2 hc hf hz; obtain ⟨hc, hf, hz⟩ := hg.rules)))
    exact qX_ oU_ rfl ⟨rfl, zi⟩
  · have e : LS a b = xO (xP a b == 0) := by simp [LS, hal]
    rw [e]; clear e; unfold V.val; go_enter Tryz.func151, Tryz.ntmps151
    go_wp2_with (first | (go_at_call 172; ((with_reducible refine (Xo a b _).mono ?_); rintro e w' ⟨rfl, hg⟩; obtain ⟨hc, hf, hz⟩ := hg.rules)) | (go_at_call 109; ((with_reducible refine (qK a b _).mono ?_); rintro e w2' ⟨rfl, hg2⟩; replace hg := hg.trans hg2; clear hg2 hc hf hz; obtain ⟨hc, hf, hz⟩ := hg.rules)) | (go_at_call 124; ((with_reducible refine (Yz _ _).mono ?_); rintro e w2' ⟨rfl, hg2⟩; replace hg := hg.trans hg2; clear hg2 hc hf hz; obtain ⟨hc, hf, hz⟩ := hg.rules)))
    exact qX_ oU_ rfl ⟨rfl, zi⟩
theorem YK (a b : V) (w : World) : Calls Tryz.prog 152 #[a.val, b.val] w fun e w' => e = .returned (xS a b).val /\ za w w' := by
  cases hal : jf a b
  · have e : xS a b = ⟨1, 0, es⟩ := by simp [xS, hal]
    rw [e]; clear e; unfold V.val; go_enter Tryz.func152, Tryz.ntmps152
    go_wp2_with (first | (go_at_call 172; ((with_reducible refine (Xo a b _).mono ?_); rintro e w' ⟨rfl, hg⟩; obtain ⟨hc, hf, hz⟩ := hg.rules)) | (go_at_call 115; ((with_reducible refine (jX _).mono ?_); rintro e w2' ⟨rfl, hg2⟩; replace hg := hg.trans hg2; clear hg2 hc hf hz; obtain ⟨hc, hf, hz⟩ := hg.rules)))
    exact qX_ oV_ rfl ⟨rfl, zi⟩
  · have e : xS a b = xO (decide (xP a b < 0)) := by simp [xS, hal]
    rw [e]; clear e; unfold V.val; go_enter Tryz.func152, Tryz.ntmps152
    go_wp2_with (first | (go_at_call 172; ((with_reducible refine (Xo a b _).mono ?_); rintro e w' ⟨rfl, hg⟩; obtain ⟨hc, hf, hz⟩ := hg.rules)) | (go_at_call 109; ((with_reducible refine (qK a b _).mono ?_); rintro e w2' ⟨rfl, hg2⟩; replace hg := hg.trans hg2; clear hg2 hc hf hz; obtain ⟨hc, hf, hz⟩ := hg.rules)) | (go_at_call 124; ((with_reducible refine (Yz _ _).mono ?_); rintro e w2' ⟨rfl, hg2⟩; replace hg := hg.trans hg2; clear hg2 hc hf hz; obtain ⟨hc, hf, hz⟩ := hg.rules)))
    exact qX_ oV_ rfl ⟨rfl, zi⟩
def Y8 (w : World) (g o : Nat) (v : V) : Prop := w.cell? ⟨g, o, none⟩ = some (.int .i64 v.k) /\ w.cell? ⟨g, o + 1, none⟩ = some (.int .i64 v.n) /\ w.cell? ⟨g, o + 2, none⟩ = some (.string v.s)
def xd (w : World) (A : Option Addr) (xs : List V) : Prop := ∀ i x, xs[i]? = some x -> ∃ g o, A = some ⟨g, o, none⟩ /\ Y8 w g (o + i * 3) x
theorem Y8.grow {w w' : World} {g o : Nat} {v : V} (h : Y8 w g o v) (hg : za w w') : Y8 w' g o v := ⟨hg.cell h.1, hg.cell h.2.1, hg.cell h.2.2⟩
theorem xd.grow {w w' : World} {A : Option Addr} {xs : List V} (h : xd w A xs) (hg : za w w') : xd w' A xs := fun i x hx => by
  obtain ⟨g, o, hA, hc⟩ := h i x hx; exact ⟨g, o, hA, hc.grow hg⟩
def zB (f : V -> V -> Int) : List V -> List V -> Int
  | [], [] => 0
  | [], _ :: _ => -1
  | _ :: _, [] => 1
  | a :: l, b :: m => if f a b = 0 then zB f l m else f a b
theorem We (f : V -> V -> Int) (xs ys : List V) (k : Nat) (x y : V) (hx : xs[k]? = some x) (hy : ys[k]? = some y) :
    zB f (xs.drop k) (ys.drop k) = if f x y = 0 then zB f (xs.drop (k + 1)) (ys.drop (k + 1)) else f x y := by
  obtain ⟨h1, e1⟩ := qQ9.1 hx; obtain ⟨h2, e2⟩ := qQ9.1 hy; rw [List.drop_eq_getElem_cons h1, List.drop_eq_getElem_cons h2, e1, e2]; rfl
theorem N1 (f : V -> V -> Int) (xs ys : List V) (k : Nat) (hx : k < xs.length) (hy : ys.length = k) : zB f (xs.drop k) (ys.drop k) = 1 := by
  rw [List.drop_eq_getElem_cons hx, List.drop_eq_nil_of_le (by omega : ys.length <= k)]; rfl
theorem Sy (f : V -> V -> Int) (xs ys : List V) (k : Nat) (hx : xs.length = k) (hy : k <= ys.length) : zB f (xs.drop k) (ys.drop k) = XV (xs.length : Int) (ys.length : Int) := by
  rw [List.drop_eq_nil_of_le (by omega : xs.length <= k)]; unfold XV
  by_cases h : k < ys.length
  · rw [List.drop_eq_getElem_cons h, if_pos vU_]; rfl
  · rw [List.drop_eq_nil_of_le (by omega : ys.length <= k), if_neg vU_, if_neg vU_]; rfl
theorem qd (xs ys : List V) (A B : Option Addr) (c d : Nat) (w : World) (hlx : xs.length <= 9223372036854775807) (hly : ys.length <= 9223372036854775807) (hx : xd w A xs) (hy : xd w B ys) :
    Calls Tryz.prog 74 #[.slice A xs.length c, .slice B ys.length d] w fun e w' => e = .returned (.int .i64 (zB xP xs ys)) /\ za w w' := by
  have Hx := hh_ hx; have Hy := hh_ hy; clear hx hy; go_enter Tryz.func74, Tryz.ntmps74; go_wp2
  go_loopw [10] (fun i wr => ∃ k : Nat, k <= xs.length /\ k <= ys.length /\ i = .int .i64 k /\ zB xP xs ys = zB xP (xs.drop k) (ys.drop k) /\ za w wr) (fun i _ => xs.length - (intOf i).toNat)
  case atStart => exact ⟨0, Nat.zero_le _, Nat.zero_le _, rfl, rfl, za.refl _⟩
  case round =>
    obtain ⟨k, hk, hk', rfl, heq, hg⟩ := hrel; have Heq := hh_ heq; clear heq
    by_cases hlt : k < xs.length
    · obtain ⟨x, hxk⟩ : ∃ x, xs[k]? = some x := ⟨_, qQ_ hlt⟩
      obtain ⟨g, o, rfl, hc1, hc2, hc3⟩ := Hx.out k x hxk; have c1 := hg.cell hc1; have c2 := hg.cell hc2; have c3 := hg.cell hc3; have Hxk := hh_ hxk; clear hc1 hc2 hc3 hxk
      by_cases hlt2 : k < ys.length
      · have hne : ((k : Int) == (ys.length : Int)) = false := by rw [beq_eq_false_iff_ne]; omega
        obtain ⟨y, hyk⟩ : ∃ y, ys[k]? = some y := ⟨_, qQ_ hlt2⟩
        obtain ⟨g2, o2, rfl, hd1, hd2, hd3⟩ := Hy.out k y hyk; have Hyk := hh_ hyk; clear hyk; go_wp2; refine zd (fun W => zc W wr.heap.size 24 #[.int .i64 x.k, .int .i64 x.n, .string x.s] /\ za w W) ⟨zc.new _ _ _, hg.al _⟩ ?_; rintro W ⟨A1, G1⟩; have b0 : (0 : Int) <= (k : Int) := by omega
        have b1 : (k : Int) < (ys.length : Int) := by omega
        have Hd : Hid (Y8 w g2 (o2 + k * 3) y) := hh_ ⟨hd1, hd2, hd3⟩; clear c1 c2 c3 hd1 hd2 hd3; apply zb 7 vP_ vP_
        case h' =>
          intro Q0 hQ0; simp only [List.take_succ_cons, List.take_zero]
          repeat ((first | ((first | apply zh rfl | apply zo rfl rfl rfl); case h1 => (intro w1 hw1 hF K hK; obtain ⟨a1, f1⟩ := (zc.grow A1 hw1).rules; obtain ⟨d1, d2, d3⟩ := Hd.out.grow (G1.trans hw1); go_simp; first | exact hK _ (za.refl _) | (go_at_call 109; ((with_reducible refine (qK x y _).mono ?_); rintro e w' ⟨rfl, hg⟩; exact ⟨_, rfl, hK _ hg⟩)))) | apply zm rfl rfl rfl rfl); intro K hK; go_simp; apply hK; clear hK K)
          refine zk ?_; intro w1 hw1 hF; apply hQ0; clear hQ0; simp only [List.drop_succ_cons, List.drop_zero]; clear hF; have G2 := G1.trans hw1
          by_cases h0 : xP x y = 0
          · have d0 : (xP x y != 0) = false := by simpa using h0
            have H0 := hh_ h0; clear h0; go_wp2; go_roundw
            case rel => exact ⟨k + 1, by omega, by omega, by go_num, by rw [Heq.out, We xP xs ys k x y Hxk.out Hyk.out, if_pos H0.out], G2⟩
            case measure => exact vZ_
          · have d0 : (xP x y != 0) = true := by simpa using h0
            have H0 := hh_ h0; clear h0; go_wp2; go_ret; exact zx (by rw [Heq.out, We xP xs ys k x y Hxk.out Hyk.out, if_neg H0.out]) G2
        case hp' => trivial
      · have hne : ((k : Int) == (ys.length : Int)) = true := by rw [beq_iff_eq]; omega
        go_wp2; go_ret; exact zx (by rw [Heq.out, N1 xP xs ys k hlt vU_]) (hg.al _)
    · have Fin := hh_ (Sy xP xs ys k vU_ hk')
      go_wp2_with ((go_at_call 110; ((with_reducible refine (Pr _ _ _).mono ?_); rintro e w' ⟨rfl, rfl⟩)))
      go_ret; exact zx (by rw [Heq.out, Fin.out]) hg
theorem XT (v : V) : (bare v).k = v.k := by
  unfold bare; split
  · simp_all
  · split <;> simp_all
theorem Kg (a b : V) (ha : RV a) (hb : RV b) : xP a b = zX a b := by
  unfold xP zX U7
  by_cases h1 : a.k < b.k
  · have := XT a
    have hb' := XT b; simp [this, hb', XV, h1]
  · by_cases h2 : b.k < a.k
    · have := XT a
      have hb' := XT b; simp [this, hb', XV, h1, h2]
    · have hk : a.k = b.k := by omega
      have hak := ha.kind
      by_cases h3 : b.k = 1
      · simp [bare, hk, h3, XV, W0]
      · by_cases h4 : b.k = 4
        · simp [bare, hk, h4, XV]
        · simp [bare, hk, h3, h4, XV, W0]
          intro h; exact h.symm
theorem ya (a b : V) : zX b a = - zX a b := by
  unfold zX; rcases Int.lt_trichotomy a.k b.k with h | h | h
  · rw [if_neg vU_, if_pos h, if_pos h]; rfl
  · rw [h]
    simp only [Int.lt_irrefl, if_false]
    by_cases h1 : b.k = 1
    · simp [h1]
    · by_cases h4 : b.k = 4
      · simp [h4, Rz a.s b.s]
      · simp only [h1, h4, if_false]
        repeat' split
        all_goals omega
  · rw [if_pos h, if_neg vU_, if_pos h]
theorem kt (a b : V) : zX a b = -1 \/ zX a b = 0 \/ zX a b = 1 := by
  unfold zX; have := Ng a.s b.s
  repeat' split
  all_goals omega
theorem KH {a b : V} (h : a.k < b.k) : zX a b = -1 := by unfold zX; rw [if_pos h]
theorem KG {a b : V} (h : b.k < a.k) : zX a b = 1 := by unfold zX; rw [if_neg vU_, if_pos h]
theorem Zi {a b : V} (h : a.k = b.k) : zX a b = if a.k = 1 then 0 else if a.k = 4 then kH a.s b.s else if a.n < b.n then -1 else if b.n < a.n then 1 else 0 := by
  unfold zX; rw [if_neg vU_, if_neg vU_]
theorem Yd (a b c : V) : zX a b <= 0 -> zX b c <= 0 -> zX a c <= 0 := by
  intro h1 h2; rcases Int.lt_trichotomy a.k b.k with h | h | h
  · rcases Int.lt_trichotomy b.k c.k with k | k | k
    · rw [KH vU_]; omega
    · rw [KH vU_]; omega
    · rw [KG k] at h2; omega
  · rcases Int.lt_trichotomy b.k c.k with k | k | k
    · rw [KH vU_]; omega
    · rw [Zi h] at h1
      rw [Zi k] at h2; rw [Zi (h.trans k)]; rw [h] at h1 ⊢
      by_cases e1 : b.k = 1
      · simp [e1]
      · by_cases e4 : b.k = 4
        · simp only [e4] at h1 h2 ⊢
          exact Nh a.s b.s c.s h1 h2
        · simp only [e1, e4, if_false] at h1 h2 ⊢
          repeat' split at h1
          all_goals repeat' split at h2
          all_goals repeat' split
          all_goals omega
    · rw [KG k] at h2; omega
  · rw [KG h] at h1; omega
theorem Sp (a b : V) (ha : RV a) (hb : RV b) : zX a b = 0 ↔ bare a = bare b := by
  have hak := ha.kind; have hbk := hb.kind; have he := Vt a.s b.s; obtain ⟨ak, an, at_⟩ := a; obtain ⟨bk, bn, bt⟩ := b; simp only at *; rcases hak with rfl | rfl | rfl | rfl <;> rcases hbk with rfl | rfl | rfl | rfl <;> simp [zX, bare, he]
  all_goals
    repeat' split
    all_goals omega
theorem ZO (f : V -> V -> Int) (hf : ∀ a b, f a b = -1 \/ f a b = 0 \/ f a b = 1) : ∀ xs ys : List V, zB f xs ys = -1 \/ zB f xs ys = 0 \/ zB f xs ys = 1
  | [], [] => by simp [zB]
  | [], _ :: _ => by simp [zB]
  | _ :: _, [] => by simp [zB]
  | a :: l, b :: m => by
    unfold zB; split
    · exact ZO f hf l m
    · exact hf a b
theorem zY (f : V -> V -> Int) (hf : ∀ a b, f b a = - f a b) : ∀ xs ys : List V, zB f ys xs = - zB f xs ys
  | [], [] => by simp [zB]
  | [], _ :: _ => by simp [zB]
  | _ :: _, [] => by simp [zB]
  | a :: l, b :: m => by
    have ih := zY f hf l m; have h := hf a b; unfold zB; rw [h]
    by_cases h0 : f a b = 0
    · simp [h0, ih]
    · rw [if_neg vU_, if_neg h0]
theorem yb : ∀ xs ys : List V, (∀ x ∈ xs, RV x) -> (∀ y ∈ ys, RV y) -> zB xP xs ys = zB zX xs ys
  | [], [], _, _ => rfl
  | [], _ :: _, _, _ => rfl
  | _ :: _, [], _, _ => rfl
  | a :: l, b :: m, h, k => by
    unfold zB; rw [Kg a b (h a vV_) (k b vV_), yb l m (fun x hx => h x vQ_) (fun y hy => k y vR_)]
end Go.Proofs.YthhbiemnbkfobaaGreat
namespace Go.Proofs.YthhbiemnbkfobaaGreat
open Go.ChangeShapes Go.WideShapes Go.ChangeAt Go.RowKit Go.Calm
set_option maxRecDepth 100000
section
variable {H : Type} {enc : TypeId × Value -> H} {P : Program}
theorem XN (hl : laidOutB P = true) {W W' : World} (hb : Below W.heap.size W W') {sp : Nat -> Bool} : ∀ {ts : List TypeId} {vs : List Value} {ds : List (DataW H)} {ps : List MemPlace},
    (∀ t ∈ ts, P.readableRec t = true /\ t < P.types.size) -> DataW.TrodAll enc P W 0 (fun _ => true) true ts vs ds ps -> (∀ p ∈ ps, p.block < W.heap.size) -> (∀ p ∈ ps, sp p.block = true) -> DataW.TrodAll enc P W' 0 sp true ts vs ds ps
  | [], [], [], _, _, h, _, _ => h
  | t :: ts, v :: vs, d :: ds, ps, hr, ⟨p, q, h1, h2, e⟩, hlt, hs => by
    subst e; refine ⟨p, q, WideElems.Trod_stays hl (hr t vV_).1 (hr t vV_).2 h1 (fun x hx => hb.same (hlt x (List.mem_append_left _ hx))) (fun x hx => hs x (List.mem_append_left _ hx)), ?_, rfl⟩; exact XN hl hb (fun t' ht' => hr t' (List.mem_cons_of_mem _ ht')) h2 (fun x hx => hlt x (List.mem_append_right _ hx)) (fun x hx => hs x (List.mem_append_right _ hx))
theorem T5 {f : Func} {s : ChangeSpec} {W W' : World} {args : Array Value} {ds : List (DataW H)} {before : List MemPlace}
    (hvars : s.vars = []) (hfn : s.fn H (ds ++ []) = { results := [.lit (.bool true)], args := ds, vars := [] }) (tb : TypeId) (hres : f.resultTypes = #[tb]) (hbool : P.underlying tb = some .bool)
    (hl : laidOutB P = true) (hr : ∀ t ∈ f.params.toList, P.readableRec t = true /\ t < P.types.size)
    (hW : DataW.Whole enc P f.params.toList s.vars false W args.toList ds [] before) (hg : za W W') :
    s.post enc P f false true false false W args (.bool true) W' := by
  have hW' := hW; obtain ⟨p, q, hA, hV, rfl, hfz, hnd⟩ := hW
  have hq : q = [] := by
    rw [hvars] at hV; exact hV
  subst hq; have hlt : ∀ x ∈ p ++ [], x.block < W.heap.size := fun x hx => hW'.lt x hx
  have hlt' : ∀ x ∈ p, x.block < W.heap.size := fun x hx => hlt x vD_
  have hb := hg.below; refine ⟨ds, [], p ++ [], [], p, [], hW', ?_, ?_, ?_, ?_, fun h => by cases h⟩
  · rw [hfn, hres]
    exact trodAll_cons_mk (shut_bool hbool _) trodAll_mk0
  · rw [hfn]
    exact XN hl hb hr hA hlt' (fun x hx => by simpa using hlt' x hx)
  · rw [hvars, hfn]; exact rfl
  · exact World.keptBut_mono (fun x hx => ⟨hx, .inr vD_⟩) (hb.frame (· ∈ p ++ []))
end
section
variable {H : Type} {enc : TypeId × Value -> H} {w : World} {base : Nat} {spare : Nat -> Bool} {held : Bool}
def qp (n : Int) : Prop := -9223372036854775808 <= n /\ n <= 9223372036854775807
theorem Xi {n : Int} (h : (Lit.int .i64 n).wf = true) : qp n := by
  simpa [Lit.wf, IntKind.min, IntKind.max, IntKind.signed, IntKind.bits, qp] using h
structure VB (v : V) : Prop where
  k : qp v.k
  n : qp v.n
  s : v.s.size <= maxLen
theorem J4 {fuel : Nat} {cs : List Value} {x : DataW H × List MemPlace} (h : DataW.trod enc Tryz.prog w base spare held fuel 24 cs = some x) :
    ∃ v : V, cs = [.int .i64 v.k, .int .i64 v.n, .string v.s] /\ VB v := by
  obtain ⟨xs, n, _, _, hlen, hxl, hf⟩ := DataW.trod_struct Tryz.underlying24 h; have h3 : cs.length = 3 := by rw [hlen]; kernel_rfl
  match cs, h3 with
  | [a, b, c], _ =>
    have f0 := hf 0 _ rfl; have f1 := hf 1 _ rfl; have f2 := hf 2 _ rfl; have g : ∀ i, i < 3 -> ∃ y, xs[i]? = some y := fun i hi => ⟨xs[i]' vt_, qQ_ _⟩
    obtain ⟨y0, e0⟩ := g 0 vU_; obtain ⟨y1, e1⟩ := g 1 vU_; obtain ⟨y2, e2⟩ := g 2 vU_; rw [e0] at f0; rw [e1] at f1; rw [e2] at f2; obtain ⟨k, hk, _, wk⟩ := DataW.trod_int Tryz.underlying3 f0; obtain ⟨m, hm, _, wm⟩ := DataW.trod_int Tryz.underlying2 f1; obtain ⟨s, hs, _, ws⟩ := DataW.trod_string Tryz.underlying9 f2; have c0 : Tryz.prog.cellsOf 3 = 1 := by kernel_rfl
    have c1 : Tryz.prog.cellsOf 2 = 1 := by kernel_rfl
    have c2 : Tryz.prog.cellsOf 9 = 1 := by kernel_rfl
    simp [c0] at hk; simp [c1] at hm; simp [c2] at hs; exact ⟨⟨k, m, s⟩, by simp [hk, hm, hs], ⟨Xi wk, Xi wm, ws⟩⟩
theorem Zq {w : World} {a : Addr} {j : Nat} {v : Value} (h : w.cell? (a.add j) = some v) : a.spot = none \/ j ≠ 0 := by
  by_cases hj : j = 0
  · subst hj
    left; unfold Addr.add at h; simp only [if_true] at h; unfold World.cell? at h; split at h
    · split at h
      · cases h
      · rename_i hs; simpa using hs
    · cases h
  · exact .inr hj
theorem jN {g o n : Nat} : (Addr.mk g o none).add n = ⟨g, o + n, none⟩ := by
  unfold Addr.add; split
  · rename_i h; subst h; rfl
  · rfl
theorem qc {t e : TypeId} {fuel c : Nat} {cs : List Value} {x : DataW H × List MemPlace} (ht : Tryz.prog.underlying t = some (.slice e)) (hc : Tryz.prog.cellsOf e = c) (hc0 : 0 < c) (h : DataW.trod enc Tryz.prog w base spare held fuel t cs = some x) :
    ∃ (A : Option Addr) (len cap n : Nat) (D : Nat -> DataW H × List MemPlace), cs = [.slice A len cap] /\ len <= maxLen /\ len <= cap /\ ∀ i, i < len -> ∃ g o ys, A = some ⟨g, o, none⟩ /\ ys.length = c /\ (∀ j y, ys[j]? = some y -> w.cell? ⟨g, o + i * c + j, none⟩ = some y) /\ DataW.trod enc Tryz.prog w base spare held n e ys = some (D i) := by
  rcases DataW.trod_slice ht h with ⟨h0, _⟩ | ⟨a, len, cap, elems, rest, n, _, hcs, _, hb, hl, hm, hlen, hel, _, _⟩
  · exact ⟨none, 0, 0, 0, fun _ => (.nil, []), h0, Nat.zero_le _, Nat.le_refl _, fun i hi => by omega⟩
  · refine ⟨some a, len, cap, n, fun i => elems.getD i (.nil, []), hcs, by omega, hl, fun i hi => ?_⟩
    have get : ∀ i, i < len -> ∃ ys, w.cells? base (a.add (i * c)) c = some ys /\ DataW.trod enc Tryz.prog w base spare held n e ys = some (elems.getD i (.nil, [])) := fun i hi => v6_
    have hsp : a.spot = none := v3_
    obtain ⟨g, o, sp⟩ := a; simp only at hsp; subst hsp; obtain ⟨ys, hcell, hd⟩ := get i hi; obtain ⟨_, hyl, hat⟩ := World.cells?_some hcell; refine ⟨g, o, ys, rfl, hyl, fun j y hy => ?_, hd⟩; have hj : j < c := by rw [<- hyl]; exact (qQ9.1 hy).1
    have := hat j hj; rw [hy, jN, jN] at this; exact this
theorem Pd {fuel : Nat} {cs : List Value} {x : DataW H × List MemPlace} (h : DataW.trod enc Tryz.prog w base spare held fuel 52 cs = some x) :
    ∃ (A : Option Addr) (xs : List V) (cap : Nat), cs = [.slice A xs.length cap] /\ xd w A xs /\ xs.length <= maxLen /\ ∀ v ∈ xs, VB v := by
  obtain ⟨A, len, cap, n, D, hcs, hl, _, hi⟩ := qc (c := 3) Tryz.underlying52 vP_ vU_ h
  have pick : ∀ i, i < len -> ∃ v : V, VB v /\ ∃ g o, A = some ⟨g, o, none⟩ /\ Y8 w g (o + i * 3) v := fun i hlt => by
    obtain ⟨g, o, ys, hA, hyl, hat, hd⟩ := hi i hlt; obtain ⟨v, hv, hb⟩ := J4 hd; subst hv; exact ⟨v, hb, g, o, hA, hat 0 _ rfl, hat 1 _ rfl, hat 2 _ rfl⟩
  have build : ∀ m, m <= len -> ∃ xs : List V, xs.length = m /\ (∀ v ∈ xs, VB v) /\ xd w A xs := v0_
  obtain ⟨xs, hxl, hxb, hxs⟩ := build len (Nat.le_refl _); exact ⟨A, xs, cap, by rw [hcs, hxl], hxs, by omega, hxb⟩
end
