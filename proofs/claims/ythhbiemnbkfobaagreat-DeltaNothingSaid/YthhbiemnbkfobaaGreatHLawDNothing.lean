/-
  The law DeltaNothing. No condition beside the row's own.
-/
import Derived.Test.YthhbiemnbkfobaaGreatHLawDN0
set_option maxRecDepth 100000
set_option maxHeartbeats 8000000
set_option maxRecDepth 100000
set_option linter.unusedSimpArgs false
set_option linter.unusedVariables false
namespace Go
variable {p : Prop}
theorem vc_ (h : p := by simp [results, Tryz.results3, go_sem]) : p := h
theorem uo_ (h : p := by
 intro w1 hw1 hF K hK; obtain ⟨B, cap, hv⟩ := hF _ (List.mem_cons_self ..) ⟨_, rfl, by decide⟩; subst hv; go_simp; exact hK _ _ (za.refl _) ⟨B, cap, rfl⟩) : p := h
end Go
namespace Go.Proofs.YthhbiemnbkfobaaGreat
open Go.RowKit Go.Calm
def FE (n : Nat) (v : Value) (W : World) : Prop := ∃ g : Nat, v = .slice (some ⟨g, 0, none⟩) n n /\ zc W g 34 (List.replicate n (Value.slice none 0 0)).toArray
theorem FE.pers (n : Nat) : qT (FE n) := fun v w w' hg ⟨g, e, h⟩ => ⟨g, e, h.grow hg⟩
def Da (v : Value) (_ : World) : Prop := ∃ (B : Option Addr) (cap : Nat), v = .tuple #[.slice B 0 cap, .int .i64 0]
def Ew (v : Value) (_ : World) : Prop := ∃ (B : Option Addr) (cap : Nat), v = .slice B 0 cap
theorem Da.pers : qT Da := fun v w w' hg h => h
theorem Ew.pers : qT Ew := fun v w w' hg h => h
theorem Eg {ts : List (List Int)} {p : PL} (h : (zt ts p).2 = 0) : ts.length <= 8 := by
  unfold zt at h; split at h
  · simp at h
  · omega
theorem Ku (ts : List (L2 Int)) (At : Option Addr) (nt : Nat) (p : PL) (ds : List S) (Ad : Option Addr) (nd : Nat) (w : World) (hlt : ts.length <= zD) (hl : ∀ t ∈ ts, t.xs.length <= zD) (hts : S1 w At ts) (hp : PX w p) (hds : MT w Ad ds nd) :
    Calls Tryz.prog 3 #[.slice At ts.length nt, p.val, .slice Ad ds.length nd] w fun en w' => en = .returned (.bool true) /\ za w w' := by
  have HT := hh_ (And.intro hts (And.intro hp hds)); obtain ⟨a, e, hE⟩ : ∃ a e, QI (zF ts) p (ds.map S.z) = (a, e) := ⟨_, _, rfl⟩
  have ce := fun W (h : za w W) => Su ts At nt p ds Ad nd W hlt hl (hts.grow h) (hp.grow h) (hds.grow h)
  rw [hE] at ce
  have co : e = 0 -> ds.length <= 8 /\ ∀ W, za w W -> ∀ g, zc W g 34 (List.replicate ds.length (Value.slice none 0 0)).toArray -> Calls Tryz.prog 9 #[.slice At ts.length nt, p.val, .slice Ad ds.length nd, .slice (some ⟨g, 0, none⟩) ds.length ds.length] W fun en w' => Da (match en with | .returned v => v | _ => .bool false) w' /\ (∃ v, en = .returned v) /\ za W w' := fun he => by
    subst he; obtain ⟨c, hd, p1⟩ := E5 hE; have l8 := Eg c
    have hdl : ds.length = ts.length := wa_
    have l8' : ds.length <= 8 := by simp at l8; omega
    refine ⟨l8', fun W h g hb => ?_⟩; have hz := FS ds.length ds rfl; obtain ⟨r, en, rz⟩ := Xz hd p c p1; have k := Tx ts At nt p ds Ad nd (List.replicate ds.length zS) (some ⟨g, 0, none⟩) ds.length W hlt hl (hts.grow h) (hp.grow h) (hds.grow h) (TT hb vU_) c hd (by rw [hz]; exact W6 hd) (by rw [hz]; exact M5 (kf hd)) vV_ vU_ _ [] (fun gs => RI ⟨ts, At, nt, ds, Ad, nd, List.replicate ds.length zS, some ⟨g, 0, none⟩, ds.length⟩ gs hlt hl hd hz (by show ds.length <= 1000000; omega) p c a p1) ⟨by simp, fun x hx => by simp at hx, fun x hx => by simp at hx⟩; rw [List.length_replicate] at k; refine k.mono ?_; rintro en w' ⟨B, ys, cap, rfl, hz9, hm9, hk9, hg9⟩; obtain rfl := Qo (show ys.map zp = [] from hm9); exact ⟨⟨B, cap, rfl⟩, ⟨_, rfl⟩, hg9⟩
  unfold yK at ce; unfold PL.val at ce co ⊢; have CE := hh_ ce; have CO := hh_ co; clear hts hp hds hE ce co hl hlt; go_enter Tryz.func3, Tryz.ntmps3; go_upto_region 3 with (go_at_call 7; ((with_reducible refine (Dg _).mono ?_); rintro en w2 ⟨rfl, hg2⟩)); refine zd (fun X => zc X w.heap.size 31 (pC p) /\ za w X) ⟨(zc.new w _ _).grow hg2, ((za.refl w).al _).trans hg2⟩ ?_; rintro X ⟨BX0, G⟩; have BX := hh_ BX0; obtain ⟨bx, fx⟩ := BX0.rules; have lx := BX0.lt; clear BX0 hg2; generalize w.heap.size = gx at *; go_upto_region 4 with (go_at_call 8; ((refine (CE.out _ G).mono ?_); rintro en w4 ⟨B4, ys4, cap4, rfl, hz4, hm4, hk4, hg4⟩; clear hz4 hm4 hk4)); clear bx fx lx; have G4 := G.trans hg4
  by_cases h0 : e = 0
  · subst h0
    obtain ⟨l8, co⟩ := CO.out rfl; have CO2 := hh_ co; have mk := fun W => Sd ds.length vU_ W
    have BX4 := hh_ (BX.out.grow hg4); clear co; go_upto_region 6 with fail
    apply zb 12 vP_ vP_
    case h' =>
      intro Q0 hQ0; simp only [List.take_succ_cons, List.take_zero]
      repeat ((first | ((first | apply zh rfl | apply zo rfl rfl rfl); case h1 => (intro w1 hw1 hF K hK; obtain ⟨bx, fx⟩ := (BX4.out.grow hw1).rules; go_simp; first | exact hK _ (za.refl _))) | apply zm rfl rfl rfl rfl); intro K hK; go_simp; apply hK; clear hK K)
      apply ze (FE ds.length) rfl
      case h1 => exact vY_
      intro v28 K hK; go_simp; apply hK; clear hK K; apply ze Da rfl
      case h1 =>
        intro w1 hw1 hF K hK; obtain ⟨g, e, hb⟩ := hF _ (List.mem_cons_self ..) ⟨_, rfl, by decide⟩; subst e; go_simp
        go_at_call 9
        refine (CO2.out w1 (G4.trans hw1) g hb).mono ?_; rintro en w' ⟨h9, ⟨v, rfl⟩, hg'⟩; exact ⟨_, rfl, hK _ _ hg' h9⟩
      intro v29 K hK; go_simp; apply hK; clear hK K; apply ze Da rfl
      case h1 => exact uo_
      intro v22 K hK; go_simp; apply hK; clear hK K; apply ze Ew rfl
      case h1 => exact uo_
      intro v30 K hK; go_simp; apply hK; clear hK K; apply zh rfl
      case h1 =>
        intro w1 hw1 hF K hK; obtain ⟨B, cap, hv⟩ := hF _ (List.mem_cons_of_mem _ (List.mem_cons_self ..)) ⟨_, rfl, by decide⟩; subst hv; go_simp; exact hK _ (za.refl _)
      intro K hK; go_simp; apply hK; clear hK K; apply ze Ew rfl
      case h1 => exact uo_
      intro v9 K hK; go_simp; apply hK; clear hK K
      repeat ((first | ((first | apply zh rfl | apply zo rfl rfl rfl); case h1 => (intro w1 hw1 hF K hK; go_simp; first | exact hK _ (za.refl _))) | apply zm rfl rfl rfl rfl); intro K hK; go_simp; apply hK; clear hK K)
      refine zk ?_; intro w1 hw1 hF; apply hQ0; clear hQ0; simp only [List.drop_succ_cons, List.drop_zero]; obtain ⟨B, cap, hv⟩ := hF _ (List.mem_cons_self ..); subst hv; clear hF; go_wp2; exact qX_ (v := .bool true) vc_ rfl ⟨rfl, G4.trans hw1⟩
    case hp' => exact ⟨FE.pers _, Da.pers, Da.pers, Ew.pers, Ew.pers, trivial⟩
  · have d0 : (e != 0) = true := by simpa using h0
    go_wp2; exact qX_ (v := .bool true) vc_ rfl ⟨rfl, G4⟩
