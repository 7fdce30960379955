/-
  The law ExprsTurned: its closures.
-/
import Derived.Test.YtjhcbehnopmnpaaEvV
namespace Go.Proofs.Ytjhcbehnopmnpaa
open Go.RowKit Go.Calm
set_option linter.unusedSimpArgs false
set_option linter.unusedVariables false

section
variable (cols : List Int) (row : List V) (Ac Ar : Option Addr) (cc cr : Nat) (w0 : World) (hlc : cols.length ≤ 9223372036854775807) (hlr : row.length ≤ 9223372036854775807) (hc : ISl w0 Ac cols) (hr : VSl w0 Ar row)

include hlc hlr hc hr in
set_option maxRecDepth 100000 in
set_option maxHeartbeats 4000000 in
theorem ask_fn (e : E) (b1 b2 : Nat) (w : World) (hg : Grow w0 w) (hE : EX w e) (B1 : Blk w b1 44 #[.slice Ac cols.length cc]) (B2 : Blk w b2 22 #[.slice Ar row.length cr]) (Z : V) (hZ : askE cols row e = Z) :
    Calls Try.prog 62 #[e.val, .pointer (some ⟨b1, 0, none⟩), .pointer (some ⟨b2, 0, none⟩)] w fun en w' => en = .returned Z.val ∧ Grow w w' := by
  obtain ⟨R, ER, hR⟩ : ∃ R ER, evalE cols row e = (R, ER) := ⟨_, _, rfl⟩
  have ev := fun W (h : Grow w W) => eval_of cols row Ac Ar cc cr w0 hlc hlr hc hr e R ER hR W (hg.trans h) (hE.grow h)
  have hz : (ER != 0) = true ∧ Z = ⟨-1, 0, es⟩ ∨ (ER != 0) = false ∧ Z = R := by
    rw [← hZ]; unfold askE; rw [hR]
    by_cases h : ER = 0
    · right; simp [h]
    · left; simp [h]
  have l1 := B1.lt
  have l2 := B2.lt
  clear hZ hR hE
  unfold E.val
  go_enter Try.func62, Try.ntmps62
  go_upto_region 1 with fail
  refine wp_forget (fun X => EB X w.heap.size e ∧ VB3 X (w.heap.size + 1) ⟨0, 0, es⟩ ∧ Blk X b1 44 #[.slice Ac cols.length cc] ∧ Blk X b2 22 #[.slice Ar row.length cr] ∧ Grow w X) ⟨(Blk.new _ _ _).al _, Blk.new' _ _ _ (by simp), (B1.grow (by repeat (first | (with_reducible exact Grow.refl _) | (with_reducible assumption) | (with_reducible refine Grow.set ?_ (by first | (simp; done) | (simp; omega)) _) | (with_reducible refine Grow.al ?_ _) | (with_reducible refine Grow.drew ?_) | (with_reducible refine Grow.drewN ?_ _) | (with_reducible refine Grow.trans ?_ (by assumption))))), (B2.grow (by repeat (first | (with_reducible exact Grow.refl _) | (with_reducible assumption) | (with_reducible refine Grow.set ?_ (by first | (simp; done) | (simp; omega)) _) | (with_reducible refine Grow.al ?_ _) | (with_reducible refine Grow.drew ?_) | (with_reducible refine Grow.drewN ?_ _) | (with_reducible refine Grow.trans ?_ (by assumption))))), (by repeat (first | (with_reducible exact Grow.refl _) | (with_reducible assumption) | (with_reducible refine Grow.set ?_ (by first | (simp; done) | (simp; omega)) _) | (with_reducible refine Grow.al ?_ _) | (with_reducible refine Grow.drew ?_) | (with_reducible refine Grow.drewN ?_ _) | (with_reducible refine Grow.trans ?_ (by assumption))))⟩ ?_
  clear B1 B2
  rintro X ⟨Be, Bv, B1, B2, G⟩
  obtain ⟨ce, fe⟩ := Be.rules
  obtain ⟨c1, f1⟩ := B1.rules
  obtain ⟨c2, f2⟩ := B2.rules
  have G0 := hg.trans G
  go_upto_region 2 with (go_at_call 58; ((with_reducible refine (ev _ G).mono ?_); rintro en w2 ⟨rfl, hg2⟩; replace Bv := Bv.grow hg2; replace G := G.trans hg2; clear hg2 ce fe c1 f1 c2 f2))
  have hne : w.heap.size + 1 ≠ w2.heap.size := Nat.ne_of_lt Bv.lt
  have hne' : w2.heap.size ≠ w.heap.size + 1 := hne.symm
  refine wp_forget (fun X => VB3 X (w.heap.size + 1) ⟨0, 0, es⟩ ∧ VB3 X w2.heap.size R ∧ Grow w X) ⟨(Bv.grow (by repeat (first | (with_reducible exact Grow.refl _) | (with_reducible assumption) | (with_reducible refine Grow.set ?_ (by first | (simp; done) | (simp; omega)) _) | (with_reducible refine Grow.al ?_ _) | (with_reducible refine Grow.drew ?_) | (with_reducible refine Grow.drewN ?_ _) | (with_reducible refine Grow.trans ?_ (by assumption))))), Blk.new _ _ _, (G.trans (by repeat (first | (with_reducible exact Grow.refl _) | (with_reducible assumption) | (with_reducible refine Grow.set ?_ (by first | (simp; done) | (simp; omega)) _) | (with_reducible refine Grow.al ?_ _) | (with_reducible refine Grow.drew ?_) | (with_reducible refine Grow.drewN ?_ _) | (with_reducible refine Grow.trans ?_ (by assumption)))))⟩ ?_
  generalize w2.heap.size = q at hne hne' ⊢
  clear Bv G
  rintro Y ⟨Bv, BR, G⟩
  obtain ⟨cv, fv⟩ := Bv.rules
  obtain ⟨cR, fR⟩ := BR.rules
  rcases hz with ⟨h1, rfl⟩ | ⟨h1, rfl⟩
  · go_wp2
    exact bodyPost_ret (by simp [results, Try.results62, go_sem, cv]) rfl ⟨rfl, (by repeat (first | (with_reducible exact Grow.refl _) | (with_reducible assumption) | (with_reducible refine Grow.set ?_ (by first | (simp; done) | (simp; omega)) _) | (with_reducible refine Grow.al ?_ _) | (with_reducible refine Grow.drew ?_) | (with_reducible refine Grow.drewN ?_ _) | (with_reducible refine Grow.trans ?_ (by assumption))))⟩
  · go_wp2
    exact bodyPost_ret (by simp [results, Try.results62, go_sem, cv]) rfl ⟨rfl, (by repeat (first | (with_reducible exact Grow.refl _) | (with_reducible assumption) | (with_reducible refine Grow.set ?_ (by first | (simp; done) | (simp; omega)) _) | (with_reducible refine Grow.al ?_ _) | (with_reducible refine Grow.drew ?_) | (with_reducible refine Grow.drewN ?_ _) | (with_reducible refine Grow.trans ?_ (by assumption))))⟩

include hlc hlr hc hr in
set_option maxRecDepth 100000 in
set_option maxHeartbeats 4000000 in
theorem not_fn (k : Int) (hk : inI64 k) (x y : E) (b1 b2 bf bx byy : Nat) (w : World) (hg : Grow w0 w) (hEx : EX w x) (hEy : EX w y) (B1 : Blk w b1 44 #[.slice Ac cols.length cc]) (B2 : Blk w b2 22 #[.slice Ar row.length cr])
    (Bf : Blk w bf 55 #[.func (.func 62) #[] #[.pointer (some ⟨b1, 0, none⟩), .pointer (some ⟨b2, 0, none⟩)]]) (Bx : EB w bx x) (By : EB w byy y) (Z : V) (hZ : ∀ A B, askE cols row (oneK 3 (twoK k x y A) B) = Z) :
    Calls Try.prog 63 #[.int .i64 k, .pointer (some ⟨bf, 0, none⟩), .pointer (some ⟨bx, 0, none⟩), .pointer (some ⟨byy, 0, none⟩)] w fun en w' => en = .returned Z.val ∧ Grow w w' := by
  have i3 : inI64 3 := ⟨by decide, by decide⟩
  go_enter Try.func63, Try.ntmps63
  go_upto_region 1 with fail
  refine wp_forget (fun X => VB3 X w.heap.size ⟨0, 0, es⟩ ∧ Grow w X) ⟨Blk.new _ _ _, (by repeat (first | (with_reducible exact Grow.refl _) | (with_reducible assumption) | (with_reducible refine Grow.set ?_ (by first | (simp; done) | (simp; omega)) _) | (with_reducible refine Grow.al ?_ _) | (with_reducible refine Grow.drew ?_) | (with_reducible refine Grow.drewN ?_ _) | (with_reducible refine Grow.trans ?_ (by assumption))))⟩ ?_
  rintro X ⟨Bv, G⟩
  apply wp_region_calm 8 (by kernel_rfl) (by kernel_rfl)
  case h' =>
    intro Q0 hQ0
    simp only [List.take_succ_cons, List.take_zero]
    repeat (
      first
        | (apply calm_p rfl; case h1 => (intro w1 hw1 hF K hK; obtain ⟨cf, ff⟩ := (Blk.grow Bf (G.trans hw1)).rules; obtain ⟨cx, fx⟩ := (EB.grow Bx (G.trans hw1)).rules; obtain ⟨cy, fy⟩ := (EB.grow By (G.trans hw1)).rules; go_simp; first | exact hK _ (Grow.refl _) | fail))
        | (apply calm_y rfl rfl rfl; case h1 => (intro w1 hw1 hF K hK; obtain ⟨cf, ff⟩ := (Blk.grow Bf (G.trans hw1)).rules; obtain ⟨cx, fx⟩ := (EB.grow Bx (G.trans hw1)).rules; obtain ⟨cy, fy⟩ := (EB.grow By (G.trans hw1)).rules; go_simp; first | exact hK _ (Grow.refl _) | fail))
        | apply calm_n rfl rfl rfl rfl
      intro K hK
      go_simp
      apply hK
      clear hK K)
    apply calm_fp (fun v W => ∃ A, v = (twoK k x y A).val ∧ EX W (twoK k x y A)) rfl
    case h1 =>
      intro w1 hw1 hF K hK
      go_simp
      go_at_call 61
      refine (two_any k hk x y _ (hEx.grow (G.trans hw1)) (hEy.grow (G.trans hw1))).mono ?_
      rintro en w' ⟨A, rfl, hX, hg'⟩
      exact ⟨_, rfl, hK _ _ hg' ⟨A, rfl, hX⟩⟩
    intro v10 K hK
    go_simp
    apply hK
    clear hK K
    apply calm_fp (fun v W => ∃ g A, v = .slice (some ⟨g, 0, none⟩) 1 1 ∧ EX W (oneK 3 (twoK k x y A) (some ⟨g, 0, none⟩))) rfl
    case h1 =>
      intro w1 hw1 hF K hK
      obtain ⟨A, hv, hX⟩ := hF _ (List.mem_cons_self ..) ⟨_, rfl, by decide⟩
      subst hv
      go_simp
      exact hK _ _ ((Grow.refl _).al _) ⟨_, A, rfl, ex_one (t := 47) (twoK k x y A) (Blk.new _ _ _) (hX.grow ((Grow.refl _).al _)) i3⟩
    intro v11 K hK
    go_simp
    apply hK
    clear hK K
    apply calm_fp (fun v W => ∃ A B, v = (oneK 3 (twoK k x y A) B).val ∧ EX W (oneK 3 (twoK k x y A) B)) rfl
    case h1 =>
      intro w1 hw1 hF K hK
      obtain ⟨g, A, hv, hX⟩ := hF _ (List.mem_cons_self ..) ⟨_, rfl, by decide⟩
      subst hv
      go_simp
      exact hK _ _ (Grow.refl _) ⟨A, _, rfl, hX⟩
    intro v12 K hK
    go_simp
    apply hK
    clear hK K
    apply calm_p rfl
    case h1 =>
      intro w1 hw1 hF K hK
      obtain ⟨A, B, hv, hX⟩ := hF _ (List.mem_cons_self ..) ⟨_, rfl, by decide⟩
      subst hv
      go_simp
      go_at_call 62
      refine (ask_fn cols row Ac Ar cc cr w0 hlc hlr hc hr (oneK 3 (twoK k x y A) B) b1 b2 _ (hg.trans (G.trans hw1)) hX (B1.grow (G.trans hw1)) (B2.grow (G.trans hw1)) Z (hZ A B)).mono ?_
      rintro en w' ⟨rfl, hg'⟩
      exact ⟨_, rfl, hK _ hg'⟩
    intro K hK
    go_simp
    apply hK
    clear hK K
    refine calm_nil ?_
    intro w1 hw1 hF
    apply hQ0
    clear hQ0
    simp only [List.drop_succ_cons, List.drop_zero]
    clear hF
    obtain ⟨cv, fv⟩ := (VB3.grow Bv hw1).rules
    go_wp2
    exact bodyPost_ret (by simp [results, Try.results63, go_sem, cv]) rfl ⟨rfl, (by repeat (first | (with_reducible exact Grow.refl _) | (with_reducible assumption) | (with_reducible refine Grow.set ?_ (by first | (simp; done) | (simp; omega)) _) | (with_reducible refine Grow.al ?_ _) | (with_reducible refine Grow.drew ?_) | (with_reducible refine Grow.drewN ?_ _) | (with_reducible refine Grow.trans ?_ (by assumption))))⟩
  case hp' => exact ⟨fun v w w' hg ⟨A, e, hX⟩ => ⟨A, e, hX.grow hg⟩, fun v w w' hg ⟨g, A, e, hX⟩ => ⟨g, A, e, hX.grow hg⟩, fun v w w' hg ⟨A, B, e, hX⟩ => ⟨A, B, e, hX.grow hg⟩, trivial⟩
end
end Go.Proofs.Ytjhcbehnopmnpaa
