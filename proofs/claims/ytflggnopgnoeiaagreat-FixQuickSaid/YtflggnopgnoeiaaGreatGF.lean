/- Parts of a proof. No condition. -/
import Derived.Test.YtflggnopgnoeiaaGreatGEc
set_option maxRecDepth 100000
set_option maxHeartbeats 16000000
set_option maxRecDepth 100000
set_option linter.unusedSimpArgs false
set_option linter.unusedVariables false
namespace Go
variable {p : Prop}
theorem om_ (h : p := by have := HP'.out.length_eq; have := HN.out; simp at *; omega) : p := h
theorem oB_ (h : p := by simp at hx ⊢; rcases hx with h | h <;> simp [h]) : p := h
theorem vz_ (h : p := by have := jE HB.out; have := Ha.out; omega) : p := h
theorem vS_ (h : p := by have := Hl'.out; simp at this; omega) : p := h
theorem vY_ (h : p := by have := Hd'.out; simpa using this) : p := h
theorem ul_ (h : p := by simpa using S'.out) : p := h
theorem uo_ (h : p := by simp at h1; omega) : p := h
theorem uA_ (h : p := by simpa using hN) : p := h
end Go
namespace Go.Proofs.YtflggnopgnoeiaaGreat
open Go.RowKit Go.Calm
section
variable {ck : Ck} {α : Type} {C : Cm ck α} {rs : List Value}
theorem Ud (w0 : World) : ∀ n, C.SymC rs w0 n := by
 intro n
 induction n with
 | zero => intro P U V S a m b N c g w hn hU; omega
 | succ n ih =>
  intro P U V S a m b N c g w hn hU1 hV1 ha hm hb hN hmax hT hG hg0 hU hV hd
  by_cases h1 : U.length = 1
  ·obtain ⟨u, rfl⟩ : ∃ u, U = [u] := by
    match U, h1 with
    | [u], _ => exact ⟨u, rfl⟩
   exact Fl (C := C) (rs := rs) P V S u a m b N c ha hm hb uA_ hmax g w0 w (fun v hv => hT u uY_ v hv) (by simpa using hG) hg0 hV (by simpa using hd)
  ·by_cases h2 : V.length = 1
   ·obtain ⟨v, rfl⟩ : ∃ v, V = [v] := by
     match V, h2 with
     | [v], _ => exact ⟨v, rfl⟩
    exact Bw (C := C) (rs := rs) P U S v a m b N c ha hm uX_ hb uA_ hmax g w0 w (fun x hx => hT x hx v uY_) hG hg0 hU (by simpa using hd)
   ·exact Fm (C := C) (rs := rs) w0 n ih P U V S a m b N c g w hn uX_ uX_ ha hm hb hN hmax hT hG hg0 hU hV hd
def Cm.Sep (C : Cm ck α) (Bs : List (List α)) : Prop := Bs.Pairwise (fun A B => ∀ x ∈ A, ∀ y ∈ B, C.tg x y)
theorem Yv {Ds Xs Ys : List (List α)} {M : List α} (h : C.Sep (Ds ++ (Xs ++ Ys))) (hm : ∀ x ∈ M, ∃ X ∈ Xs, x ∈ X) : C.Sep (Ds ++ ([M] ++ Ys)) := by
 unfold Cm.Sep at h ⊢; rw [List.pairwise_append, List.pairwise_append] at h ⊢; obtain ⟨h1, ⟨h2, h3, h4⟩, h5⟩ := h; refine ⟨h1, ⟨List.pairwise_singleton _ _, h3, fun A hA B hB x hx y hy => ?_⟩, fun A hA B hB x hx y hy => ?_⟩
 ·simp at hA; subst hA; obtain ⟨X, hX, hx'⟩ := hm x hx; exact h4 X hX B hB x hx' y hy
 ·rcases List.mem_append.1 hB with hB | hB
  ·simp at hB; subst hB; obtain ⟨X, hX, hy'⟩ := hm y hy; exact h5 A hA X (List.mem_append_left _ hX) x hx y hy'
  ·exact h5 A hA B (List.mem_append_right _ hB) x hx y hy
theorem zam {Bs : List (List α)} {R : List α} (n : Nat) (h : C.Sep (Bs ++ [R])) (hR : R.Pairwise C.tg) : C.Sep (Bs ++ ([R.take n] ++ [R.drop n])) := by
 unfold Cm.Sep at h ⊢; rw [List.pairwise_append] at h; obtain ⟨h1, _, h5⟩ := h; rw [<- List.take_append_drop n R, List.pairwise_append] at hR; rw [List.pairwise_append]; refine ⟨h1, ?_, fun A hA B hB x hx y hy => ?_⟩
 ·rw [List.singleton_append, List.pairwise_cons]; exact ⟨fun B hB x hx y hy => by simp at hB; subst hB; exact hR.2.2 x hx y hy, List.pairwise_singleton _ _⟩
 ·simp at hB; rcases hB with rfl | rfl
  ·exact h5 A hA R uY_ x hx y (List.mem_of_mem_take hy)
  ·exact h5 A hA R uY_ x hx y (List.mem_of_mem_drop hy)
theorem T4 {Ds Fs : List (List α)} {B1 B2 : List α} (h : C.Sep (Ds ++ (B1 :: B2 :: Fs))) : ∀ x ∈ B1, ∀ y ∈ B2, C.tg x y := by
 unfold Cm.Sep at h; rw [List.pairwise_append, List.pairwise_cons] at h; exact fun x hx y hy => h.2.1.1 B2 uY_ x hx y hy
def Cm.Blks (C : Cm ck α) (k : Nat) (Bs : List (List α)) : Prop := ∀ B ∈ Bs, B.length = k /\ C.Up B
theorem jE {k : Nat} : ∀ {Bs : List (List α)}, C.Blks k Bs -> Bs.flatten.length = Bs.length * k
 | [], _ => by simp
 | B :: Bs, h => by
  have h1 := jE (Bs := Bs) (fun x hx => h x uR_); have h2 := (h B uY_).1; simp only [List.flatten_cons, List.length_append, List.length_cons, h1, h2]; rw [Nat.add_mul]; omega
theorem Cm.Blks.snoc {k : Nat} {Bs : List (List α)} {B : List α} (h : C.Blks k Bs) (h1 : B.length = k) (h2 : C.Up B) : C.Blks k (Bs ++ [B]) := fun x hx => by
 rcases List.mem_append.1 hx with hx | hx
 ·exact h x hx
 ·simp at hx; subst hx; exact ⟨h1, h2⟩
theorem zbN (L : List α) (N c g : Nat) (w0 w : World) (hN : N = L.length) (hmax : N <= 500000) (hT : L.Pairwise C.tg) (hG : ∀ x ∈ L, C.good g w0 x) (hg0 : GX g w0 w) (hd : DY C rs w g L) :
  Calls Tryz.prog ck.stb #[.slice (some ⟨g, 0, none⟩) N c, .int .i64 (N : Int), ck.F] w fun en w' => en = .returned (.tuple #[]) /\ (∃ M' : List α, M'.Perm L /\ C.Up M' /\ DY C rs w' g M') /\ GX g w w' := by
 cases ck
 all_goals as_aux_lemma =>
  dsimp only [Ck.swp, Ck.rot, Ck.ins, Ck.sym, Ck.stb, Ck.srt, Ck.F]; have HN := hh_ hN; have HG := hh_ hG; have Hd := hh_ hd; have hmax2 : N <= 1000000 := by omega
  have HTg := hh_ hT; clear hN hG hd hT
  first | go_enter Tryz.func157, Tryz.ntmps157 | go_enter Tryz.func217, Tryz.ntmps217 | go_enter Tryz.func68, Tryz.ntmps68
  go_wp2
  go_loopw [7, 8] (fun sa sb wr => ∃ (a : Nat) (Bs : List (List α)) (R : List α), sa = .int .i64 (a : Int) /\ sb = .int .i64 ((a : Int) + 20) /\ a <= N /\ a = Bs.length * 20 /\ C.Blks 20 Bs /\ (Bs.flatten ++ R).Perm L /\ DY C rs wr g (Bs.flatten ++ R) /\ GX g w wr /\ C.Sep (Bs ++ [R]) /\ R.Pairwise C.tg) (fun sa _ _ => N - (intOf sa).toNat)
  case atStart => exact ⟨0, [], L, rfl, by go_num, Nat.zero_le _, rfl, fun B hB => by simp at hB, List.Perm.refl _, Hd.out, GX.refl _ _, List.pairwise_singleton _ _, HTg.out⟩
  case round =>
   obtain ⟨a, Bs, R, rfl, rfl, haN, ha, hB, hp, hdb, hgx, hsp, hrp⟩ := hrel; have SP := hh_ hsp; have RP := hh_ hrp; clear hsp hrp; have Ha := hh_ ha; have HB := hh_ hB; have HP := hh_ hp; have Hdb := hh_ hdb; clear ha hB hp hdb
   have hlen : a + R.length = N := by
    have h1 := HP.out.length_eq; have h2 := jE HB.out; have h3 := HN.out; have h4 := Ha.out; simp only [List.length_append] at h1; omega
   have Hlen := hh_ hlen; have GR : ∀ x ∈ R, C.good g w0 x := fun x hx => HG.out x (HP.out.mem_iff.1 uR_)
   have HGR := hh_ GR; have GB : ∀ B ∈ Bs, ∀ x ∈ B, C.good g w0 x := fun B hB x hx => HG.out x (HP.out.mem_iff.1 (by simp; exact .inl ⟨B, hB, hx⟩))
   have HGB := hh_ GB; clear hlen GR GB
   by_cases hlt : a + 20 <= N
   ·have d0 : decide ((a : Int) + 20 <= (N : Int)) = true := by simp; omega
    have cs := PH (C := C) (rs := rs) Bs.flatten (R.take 20) (R.drop 20) (a : Int) ((a : Int) + 20) N c vz_ (by have := jE HB.out; have := Ha.out; have := Hlen.out; rw [List.length_take]; omega) (by rw [List.take_append_drop]; exact HN.out.trans HP.out.length_eq.symm) hmax2 g w0 wr (RP.out.sublist (List.take_sublist _ _)) (fun x hx => HGR.out x (List.mem_of_mem_take hx)) (hg0.trans hgx) vX_
    go_wp2_with ((first | go_at_call 187 | go_at_call 221 | go_at_call 124); ((with_reducible refine cs.mono ?_); rintro en w2 ⟨rfl, hd2, hg2⟩))
    have Hd2 := hh_ hd2; clear hd2 cs; go_roundw
    case rel =>
     obtain ⟨M, p, u, db⟩ := Hd2.out
     have lM : M.length = 20 := by
      have h1 := p.length_eq; rw [List.length_take] at h1; have h2 := Hlen.out; omega
     refine ⟨a + 20, Bs ++ [M], R.drop 20, by go_num, by go_num, by omega, by have := Ha.out; simp; omega, HB.out.snoc lM u, ?_, by simpa using db, hgx.trans hg2, by have h := Yv (M := M) (zam 20 SP.out RP.out) (fun x hx => ⟨_, by simp, p.mem_iff.1 hx⟩); simpa using h, RP.out.sublist (List.drop_sublist _ _)⟩; refine List.Perm.trans ?_ HP.out; simp only [List.flatten_append, List.flatten_cons, List.flatten_nil, List.append_nil, List.append_assoc]; refine List.Perm.append_left _ ?_; have := p.append_right (R.drop 20)
     rwa [List.take_append_drop] at this
    case measure => exact u1_
   ·have d0 : decide ((a : Int) + 20 <= (N : Int)) = false := by simp; omega
    have hlt' : ¬ a + 20 <= N := hlt; have cs := PH (C := C) (rs := rs) Bs.flatten R [] (a : Int) (N : Int) N c vz_ (by have := jE HB.out; have := Ha.out; have := Hlen.out; omega) (by rw [List.append_nil]; exact HN.out.trans HP.out.length_eq.symm) hmax2 g w0 wr RP.out HGR.out (hg0.trans hgx) vX_
    go_wp2_with ((first | go_at_call 187 | go_at_call 221 | go_at_call 124); ((with_reducible refine cs.mono ?_); rintro en w2 ⟨rfl, hd2, hg2⟩))
    obtain ⟨M0, p0, u0, db0⟩ := hd2; have SM0 := hh_ (show C.Sep (Bs ++ [M0]) from by have h := Yv (Ds := Bs) (Xs := [R]) (Ys := []) (M := M0) (by simpa using SP.out) (fun x hx => ⟨R, by simp, p0.mem_iff.1 hx⟩); simpa using h); have HM0 := hh_ (show M0.Perm R /\ C.Up M0 /\ DY C rs w2 g (Bs.flatten ++ M0) from ⟨p0, u0, by simpa using db0⟩); have hgx2 := hgx.trans hg2; clear p0 u0 db0 cs hg2
    go_loopw [6] (fun sk w3 => ∃ (k : Nat) (Cs : List (List α)) (T : List α), sk = .int .i64 (k : Int) /\ 20 <= k /\ k <= 2 * N + 20 /\ C.Blks k Cs /\ T.length < k /\ C.Up T /\ (Cs.flatten ++ T).Perm L /\ DY C rs w3 g (Cs.flatten ++ T) /\ GX g w w3 /\ C.Sep (Cs ++ [T])) (fun sk _ => N - (intOf sk).toNat)
    case atStart => exact ⟨20, Bs, M0, by go_num, Nat.le_refl _, by omega, HB.out, by have := HM0.out.1.length_eq; have := Hlen.out; omega, HM0.out.2.1, (HM0.out.1.append_left _).trans HP.out, HM0.out.2.2, hgx2, SM0.out⟩
    case round =>
     obtain ⟨k, Cs, T, rfl, hk, hk2, hC, hT, uT, hpC, hdC, hgC, hsC⟩ := hrel; have SC := hh_ hsC; clear hsC; have HC := hh_ hC; have UT := hh_ uT; have HPC := hh_ hpC; have HdC := hh_ hdC; have HT := hh_ hT; clear hC uT hpC hdC hT
     have hlenC : Cs.length * k + T.length = N := by
      have h1 := HPC.out.length_eq; have h2 := jE HC.out; have h3 := HN.out; simp only [List.length_append] at h1; omega
     have HlenC := hh_ hlenC; clear hlenC
     by_cases hkN : k < N
     ·have dk : decide ((k : Int) < (N : Int)) = true := by simp; omega
      go_wp2
      go_loopw [7, 8] (fun sa sb w4 => ∃ (a' : Nat) (Ds Es : List (List α)), sa = .int .i64 (a' : Int) /\ sb = .int .i64 ((a' : Int) + 2 * (k : Int)) /\ a' = Ds.length * (2 * k) /\ C.Blks (2 * k) Ds /\ C.Blks k Es /\ a' + Es.length * k + T.length = N /\ (Ds.flatten ++ (Es.flatten ++ T)).Perm L /\ DY C rs w4 g (Ds.flatten ++ (Es.flatten ++ T)) /\ GX g w w4 /\ C.Sep (Ds ++ (Es ++ [T]))) (fun sa _ _ => N - (intOf sa).toNat)
      case atStart => exact ⟨0, [], Cs, by go_num, by go_num, by simp, fun B hB => by simp at hB, HC.out, by have := HlenC.out; omega, HPC.out, HdC.out, hgC, SC.out⟩
      case round =>
       obtain ⟨a', Ds, Es, rfl, rfl, ha', hD, hE, hl', hp', hd', hg', hs'⟩ := hrel; have S' := hh_ hs'; clear hs'; have Ha' := hh_ ha'; have HD := hh_ hD; have HE := hh_ hE; have Hl' := hh_ hl'; have HP' := hh_ hp'; have Hd' := hh_ hd'; clear ha' hD hE hl' hp' hd'; have ha'N : a' <= N := by have := Hl'.out; omega
       have lD : Ds.flatten.length = a' := by rw [jE HD.out]; exact Ha'.out.symm
       have LD := hh_ lD; clear lD
       by_cases hb' : a' + 2 * k <= N
       ·have db' : decide ((a' : Int) + 2 * (k : Int) <= (N : Int)) = true := by simp; omega
        obtain ⟨B1, B2, Fs, rfl⟩ : ∃ B1 B2 Fs, Es = B1 :: B2 :: Fs := by
         have h1 := Hl'.out; have h2 := HT.out
         match Es, h1 with
         | [], h1 => exfalso; simp at h1; omega
         | [B], h1 => exfalso; simp at h1; omega
         | B1 :: B2 :: Fs, _ => exact ⟨B1, B2, Fs, rfl⟩
        have b1 := HE.out B1 uY_; have b2 := HE.out B2 uY_; have hGood : ∀ x ∈ B1 ++ B2, C.good g w0 x := fun x hx => HG.out x (HP'.out.mem_iff.1 oB_)
        have cs := Ud (C := C) (rs := rs) w0 (B1.length + B2.length) Ds.flatten B1 B2 (Fs.flatten ++ T) a' (a' + k) (a' + 2 * k) N c g wr (Nat.le_refl _) uX_ uX_ LD.out.symm uX_ uX_ om_ hmax2 (T4 S'.out) hGood (hg0.trans hg') b1.2 b2.2 vY_; rw [show ((a' + k : Nat) : Int) = (a' : Int) + (k : Int) by simp, show ((a' + 2 * k : Nat) : Int) = (a' : Int) + 2 * (k : Int) by simp] at cs; have B12 := hh_ (And.intro b1 b2); clear b1 b2 hGood
        go_wp2_with ((first | go_at_call 188 | go_at_call 222 | go_at_call 125); ((with_reducible refine cs.mono ?_); rintro en w5 ⟨rfl, hd5, hg5⟩))
        have Hd5 := hh_ hd5; clear hd5 cs; go_roundw
        case rel =>
         obtain ⟨M, p, u, db⟩ := Hd5.out; have h1 := B12.out.1.1; have h2 := B12.out.2.1; have lM : M.length = 2 * k := by have := p.length_eq; simp at this; omega
         refine ⟨a' + 2 * k, Ds ++ [M], Fs, by go_num, by go_num, by have := Ha'.out; simp [Nat.add_mul]; omega, HD.out.snoc lM u, fun B hB => HE.out B (by simp [hB]), by have := Hl'.out; simp [Nat.add_mul] at this; omega, ?_, by simpa using db, hg'.trans hg5, by have h := Yv (Xs := [B1, B2]) (Ys := Fs ++ [T]) (M := M) ul_ (fun x hx => by rcases List.mem_append.1 (p.mem_iff.1 hx) with h | h; exact ⟨B1, by simp, h⟩; exact ⟨B2, by simp, h⟩); simpa using h⟩; refine List.Perm.trans ?_ HP'.out; simp only [List.flatten_append, List.flatten_cons, List.flatten_nil, List.append_nil, List.append_assoc]; refine List.Perm.append_left _ ?_; have := p.append_right (Fs.flatten ++ T); simpa using this
        case measure => exact u1_
       ·have db' : decide ((a' : Int) + 2 * (k : Int) <= (N : Int)) = false := by simp; omega
        by_cases hm : a' + k < N
        ·have dm : decide ((a' : Int) + (k : Int) < (N : Int)) = true := by simp; omega
         obtain ⟨B1, rfl⟩ : ∃ B1, Es = [B1] := by
          have h1 := Hl'.out; have h2 := HT.out
          match Es, h1 with
          | [], h1 => exfalso; simp at h1; omega
          | [B], _ => exact ⟨B, rfl⟩
          | B1 :: B2 :: Fs, h1 => exfalso; simp [Nat.add_mul] at h1; omega
         have b1 := HE.out B1 uY_; have hGood : ∀ x ∈ B1 ++ T, C.good g w0 x := fun x hx => HG.out x (HP'.out.mem_iff.1 oB_)
         have cs := Ud (C := C) (rs := rs) w0 (B1.length + T.length) Ds.flatten B1 T [] a' (a' + k) N N c g wr (Nat.le_refl _) uX_ vS_ LD.out.symm uX_ vS_ om_ hmax2 (T4 (Fs := []) ul_) hGood (hg0.trans hg') b1.2 UT.out vY_; rw [show ((a' + k : Nat) : Int) = (a' : Int) + (k : Int) by simp] at cs; have B1' := hh_ b1; clear b1 hGood
         go_wp2_with ((first | go_at_call 188 | go_at_call 222 | go_at_call 125); ((with_reducible refine cs.mono ?_); rintro en w5 ⟨rfl, hd5, hg5⟩))
         have Hd5 := hh_ hd5; clear hd5 cs; go_roundw
         case rel =>
          obtain ⟨M, p, u, db⟩ := Hd5.out; have h1 := B1'.out.1; have h2 := HT.out; have lM : M.length < 2 * k := by have := p.length_eq; simp at this; omega
          refine ⟨2 * k, Ds, M, by go_num, by omega, by omega, HD.out, lM, u, ?_, by simpa using db, hg'.trans hg5, by have h := Yv (Xs := [B1, T]) (Ys := []) (M := M) ul_ (fun x hx => by rcases List.mem_append.1 (p.mem_iff.1 hx) with h | h; exact ⟨B1, by simp, h⟩; exact ⟨T, by simp, h⟩); simpa using h⟩; refine List.Perm.trans ?_ HP'.out; refine List.Perm.append_left _ ?_; simpa using p
         case measure => exact u1_
        ·have dm : decide ((a' : Int) + (k : Int) < (N : Int)) = false := by simp; omega
         have hfin : ∃ T' : List α, T'.length < 2 * k /\ C.Up T' /\ Es.flatten ++ T = T' /\ C.Sep (Ds ++ [T']) := by
          have h1 := Hl'.out; have h2 := HT.out
          match Es, h1, HE, S' with
          | [], h1, _, S' => exact ⟨T, by omega, UT.out, rfl, S'.out⟩
          | [B], h1, HE, S' =>
           have b := HE.out B uY_; have hT0 : T = [] := List.length_eq_zero_iff.1 uo_; exact ⟨B, by omega, b.2, by rw [hT0]; simp, by have h := Yv (Xs := [B, T]) (Ys := []) (M := B) ul_ (fun x hx => ⟨B, by simp, hx⟩); simpa using h⟩
          | B1 :: B2 :: Fs, h1, _, _ => exfalso; simp [Nat.add_mul] at h1; omega
         have Hfin := hh_ hfin; clear hfin; go_wp2; go_roundw
         case rel =>
          obtain ⟨T', l1, u1, e1, s1⟩ := Hfin.out; exact ⟨2 * k, Ds, T', by go_num, by omega, by omega, HD.out, l1, u1, by rw [<- e1]; exact HP'.out, by rw [<- e1]; exact Hd'.out, hg', s1⟩
         case measure => exact u1_
     ·have dk : decide ((k : Int) < (N : Int)) = false := by simp; omega
      have hfin : ∃ M' : List α, M'.Perm L /\ C.Up M' /\ DY C rs wr g M' := by
       have h1 := HlenC.out
       match Cs, h1, HC, HPC, HdC with
       | [], h1, _, HPC, HdC => exact ⟨T, by simpa using HPC.out, UT.out, by simpa using HdC.out⟩
       | [B], h1, HC, HPC, HdC =>
        have hT0 : T = [] := List.length_eq_zero_iff.1 uo_; have e : [B].flatten ++ T = B := by rw [hT0]; simp
        exact ⟨B, by rw [<- e]; exact HPC.out, (HC.out B uY_).2, by rw [<- e]; exact HdC.out⟩
       | B1 :: B2 :: Fs, h1, _, _, _ => exfalso; simp [Nat.add_mul] at h1; omega
      have Hfin := hh_ hfin; clear hfin; go_wp2; go_end0; exact ⟨rfl, Hfin.out, hgC⟩
theorem NP (C : Cm ck α) (rs : List Value) (L : List α) (N c g : Nat) (w0 w : World) (hN : N = L.length) (hmax : N <= 500000) (hT : L.Pairwise C.tg) (hG : ∀ x ∈ L, C.good g w0 x) (hg0 : GX g w0 w) (hd : DY C rs w g L) :
  Calls Tryz.prog ck.srt #[.slice (some ⟨g, 0, none⟩) N c, ck.F] w fun en w' => en = .returned (.tuple #[]) /\ (∃ M' : List α, M'.Perm L /\ C.Up M' /\ DY C rs w' g M') /\ GX g w w' := by
 cases ck
 all_goals as_aux_lemma =>
  dsimp only [Ck.swp, Ck.rot, Ck.ins, Ck.sym, Ck.stb, Ck.srt, Ck.F]; have cs := zbN (C := C) (rs := rs) L N c g w0 w hN hmax hT hG hg0 hd; clear hd hG hN
  first | go_enter Tryz.func133, Tryz.ntmps133 | go_enter Tryz.func212, Tryz.ntmps212 | go_enter Tryz.func25, Tryz.ntmps25
  go_wp2_with ((first | go_at_call 157 | go_at_call 217 | go_at_call 68); ((with_reducible refine cs.mono ?_); rintro en w2 ⟨rfl, hd2, hg2⟩))
  have Hd2 := hh_ hd2; clear hd2; go_end0; exact ⟨rfl, Hd2.out, hg2⟩
theorem Sx (ck : Ck) (w : World) : Calls Tryz.prog ck.ins #[.slice none 0 0, .int .i64 0, .int .i64 0, ck.F] w fun en w' => en = .returned (.tuple #[]) /\ za w w' := by
 cases ck
 all_goals
  dsimp only [Ck.ins, Ck.F]
  first | go_enter Tryz.func187, Tryz.ntmps187 | go_enter Tryz.func221, Tryz.ntmps221 | go_enter Tryz.func124, Tryz.ntmps124
  go_wp2
  go_loopw [8] (fun i wr => i = .int .i64 1 /\ za w wr) (fun i _ => 0)
  case atStart => exact ⟨rfl, za.refl _⟩
  case round =>
   obtain ⟨rfl, hg⟩ := hrel; go_wp2; go_end0; exact ⟨rfl, hg⟩
theorem S9 (ck : Ck) (w : World) : Calls Tryz.prog ck.stb #[.slice none 0 0, .int .i64 0, ck.F] w fun en w' => en = .returned (.tuple #[]) /\ za w w' := by
 have cs := Sx ck; cases ck
 all_goals
  dsimp only [Ck.stb, Ck.F]
  first | go_enter Tryz.func157, Tryz.ntmps157 | go_enter Tryz.func217, Tryz.ntmps217 | go_enter Tryz.func68, Tryz.ntmps68
  go_wp2
  go_loopw [7, 8] (fun sa sb wr => sa = .int .i64 0 /\ sb = .int .i64 20 /\ za w wr) (fun sa _ _ => 0)
  case atStart => exact ⟨rfl, rfl, za.refl _⟩
  case round =>
   obtain ⟨rfl, rfl, hg⟩ := hrel
   go_wp2_with ((first | go_at_call 187 | go_at_call 221 | go_at_call 124); ((with_reducible refine (cs _).mono ?_); rintro en w2 ⟨rfl, hg2⟩))
   go_loopw [6] (fun sk w3 => sk = .int .i64 20 /\ za w w3) (fun sk _ => 0)
   case atStart => exact ⟨rfl, hg.trans hg2⟩
   case round =>
    obtain ⟨rfl, hg3⟩ := hrel; go_wp2; go_end0; exact ⟨rfl, hg3⟩
theorem Rn (ck : Ck) (w : World) : Calls Tryz.prog ck.srt #[.slice none 0 0, ck.F] w fun en w' => en = .returned (.tuple #[]) /\ za w w' := by
 have cs := S9 ck; cases ck
 all_goals
  dsimp only [Ck.srt, Ck.F]
  first | go_enter Tryz.func133, Tryz.ntmps133 | go_enter Tryz.func212, Tryz.ntmps212 | go_enter Tryz.func25, Tryz.ntmps25
  go_wp2_with ((first | go_at_call 157 | go_at_call 217 | go_at_call 68); ((with_reducible refine (cs _).mono ?_); rintro en w2 ⟨rfl, hg2⟩))
  go_end0; exact ⟨rfl, hg2⟩
end
abbrev zcP : Value := .func (.func 134) #[] #[]
def Ct : Cm .t I where
 A := I.A
 n := fun x => x.row.length
 cap := I.cap
 w := I.w
 b := fun _ => 0
 cmp := WS
 ans := WS
 tg := fun _ _ => True
 good := xP
 trans := R5
 swap := UH
 lt := fun _ _ _ => Iff.rfl
 call := zaZ
theorem Do : ∀ xs : List I, Ct.flat xs = zr xs
 | [] => rfl
 | x :: xs => by have h := Do xs; unfold Cm.flat at *; unfold zr; rw [<- h]; rfl
theorem Ro (L : List I) (N c g : Nat) (w0 w : World) (hN : N = L.length) (hmax : N <= 500000) (hG : ∀ x ∈ L, xP g w0 x) (hg0 : GX g w0 w) (hd : DB w g L) :
  Calls Tryz.prog 133 #[.slice (some ⟨g, 0, none⟩) N c, zcP] w fun en w' => en = .returned (.tuple #[]) /\ (∃ M' : List I, M'.Perm L /\ Up M' /\ DB w' g M') /\ GX g w w' := by
 have h : ∀ {W : World} {M : List I}, DB W g M ↔ DY Ct [] W g M := fun {W M} => by unfold DB DY; rw [Do, List.append_nil]
 refine (NP Ct [] L N c g w0 w hN hmax (List.pairwise_iff_getElem.2 (fun _ _ _ _ _ => trivial)) hG hg0 (h.1 hd)).mono ?_; rintro en w' ⟨rfl, ⟨M, p, u, d⟩, hg⟩; exact ⟨rfl, ⟨M, p, u, h.2 d⟩, hg⟩
