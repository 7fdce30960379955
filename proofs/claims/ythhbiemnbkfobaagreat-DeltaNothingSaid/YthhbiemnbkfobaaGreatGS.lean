/- Parts of a proof. No condition. -/
import Derived.Test.YthhbiemnbkfobaaGreatGR
set_option maxRecDepth 100000
set_option maxHeartbeats 8000000
set_option maxRecDepth 100000
set_option linter.unusedSimpArgs false
set_option linter.unusedVariables false
namespace Go
variable {p : Prop}
theorem oc_ (h : p := by rw [h1 y (by rw [List.take_succ_cons]; exact List.mem_cons_self ..)]; simp) : p := h
theorem oj_ (h : p := by rw [List.take_succ_cons]; exact List.mem_cons_of_mem _ hu) : p := h
theorem ok_ (h : p := by have := Hz.out; rw [List.take_length] at this; exact this) : p := h
theorem oo_ (h : p := by rw [List.take_succ_cons]; exact List.mem_cons_self ..) : p := h
theorem oy_ (h : p := by simp [results, Tryz.results42, go_sem] <;> rfl) : p := h
theorem oz_ (h : p := by simp [results, Tryz.results49, go_sem] <;> rfl) : p := h
theorem o9_ (h : p := by rw [h x (List.mem_cons_self ..)]; simp) : p := h
theorem wj_ (h : p := by
 obtain ⟨g, o, a, b, c⟩ := h i x hx; exact ⟨g, o, a, b.grow hg, c.grow hg⟩) : p := h
end Go
namespace Go.Proofs.YthhbiemnbkfobaaGreat
open Go.RowKit Go.Calm
def XR {α : Type} (f : List V -> α) : Prop := ∀ r q, zg r = zg q -> f r = f q
def zO (f : List V -> Int) : List Z -> Int
  | [] => 0
  | x :: l => x.2 * f x.1 + zO f l
theorem jE (f : List V -> Int) : ∀ a b : List Z, zO f (a ++ b) = zO f a + zO f b
  | [], b => by simp [zO]
  | x :: a, b => by simp only [List.cons_append, zO, jE f a b]; omega
theorem Yj (f : List V -> Int) (t : Int) : ∀ a : List Z, zO f (zP t a) = t * zO f a
  | [] => by simp [zP, zO]
  | x :: a => by
    have ih := Yj f t a; unfold zP at ih; simp only [zP, List.map_cons, zO, ih]; rw [Int.mul_add, Int.mul_assoc]
theorem XD (f : List V -> Int) (p : Z -> Bool) : ∀ l : List Z, zO f l = zO f (l.filter p) + zO f (l.filter (fun x => !p x))
  | [] => by simp [zO]
  | x :: l => by
    have ih := XD f p l; rw [List.filter_cons, List.filter_cons]; cases hx : p x
    · simp [zO, ih]; omega
    · simp [zO, ih]; omega
theorem MB (f : List V -> Int) (hf : XR f) (r : List V) : ∀ l : List Z, zO f (l.filter (fun x => decide (zg x.1 = zg r))) = f r * zE l r
  | [] => by simp [zO, xn]
  | x :: l => by
    have ih := MB f hf r l; rw [List.filter_cons, zl]
    by_cases hx : zg x.1 = zg r
    · rw [if_pos vD_, if_pos hx]
      simp only [zO]; rw [ih, hf _ _ hx, Int.mul_add, Int.mul_comm x.2]
    · rw [if_neg vD_, if_neg hx, ih]; simp
theorem JP (f : List V -> Int) (hf : XR f) : ∀ (n : Nat) (l : List Z), l.length <= n -> (∀ q, zE l q = 0) -> zO f l = 0
  | 0, l, hl, _ => by rw [List.length_eq_zero_iff.1 (by omega : l.length = 0)]; rfl
  | n + 1, [], _, _ => rfl
  | n + 1, x :: l, hl, h => by
    have e := XD f (fun y => decide (zg y.1 = zg x.1)) (x :: l); rw [MB f hf x.1, h x.1, Int.mul_zero, Int.zero_add] at e; rw [e]; refine JP f hf n _ ?_ (fun q => ?_)
    · rw [List.filter_cons, if_neg vV_]
      have := List.length_filter_le (fun y : Z => !decide (zg y.1 = zg x.1)) l; simp at hl; omega
    · have := xu (fun r => !decide (zg r = zg x.1)) (fun r q h => by rw [h]) q (x :: l)
      rw [this, h q]; split <;> rfl
theorem Yh {f : List V -> Int} (hf : XR f) {a b : List Z} (h : ∀ q, zE a q = zE b q) : zO f a = zO f b := by
  have := JP f hf _ (a ++ zP (-1) b) (Nat.le_refl _) (fun q => by rw [yf, xG, h]; omega); rw [jE, Yj] at this; omega
theorem UE {f : List V -> Int} (hf : XR f) {s a b : List Z} {n : Int} (h : ∀ q, zE s q = zE a q + n * zE b q) : zO f s = zO f a + n * zO f b := by
  rw [<- Yj, <- jE]; exact Yh hf (fun q => by rw [h, yf, xG])
theorem Yi (f g : List V -> Int) : ∀ l : List Z, (∀ x ∈ l, f x.1 = g x.1) -> zO f l = zO g l
  | [], _ => rfl
  | x :: l, h => by simp only [zO, h x (List.mem_cons_self ..), Yi f g l (fun y hy => h y (List.mem_cons_of_mem _ hy))]
theorem qm {l s : List Z} (hl : Y7 l) (h : yF l = (s, 0)) : yJ s /\ zw s = 0 /\ ∀ q, zE s q = zE l q := by
  have sp := yB l (fun x hx => (hl x hx).2); unfold yF at h; rcases XX (zW l) with ⟨e, hn, hb⟩ | ⟨e, he, hf⟩
  · rw [e] at h
    have es : zW l = s := (Prod.mk.inj h).1; have oks : Y7 s := by rw [<- es]; exact Kz hl
    rw [es] at sp hn hb; exact ⟨sp.1, (SM.canon sp.1 oks hb hn).rz vU_ vU_, sp.2⟩
  · rw [hf] at h; exact absurd (Prod.mk.inj h).2 he
def kw (u r : List V) : Int := if zg r = zg u then 1 else 0
theorem Zn (u : List V) : XR (kw u) := fun r q h => by unfold kw; rw [h]
theorem Cl (l : List Z) (u : List V) : zE l u = zO (kw u) l := by
  induction l with
  | nil => rfl
  | cons x l ih =>
    rw [zl, zO, ih]; unfold kw
    by_cases h : zg x.1 = zg u
    · rw [if_pos h, if_pos h]; omega
    · rw [if_neg h, if_neg h]; omega
theorem Zx (g : List V -> List V) (u : List V) : ∀ l : List Z, zE (l.map (fun r => (g r.1, r.2))) u = zO (fun r => kw u (g r)) l
  | [] => rfl
  | x :: l => by
    have ih := Zx g u l; rw [List.map_cons, zl, zO, ih]; unfold kw
    by_cases h : zg (g x.1) = zg u
    · simp [h]
    · simp [h]
def Y6 (w : World) (A : Option Addr) (xs : List E) : Prop := ∀ i x, xs[i]? = some x -> ∃ g o, A = some ⟨g, o, none⟩ /\ zA w g (o + i * 6) x /\ EX w x
theorem Y6.grow {w w' : World} {A : Option Addr} {xs : List E} (h : Y6 w A xs) (hg : za w w') : Y6 w' A xs := fun i x hx => wj_
def xl (cols : List Int) : List E -> List Int × Int
  | [] => ([], 0)
  | x :: l => if (zH cols x).2 ≠ 0 then ([], (zH cols x).2) else if (xl cols l).2 ≠ 0 then ([], (xl cols l).2) else ((zH cols x).1 :: (xl cols l).1, 0)
theorem kB (cols : List Int) : ∀ xs : List E, (∀ x ∈ xs, (zH cols x).2 = 0) -> xl cols xs = (xs.map (fun x => (zH cols x).1), 0)
  | [], _ => rfl
  | x :: l, h => by
    have ih := kB cols l (fun y hy => h y (List.mem_cons_of_mem _ hy)); unfold xl; rw [if_neg o9_, ih, if_neg vV_]; rfl
theorem ZQ (cols : List Int) : ∀ (xs : List E) (k : Nat) (x : E), xs[k]? = some x -> (∀ y ∈ xs.take k, (zH cols y).2 = 0) -> (zH cols x).2 ≠ 0 -> xl cols xs = ([], (zH cols x).2)
  | [], k, x, h, _, _ => by simp at h
  | y :: l, 0, x, h, _, h2 => by
    simp at h; subst h; unfold xl; rw [if_pos h2]
  | y :: l, k + 1, x, h, h1, h2 => by
    have ih := ZQ cols l k x vM_ (fun u hu => h1 u oj_) h2; unfold xl; rw [if_neg oc_, ih, if_pos h2]
theorem Y4 {cols : List Int} : ∀ {xs : List E}, (xl cols xs).2 = 0 -> ∀ x ∈ xs, (zH cols x).2 = 0
  | [], _, x, hx => by simp at hx
  | y :: l, h, x, hx => by
    unfold xl at h; split at h
    · exact uD_
    · rename_i h1
      split at h
      · rename_i h2; exact absurd h h2
      · rename_i h2
        rcases List.mem_cons.1 hx with rfl | hx
        · simpa using h1
        · exact Y4 vK_ x hx
def zC (cols : List Int) (xs : List E) : List Int × Int := if 8 < xs.length then ([], 5) else xl cols xs
theorem yW {cols : List Int} {xs : List E} (h : (zC cols xs).2 = 0) : xs.length <= 8 /\ ∀ x ∈ xs, (zH cols x).2 = 0 := by
  unfold zC at h; split at h
  · simp at h
  · exact ⟨by omega, Y4 h⟩
theorem Qg {w : World} {base : Nat} {v : Value} {n : Nat} {ys : List Int} (h : w.ownsRow base 3 1 v n (ys.map (Value.int .i64))) : ∃ (B : Option Addr) (cap : Nat), v = .slice B ys.length cap /\ xc w B ys /\ zN B ys.length cap := by
  have hn := h.1; obtain ⟨_, h⟩ := h; obtain rfl : n = ys.length := by simpa using hn.symm
  rcases h with ⟨rfl, h0⟩ | ⟨gb, cap, cur, rfl, hB, hgb, hle, hmx, hcs, htk⟩
  · have : ys = [] := List.length_eq_zero_iff.1 h0
    subst this; exact ⟨none, 0, rfl, fun i x hx => by simp at hx, zN.nil⟩
  · have hb : zc w gb 3 cur := hgb
    refine ⟨some ⟨gb, 0, none⟩, cap, rfl, fun i x hx => ⟨gb, 0, rfl, ?_⟩, ⟨hle, fun h => by cases h⟩⟩; have hv : (ys.map (Value.int .i64))[i]? = some (.int .i64 x) := by simp [hx]
    rw [<- htk, List.getElem?_take] at hv; split at hv
    · rw [Nat.zero_add, hb.cell]; simpa using hv
    · cases hv
def XQ (w : World) (B : Option Addr) : Prop := ∀ a, B = some a -> w.heap.size <= a.block
theorem q5 {w : World} {base n m s cap : Nat} {e : TypeId} {B : Option Addr} {vs : List Value} (h : w.ownsRow base e s (.slice B n cap) m vs) : ∀ a, B = some a -> base <= a.block := fun a ha => by
  subst ha; exact (h.lt a.block rfl).1
theorem YI (w : World) (A : Option Addr) : xc w A [] := fun i x hx => by simp at hx
theorem yv {α β : Type} (f : α -> β) {xs : List α} {k : Nat} {x : α} (h : xs[k]? = some x) : (xs.take (k + 1)).map f = (xs.take k).map f ++ [f x] := by
  obtain ⟨h1, e1⟩ := qQ9.1 h; rw [List.take_succ_eq_append_getElem h1, e1]; simp
theorem Yn (cols : List Int) (Ac : Option Addr) (cc : Nat) (xs : List E) (A : Option Addr) (c : Nat) (w : World) (hlen : cols.length <= 9223372036854775807) (hl : xs.length <= 9223372036854775807) (hc : xc w Ac cols) (hx : Y6 w A xs) :
    Calls Tryz.prog 42 #[.slice Ac cols.length cc, .slice A xs.length c] w fun en w' => ∃ (B : Option Addr) (cap : Nat), en = .returned (.tuple #[.slice B (zC cols xs).1.length cap, .int .i64 (zC cols xs).2]) /\ xc w' B (zC cols xs).1 /\ zN B (zC cols xs).1.length cap /\ XQ w B /\ za w w' := by
  have Hx := hh_ hx; have Hc := hh_ hc; have Ti := hh_ jb; clear hx hc; obtain ⟨R, hR⟩ : ∃ R, zC cols xs = R := ⟨_, rfl⟩
  rw [hR]; have HR := hh_ hR; clear hR; go_enter Tryz.func42, Tryz.ntmps42
  by_cases h8 : 8 < xs.length
  · have d8 : decide ((8 : Int) < (xs.length : Int)) = true := decide_eq_true vU_
    have e : R = ([], 5) := by rw [<- HR.out]; unfold zC; rw [if_pos h8]
    subst e; go_wp2; refine qX_ oy_ rfl ?_; exact ⟨none, 0, rfl, YI _ _, zN.nil, (fun a ha => by cases ha), za.refl _⟩
  · have d8 : decide ((8 : Int) < (xs.length : Int)) = false := decide_eq_false vU_
    have e : R = xl cols xs := by rw [<- HR.out]; unfold zC; rw [if_neg h8]
    have Re := hh_ e; clear e; go_wp2
    go_loopw [6, 16] (fun t i wr => ∃ k : Nat, k <= xs.length /\ i = .int .i64 k /\ wr.ownsRow w.heap.size 3 1 t k (((xs.take k).map (fun x => (zH cols x).1)).map (Value.int .i64)) /\ (∀ x ∈ xs.take k, (zH cols x).2 = 0) /\ za w wr) (fun _ i _ => xs.length - (intOf i).toNat)
    case atStart => exact ⟨0, Nat.zero_le _, rfl, World.ownsRow_nil _ _ _ _, fun x hx => by simp at hx, za.refl w⟩
    case round =>
      obtain ⟨k, hk, rfl, hown, hz, hg⟩ := hrel; have Own := hh_ hown; have Hz := hh_ hz; clear hown hz
      by_cases hlt : k < xs.length
      · obtain ⟨x, hxk⟩ : ∃ x, xs[k]? = some x := ⟨_, qQ_ hlt⟩
        obtain ⟨gx, ox, rfl, hec, hex⟩ := (Hx.out.grow hg) k x hxk; obtain ⟨c0, c1, c2, c3, c4, c5⟩ := hec; obtain ⟨T, F, hTF⟩ : ∃ T F, zH cols x = (T, F) := ⟨_, _, rfl⟩
        have ct := fun W (h : za wr W) => Y0 cols Ac cc x W hlen (Hc.out.grow (hg.trans h)) (hex.grow h)
        rw [hTF] at ct; simp only at ct; have Hxk := hh_ hxk; have HTF := hh_ hTF; have hl2 := Own.out.lt; have HL2 := hh_ hl2; clear hxk hex hTF hl2; unfold E.val at ct; obtain ⟨ti, hti, hz0, hz1, hz2⟩ := Ti.out
        by_cases h0 : F = 0
        · subst h0
          go_wp2_with (first
            | (go_at_call 79; ((with_reducible refine (ct _ zi).mono ?_); rintro e w2 ⟨rfl, hg2⟩; have Own2 := hh_ (zr Own.out (((za.refl wr).al _).trans hg2)); have G2 := (hg.al _).trans hg2; clear hg2))
            | (at_builtin; refine wpList_append_own _ rfl _ _ 55 rfl w.heap.size 3 ti (.int .i64 0) 1 8 Tryz.underlying55 hti hz0 hz1 hz2 rfl vT_ _ _ _ rfl (Own2.out.alloc _) ⟨w2.heap.size, 0, none⟩ 1 1 [.int .i64 T] rfl rfl ?c1 ?c2 ?c3 ?c4 ?c5 ?_))
          case c1 => exact wi_
          case c2 => intro u hu; simp at hu; subst hu; rfl
          case c3 => unfold maxLen; omega
          case c4 => omega
          case c5 => have := G2.size; simp; omega
          · intro v' w7 hown' hgrow _
            have hg7 : za w w7 := za.own (G2.al _) hgrow (fun i hi => (HL2.out i hi).1); clear hgrow; go_wp2; go_roundw
            case rel => exact ⟨k + 1, by omega, by go_num, by rw [yv _ Hxk.out, HTF.out]; simpa using hown', fun y hy => by
              obtain ⟨h1, e1⟩ := qQ9.1 Hxk.out; rw [List.take_succ_eq_append_getElem h1, e1] at hy; rcases List.mem_append.1 hy with hy | hy
              · exact Hz.out y hy
              · simp at hy; subst hy; rw [HTF.out], hg7⟩
            case measure => exact vZ_
        · have d0 : (F != 0) = true := by simpa using h0
          have e : R = ([], F) := by rw [Re.out, ZQ cols xs k x Hxk.out Hz.out (by rw [HTF.out]; exact h0), HTF.out]
          subst e
          go_wp2_with (go_at_call 79; ((with_reducible refine (ct _ zi).mono ?_); rintro e w2 ⟨rfl, hg2⟩; have G2 := (hg.al _).trans hg2; clear hg2))
          refine qX_ oy_ rfl ?_; exact ⟨none, 0, rfl, YI _ _, zN.nil, (fun a ha => by cases ha), G2⟩
      · obtain rfl : k = xs.length := by omega
        have own := Own.out; rw [List.take_length] at own; have e : R = (xs.map (fun x => (zH cols x).1), 0) := by rw [Re.out, kB cols xs ok_]
        subst e; obtain ⟨B, cap, rfl, hi, hs⟩ := Qg own; have Fin := hh_ (And.intro hi (And.intro hs (q5 own))); clear own hi hs; go_wp2; refine qX_ oy_ rfl ?_; exact ⟨B, cap, by simp, Fin.out.1, by simpa using Fin.out.2.1, Fin.out.2.2, hg⟩
theorem Zv (cols : List Int) (Ac : Option Addr) (cc : Nat) (xs : List E) (A : Option Addr) (c : Nat) (w : World) (hlen : cols.length <= 9223372036854775807) (hl : xs.length <= 9223372036854775807) (hc : xc w Ac cols) (hx : Y6 w A xs) :
    Calls Tryz.prog 42 #[.slice Ac cols.length cc, .slice A xs.length c] w fun en w' => ∃ (B : Option Addr) (cap : Nat), en = .returned (.tuple #[.slice B (zC cols xs).1.length cap, .int .i64 (zC cols xs).2]) /\ xc w' B (zC cols xs).1 /\ zN B (zC cols xs).1.length cap /\ za w w' := (Yn cols Ac cc xs A c w hlen hl hc hx).mono fun e w' ⟨B, cap, h1, h2, h3, _, h4⟩ => ⟨B, cap, h1, h2, h3, h4⟩
theorem xZ (xs : List E) (A : Option Addr) (c : Nat) (row : List V) (Ar : Option Addr) (cr : Nat) (w : World) (hl : xs.length <= 1000) (hlr : row.length <= 9223372036854775807) (hx : Y6 w A xs) (hre : ∀ x ∈ xs, RE row.length x) (hr : ∀ v ∈ row, RV v) (hrow : xd w Ar row) :
    Calls Tryz.prog 88 #[.slice A xs.length c, .slice Ar row.length cr] w fun en w' => ∃ (B : Option Addr) (cap : Nat), en = .returned (.slice B xs.length cap) /\ w'.ownsRow w.heap.size 24 3 (.slice B xs.length cap) xs.length (zG (xs.map (yk row))) /\ za w w' := by
  have Hx := hh_ hx; have Hre := hh_ hre; have Hr := hh_ hr; have Hrow := hh_ hrow; have Ti := hh_ X9; clear hx hre hr hrow; go_enter Tryz.func88, Tryz.ntmps88; go_wp2
  go_loopw [5, 9] (fun t i wr => ∃ k : Nat, k <= xs.length /\ i = .int .i64 k /\ wr.ownsRow w.heap.size 24 3 t k (zG ((xs.take k).map (yk row))) /\ za w wr) (fun _ i _ => xs.length - (intOf i).toNat)
  case atStart => exact ⟨0, Nat.zero_le _, rfl, World.ownsRow_nil _ _ _ _, za.refl w⟩
  case round =>
    obtain ⟨k, hk, rfl, hown, hg⟩ := hrel; have Own := hh_ hown; clear hown
    by_cases hlt : k < xs.length
    · obtain ⟨x, hxk⟩ : ∃ x, xs[k]? = some x := ⟨_, qQ_ hlt⟩
      obtain ⟨gx, ox, rfl, hec, hex⟩ := (Hx.out.grow hg) k x hxk; have co := fun W (h : za wr W) => Ky row Ar cr hlr Hr.out x (Hre.out x (qZ_ hxk)) gx (ox + k * 6) wr W hex hec (Hrow.out.grow hg) h
      have e := yv (yk row) hxk; have E := hh_ e; obtain ⟨ti, hti, hz0, hz1, hz2⟩ := Ti.out; have hl2 := Own.out.lt; have HL2 := hh_ hl2; generalize yk row x = v9 at *; unfold V.val at co; clear hxk e hl2 hec hex
      go_wp2_with (first
        | (go_at_call 87; ((with_reducible refine (co _ zi).mono ?_); rintro e w2 ⟨rfl, hg2⟩; have Own2 := hh_ (zr Own.out hg2); have G2 := hg.trans hg2; clear hg2))
        | (at_builtin; refine wpList_append_own _ rfl _ _ 52 rfl w.heap.size 24 ti (.agg #[.int .i64 0, .int .i64 0, .string ⟨#[]⟩]) 3 32 Tryz.underlying52 hti hz0 hz1 hz2 rfl vT_ _ _ _ rfl (Own2.out.alloc _) ⟨w2.heap.size, 0, none⟩ 1 1 (zG [v9]) rfl rfl ?c1 (Jl _) ?c3 ?c4 ?c5 ?_))
      case c1 =>
        intro j u hj
        match j, hj with
        | 0, hj => simp [zG] at hj; subst hj; simp [Addr.add]
        | 1, hj => simp [zG] at hj; subst hj; simp [Addr.add]
        | 2, hj => simp [zG] at hj; subst hj; simp [Addr.add]
      case c3 => unfold maxLen; omega
      case c4 => omega
      case c5 => have := G2.size; simp; omega
      · intro v' w7 hown' hgrow _
        have hg7 : za w w7 := za.own (G2.al _) hgrow (fun i hi => (HL2.out i hi).1); clear hgrow; go_wp2; go_roundw
        case rel => exact ⟨k + 1, by omega, by go_num, by rw [E.out, YG]; simpa using hown', hg7⟩
        case measure => exact vZ_
    · obtain rfl : k = xs.length := by omega
      have hfin : ∃ (B : Option Addr) (cap : Nat), u5 = .slice B xs.length cap := by
        have h := Own.out; rcases h.2 with ⟨rfl, h0⟩ | ⟨gb, cap, cur, rfl, _⟩
        · exact ⟨none, 0, by rw [h0]⟩
        · exact ⟨_, _, rfl⟩
      obtain ⟨B, cap, rfl⟩ := hfin; have own := Own.out; rw [List.take_length] at own; have Fin := hh_ own; clear own; go_wp2; go_ret; exact ⟨B, cap, rfl, Fin.out, hg⟩
def Ze (cols : List Int) (es : List E) (z : List Z) : List Z × Int := if (zC cols es).2 ≠ 0 then ([], (zC cols es).2) else if zz cols z ≠ 0 then ([], zz cols z) else yF (z.map (fun r => (es.map (yk r.1), r.2)))
def qS (w : World) (y : I) : Prop := ∃ base, w.ownsRow base 24 3 (.slice y.A y.row.length y.cap) y.row.length (zG y.row)
theorem qS.grow {w w' : World} {y : I} (h : qS w y) (hg : za w w') : qS w' y := ⟨_, zr h.choose_spec hg⟩
theorem qS.kept {w w' : World} {y : I} {base n : Nat} {v : Value} {xs : List Value} (h : qS w y) (hown : w.ownsRow base 54 2 v n xs) (hg : w.grownBy w' v.ownBlock) : qS w' y :=
  ⟨_, World.ownsRow.kept h.choose_spec hg (Sq h.choose_spec hown vT_)⟩
theorem qS.vsl {w : World} {y : I} (h : qS w y) : xd w y.A y.row := by
  obtain ⟨base, h⟩ := h; obtain ⟨B, c, e, hv⟩ := KL h; simp at e; rw [e.1]; exact hv
def PV (n : Nat) (vs : List V) (v : Value) (W : World) : Prop := ∃ (B : Option Addr) (cap : Nat), v = .slice B n cap /\ ∃ base, W.ownsRow base 24 3 (.slice B n cap) n (zG vs)
def PZ (n : Nat) (m : Int) (vs : List V) (v : Value) (W : World) : Prop := ∃ (B : Option Addr) (cap : Nat), v = .agg #[.slice B n cap, .int .i64 m] /\ ∃ base, W.ownsRow base 24 3 (.slice B n cap) n (zG vs)
def PB (n : Nat) (m : Int) (vs : List V) (v : Value) (W : World) : Prop := ∃ (B : Option Addr) (cap g : Nat), v = .slice (some ⟨g, 0, none⟩) 1 1 /\ zc W g 54 #[.slice B n cap, .int .i64 m] /\ ∃ base, W.ownsRow base 24 3 (.slice B n cap) n (zG vs)
theorem PV.pers (n : Nat) (vs : List V) : ∀ v w w', za w w' -> PV n vs v w -> PV n vs v w' := fun v w w' hg ⟨B, cap, e, base, h⟩ => ⟨B, cap, e, base, zr h hg⟩
theorem PZ.pers (n : Nat) (m : Int) (vs : List V) : ∀ v w w', za w w' -> PZ n m vs v w -> PZ n m vs v w' := fun v w w' hg ⟨B, cap, e, base, h⟩ => ⟨B, cap, e, base, zr h hg⟩
theorem PB.pers (n : Nat) (m : Int) (vs : List V) : ∀ v w w', za w w' -> PB n m vs v w -> PB n m vs v w' := fun v w w' hg ⟨B, cap, g, e, hb, base, h⟩ => ⟨B, cap, g, e, hb.grow hg, base, zr h hg⟩
theorem VQ (cols : List Int) (Ac : Option Addr) (cc : Nat) (es : List E) (Ae : Option Addr) (ce : Nat) (xs : List I) (A : Option Addr) (c : Nat) (w : World) (hlen : cols.length <= 9223372036854775807) (hle : es.length <= 9223372036854775807) (hc : xc w Ac cols) (hE : Y6 w Ae es) (h : In w ⟨A, xs, c⟩) :
    Calls Tryz.prog 49 #[.slice Ac cols.length cc, .slice Ae es.length ce, .slice A xs.length c] w fun en w' => yK w w' en (Ze cols es (xs.map zp)) := by
  have hza : yI w A xs := h.z; have H := hh_ h; have Hz := hh_ hza; have Hc := hh_ hc; have HX := hh_ hE; have ct := Zv cols Ac cc es Ae ce w hlen hle hc hE; have ci := fun W (hg : za w W) => qu cols Ac cc xs A c W hlen (Hc.out.grow hg) (H.out.grow hg)
  obtain ⟨TS, TE, hTE⟩ : ∃ TS TE, zC cols es = (TS, TE) := ⟨_, _, rfl⟩
  obtain ⟨IE, hIE⟩ : ∃ IE, zz cols (xs.map zp) = IE := ⟨_, rfl⟩
  rw [hTE] at ct; rw [hIE] at ci; obtain ⟨Q, hQ⟩ : ∃ Q, Ze cols es (xs.map zp) = Q := ⟨_, rfl⟩
  rw [hQ]; have fin : Q = if TE ≠ 0 then ([], TE) else if IE ≠ 0 then ([], IE) else yF ((xs.map zp).map (fun r => (es.map (yk r.1), r.2))) := by rw [<- hQ]; unfold Ze; rw [hTE, hIE]
  have Fin := hh_ fin; have HTE := hh_ hTE; have HIE := hh_ hIE; clear h hza hc hE hTE hIE hQ fin; go_enter Tryz.func49, Tryz.ntmps49
  by_cases h0 : TE = 0
  · by_cases h1 : IE = 0
    · subst h0 h1
      have eQ : Q = yF ((xs.map zp).map (fun r => (es.map (yk r.1), r.2))) := by rw [Fin.out]; simp
      obtain ⟨_, hwz, hfit⟩ := zj HIE.out; obtain ⟨a1, a2, a3, a4⟩ := S.facts (s := ⟨A, xs, c⟩) hwz; have a1 : xs.length <= 400 := a1; have A2 := hh_ (show ∀ y ∈ xs, y.row.length <= 8 from a2); have A3 := hh_ (show ∀ y ∈ xs, ∀ v ∈ y.row, RV v from a3); have A4 := hh_ (show ∀ y ∈ xs, -1000000 <= y.w /\ y.w <= 1000000 from a4); have Hfit := hh_ (show ∀ y ∈ xs, x6 cols y.row = 0 from fun y hy => hfit (zp y) (qZ9 hy)); obtain ⟨he8, hty⟩ := yW (by rw [HTE.out] : (zC cols es).2 = 0); have Hty := hh_ hty; have EQ := hh_ eQ; clear eQ hwz hfit a2 a3 a4 hty
      go_upto_region 8 with (first
        | (go_at_call 42; ((with_reducible refine ct.mono ?_); rintro e w2 ⟨BT, capT, rfl, _, _, hg2⟩))
        | (go_at_call 30; ((with_reducible refine (ci _ hg2).mono ?_); rintro e w3 ⟨rfl, hg3⟩)))
      have G3 := hh_ (hg2.trans hg3); clear ct ci; go_wp2
      go_loopw [11, 31] (fun t i wr => ∃ (k : Nat) (out : List I), k <= xs.length /\ i = .int .i64 k /\ wr.ownsRow w3.heap.size 54 2 t k (zq out) /\ out.map zp = (xs.take k).map (fun y => (es.map (yk y.row), y.w)) /\ (∀ y ∈ out, qS wr y) /\ za w3 wr) (fun _ i _ => xs.length - (intOf i).toNat)
      case atStart => exact ⟨0, [], Nat.zero_le _, rfl, World.ownsRow_nil _ _ _ _, rfl, fun y hy => by simp at hy, za.refl _⟩
      case round =>
        obtain ⟨k, out, hk, rfl, hown, hmap, hor, hg⟩ := hrel; have Own := hh_ hown; have Map := hh_ hmap; have Ors := hh_ hor; clear hown hmap hor
        by_cases hlt : k < xs.length
        · obtain ⟨y, hyk⟩ : ∃ y, xs[k]? = some y := ⟨_, qQ_ hlt⟩
          have hmem := qZ_ hyk; obtain ⟨gx, ox, rfl, c1, c2, hyv⟩ := (Hz.out.grow (G3.out.trans hg)) k y hyk
          have hre : ∀ x ∈ es, RE y.row.length x := fun x hx => by
            obtain ⟨T, hok⟩ := qD (Hty.out x hx); rw [((yz cols y.row).1 (Hfit.out y hmem)).1]; exact Xl x hok.ty
          have hlr : y.row.length <= 9223372036854775807 := by have := A2.out y hmem; omega
          have cv := fun W (h : za wr W) => xZ es Ae ce y.row y.A y.cap W vU_ hlr (HX.out.grow (G3.out.trans (hg.trans h))) hre (A3.out y hmem) (hyv.grow h)
          have es1 := yv (fun y : I => (es.map (yk y.row), y.w)) hyk; have Es := hh_ es1; have ln : (es.map (yk y.row)).length = es.length := by simp
          have Ln := hh_ ln; generalize es.map (yk y.row) = VR at cv Es Ln; clear hyk hmem hre es1 ln hyv; go_upto_region 11 with fail
          refine zd (fun Z => zc Z wr.heap.size 54 #[.slice y.A y.row.length y.cap, .int .i64 y.w] /\ za wr Z) ⟨zc.new _ _ _, (za.refl wr).al _⟩ ?_; rintro Z ⟨Bz, Gz⟩; apply zb 9 vP_ vP_
          case h' =>
            intro Q0 hQ0; simp only [List.take_succ_cons, List.take_zero]
            repeat ((first | ((first | apply zh rfl | apply zo rfl rfl rfl); case h1 => (intro w1 hw1 hF K hK; obtain ⟨bz, fz⟩ := (Bz.grow hw1).rules; go_simp; first | exact hK _ (za.refl _))) | apply zm rfl rfl rfl rfl); intro K hK; go_simp; apply hK; clear hK K)
            apply ze (PV es.length VR) rfl
            case h1 =>
              intro w1 hw1 hF K hK; go_simp
              go_at_call 88
              refine (cv w1 (Gz.trans hw1)).mono ?_; rintro en w' ⟨B, cap, rfl, ho, hg'⟩; exact ⟨_, rfl, hK _ _ hg' ⟨B, cap, rfl, _, ho⟩⟩
            intro v39 K hK; go_simp; apply hK; clear hK K
            repeat ((first | ((first | apply zh rfl | apply zo rfl rfl rfl); case h1 => (intro w1 hw1 hF K hK; obtain ⟨bz, fz⟩ := (Bz.grow hw1).rules; go_simp; first | exact hK _ (za.refl _))) | apply zm rfl rfl rfl rfl); intro K hK; go_simp; apply hK; clear hK K)
            apply ze (PZ es.length y.w VR) rfl
            case h1 =>
              intro w1 hw1 hF K hK; obtain ⟨B, cap, hv, h1⟩ := hF _ (List.mem_cons_self ..) ⟨_, rfl, by decide⟩; subst hv; go_simp; exact hK _ _ (za.refl _) ⟨B, cap, rfl, h1⟩
            intro v42 K hK; go_simp; apply hK; clear hK K
            repeat ((first | ((first | apply zh rfl | apply zo rfl rfl rfl); case h1 => (intro w1 hw1 hF K hK; obtain ⟨bz, fz⟩ := (Bz.grow hw1).rules; go_simp; first | exact hK _ (za.refl _))) | apply zm rfl rfl rfl rfl); intro K hK; go_simp; apply hK; clear hK K)
            apply ze (PB es.length y.w VR) rfl
            case h1 =>
              intro w1 hw1 hF K hK; obtain ⟨B, cap, hv, h1⟩ := hF _ (List.mem_cons_self ..) ⟨_, rfl, by decide⟩; subst hv; go_simp; exact hK _ _ ((za.refl _).al _) ⟨B, cap, w1.heap.size, rfl, zc.new _ _ _, h1.choose, zr h1.choose_spec ((za.refl _).al _)⟩
            intro v43 K hK; go_simp; apply hK; clear hK K
            repeat ((first | ((first | apply zh rfl | apply zo rfl rfl rfl); case h1 => (intro w1 hw1 hF K hK; obtain ⟨bz, fz⟩ := (Bz.grow hw1).rules; go_simp; first | exact hK _ (za.refl _))) | apply zm rfl rfl rfl rfl); intro K hK; go_simp; apply hK; clear hK K)
            refine zk ?_; intro w1 hw1 hF; apply hQ0; clear hQ0; simp only [List.drop_succ_cons, List.drop_zero]; obtain ⟨B, cap, gb, hv, hb1, base, ho⟩ := hF _ (List.mem_cons_self ..); subst hv; clear hF; have G1 := Gz.trans hw1; have Own1 := hh_ (zr Own.out G1); have HB := hh_ hb1; have HO := hh_ ho; clear hb1 ho; have lenO := Own.out.1; rw [yS] at lenO
            go_wp2_with (at_builtin; refine zZ rfl _ _ rfl w3.heap.size _ _ _ rfl Own1.out _ [I.mk B VR cap y.w] rfl (jD Ln.out HB.out) vN_ (by have := (hg.trans G1).size; simp; omega) ?_; intro v7 w7 own7 gr7)
            have G7 : za w3 w7 := yg (hg.trans G1) gr7 Own1.out; have Own7 := hh_ own7
            have O7 : ∀ u ∈ out ++ [I.mk B VR cap y.w], qS w7 u := fun u hu => by
              rcases List.mem_append.1 hu with hu | hu
              · exact ((Ors.out u hu).grow G1).kept Own1.out gr7
              · simp at hu
                subst hu; exact qS.kept ⟨base, by have := HO.out; rw [<- Ln.out] at this; exact this⟩ Own1.out gr7
            have OR7 := hh_ O7; clear own7 gr7 O7; go_roundw
            case rel => exact ⟨k + 1, out ++ [I.mk B VR cap y.w], by omega, by go_num, by simpa using Own7.out, by rw [Es.out, List.map_append, Map.out]; rfl, OR7.out, G7⟩
            case measure => exact vZ_
          case hp' => exact ⟨PV.pers _ _, PZ.pers _ _ _, PB.pers _ _ _, trivial⟩
        · obtain rfl : k = xs.length := by omega
          obtain ⟨B, cap, rfl, hzf, hkf⟩ := kY Own.out (fun y hy => (Ors.out y hy).vsl); have lenO := Own.out.1; rw [yS] at lenO; have hm := Map.out; rw [List.take_length] at hm
          have hx2 : ∀ y ∈ out, ∃ x ∈ xs, y.row = es.map (yk x.row) /\ y.w = x.w := fun y hy => by
            have h1 := qZ9 (f := zp) hy; rw [hm] at h1; obtain ⟨x, hx, e⟩ := List.mem_map.1 h1; exact ⟨x, hx, (Prod.mk.inj e).1.symm, (Prod.mk.inj e).2.symm⟩
          have cs := jF out B cap wr vU_ hzf (fun y hy => by obtain ⟨x, hx, e, _⟩ := hx2 y hy; rw [e]; simp; omega) (fun y hy => by
              obtain ⟨x, hx, e, _⟩ := hx2 y hy; rw [e]; intro v hv; obtain ⟨u, hu, rfl⟩ := List.mem_map.1 hv
              exact QO (Hty.out u hu) (Hfit.out x hx)) (fun y hy => by obtain ⟨x, hx, _, e⟩ := hx2 y hy; rw [e]; exact A4.out x hx)
          have eq2 : out.map zp = (xs.map zp).map (fun r => (es.map (yk r.1), r.2)) := by rw [hm]; simp [zp]
          rw [eq2, <- EQ.out] at cs; clear hzf hkf hm hx2 eq2
          go_wp2_with (go_at_call 20; ((with_reducible refine cs.mono ?_); rintro en w7 ⟨C, zs, cap2, rfl, hz3, hm3, hk3, hg3⟩; have Out := hh_ (And.intro hz3 (And.intro hm3 hk3)); clear hz3 hm3 hk3))
          refine qX_ oz_ rfl ?_; exact ⟨C, zs, cap2, rfl, Out.out.1, Out.out.2.1, Out.out.2.2, G3.out.trans (hg.trans hg3)⟩
    · subst h0
      have d1 : (IE != 0) = true := by simpa using h1
      have eQ : Q = ([], IE) := by rw [Fin.out]; simp [h1]
      go_wp2_with (first
        | (go_at_call 42; ((with_reducible refine ct.mono ?_); rintro e w2 ⟨BT, capT, rfl, _, _, hg2⟩))
        | (go_at_call 30; ((with_reducible refine (ci _ hg2).mono ?_); rintro e w3 ⟨rfl, hg3⟩)))
      refine qX_ oz_ rfl ?_; exact ⟨none, [], 0, by rw [eQ]; rfl, zu _ _, by rw [eQ]; rfl, zN.nil, hg2.trans hg3⟩
  · have d0 : (TE != 0) = true := by simpa using h0
    have eQ : Q = ([], TE) := by rw [Fin.out, if_pos h0]
    go_wp2_with (go_at_call 42; ((with_reducible refine ct.mono ?_); rintro e w2 ⟨BT, capT, rfl, _, _, hg2⟩))
    refine qX_ oz_ rfl ?_; exact ⟨none, [], 0, by rw [eQ]; rfl, zu _ _, by rw [eQ]; rfl, zN.nil, hg2⟩
def qo (x : E) (u r : List V) : Int := if yu x r then kw u r else 0
theorem X7 (x : E) (u : List V) : XR (qo x u) := fun r q h => by unfold qo; rw [yZ x h, Zn u r q h]
def yc (es : List E) (r : List V) : List V := es.map (yk r)
theorem jd (es : List E) (r : List V) : yc es (zg r) = yc es r := by
  unfold yc; exact List.map_congr_left (fun e _ => jY r e)
theorem qz (es : List E) {r q : List V} (h : zg r = zg q) : yc es r = yc es q := by rw [<- jd es r, h, jd]
def Dz (es : List E) (u r : List V) : Int := kw u (yc es r)
theorem Jz (es : List E) (u : List V) : XR (Dz es u) := fun r q h => by unfold Dz; rw [qz es h]
theorem Qc {cols : List Int} {es : List E} {z : List Z} (h1 : (zC cols es).2 = 0) (h2 : zz cols z = 0) : Y7 (z.map (fun r => (es.map (yk r.1), r.2))) := fun y hy => by
  obtain ⟨he8, hty⟩ := yW h1; obtain ⟨r, hr, rfl⟩ := List.mem_map.1 hy; refine ⟨by simpa using he8, fun v hv => ?_⟩; obtain ⟨u, hu, rfl⟩ := List.mem_map.1 hv; exact QO (hty u hu) ((zj h2).2.2 r hr)
end Go.Proofs.YthhbiemnbkfobaaGreat
namespace Go.Proofs.YthhbiemnbkfobaaGreat
open Go.ChangeShapes Go.WideShapes Go.ChangeAt Go.RowKit Go.Calm
set_option maxRecDepth 100000
section
variable {H : Type} {enc : TypeId × Value -> H} {w : World} {base : Nat} {spare : Nat -> Bool} {held : Bool}
theorem RL {fuel : Nat} {cs : List Value} {x : DataW H × List MemPlace} (h : DataW.trod enc Tryz.prog w base spare held fuel 25 cs = some x) :
    ∃ (A : Option Addr) (xs : List E) (cap : Nat), cs = [.slice A xs.length cap] /\ Y6 w A xs /\ xs.length <= maxLen /\ xs.length <= cap := by
  obtain ⟨A, len, cap, n, D, hcs, hl, hcap, hi⟩ := qc (c := 6) Tryz.underlying25 vP_ vU_ h
  haveI : Inhabited E := ⟨.leaf⟩
  obtain ⟨xs, hxl, hx⟩ := YL (α := E) (P := fun i x => ∃ g o, A = some ⟨g, o, none⟩ /\ zA w g (o + i * 6) x /\ EX w x) len (fun i hlt => by
    obtain ⟨g, o, ys, hA, hyl, hat, hd⟩ := hi i hlt; obtain ⟨x, hx, hv⟩ := QJ _ hd; subst hx
    exact ⟨x, g, o, hA, ⟨hat 0 _ rfl, hat 1 _ rfl, hat 2 _ rfl, hat 3 _ rfl, hat 4 _ rfl, hat 5 _ rfl⟩, hv⟩)
  exact ⟨A, xs, cap, by rw [hcs, hxl], hx, by omega, by omega⟩
end
