/-
  Joined texts of this claim: Zs23, TopR, TopQ, Rt1. What each proves its own head says; no condition beside those that each theorem names.
-/
import Derived.Test.YtpdimihojeonhaaGreatGZe
import Derived.Test.YtpdimihojeonhaaGreatGTa
import Derived.Test.YtpdimihojeonhaaGreatGTc
import Derived.Test.YtpdimihojeonhaaGreatGE
import Derived.Test.YtpdimihojeonhaaGreatGZb
namespace Go.Proofs.YtpdimihojeonhaaGreat
open Go.RowKit Go.Calm
set_option linter.unusedSimpArgs false
set_option linter.unusedVariables false

def Fresh (b : Nat) (A : Option Addr) : Prop := ∀ a, A = some a → b ≤ a.block
def Apart (g : Nat) (A : Option Addr) : Prop := ∀ a, A = some a → a.block ≠ g
theorem own_fr {w : World} {base b s n c m : Nat} {e : TypeId} {B : Option Addr} {xs : List Value} (h : w.ownsRow base e s (.slice B n c) m xs) (hb : b ≤ base) : Fresh b B := fun a ha => by
  rcases h.2 with ⟨e, _⟩ | ⟨g, cap, cur, e, hB, _⟩
  · simp at e
    rw [e.1] at ha; cases ha
  · simp at e
    rw [e.1] at ha
    cases ha
    exact Nat.le_trans hb hB
theorem fr_mid {b k K : Nat} {u : I} {xs : List I} (hu : Fresh b u.A) : ∀ y ∈ xs.take k ++ [u] ++ xs.drop K, (∃ x ∈ xs, y.A = x.A) ∨ Fresh b y.A := fun y hy => by
  simp only [List.mem_append, List.mem_singleton] at hy
  rcases hy with (hy | rfl) | hy
  · exact .inl ⟨y, List.mem_of_mem_take hy, rfl⟩
  · exact .inr hu
  · exact .inl ⟨y, List.mem_of_mem_drop hy, rfl⟩
theorem fr_mid0 {k K : Nat} {xs : List I} (b : Nat) : ∀ y ∈ xs.take k ++ xs.drop K, (∃ x ∈ xs, y.A = x.A) ∨ Fresh b y.A := fun y hy => by
  simp only [List.mem_append] at hy
  rcases hy with hy | hy
  · exact .inl ⟨y, List.mem_of_mem_take hy, rfl⟩
  · exact .inl ⟨y, List.mem_of_mem_drop hy, rfl⟩
def GivesSo (xs : List I) (w w' : World) (e : Ending) (r : List Z) : Prop := ∃ (B : Option Addr) (ys : List I) (cap : Nat), e = .returned (.slice B ys.length cap) ∧ ZIn w' B ys ∧ ys.map zOf = r ∧ SlOk B ys.length cap ∧ Fresh w.heap.size B ∧ (∀ y ∈ ys, (∃ x ∈ xs, y.A = x.A) ∨ Fresh w.heap.size y.A) ∧ Grow w w'
set_option maxRecDepth 100000 in
set_option maxHeartbeats 8000000 in
theorem put_own (xs : List I) (A : Option Addr) (c : Nat) (row : List V) (Ar : Option Addr) (cr : Nat) (n : Int) (w : World) (hlen : xs.length ≤ 200000) (hok : SlOk A xs.length c) (hz : ZIn w A xs) (hrow : ∀ x ∈ xs, x.row.length ≤ 1000) (hw : ∀ x ∈ xs, -2000000000000000000 ≤ x.w ∧ x.w ≤ 2000000000000000000) (hl : row.length ≤ 1000) (hr : ∀ v ∈ row, RV v) (hx : VSl w Ar row) (hn : -1000000000000000000 ≤ n ∧ n ≤ 1000000000000000000) :
    Calls Tryz.prog 29 #[.slice A xs.length c, .slice Ar row.length cr, .int .i64 n] w fun en w' => GivesSo xs w w' en (putZ (xs.map zOf) row n) := by
  have Hz := Lib.hid hz
  have Hok := Lib.hid hok
  have Hrow := Lib.hid hrow
  have Hw := Lib.hid hw
  have Hx := Lib.hid hx
  have Hr := Lib.hid hr
  obtain ⟨hn1, hn2⟩ := hn
  have hac := hok.1
  clear hz hrow hw hx hr hok
  go_enter Tryz.func29, Tryz.ntmps29
  go_wp2
  go_loopw [7] (fun i wr => ∃ k : Nat, k ≤ xs.length ∧ i = .int .i64 k ∧ putZ (xs.map zOf) row n = (xs.take k).map zOf ++ putZ ((xs.drop k).map zOf) row n ∧ Grow w wr) (fun i _ => xs.length - (intOf i).toNat)
  case atStart => exact ⟨0, Nat.zero_le _, rfl, by simp, Grow.refl _⟩
  case round =>
    obtain ⟨k, hk, rfl, hinv, hg⟩ := hrel
    have Inv := Lib.hid hinv
    have Tk := Lib.hid (src_take Hok.out (Hz.out.grow hg) hk)
    clear hinv
    by_cases hlt : k < xs.length
    · obtain ⟨x, hxk⟩ : ∃ x, xs[k]? = some x := ⟨_, List.getElem?_eq_getElem hlt⟩
      obtain ⟨gx, ox, rfl, c1, c2, hxv⟩ := (Hz.out.grow hg) k x hxk
      have hlx := Hrow.out x (List.mem_of_getElem? hxk)
      obtain ⟨hw1, hw2⟩ := Hw.out x (List.mem_of_getElem? hxk)
      have cc := fun W (h : Grow wr W) => rrows_any x.row row x.A Ar x.cap cr W (by omega) (by omega) (hxv.grow h) (Hx.out.grow (hg.trans h))
      obtain ⟨d, hd⟩ : ∃ d, rowsG ordV x.row row = d := ⟨_, rfl⟩
      rw [hd] at cc
      have Hd := Lib.hid (show ordR x.row row = d from hd)
      have Hxk := Lib.hid hxk
      have b0 : (0 : Int) ≤ (k : Int) := by omega
      have b1 : (k : Int) < (xs.length : Int) := by omega
      clear hd hxk hxv
      by_cases h1 : d < 0
      · have d1 : decide (d < 0) = true := decide_eq_true h1
        go_wp2_with (go_at_call 39; ((with_reducible refine (cc _ (Grow.refl _)).mono ?_); rintro e w2 ⟨rfl, G2⟩))
        go_roundw
        case rel => exact ⟨k + 1, by omega, by go_num, putZ_step Hxk.out (by rw [Hd.out]; exact h1) Inv.out, hg.trans G2⟩
        case measure => simp [intOf]; omega
      · have d1 : decide (d < 0) = false := decide_eq_false h1
        go_upto_region 5 with (first | (go_at_call 39; ((with_reducible refine (cc _ (Grow.refl _)).mono ?_); rintro e w2 ⟨rfl, G2⟩)) | (at_builtin; refine wpList_append_src rfl _ _ rfl w.heap.size _ 0 [] rfl (World.ownsRow_made _ _ 0 (hg.trans G2).size (by unfold maxLen; omega) (by simp)) _ (xs.take k) rfl (Tk.out.grow (G2.al _)) (by rw [List.length_take]; omega) (by have := (hg.trans G2).size; simp; omega) ?_; intro v8 w8 own8 gr8; have GW : Grow wr w8 := grow_own (G2.al _) gr8 (World.ownsRow_made (e := 48) (size := 2) _ #[] 0 G2.size (by unfold maxLen; omega) (by simp)); have e8 : 0 + (xs.take k).length = k := (by rw [Nat.zero_add, List.length_take]; omega); rw [e8] at own8; have Own8 := Lib.hid (show w8.ownsRow w.heap.size 48 2 v8 k (flatI (xs.take k)) from own8); clear own8 gr8 e8))
        have c18 := GW.cell c1
        have c28 := GW.cell c2
        by_cases h0 : d = 0
        · have d2 : (d == 0) = true := by simpa using h0
          have hwp : IntKind.i64.wrap (n + x.w) = n + x.w := by rw [IntKind.wrap_i64]; omega
          go_upto_region 8 with (go_at_call 39; ((with_reducible refine (cc _ GW).mono ?_); rintro e w9 ⟨rfl, G9⟩; have c29 := G9.cell c28))
          by_cases hN : n + x.w = 0
          · have GV := hg.trans (GW.trans G9)
            have Own9 := Lib.hid (own_grow Own8.out G9)
            have dn : (n + x.w != 0) = false := by simpa using hN
            go_upto_region 10 with fail
            by_cases hc : c = k + 1
            · have hd := src_drop Hok.out (Hz.out.grow GV) (show k + 1 ≤ xs.length by omega)
              simp only [sliced, if_pos hc, Option.map_some, addr_add] at hd
              have Dr := Lib.hid hd
              clear hd
              go_wp2_with (at_builtin; refine wpList_append_src rfl _ _ rfl w.heap.size _ _ (xs.take k) rfl Own9.out _ (xs.drop (k + 1)) rfl ?src (by simp; omega) GV.size ?_; rotate_left; intro v11 w11 own11 gr11; have G11 : Grow w w11 := grow_own GV gr11 Own9.out; have Own11 := Lib.hid own11; clear own11 gr11)
              case src => (go_simp; first | exact Dr.out | simpa using Dr.out | simpa [hc] using Dr.out)
              obtain ⟨B, cap, rfl, hz, hk2⟩ := own_zin2 (ys := xs.take k ++ xs.drop (k + 1)) Own11.out (vsl_mid0 (Hz.out.grow G11))
              have Fin := Lib.hid (And.intro hz hk2)
              clear hz hk2
              go_ret
              exact ⟨B, _, cap, rfl, Fin.out.1, by rw [Inv.out, putZ_at _ _ Hxk.out, Hd.out, if_neg (by omega), if_pos h0, if_neg (by simpa using hN)]; simp [zOf], Fin.out.2, own_fr Own11.out (Nat.le_refl _), (fr_mid0 _), G11⟩
            · have hd := src_drop Hok.out (Hz.out.grow GV) (show k + 1 ≤ xs.length by omega)
              simp only [sliced, if_neg hc, Option.map_some, addr_add] at hd
              have Dr := Lib.hid hd
              clear hd
              go_wp2_with (at_builtin; refine wpList_append_src rfl _ _ rfl w.heap.size _ _ (xs.take k) rfl Own9.out _ (xs.drop (k + 1)) rfl ?src (by simp; omega) GV.size ?_; rotate_left; intro v11 w11 own11 gr11; have G11 : Grow w w11 := grow_own GV gr11 Own9.out; have Own11 := Lib.hid own11; clear own11 gr11)
              case src => (go_simp; first | exact Dr.out | simpa using Dr.out | simpa [hc] using Dr.out)
              obtain ⟨B, cap, rfl, hz, hk2⟩ := own_zin2 (ys := xs.take k ++ xs.drop (k + 1)) Own11.out (vsl_mid0 (Hz.out.grow G11))
              have Fin := Lib.hid (And.intro hz hk2)
              clear hz hk2
              go_ret
              exact ⟨B, _, cap, rfl, Fin.out.1, by rw [Inv.out, putZ_at _ _ Hxk.out, Hd.out, if_neg (by omega), if_pos h0, if_neg (by simpa using hN)]; simp [zOf], Fin.out.2, own_fr Own11.out (Nat.le_refl _), (fr_mid0 _), G11⟩
          · have GV := hg.trans (GW.trans G9)
            have Own9 := Lib.hid (own_grow Own8.out G9)
            have dn : (n + x.w != 0) = true := by simpa using hN
            go_upto_region 10 with (first | (go_at_call 74; ((with_reducible refine (rbare_row row Ar cr _ hl Hr.out (Hx.out.grow GV)).mono ?_); rintro e wB ⟨Bb, cb, rfl, ownB, gB⟩; have OwnB := Lib.hid ownB; have OwnA := Lib.hid (own_grow Own9.out gB); clear ownB)) | (at_builtin; refine wpList_append_src rfl _ _ rfl w.heap.size _ k (xs.take k) rfl (OwnA.out.alloc _) _ [I.mk Bb (bareR row) cb (n + x.w)] rfl (src_one (bareR_len row) (Blk.new _ _ _)) (by simp; omega) (by have := (GV.trans gB).size; simp; omega) ?_; intro v10 w10 own10 gr10))
            have G10 : Grow w w10 := grow_own ((GV.trans gB).al _) gr10 (OwnA.out.alloc _)
            have OwnB10 := Lib.hid (World.ownsRow.kept (OwnB.out.alloc _) gr10 (own_types OwnB.out OwnA.out (by decide)))
            have Own10 := Lib.hid own10
            clear own10 gr10
            by_cases hc : c = k + 1
            · have hd := src_drop Hok.out (Hz.out.grow G10) (show k + 1 ≤ xs.length by omega)
              simp only [sliced, if_pos hc, Option.map_some, addr_add] at hd
              have Dr := Lib.hid hd
              clear hd
              go_wp2_with (at_builtin; refine wpList_append_src rfl _ _ rfl w.heap.size _ _ (xs.take k ++ [I.mk Bb (bareR row) cb (n + x.w)]) rfl Own10.out _ (xs.drop (k + 1)) rfl ?src (by simp; omega) G10.size ?_; rotate_left; intro v11 w11 own11 gr11; have G11 : Grow w w11 := grow_own G10 gr11 Own10.out; have OwnB11 := Lib.hid (World.ownsRow.kept OwnB10.out gr11 (own_types OwnB10.out Own10.out (by decide))); have Own11 := Lib.hid own11; clear own11 gr11)
              case src => (go_simp; first | exact Dr.out | simpa using Dr.out | simpa [hc] using Dr.out)
              obtain ⟨B, cap, rfl, hz, hk2⟩ := own_zin2 (ys := xs.take k ++ [I.mk Bb (bareR row) cb (n + x.w)] ++ xs.drop (k + 1)) Own11.out (vsl_mid (Hz.out.grow G11) (own_row OwnB11.out rfl))
              have Fin := Lib.hid (And.intro hz hk2)
              clear hz hk2
              go_ret
              exact ⟨B, _, cap, rfl, Fin.out.1, by rw [Inv.out, putZ_at _ _ Hxk.out, Hd.out, if_neg (by omega), if_pos h0, if_pos hN]; simp [zOf], Fin.out.2, own_fr Own11.out (Nat.le_refl _), (fr_mid (own_fr OwnB11.out GV.size)), G11⟩
            · have hd := src_drop Hok.out (Hz.out.grow G10) (show k + 1 ≤ xs.length by omega)
              simp only [sliced, if_neg hc, Option.map_some, addr_add] at hd
              have Dr := Lib.hid hd
              clear hd
              go_wp2_with (at_builtin; refine wpList_append_src rfl _ _ rfl w.heap.size _ _ (xs.take k ++ [I.mk Bb (bareR row) cb (n + x.w)]) rfl Own10.out _ (xs.drop (k + 1)) rfl ?src (by simp; omega) G10.size ?_; rotate_left; intro v11 w11 own11 gr11; have G11 : Grow w w11 := grow_own G10 gr11 Own10.out; have OwnB11 := Lib.hid (World.ownsRow.kept OwnB10.out gr11 (own_types OwnB10.out Own10.out (by decide))); have Own11 := Lib.hid own11; clear own11 gr11)
              case src => (go_simp; first | exact Dr.out | simpa using Dr.out | simpa [hc] using Dr.out)
              obtain ⟨B, cap, rfl, hz, hk2⟩ := own_zin2 (ys := xs.take k ++ [I.mk Bb (bareR row) cb (n + x.w)] ++ xs.drop (k + 1)) Own11.out (vsl_mid (Hz.out.grow G11) (own_row OwnB11.out rfl))
              have Fin := Lib.hid (And.intro hz hk2)
              clear hz hk2
              go_ret
              exact ⟨B, _, cap, rfl, Fin.out.1, by rw [Inv.out, putZ_at _ _ Hxk.out, Hd.out, if_neg (by omega), if_pos h0, if_pos hN]; simp [zOf], Fin.out.2, own_fr Own11.out (Nat.le_refl _), (fr_mid (own_fr OwnB11.out GV.size)), G11⟩
        · have d2 : (d == 0) = false := by simpa using h0
          go_upto_region 8 with (go_at_call 39; ((with_reducible refine (cc _ GW).mono ?_); rintro e w9 ⟨rfl, G9⟩))
          by_cases hN : n = 0
          · have GV := hg.trans (GW.trans G9)
            have Own9 := Lib.hid (own_grow Own8.out G9)
            have dn : (n != 0) = false := by simpa using hN
            go_upto_region 10 with fail
            by_cases hc : c = k
            · have hd := src_drop Hok.out (Hz.out.grow GV) (show k ≤ xs.length by omega)
              simp only [sliced, if_pos hc, Option.map_some, addr_add] at hd
              have Dr := Lib.hid hd
              clear hd
              go_wp2_with (at_builtin; refine wpList_append_src rfl _ _ rfl w.heap.size _ _ (xs.take k) rfl Own9.out _ (xs.drop (k)) rfl ?src (by simp; omega) GV.size ?_; rotate_left; intro v11 w11 own11 gr11; have G11 : Grow w w11 := grow_own GV gr11 Own9.out; have Own11 := Lib.hid own11; clear own11 gr11)
              case src => (go_simp; first | exact Dr.out | simpa using Dr.out | simpa [hc] using Dr.out)
              obtain ⟨B, cap, rfl, hz, hk2⟩ := own_zin2 (ys := xs.take k ++ xs.drop (k)) Own11.out (vsl_mid0 (Hz.out.grow G11))
              have Fin := Lib.hid (And.intro hz hk2)
              clear hz hk2
              go_ret
              exact ⟨B, _, cap, rfl, Fin.out.1, by rw [Inv.out, putZ_at _ _ Hxk.out, Hd.out, if_neg (by omega), if_neg h0, if_neg (by simpa using hN)]; simp [zOf], Fin.out.2, own_fr Own11.out (Nat.le_refl _), (fr_mid0 _), G11⟩
            · have hd := src_drop Hok.out (Hz.out.grow GV) (show k ≤ xs.length by omega)
              simp only [sliced, if_neg hc, Option.map_some, addr_add] at hd
              have Dr := Lib.hid hd
              clear hd
              go_wp2_with (at_builtin; refine wpList_append_src rfl _ _ rfl w.heap.size _ _ (xs.take k) rfl Own9.out _ (xs.drop (k)) rfl ?src (by simp; omega) GV.size ?_; rotate_left; intro v11 w11 own11 gr11; have G11 : Grow w w11 := grow_own GV gr11 Own9.out; have Own11 := Lib.hid own11; clear own11 gr11)
              case src => (go_simp; first | exact Dr.out | simpa using Dr.out | simpa [hc] using Dr.out)
              obtain ⟨B, cap, rfl, hz, hk2⟩ := own_zin2 (ys := xs.take k ++ xs.drop (k)) Own11.out (vsl_mid0 (Hz.out.grow G11))
              have Fin := Lib.hid (And.intro hz hk2)
              clear hz hk2
              go_ret
              exact ⟨B, _, cap, rfl, Fin.out.1, by rw [Inv.out, putZ_at _ _ Hxk.out, Hd.out, if_neg (by omega), if_neg h0, if_neg (by simpa using hN)]; simp [zOf], Fin.out.2, own_fr Own11.out (Nat.le_refl _), (fr_mid0 _), G11⟩
          · have GV := hg.trans (GW.trans G9)
            have Own9 := Lib.hid (own_grow Own8.out G9)
            have dn : (n != 0) = true := by simpa using hN
            go_upto_region 10 with (first | (go_at_call 74; ((with_reducible refine (rbare_row row Ar cr _ hl Hr.out (Hx.out.grow GV)).mono ?_); rintro e wB ⟨Bb, cb, rfl, ownB, gB⟩; have OwnB := Lib.hid ownB; have OwnA := Lib.hid (own_grow Own9.out gB); clear ownB)) | (at_builtin; refine wpList_append_src rfl _ _ rfl w.heap.size _ k (xs.take k) rfl (OwnA.out.alloc _) _ [I.mk Bb (bareR row) cb (n)] rfl (src_one (bareR_len row) (Blk.new _ _ _)) (by simp; omega) (by have := (GV.trans gB).size; simp; omega) ?_; intro v10 w10 own10 gr10))
            have G10 : Grow w w10 := grow_own ((GV.trans gB).al _) gr10 (OwnA.out.alloc _)
            have OwnB10 := Lib.hid (World.ownsRow.kept (OwnB.out.alloc _) gr10 (own_types OwnB.out OwnA.out (by decide)))
            have Own10 := Lib.hid own10
            clear own10 gr10
            by_cases hc : c = k
            · have hd := src_drop Hok.out (Hz.out.grow G10) (show k ≤ xs.length by omega)
              simp only [sliced, if_pos hc, Option.map_some, addr_add] at hd
              have Dr := Lib.hid hd
              clear hd
              go_wp2_with (at_builtin; refine wpList_append_src rfl _ _ rfl w.heap.size _ _ (xs.take k ++ [I.mk Bb (bareR row) cb (n)]) rfl Own10.out _ (xs.drop (k)) rfl ?src (by simp; omega) G10.size ?_; rotate_left; intro v11 w11 own11 gr11; have G11 : Grow w w11 := grow_own G10 gr11 Own10.out; have OwnB11 := Lib.hid (World.ownsRow.kept OwnB10.out gr11 (own_types OwnB10.out Own10.out (by decide))); have Own11 := Lib.hid own11; clear own11 gr11)
              case src => (go_simp; first | exact Dr.out | simpa using Dr.out | simpa [hc] using Dr.out)
              obtain ⟨B, cap, rfl, hz, hk2⟩ := own_zin2 (ys := xs.take k ++ [I.mk Bb (bareR row) cb (n)] ++ xs.drop (k)) Own11.out (vsl_mid (Hz.out.grow G11) (own_row OwnB11.out rfl))
              have Fin := Lib.hid (And.intro hz hk2)
              clear hz hk2
              go_ret
              exact ⟨B, _, cap, rfl, Fin.out.1, by rw [Inv.out, putZ_at _ _ Hxk.out, Hd.out, if_neg (by omega), if_neg h0, if_pos hN]; simp [zOf], Fin.out.2, own_fr Own11.out (Nat.le_refl _), (fr_mid (own_fr OwnB11.out GV.size)), G11⟩
            · have hd := src_drop Hok.out (Hz.out.grow G10) (show k ≤ xs.length by omega)
              simp only [sliced, if_neg hc, Option.map_some, addr_add] at hd
              have Dr := Lib.hid hd
              clear hd
              go_wp2_with (at_builtin; refine wpList_append_src rfl _ _ rfl w.heap.size _ _ (xs.take k ++ [I.mk Bb (bareR row) cb (n)]) rfl Own10.out _ (xs.drop (k)) rfl ?src (by simp; omega) G10.size ?_; rotate_left; intro v11 w11 own11 gr11; have G11 : Grow w w11 := grow_own G10 gr11 Own10.out; have OwnB11 := Lib.hid (World.ownsRow.kept OwnB10.out gr11 (own_types OwnB10.out Own10.out (by decide))); have Own11 := Lib.hid own11; clear own11 gr11)
              case src => (go_simp; first | exact Dr.out | simpa using Dr.out | simpa [hc] using Dr.out)
              obtain ⟨B, cap, rfl, hz, hk2⟩ := own_zin2 (ys := xs.take k ++ [I.mk Bb (bareR row) cb (n)] ++ xs.drop (k)) Own11.out (vsl_mid (Hz.out.grow G11) (own_row OwnB11.out rfl))
              have Fin := Lib.hid (And.intro hz hk2)
              clear hz hk2
              go_ret
              exact ⟨B, _, cap, rfl, Fin.out.1, by rw [Inv.out, putZ_at _ _ Hxk.out, Hd.out, if_neg (by omega), if_neg h0, if_pos hN]; simp [zOf], Fin.out.2, own_fr Own11.out (Nat.le_refl _), (fr_mid (own_fr OwnB11.out GV.size)), G11⟩
    · obtain rfl : k = xs.length := by omega
      have hlt2 : decide ((xs.length : Int) < (xs.length : Int)) = false := by simp
      go_upto_region 5 with (at_builtin; refine wpList_append_src rfl _ _ rfl w.heap.size _ 0 [] rfl (World.ownsRow_made _ _ 0 hg.size (by unfold maxLen; omega) (by simp)) _ (xs.take xs.length) rfl (Tk.out.grow ((Grow.refl wr).al _)) (by rw [List.length_take]; omega) (by have := hg.size; simp; omega) ?_; intro v8 w8 own8 gr8; have GW : Grow wr w8 := grow_own ((Grow.refl wr).al _) gr8 (World.ownsRow_made (e := 48) (size := 2) _ #[] 0 (Grow.refl wr).size (by unfold maxLen; omega) (by simp)); have e8 : 0 + (xs.take xs.length).length = xs.length := (by rw [Nat.zero_add, List.length_take]; omega); rw [e8] at own8; have Own8 := Lib.hid (show w8.ownsRow w.heap.size 48 2 v8 xs.length (flatI (xs.take xs.length)) from own8); clear own8 gr8 e8)
      go_upto_region 8 with fail
      by_cases hN : n = 0
      · have GV := hg.trans GW
        have Own9 := Lib.hid (own_grow Own8.out (Grow.refl _))
        have dn : (n != 0) = false := by simpa using hN
        go_upto_region 10 with fail
        by_cases hc : c = xs.length
        · have hd := src_drop Hok.out (Hz.out.grow GV) (show xs.length ≤ xs.length by omega)
          simp only [sliced, if_pos hc, Option.map_some, addr_add] at hd
          have Dr := Lib.hid hd
          clear hd
          go_wp2_with (at_builtin; refine wpList_append_src rfl _ _ rfl w.heap.size _ _ (xs.take xs.length) rfl Own9.out _ (xs.drop (xs.length)) rfl ?src (by simp; omega) GV.size ?_; rotate_left; intro v11 w11 own11 gr11; have G11 : Grow w w11 := grow_own GV gr11 Own9.out; have Own11 := Lib.hid own11; clear own11 gr11)
          case src => (go_simp; first | exact Dr.out | simpa using Dr.out | simpa [hc] using Dr.out)
          obtain ⟨B, cap, rfl, hz, hk2⟩ := own_zin2 (ys := xs.take xs.length ++ xs.drop (xs.length)) Own11.out (vsl_mid0 (Hz.out.grow G11))
          have Fin := Lib.hid (And.intro hz hk2)
          clear hz hk2
          go_ret
          exact ⟨B, _, cap, rfl, Fin.out.1, by rw [Inv.out, List.drop_length]; simp [putZ, hN, zOf], Fin.out.2, own_fr Own11.out (Nat.le_refl _), (fr_mid0 _), G11⟩
        · have hd := src_drop Hok.out (Hz.out.grow GV) (show xs.length ≤ xs.length by omega)
          simp only [sliced, if_neg hc, Option.map_some, addr_add] at hd
          have Dr := Lib.hid hd
          clear hd
          go_wp2_with (at_builtin; refine wpList_append_src rfl _ _ rfl w.heap.size _ _ (xs.take xs.length) rfl Own9.out _ (xs.drop (xs.length)) rfl ?src (by simp; omega) GV.size ?_; rotate_left; intro v11 w11 own11 gr11; have G11 : Grow w w11 := grow_own GV gr11 Own9.out; have Own11 := Lib.hid own11; clear own11 gr11)
          case src => (go_simp; first | exact Dr.out | simpa using Dr.out | simpa [hc] using Dr.out)
          obtain ⟨B, cap, rfl, hz, hk2⟩ := own_zin2 (ys := xs.take xs.length ++ xs.drop (xs.length)) Own11.out (vsl_mid0 (Hz.out.grow G11))
          have Fin := Lib.hid (And.intro hz hk2)
          clear hz hk2
          go_ret
          exact ⟨B, _, cap, rfl, Fin.out.1, by rw [Inv.out, List.drop_length]; simp [putZ, hN, zOf], Fin.out.2, own_fr Own11.out (Nat.le_refl _), (fr_mid0 _), G11⟩
      · have GV := hg.trans GW
        have Own9 := Lib.hid (own_grow Own8.out (Grow.refl _))
        have dn : (n != 0) = true := by simpa using hN
        go_upto_region 10 with (first | (go_at_call 74; ((with_reducible refine (rbare_row row Ar cr _ hl Hr.out (Hx.out.grow GV)).mono ?_); rintro e wB ⟨Bb, cb, rfl, ownB, gB⟩; have OwnB := Lib.hid ownB; have OwnA := Lib.hid (own_grow Own9.out gB); clear ownB)) | (at_builtin; refine wpList_append_src rfl _ _ rfl w.heap.size _ xs.length (xs.take xs.length) rfl (OwnA.out.alloc _) _ [I.mk Bb (bareR row) cb (n)] rfl (src_one (bareR_len row) (Blk.new _ _ _)) (by simp; omega) (by have := (GV.trans gB).size; simp; omega) ?_; intro v10 w10 own10 gr10))
        have G10 : Grow w w10 := grow_own ((GV.trans gB).al _) gr10 (OwnA.out.alloc _)
        have OwnB10 := Lib.hid (World.ownsRow.kept (OwnB.out.alloc _) gr10 (own_types OwnB.out OwnA.out (by decide)))
        have Own10 := Lib.hid own10
        clear own10 gr10
        by_cases hc : c = xs.length
        · have hd := src_drop Hok.out (Hz.out.grow G10) (show xs.length ≤ xs.length by omega)
          simp only [sliced, if_pos hc, Option.map_some, addr_add] at hd
          have Dr := Lib.hid hd
          clear hd
          go_wp2_with (at_builtin; refine wpList_append_src rfl _ _ rfl w.heap.size _ _ (xs.take xs.length ++ [I.mk Bb (bareR row) cb (n)]) rfl Own10.out _ (xs.drop (xs.length)) rfl ?src (by simp; omega) G10.size ?_; rotate_left; intro v11 w11 own11 gr11; have G11 : Grow w w11 := grow_own G10 gr11 Own10.out; have OwnB11 := Lib.hid (World.ownsRow.kept OwnB10.out gr11 (own_types OwnB10.out Own10.out (by decide))); have Own11 := Lib.hid own11; clear own11 gr11)
          case src => (go_simp; first | exact Dr.out | simpa using Dr.out | simpa [hc] using Dr.out)
          obtain ⟨B, cap, rfl, hz, hk2⟩ := own_zin2 (ys := xs.take xs.length ++ [I.mk Bb (bareR row) cb (n)] ++ xs.drop (xs.length)) Own11.out (vsl_mid (Hz.out.grow G11) (own_row OwnB11.out rfl))
          have Fin := Lib.hid (And.intro hz hk2)
          clear hz hk2
          go_ret
          exact ⟨B, _, cap, rfl, Fin.out.1, by rw [Inv.out, List.drop_length]; simp [putZ, hN, zOf], Fin.out.2, own_fr Own11.out (Nat.le_refl _), (fr_mid (own_fr OwnB11.out GV.size)), G11⟩
        · have hd := src_drop Hok.out (Hz.out.grow G10) (show xs.length ≤ xs.length by omega)
          simp only [sliced, if_neg hc, Option.map_some, addr_add] at hd
          have Dr := Lib.hid hd
          clear hd
          go_wp2_with (at_builtin; refine wpList_append_src rfl _ _ rfl w.heap.size _ _ (xs.take xs.length ++ [I.mk Bb (bareR row) cb (n)]) rfl Own10.out _ (xs.drop (xs.length)) rfl ?src (by simp; omega) G10.size ?_; rotate_left; intro v11 w11 own11 gr11; have G11 : Grow w w11 := grow_own G10 gr11 Own10.out; have OwnB11 := Lib.hid (World.ownsRow.kept OwnB10.out gr11 (own_types OwnB10.out Own10.out (by decide))); have Own11 := Lib.hid own11; clear own11 gr11)
          case src => (go_simp; first | exact Dr.out | simpa using Dr.out | simpa [hc] using Dr.out)
          obtain ⟨B, cap, rfl, hz, hk2⟩ := own_zin2 (ys := xs.take xs.length ++ [I.mk Bb (bareR row) cb (n)] ++ xs.drop (xs.length)) Own11.out (vsl_mid (Hz.out.grow G11) (own_row OwnB11.out rfl))
          have Fin := Lib.hid (And.intro hz hk2)
          clear hz hk2
          go_ret
          exact ⟨B, _, cap, rfl, Fin.out.1, by rw [Inv.out, List.drop_length]; simp [putZ, hN, zOf], Fin.out.2, own_fr Own11.out (Nat.le_refl _), (fr_mid (own_fr OwnB11.out GV.size)), G11⟩
structure PutSo (w : World) (g : Nat) (wr : World) (t : Value) (l : List Z) : Prop where
  sl : ∃ (B : Option Addr) (ys : List I) (cap : Nat), t = .slice B ys.length cap ∧ ZIn wr B ys ∧ ys.map zOf = setZ l ∧ SlOk B ys.length cap ∧ Apart g B ∧ ∀ y ∈ ys, Apart g y.A
  grow : Grow w wr
  pl : PlB l
theorem PutSo.nil (w : World) (g : Nat) (wr : World) (hg : Grow w wr) : PutSo w g wr (.slice none 0 0) [] := ⟨⟨none, [], 0, rfl, zin_nil _ _, rfl, SlOk.nil, fun a h => (by cases h), fun y hy => by simp at hy⟩, hg, PlB.nil⟩
theorem PutSo.more {w : World} {g : Nat} {wr wq : World} {t : Value} {l : List Z} (h : PutSo w g wr t l) (hg : Grow wr wq) : PutSo w g wq t l := by
  obtain ⟨⟨B, ys, cap, h1, h2, h3, h4, h7, h8⟩, h5, h6⟩ := h
  exact ⟨⟨B, ys, cap, h1, h2.grow hg, h3, h4, h7, h8⟩, h5.trans hg, h6⟩
theorem vsl_gx {g : Nat} {w w' : World} {A : Option Addr} {xs : List V} (hx : VSl w A xs) (hA : Apart g A) (hg : GX g w w') : VSl w' A xs := fun i x hi => by
  obtain ⟨g', o', e, a, b, c⟩ := hx i x hi
  have hne : g' ≠ g := hA _ e
  exact ⟨g', o', e, World.grownBy.cell hg a (by simpa using hne), World.grownBy.cell hg b (by simpa using hne), World.grownBy.cell hg c (by simpa using hne)⟩
theorem zin_gx {g : Nat} {w w' : World} {A : Option Addr} {ys : List I} (hz : ZIn w A ys) (hA : Apart g A) (hr : ∀ y ∈ ys, Apart g y.A) (hg : GX g w w') : ZIn w' A ys := fun i x hx => by
  obtain ⟨g', o', e, a, b, c⟩ := hz i x hx
  have hne : g' ≠ g := hA _ e
  exact ⟨g', o', e, World.grownBy.cell hg a (by simpa using hne), World.grownBy.cell hg b (by simpa using hne), vsl_gx c (hr x (List.mem_of_getElem? hx)) hg⟩
theorem PutSo.gx {w : World} {g : Nat} {wr wq : World} {t : Value} {l : List Z} (h : PutSo w g wr t l) (hg : GX g wr wq) (hb : w.heap.size ≤ g) : PutSo w g wq t l := by
  obtain ⟨⟨B, ys, cap, h1, h2, h3, h4, h7, h8⟩, h5, h6⟩ := h
  exact ⟨⟨B, ys, cap, h1, zin_gx h2 h7 h8 hg, h3, h4, h7, h8⟩, GX.base h5 hb hg, h6⟩
theorem PutSo.slice {w : World} {g : Nat} {wr : World} {t : Value} {l : List Z} (h : PutSo w g wr t l) : ∃ (B : Option Addr) (n cap : Nat), t = .slice B n cap := by
  obtain ⟨⟨B, ys, cap, h1, _⟩, _⟩ := h
  exact ⟨B, _, cap, h1⟩
theorem put_stepo {w : World} {g : Nat} {wr : World} {t : Value} {l : List Z} (h : PutSo w g wr t l) (hg0 : g < wr.heap.size) (row : List V) (Ar : Option Addr) (cr : Nat) (n : Int) (hx : VSl wr Ar row) (hl : row.length ≤ 1000) (hr : ∀ v ∈ row, RV v) (hn : -1000000000000 ≤ n ∧ n ≤ 1000000000000) (hlen : l.length ≤ 200000) :
    Calls Tryz.prog 29 #[t, .slice Ar row.length cr, .int .i64 n] wr fun en w' => ∃ v, en = .returned v ∧ PutSo w g w' v (l ++ [(row, n)]) ∧ Grow wr w' := by
  obtain ⟨⟨B, ys, cap, rfl, hz, hm, hk, ha, har⟩, hg, hp⟩ := h
  have hlen2 : ys.length ≤ 200000 := by
    have h1 := congrArg List.length hm
    have h2 := setZ_len l
    simp at h1
    omega
  have hrow : ∀ x ∈ ys, x.row.length ≤ 1000 := fun x hx => by
    have h1 : zOf x ∈ setZ l := by rw [← hm]; exact List.mem_map_of_mem hx
    obtain ⟨u, hu, e⟩ := setZ_mem h1
    have := (hp.1 u hu).1
    have e2 : x.row = bareR u.1 := e
    rw [e2]
    simpa [bareR] using this
  have hw : ∀ x ∈ ys, -2000000000000000000 ≤ x.w ∧ x.w ≤ 2000000000000000000 := fun x hx => by
    have h1 : zOf x ∈ setZ l := by rw [← hm]; exact List.mem_map_of_mem hx
    have h2 := setZ_bd (by omega) hp.2 _ h1
    simp only [zOf] at h2
    omega
  refine (put_own ys B cap row Ar cr n wr hlen2 hk hz hrow hw hl hr hx (by omega)).mono ?_
  rintro en w' ⟨C, zs, cap2, rfl, hz2, hm2, hk2, hf, hfr, hg2⟩
  refine ⟨_, rfl, ⟨⟨C, zs, cap2, rfl, hz2, by rw [hm2, hm, setZ_snoc], hk2, fun a e => by have := hf a e; omega, fun y hy => ?_⟩, hg.trans hg2, hp.snoc hl hr hn⟩, hg2⟩
  rcases hfr y hy with ⟨x, hx, e⟩ | h
  · rw [e]; exact har x hx
  · exact fun a e => by have := h a e; omega
theorem DBx.dec {w : World} {g : Nat} {xs : List I} (h : DBx w g xs) {i : Nat} {x : I} (hx : xs[i]? = some x) (n : Int) : DBx (w.setCell ⟨g, i * 2 + 1, none⟩ (.int .i64 n)) g (xs.set i { x with w := n }) := by
  obtain ⟨r, h⟩ := h
  have hi := (List.getElem?_eq_some_iff.1 hx).1
  have hb := Blk.set h (i * 2 + 1) (.int .i64 n)
  refine ⟨r, ?_⟩
  have e1 : (flatI xs).set (i * 2) (.slice x.A x.row.length x.cap) = flatI xs := by
    obtain ⟨h1, h2⟩ := List.getElem?_eq_some_iff.1 (flatI_get xs i x hx).1
    rw [← h2]; exact List.set_getElem_self h1
  have e2 := flatI_set xs i { x with w := n } hi
  simp only at e2
  rw [e1] at e2
  rw [← e2]
  have l2 : i * 2 + 1 < (flatI xs).length := by rw [flatI_len]; omega
  simp only [List.setIfInBounds_toArray, List.set_append_left _ _ l2] at hb
  exact hb
end Go.Proofs.YtpdimihojeonhaaGreat

namespace Go.Proofs.YtpdimihojeonhaaGreat
open Go.RowKit Go.Calm
set_option linter.unusedSimpArgs false
set_option linter.unusedVariables false

def pickN : Nat → List Z → List Z
  | 0, _ => []
  | _ + 1, [] => []
  | n + 1, x :: M => (x.1, 1) :: pickN n (if x.2 ≤ 1 then M else (x.1, x.2 - 1) :: M)
theorem wt_pick (q : List V) : ∀ (n : Nat) (M : List Z), (∀ x ∈ M, 0 < x.2) → wtZ (pickN n M) q = wtZ (topGo n M) q
  | 0, M, _ => by unfold pickN; rw [topGo_none (by simp)]
  | n + 1, [], _ => rfl
  | n + 1, x :: M, hp => by
    have hx := hp x (List.mem_cons_self ..)
    have hp' := fun y (hy : y ∈ M) => hp y (List.mem_cons_of_mem _ hy)
    unfold pickN
    rw [wtZ_cons]
    by_cases h1 : x.2 ≤ 1
    · rw [if_pos h1, wt_pick q n M hp']
      have e : x.2 = 1 := by omega
      have er : topGo ((n + 1 : Nat) : Int) (x :: M) = (x.1, 1) :: topGo (n : Int) M := by
        have u : topGo ((n + 1 : Nat) : Int) (x :: M) = if 0 < ((n + 1 : Nat) : Int) then (x.1, if x.2 ≤ ((n + 1 : Nat) : Int) then x.2 else ((n + 1 : Nat) : Int)) :: topGo (((n + 1 : Nat) : Int) - if x.2 ≤ ((n + 1 : Nat) : Int) then x.2 else ((n + 1 : Nat) : Int)) M else topGo ((n + 1 : Nat) : Int) M := rfl
        rw [u, if_pos (by omega), if_pos (by omega), e, show ((n + 1 : Nat) : Int) - 1 = (n : Int) by omega]
      rw [er, wtZ_cons]
    · rw [if_neg h1, wt_pick q n _ (fun y hy => by
        rcases List.mem_cons.1 hy with e | hy
        · rw [e]; show 0 < x.2 - 1; omega
        · exact hp' y hy)]
      unfold topGo
      rw [if_pos (by omega : (0 : Int) < ((n + 1 : Nat) : Int))]
      by_cases hn : (0 : Int) < (n : Int)
      · rw [if_pos hn, wtZ_cons, wtZ_cons]
        simp only
        by_cases h2 : x.2 ≤ ((n + 1 : Nat) : Int)
        · rw [if_pos h2, if_pos (by omega : x.2 - 1 ≤ (n : Int)), show (n : Int) - (x.2 - 1) = ((n + 1 : Nat) : Int) - x.2 by omega]
          split <;> omega
        · rw [if_neg h2, if_neg (by omega : ¬ x.2 - 1 ≤ (n : Int)), show (n : Int) - (n : Int) = ((n + 1 : Nat) : Int) - ((n + 1 : Nat) : Int) by omega]
          split <;> omega
      · rw [if_neg hn, topGo_none (by omega), wtZ_cons]
        simp only
        rw [if_neg (by omega : ¬ x.2 ≤ ((n + 1 : Nat) : Int)), topGo_none (by omega)]
        have : ((n + 1 : Nat) : Int) = 1 := by omega
        rw [this]
def bareZ (x : Z) : Z := (bareR x.1, x.2)
theorem topGo_map (f : List V → List V) : ∀ (M : List Z) (left : Int), topGo left (M.map (fun x => (f x.1, x.2))) = (topGo left M).map (fun x => (f x.1, x.2))
  | [], _ => rfl
  | x :: M, left => by
    rw [List.map_cons]
    unfold topGo
    split
    · rw [List.map_cons]
      simp only
      rw [topGo_map f M]
    · exact topGo_map f M left
theorem wt_bareZ (q : List V) : ∀ l : List Z, wtZ (l.map bareZ) q = wtZ l q
  | [] => rfl
  | x :: l => by
    rw [List.map_cons, wtZ_cons, wtZ_cons, wt_bareZ q l]
    unfold bareZ
    rw [bareR_bareR]
def posZ (l : List Z) : List Z := l.filter (fun x => decide (0 < x.2))
theorem each_pos_bare : ∀ z : List Z, eachL posF z = (posZ z).map bareZ
  | [] => rfl
  | x :: z => by
    have ih := each_pos_bare z
    unfold eachL at ih ⊢
    unfold posZ at ih ⊢
    rw [List.map_cons, List.filter_cons, List.filter_cons, ih]
    by_cases h : 0 < x.2
    · have e : posF x.2 = x.2 := by unfold posF; split <;> omega
      rw [if_pos (by simpa [e] using (show x.2 ≠ 0 by omega)), if_pos (by simpa using h), List.map_cons, e]; rfl
    · have e : posF x.2 = 0 := by unfold posF; split <;> omega
      rw [if_neg (by simp [e]), if_neg (by simpa using h)]
theorem sort_bare {es : List E} {z : List Z} (hr : ∀ x ∈ z, ∀ v ∈ x.1, RV v) (hu : z.Pairwise (fun x y => ordR x.1 y.1 < 0)) : sortZ es (eachL posF z) = (sortZ es (posZ z)).map bareZ := by
  have can := eachL_canon (f := posF) hr hu
  symm
  refine sortZ_eq can.up ?_ ?_
  · rw [each_pos_bare]; exact (sortZ_perm es (posZ z)).map bareZ
  · rw [List.pairwise_map]
    refine List.Pairwise.imp_of_mem ?_ (sortZ_up es (posZ z))
    intro a b ha hb hab
    have ra := hr a (List.mem_filter.1 ((sortZ_perm es (posZ z)).mem_iff.1 ha)).1
    have rb := hr b (List.mem_filter.1 ((sortZ_perm es (posZ z)).mem_iff.1 hb)).1
    have ka : es.map (ofE (bareZ a).1) = es.map (ofE a.1) := vals_bare es a.1
    have kb : es.map (ofE (bareZ b).1) = es.map (ofE b.1) := vals_bare es b.1
    unfold cmpZ at hab ⊢
    rw [ka, kb]
    split at hab
    · rename_i h; rw [if_pos h]; exact hab
    · rename_i h
      rw [if_neg h]
      have c1 : ordR (bareR a.1) a.1 ≤ 0 := Int.le_of_eq (ordR_bare' ra)
      have c2 : ordR b.1 (bareR b.1) ≤ 0 := Int.le_of_eq (ordR_bare rb)
      exact ordR_trans (ordR_trans c1 hab) c2
theorem top_pick {cols : List Int} {es : List E} {k : Nat} {z : List Z} (h1 : (typesE cols es).2 = 0) (hk : k ≤ 50) (h2 : inputE cols z = 0) : topZ cols es k z = (setZ (pickN k (sortZ es (posZ z))), 0) := by
  obtain ⟨_, hw, _⟩ := inputE_zero h2
  have smz := SM.of hw
  unfold topZ
  rw [if_neg (by rw [h1]; simp), if_neg (by omega), if_neg (by rw [h2]; simp), sort_bare smz.rv smz.up]
  have pos : ∀ x ∈ sortZ es (posZ z), 0 < x.2 := fun x hx => by
    have := (List.mem_filter.1 ((sortZ_perm es (posZ z)).mem_iff.1 hx)).2
    simpa using this
  have mz : ∀ x ∈ sortZ es (posZ z), x ∈ z := fun x hx => (List.mem_filter.1 ((sortZ_perm es (posZ z)).mem_iff.1 hx)).1
  have et : topGo (k : Int) ((sortZ es (posZ z)).map bareZ) = (topGo k (sortZ es (posZ z))).map bareZ := topGo_map bareR _ _
  rw [et]
  have ok : okR ((topGo k (sortZ es (posZ z))).map bareZ) := fun y hy => by
    obtain ⟨t, ht, rfl⟩ := List.mem_map.1 hy
    obtain ⟨x, hx, e, _⟩ := topGo_mem pos ht
    have := smz.ok x (mz x hx)
    rw [e] at this
    exact ⟨by show (bareR t.1).length ≤ 8; rw [bareR_len]; exact this.1, bareR_rv this.2⟩
  have okp : okR (pickN k (sortZ es (posZ z))) := fun y hy => by
    have sub : ∀ (n : Nat) (l : List Z), y ∈ pickN n l → ∃ x ∈ l, x.1 = y.1 := by
      intro n
      induction n with
      | zero => intro l h; simp [pickN] at h
      | succ n ih =>
        intro l h
        cases l with
        | nil => simp [pickN] at h
        | cons a l =>
          unfold pickN at h
          rcases List.mem_cons.1 h with e | h
          · exact ⟨a, List.mem_cons_self .., by rw [e]⟩
          · obtain ⟨x, hx, e⟩ := ih _ h
            split at hx
            · exact ⟨x, List.mem_cons_of_mem _ hx, e⟩
            · rcases List.mem_cons.1 hx with e2 | hx
              · exact ⟨a, List.mem_cons_self .., by rw [← e, e2]⟩
              · exact ⟨x, List.mem_cons_of_mem _ hx, e⟩
    obtain ⟨x, hx, e⟩ := sub k _ hy
    have := smz.ok x (mz x hx)
    rw [e] at this
    exact this
  have dS : DZ (sortZ es (posZ z)) := by
    refine (List.Perm.pairwise_iff (fun {a b} h => Ne.symm h) (sortZ_perm es (posZ z))).2 ?_
    refine List.Pairwise.imp_of_mem ?_ (List.Pairwise.filter _ smz.up)
    intro a b ha hb hab e
    have := (ordR_zero a.1 b.1 (smz.rv a (List.mem_filter.1 ha).1) (smz.rv b (List.mem_filter.1 hb).1)).2 e
    omega
  have bd : ∀ q, -1000000 ≤ wtZ ((topGo k (sortZ es (posZ z))).map bareZ) q ∧ wtZ ((topGo k (sortZ es (posZ z))).map bareZ) q ≤ 1000000 := fun q => by
    rw [wt_bareZ]
    by_cases h0 : wtZ (topGo k (sortZ es (posZ z))) q = 0
    · rw [h0]; omega
    · obtain ⟨t, ht, e⟩ := wt_some h0
      have w1 : wtZ (topGo k (sortZ es (posZ z))) q = t.2 := by
        rw [← wt_dz (topGo_dz pos dS) ht]
        unfold wtZ
        rw [e]
      obtain ⟨x, hx, _, hp1, hp2⟩ := topGo_mem pos ht
      have := smz.bd x (mz x hx)
      rw [w1]; omega
  have ln : ((topGo k (sortZ es (posZ z))).map bareZ).length ≤ 400 := by
    have l1 : ∀ (l : List Z) (left : Int), (topGo left l).length ≤ l.length := by
      intro l
      induction l with
      | nil => intro left; simp [topGo]
      | cons a l ih =>
        intro left
        unfold topGo
        split
        · simp only [List.length_cons]; have := ih (left - if a.2 ≤ left then a.2 else left); omega
        · have := ih left; simp only [List.length_cons]; omega
    rw [List.length_map]
    refine Nat.le_trans (l1 _ _) ?_
    rw [(sortZ_perm es (posZ z)).length_eq]
    exact Nat.le_trans (List.length_filter_le _ _) smz.len
  rw [(sum_sm (M := 1000000) (N := 400) ok bd ln (by omega) (by omega)).1]
  have s1 := setZ_spec (pickN k (sortZ es (posZ z))) (fun y hy => (okp y hy).2)
  rw [setZ_of (l := (topGo k (sortZ es (posZ z))).map bareZ) (fun y hy => (ok y hy).2) s1.1 (fun q => by rw [s1.2, wt_pick q k _ pos, wt_bareZ])]
end Go.Proofs.YtpdimihojeonhaaGreat

namespace Go.Proofs.YtpdimihojeonhaaGreat
open Go.RowKit Go.Calm
set_option linter.unusedSimpArgs false
set_option linter.unusedVariables false

def RestI (xs R : List I) : Prop := R.map (fun x => (x.A, x.row, x.cap)) = xs.map (fun x => (x.A, x.row, x.cap)) ∧ ∀ x ∈ R, -1000000 ≤ x.w ∧ x.w ≤ 1000000
theorem RestI.len {xs R : List I} (h : RestI xs R) : R.length = xs.length := by
  have := congrArg List.length h.1
  simpa using this
theorem RestI.mem {xs R : List I} (h : RestI xs R) {x : I} (hx : x ∈ R) : ∃ y ∈ xs, y.A = x.A ∧ y.row = x.row ∧ y.cap = x.cap := by
  have h1 : (x.A, x.row, x.cap) ∈ R.map (fun x => (x.A, x.row, x.cap)) := List.mem_map_of_mem (f := fun x : I => (x.A, x.row, x.cap)) hx
  rw [h.1] at h1
  obtain ⟨y, hy, e⟩ := List.mem_map.1 h1
  simp only [Prod.mk.injEq] at e
  exact ⟨y, hy, e⟩
theorem RestI.up {xs R : List I} (h : RestI xs R) (hu : (xs.map zOf).Pairwise (fun a b => ordR a.1 b.1 < 0)) : (R.map zOf).Pairwise (fun a b => ordR a.1 b.1 < 0) := by
  rw [List.pairwise_map] at hu ⊢
  have h1 : (xs.map (fun x => (x.A, x.row, x.cap))).Pairwise (fun a b => ordR a.2.1 b.2.1 < 0) := by rw [List.pairwise_map]; exact hu
  rw [← h.1, List.pairwise_map] at h1
  exact h1
theorem RestI.dec {xs R : List I} (h : RestI xs R) {m : Nat} {y : I} (hm : R[m]? = some y) (hy : 0 < y.w) : RestI xs (R.set m { y with w := y.w - 1 }) := by
  obtain ⟨hl, e⟩ := List.getElem?_eq_some_iff.1 hm
  refine ⟨?_, fun x hx => ?_⟩
  · rw [← h.1, List.map_set]
    have : (R.map (fun x : I => (x.A, x.row, x.cap))).set m (y.A, y.row, y.cap) = R.map (fun x : I => (x.A, x.row, x.cap)) := by
      have hl2 : m < (R.map (fun x : I => (x.A, x.row, x.cap))).length := by simpa using hl
      have e2 : (R.map (fun x : I => (x.A, x.row, x.cap)))[m] = (y.A, y.row, y.cap) := by rw [List.getElem_map, e]
      rw [← e2]; exact List.set_getElem_self hl2
    exact this
  · rcases List.mem_or_eq_of_mem_set hx with h1 | h1
    · exact h.2 x h1
    · have := h.2 y (List.mem_of_getElem? hm)
      rw [h1]
      show -1000000 ≤ y.w - 1 ∧ y.w - 1 ≤ 1000000
      omega
theorem set_split {R : List I} {m : Nat} {y : I} (h : R[m]? = some y) (z : I) : R = R.take m ++ y :: R.drop (m + 1) ∧ R.set m z = R.take m ++ z :: R.drop (m + 1) := by
  obtain ⟨hl, e⟩ := List.getElem?_eq_some_iff.1 h
  constructor
  · rw [← e, List.getElem_cons_drop, List.take_append_drop]
  · exact List.set_eq_take_append_cons_drop.trans (by rw [if_pos hl])
theorem cmpZ_fst {es : List E} {a b c d : Z} (h1 : a.1 = c.1) (h2 : b.1 = d.1) : cmpZ es a b = cmpZ es c d := by unfold cmpZ; rw [h1, h2]
theorem posZ_app (a b : List Z) : posZ (a ++ b) = posZ a ++ posZ b := List.filter_append ..
theorem top_step {es : List E} {R : List I} {m : Nat} {y : I} (hm : R[m]? = some y) (hy : 0 < y.w) (hu : (R.map zOf).Pairwise (fun a b => ordR a.1 b.1 < 0)) (hmin : ∀ (i : Nat) (x : I), R[i]? = some x → 0 < x.w → cmpZ es (zOf y) (zOf x) ≤ 0) (k : Nat) :
    pickN (k + 1) (sortZ es (posZ (R.map zOf))) = (y.row, 1) :: pickN k (sortZ es (posZ ((R.set m { y with w := y.w - 1 }).map zOf))) := by
  obtain ⟨e1, e2⟩ := set_split hm { y with w := y.w - 1 }
  obtain ⟨P1, hP1⟩ : ∃ P, posZ ((R.take m).map zOf) = P := ⟨_, rfl⟩
  obtain ⟨P2, hP2⟩ : ∃ P, posZ ((R.drop (m + 1)).map zOf) = P := ⟨_, rfl⟩
  have ep : posZ (R.map zOf) = P1 ++ zOf y :: P2 := by
    rw [e1, List.map_append, List.map_cons, posZ_app, hP1]
    congr 1
    unfold posZ at hP2 ⊢
    rw [List.filter_cons, if_pos (decide_eq_true (show 0 < (zOf y).2 from hy)), hP2]
  have up : (P1 ++ zOf y :: P2).Pairwise (fun a b => ordR a.1 b.1 < 0) := by rw [← ep]; exact List.Pairwise.filter _ hu
  have up0 : (P1 ++ P2).Pairwise (fun a b => ordR a.1 b.1 < 0) := by
    refine List.Pairwise.sublist ?_ up
    exact List.Sublist.append (List.Sublist.refl _) (List.sublist_cons_self ..)
  have le : ∀ x ∈ P1 ++ P2, cmpZ es (zOf y) x ≤ 0 := fun x hx => by
    have h1 : x ∈ posZ (R.map zOf) := by
      rw [ep]
      rcases List.mem_append.1 hx with h | h
      · exact List.mem_append_left _ h
      · exact List.mem_append_right _ (List.mem_cons_of_mem _ h)
    obtain ⟨h2, h3⟩ := List.mem_filter.1 h1
    obtain ⟨u, hu, rfl⟩ := List.mem_map.1 h2
    obtain ⟨i, hi, e⟩ := List.mem_iff_getElem.1 hu
    exact hmin i u (by rw [← e]; exact List.getElem?_eq_getElem hi) (of_decide_eq_true h3)
  have s1 : sortZ es (posZ (R.map zOf)) = zOf y :: sortZ es (P1 ++ P2) := by
    rw [ep]
    symm
    refine sortZ_eq up ?_ ?_
    · exact ((sortZ_perm es (P1 ++ P2)).cons _).trans List.perm_middle.symm
    · rw [List.pairwise_cons]
      exact ⟨fun x hx => le x ((sortZ_perm es (P1 ++ P2)).mem_iff.1 hx), sortZ_up es _⟩
  have s2 : sortZ es (posZ ((R.set m { y with w := y.w - 1 }).map zOf)) = if y.w ≤ 1 then sortZ es (P1 ++ P2) else (y.row, y.w - 1) :: sortZ es (P1 ++ P2) := by
    rw [e2, List.map_append, List.map_cons, posZ_app, hP1]
    by_cases h1 : y.w ≤ 1
    · rw [if_pos h1]
      congr 2
      unfold posZ at hP2 ⊢
      rw [List.filter_cons, if_neg (by simp [zOf]; omega), hP2]
    · rw [if_neg h1]
      have e3 : posZ (zOf { y with w := y.w - 1 } :: (R.drop (m + 1)).map zOf) = (y.row, y.w - 1) :: P2 := by
        unfold posZ at hP2 ⊢
        rw [List.filter_cons, if_pos (by simp [zOf]; omega), hP2]; rfl
      rw [e3]
      symm
      have up2 : (P1 ++ ((y.row, y.w - 1) : Z) :: P2).Pairwise (fun a b => ordR a.1 b.1 < 0) := by
        rw [List.pairwise_append, List.pairwise_cons] at up ⊢
        refine ⟨up.1, ⟨fun x hx => up.2.1.1 x hx, up.2.1.2⟩, fun a ha b hb => ?_⟩
        rcases List.mem_cons.1 hb with h | h
        · rw [h]; exact up.2.2 a ha (zOf y) (List.mem_cons_self ..)
        · exact up.2.2 a ha b (List.mem_cons_of_mem _ h)
      refine sortZ_eq up2 ?_ ?_
      · exact ((sortZ_perm es (P1 ++ P2)).cons _).trans List.perm_middle.symm
      · rw [List.pairwise_cons]
        exact ⟨fun x hx => by rw [cmpZ_fst (a := (y.row, y.w - 1)) (c := zOf y) (d := x) rfl rfl]; exact le x ((sortZ_perm es (P1 ++ P2)).mem_iff.1 hx), sortZ_up es _⟩
  rw [s1, s2]
  rfl
theorem top_none {es : List E} {R : List I} (h : ∀ (i : Nat) (x : I), R[i]? = some x → x.w ≤ 0) (k : Nat) : pickN k (sortZ es (posZ (R.map zOf))) = [] := by
  have e : posZ (R.map zOf) = [] := by
    unfold posZ
    rw [List.filter_eq_nil_iff]
    intro a ha
    obtain ⟨u, hu, rfl⟩ := List.mem_map.1 ha
    obtain ⟨i, hi, e⟩ := List.mem_iff_getElem.1 hu
    have := h i u (by rw [← e]; exact List.getElem?_eq_getElem hi)
    rw [decide_eq_true_eq]
    show ¬ 0 < u.w
    omega
  rw [e]
  have : sortZ es [] = [] := by unfold sortZ; exact List.mergeSort_nil ..
  rw [this]
  cases k <;> rfl
def BestI (es : List E) (R : List I) (j : Nat) (b : Value) : Prop := (b = .int .i64 (-1) ∧ ∀ (i : Nat) (x : I), i < j → R[i]? = some x → x.w ≤ 0) ∨ ∃ (m : Nat) (y : I), m < j ∧ b = .int .i64 (m : Int) ∧ R[m]? = some y ∧ 0 < y.w ∧ ∀ (i : Nat) (x : I), i < j → R[i]? = some x → 0 < x.w → cmpZ es (zOf y) (zOf x) ≤ 0
theorem BestI.skip {es : List E} {R : List I} {j : Nat} {b : Value} {x : I} (h : BestI es R j b) (hx : R[j]? = some x) (hw : x.w ≤ 0) : BestI es R (j + 1) b := by
  rcases h with ⟨h1, h2⟩ | ⟨m, y, h1, h2, h3, h4, h5⟩
  · refine .inl ⟨h1, fun i u hi hu => ?_⟩
    rcases Nat.lt_or_ge i j with h | h
    · exact h2 i u h hu
    · obtain rfl : i = j := by omega
      rw [hx] at hu; cases hu; exact hw
  · refine .inr ⟨m, y, by omega, h2, h3, h4, fun i u hi hu hp => ?_⟩
    rcases Nat.lt_or_ge i j with h | h
    · exact h5 i u h hu hp
    · obtain rfl : i = j := by omega
      rw [hx] at hu; cases hu; omega
theorem cmpZ_self (es : List E) (a : Z) : cmpZ es a a = 0 := by
  have := cmpZ_swap es a a
  omega
theorem BestI.first {es : List E} {R : List I} {j : Nat} {x : I} (h : ∀ (i : Nat) (x : I), i < j → R[i]? = some x → x.w ≤ 0) (hx : R[j]? = some x) (hw : 0 < x.w) : BestI es R (j + 1) (.int .i64 (j : Int)) := by
  refine .inr ⟨j, x, by omega, rfl, hx, hw, fun i u hi hu hp => ?_⟩
  rcases Nat.lt_or_ge i j with h1 | h1
  · have := h i u h1 hu; omega
  · obtain rfl : i = j := by omega
    rw [hx] at hu; cases hu
    exact Int.le_of_eq (cmpZ_self _ _)
theorem BestI.take {es : List E} {R : List I} {j m : Nat} {x y : I} (h5 : ∀ (i : Nat) (x : I), i < j → R[i]? = some x → 0 < x.w → cmpZ es (zOf y) (zOf x) ≤ 0) (hx : R[j]? = some x) (hw : 0 < x.w) (hc : rowsG ordV (es.map (ofE x.row)) (es.map (ofE y.row)) < 0) : BestI es R (j + 1) (.int .i64 (j : Int)) := by
  have h0 : cmpZ es (zOf x) (zOf y) ≤ 0 := by
    show (if rowsG ordV (es.map (ofE x.row)) (es.map (ofE y.row)) ≠ 0 then rowsG ordV (es.map (ofE x.row)) (es.map (ofE y.row)) else rowsG ordV x.row y.row) ≤ 0
    rw [if_pos (by omega)]; omega
  refine .inr ⟨j, x, by omega, rfl, hx, hw, fun i u hi hu hp => ?_⟩
  rcases Nat.lt_or_ge i j with h1 | h1
  · exact cmpZ_trans es _ _ _ h0 (h5 i u h1 hu hp)
  · obtain rfl : i = j := by omega
    rw [hx] at hu; cases hu
    exact Int.le_of_eq (cmpZ_self _ _)
theorem BestI.keep {es : List E} {R : List I} {j m : Nat} {x y : I} (hu : (R.map zOf).Pairwise (fun a b => ordR a.1 b.1 < 0)) (hm : m < j) (hy : R[m]? = some y) (hyw : 0 < y.w) (h5 : ∀ (i : Nat) (x : I), i < j → R[i]? = some x → 0 < x.w → cmpZ es (zOf y) (zOf x) ≤ 0) (hx : R[j]? = some x) (hc : ¬ rowsG ordV (es.map (ofE x.row)) (es.map (ofE y.row)) < 0) : BestI es R (j + 1) (.int .i64 (m : Int)) := by
  have hxy : ordR y.row x.row < 0 := by
    obtain ⟨h1, e1⟩ := List.getElem?_eq_some_iff.1 hy
    obtain ⟨h2, e2⟩ := List.getElem?_eq_some_iff.1 hx
    have := List.pairwise_iff_getElem.1 hu m j (by simpa using h1) (by simpa using h2) hm
    rw [List.getElem_map, List.getElem_map, e1, e2] at this
    exact this
  have h0 : cmpZ es (zOf y) (zOf x) ≤ 0 := by
    have sw := rowsG_swap ordV ordV_swap (es.map (ofE x.row)) (es.map (ofE y.row))
    show (if rowsG ordV (es.map (ofE y.row)) (es.map (ofE x.row)) ≠ 0 then rowsG ordV (es.map (ofE y.row)) (es.map (ofE x.row)) else rowsG ordV y.row x.row) ≤ 0
    split
    · omega
    · unfold ordR at hxy; omega
  refine .inr ⟨m, y, by omega, rfl, hy, hyw, fun i u hi hu hp => ?_⟩
  rcases Nat.lt_or_ge i j with h1 | h1
  · exact h5 i u h1 hu hp
  · obtain rfl : i = j := by omega
    rw [hx] at hu; cases hu
    exact h0
end Go.Proofs.YtpdimihojeonhaaGreat

namespace Go.Proofs.YtpdimihojeonhaaGreat
open Go.RowKit Go.Calm
set_option linter.unusedSimpArgs false
set_option linter.unusedVariables false

theorem own_startZ (w : World) : (w.alloc (.cells #[] 48)).ownsRow w.heap.size 48 2 (.slice (some ⟨w.heap.size, 0, none⟩) 0 0) 0 (flatI []) :=
  ⟨rfl, .inr ⟨w.heap.size, 0, #[], rfl, Nat.le_refl _, heap_alloc_new w _, Nat.le_refl _, by unfold maxLen; omega, rfl, rfl⟩⟩
theorem own_block {w : World} {base n : Nat} {v : Value} {xs : List I} (h : w.ownsRow base 48 2 v n (flatI xs)) : ∃ (g : Nat) (B : Option Addr) (cap : Nat), v = .slice B n cap ∧ n = xs.length ∧ base ≤ g ∧ (xs ≠ [] → B = some ⟨g, 0, none⟩ ∧ DBx w g xs) := by
  have hn := h.1
  rw [flatI_len] at hn
  have hn : n = xs.length := by omega
  have h0 := h
  rcases h.2 with ⟨e, h1⟩ | ⟨g, cap, cur, e, hB, _⟩
  · subst h1
    exact ⟨base, none, 0, e, hn, Nat.le_refl _, fun hne => absurd (List.length_eq_zero_iff.1 hn.symm) hne⟩
  · subst e
    exact ⟨g, _, cap, rfl, hn, hB, fun _ => ⟨rfl, (own_db h0).1⟩⟩
set_option maxRecDepth 100000 in
set_option maxHeartbeats 8000000 in
theorem rtop_any (cols : List Int) (Ac : Option Addr) (cc : Nat) (es : List E) (Ae : Option Addr) (ce : Nat) (k : Int) (s : S) (w : World) (hlen : cols.length ≤ 9223372036854775807) (hle : es.length ≤ 9223372036854775807) (hc : ISl w Ac cols) (hE : ESl w Ae es) (hs : In w s) :
    Calls Tryz.prog 12 #[.slice Ac cols.length cc, .slice Ae es.length ce, .int .i64 k, .slice s.A s.xs.length s.cap] w fun en w' => Gives w w' en (topZ cols es k s.z) := by
  obtain ⟨A, xs, c⟩ := s
  have H := Lib.hid hs
  have HX := Lib.hid hE
  have ct := rtypes_any cols Ac cc es Ae ce w hlen hle hc hE
  have ci := fun W (hg : Grow w W) => rinput_any cols Ac cc xs A c W hlen (hc.grow hg) (hs.grow hg)
  obtain ⟨TS, TE, hTE⟩ : ∃ TS TE, typesE cols es = (TS, TE) := ⟨_, _, rfl⟩
  obtain ⟨IE, hIE⟩ : ∃ IE, inputE cols (xs.map zOf) = IE := ⟨_, rfl⟩
  rw [hTE] at ct
  rw [hIE] at ci
  obtain ⟨Q, hQ⟩ : ∃ Q, topZ cols es k (xs.map zOf) = Q := ⟨_, rfl⟩
  rw [show S.z ⟨A, xs, c⟩ = xs.map zOf from rfl, hQ]
  have fin : Q = if TE ≠ 0 then ([], TE) else if k < 0 ∨ 50 < k then ([], 3) else if IE ≠ 0 then ([], IE) else sumZ (topGo k (sortZ es (eachL posF (xs.map zOf)))) := by rw [← hQ]; unfold topZ; rw [hTE, hIE]
  have Fin := Lib.hid fin
  have HQ := Lib.hid hQ
  have HTE := Lib.hid hTE
  have HIE := Lib.hid hIE
  clear hs hc hE hTE hIE hQ fin
  go_enter Tryz.func12, Tryz.ntmps12
  by_cases h0 : TE = 0
  · by_cases hk1 : k < 0 ∨ 50 < k
    · have eQ : Q = ([], 3) := by rw [Fin.out, if_neg (by simpa using h0), if_pos hk1]
      subst h0
      rcases hk1 with hk1 | hk1
      · have d1 : decide (k < 0) = true := decide_eq_true hk1
        go_wp2_with (go_at_call 32; ((with_reducible refine ct.mono ?_); rintro e w2 ⟨BT, capT, rfl, _, _, hg2⟩))
        refine bodyPost_ret (by simp [results, Tryz.results12, go_sem] <;> rfl) rfl ?_
        exact ⟨none, [], 0, by rw [eQ]; rfl, zin_nil _ _, by rw [eQ]; rfl, SlOk.nil, hg2⟩
      · have d1 : decide (k < 0) = false := decide_eq_false (by omega)
        have d2 : decide (50 < k) = true := decide_eq_true hk1
        go_wp2_with (go_at_call 32; ((with_reducible refine ct.mono ?_); rintro e w2 ⟨BT, capT, rfl, _, _, hg2⟩))
        refine bodyPost_ret (by simp [results, Tryz.results12, go_sem] <;> rfl) rfl ?_
        exact ⟨none, [], 0, by rw [eQ]; rfl, zin_nil _ _, by rw [eQ]; rfl, SlOk.nil, hg2⟩
    · have d1 : decide (k < 0) = false := decide_eq_false (by omega)
      have d2 : decide (50 < k) = false := decide_eq_false (by omega)
      by_cases h1 : IE = 0
      · subst h0 h1
        obtain ⟨k0, rfl⟩ : ∃ k0 : Nat, k = k0 := ⟨k.toNat, by omega⟩
        have hk50 : k0 ≤ 50 := by omega
        have eQ : Q = (setZ (pickN k0 (sortZ es (posZ (xs.map zOf)))), 0) := by
          rw [← HQ.out]
          exact top_pick (by rw [HTE.out]) hk50 HIE.out
        have EQ := Lib.hid eQ
        obtain ⟨_, hwz, hfit⟩ := inputE_zero HIE.out
        obtain ⟨a1, a2, a3, a4⟩ := S.facts (s := ⟨A, xs, c⟩) hwz
        have a1 : xs.length ≤ 400 := a1
        have smz := SM.of hwz
        have A2 := Lib.hid (show ∀ y ∈ xs, y.row.length ≤ 8 from a2)
        have A4 := Lib.hid (show ∀ y ∈ xs, -1000000 ≤ y.w ∧ y.w ≤ 1000000 from a4)
        have Hfit := Lib.hid (show ∀ y ∈ xs, FitR cols y.row from fun y hy => (fits_iff _ _).1 (hfit (zOf y) (List.mem_map_of_mem hy)))
        have Hrv := Lib.hid (show ∀ y ∈ xs, ∀ v ∈ y.row, RV v from fun y hy => smz.rv (zOf y) (List.mem_map_of_mem hy))
        have Hup := Lib.hid smz.up
        obtain ⟨he8, hty⟩ := typesE_zero (by rw [HTE.out] : (typesE cols es).2 = 0)
        have Hty := Lib.hid (show ∀ x ∈ es, ∃ T, wt cols x T from fun x hx => by obtain ⟨T, hok⟩ := okay_of (hty x hx); exact ⟨T, hok.ty⟩)
        clear eQ hwz hfit a2 a3 a4 hty smz hk1
        go_upto_region 10 with (first
          | (go_at_call 32; ((with_reducible refine ct.mono ?_); rintro e w2 ⟨BT, capT, rfl, _, _, hg2⟩))
          | (go_at_call 27; ((with_reducible refine (ci _ hg2).mono ?_); rintro e w3 ⟨rfl, hg3⟩)))
        have G3 := hg2.trans hg3
        clear ct ci
        go_upto_region 11 with (at_builtin; refine wpList_append_src rfl _ _ rfl w3.heap.size _ 0 [] rfl (own_startZ w3) _ xs rfl (src_all H.out.sl (H.out.z.grow (by repeat (first | (with_reducible exact Grow.refl _) | (with_reducible assumption) | (with_reducible refine Grow.set ?_ (by first | (simp; done) | (simp; omega)) _) | (with_reducible refine Grow.al ?_ _) | (with_reducible refine Grow.drew ?_) | (with_reducible refine Grow.drewN ?_ _) | (with_reducible refine Grow.trans ?_ (by assumption)))))) (by omega) (by simp) ?_; intro v4 w4 own4 gr4)
        have G4 : Grow w3 w4 := grow_own (by repeat (first | (with_reducible exact Grow.refl _) | (with_reducible assumption) | (with_reducible refine Grow.set ?_ (by first | (simp; done) | (simp; omega)) _) | (with_reducible refine Grow.al ?_ _) | (with_reducible refine Grow.drew ?_) | (with_reducible refine Grow.drewN ?_ _) | (with_reducible refine Grow.trans ?_ (by assumption)))) gr4 (own_startZ w3)
        rw [List.nil_append] at own4
        obtain ⟨g, B, cap, rfl, hn, hbase, hdb⟩ := own_block own4
        rw [hn]
        have DB4 := Lib.hid hdb
        clear own4 gr4 hdb hn d1 d2
        go_wp2
        go_loopw [13, 2] (fun t i wr => ∃ (k : Nat) (R : List I) (OL : List Z), k ≤ k0 ∧ i = .int .i64 k ∧ PutSo w3 g wr t OL ∧ OL.length + k = k0 ∧ OL ++ pickN k (sortZ es (posZ (R.map zOf))) = pickN k0 (sortZ es (posZ (xs.map zOf))) ∧ RestI xs R ∧ (xs ≠ [] → DBx wr g R) ∧ GX g w4 wr) (fun _ i _ => (intOf i).toNat)
        case atStart => exact ⟨k0, xs, [], Nat.le_refl _, rfl, PutSo.nil _ _ _ G4, by simp, rfl, ⟨rfl, A4.out⟩, fun h => (DB4.out h).2, GX.refl _ _⟩
        case round =>
          rename World => wr
          obtain ⟨k, R, OL, hk, rfl, hp, hol, hinv, hrest, hdb, hgx⟩ := hrel
          obtain ⟨Bt, nt, ct, rfl⟩ := hp.slice
          have P := Lib.hid hp
          have Inv := Lib.hid hinv
          have Rest := Lib.hid hrest
          have DBr := Lib.hid hdb
          have Gr : Grow w3 wr := GX.base G4 hbase hgx
          have lR := hrest.len
          have upR := Lib.hid (hrest.up Hup.out)
          clear hp hinv hrest hdb
          by_cases hk9 : 0 < k
          · have dk : decide (0 < (k : Int)) = true := decide_eq_true (by omega)
            go_wp2
            go_loopw [15, 48] (fun b i w5 => ∃ j : Nat, j ≤ xs.length ∧ i = .int .i64 j ∧ BestI es R j b ∧ Grow wr w5) (fun _ i _ => xs.length - (intOf i).toNat)
            case atStart => exact ⟨0, Nat.zero_le _, rfl, .inl ⟨rfl, fun i x h => by omega⟩, Grow.refl _⟩
            case round =>
              rename World => w5
              obtain ⟨j, hj, rfl, hbest, hg5⟩ := hrel
              have Best := Lib.hid hbest
              clear hbest
              by_cases hlt : j < xs.length
              · have hne : xs ≠ [] := fun e => by rw [e] at hlt; simp at hlt
                obtain ⟨rfl, _⟩ := DB4.out hne
                have db5 := (DBr.out hne).grow hg5
                obtain ⟨x, hxk⟩ : ∃ x, R[j]? = some x := ⟨_, List.getElem?_eq_getElem (by omega)⟩
                obtain ⟨c1, c2⟩ := db5.at hxk
                have hm := List.mem_of_getElem? hxk
                obtain ⟨x0, hx0, e1, e2, e3⟩ := Rest.out.mem hm
                have lx := A2.out x0 hx0
                have fx := Lib.hid (Hfit.out x0 hx0)
                have vx := Lib.hid ((H.out.z.vsl x0 hx0).grow (G3.trans (Gr.trans hg5)))
                rw [e2] at lx fx
                rw [e1, e2] at vx
                have HXK := Lib.hid hxk
                have DB5 := Lib.hid db5
                clear hxk hm hx0 e1 e2 e3 db5
                go_upto_region 17 with fail
                refine wp_forget (fun Z1 => Blk Z1 w5.heap.size 48 #[.slice x.A x.row.length x.cap, .int .i64 x.w] ∧ Grow w5 Z1) ⟨Blk.new _ _ _, (Grow.refl w5).al _⟩ ?_
                rintro Z1 ⟨Bz, Gz⟩
                have BZ := Lib.hid Bz
                obtain ⟨bz, fz⟩ := Bz.rules
                clear Bz c1 c2
                generalize w5.heap.size = gz at *
                by_cases hw : x.w ≤ 0
                · have dw : decide (x.w ≤ 0) = true := decide_eq_true hw
                  go_wp2
                  go_roundw
                  case rel => exact ⟨j + 1, by omega, by go_num, Best.out.skip HXK.out hw, hg5.trans Gz⟩
                  case measure => simp [intOf]; omega
                · have dw : decide (x.w ≤ 0) = false := decide_eq_false hw
                  rcases Best.out with ⟨rfl, hno⟩ | ⟨m, y, hmj, rfl, hym, hyw, hmin⟩
                  · go_upto_region 18 with fail
                    clear bz fz
                    apply wp_region_calm 17 (by kernel_rfl) (by kernel_rfl)
                    case h' =>
                      intro Q0 hQ0
                      simp only [List.take_succ_cons, List.take_zero]
                      repeat (
                        first
                          | (apply calm_p rfl; case h1 => (intro w1 hw1 hF K hK; obtain ⟨bz, fz⟩ := (BZ.out.grow hw1).rules; go_simp; first | exact hK _ (Grow.refl _) | fail))
                          | (apply calm_y rfl rfl rfl; case h1 => (intro w1 hw1 hF K hK; obtain ⟨bz, fz⟩ := (BZ.out.grow hw1).rules; go_simp; first | exact hK _ (Grow.refl _) | fail))
                          | apply calm_n rfl rfl rfl rfl
                        intro K hK
                        go_simp
                        apply hK
                        clear hK K)
                      refine calm_nil ?_
                      intro w1 hw1 hF
                      apply hQ0
                      clear hQ0
                      simp only [List.drop_succ_cons, List.drop_zero]
                      clear hF
                      go_wp2
                      go_roundw
                      case rel => exact ⟨j + 1, by omega, by go_num, BestI.first hno HXK.out (by omega), hg5.trans (Gz.trans hw1)⟩
                      case measure => simp [intOf]; omega
                    case hp' => trivial
                  · obtain ⟨y0, hy0, e1, e2, e3⟩ := Rest.out.mem (List.mem_of_getElem? hym)
                    have ly := A2.out y0 hy0
                    have fy := Lib.hid (Hfit.out y0 hy0)
                    have vy := Lib.hid ((H.out.z.vsl y0 hy0).grow (G3.trans (Gr.trans hg5)))
                    rw [e2] at ly fy
                    rw [e1, e2] at vy
                    obtain ⟨cm1, _⟩ := (DB5.out.grow Gz).at hym
                    have b0 : (0 : Int) ≤ (m : Int) := by omega
                    have b1 : (m : Int) < (xs.length : Int) := by omega
                    have cvx := fun W (h : Grow w5 W) => rvalues_any es Ae ce x.row x.A x.cap W (by omega) (by omega) (HX.out.grow (G3.trans (Gr.trans (hg5.trans h)))) cols Hty.out fx.out (vx.out.grow h)
                    have cvy := fun W (h : Grow w5 W) => rvalues_any es Ae ce y.row y.A y.cap W (by omega) (by omega) (HX.out.grow (G3.trans (Gr.trans (hg5.trans h)))) cols Hty.out fy.out (vy.out.grow h)
                    obtain ⟨KX, hKX⟩ : ∃ q, es.map (ofE x.row) = q := ⟨_, rfl⟩
                    obtain ⟨KY, hKY⟩ : ∃ q, es.map (ofE y.row) = q := ⟨_, rfl⟩
                    have lkx : KX.length = es.length := by rw [← hKX]; simp
                    have lky : KY.length = es.length := by rw [← hKY]; simp
                    rw [hKX] at cvx
                    rw [hKY] at cvy
                    have cr := fun B1 c1 B2 c2 W (h1 : VSl W B1 KX) (h2 : VSl W B2 KY) => rrows_any KX KY B1 B2 c1 c2 W (by omega) (by omega) h1 h2
                    rw [lkx, lky] at cr
                    obtain ⟨d, hd⟩ : ∃ d, rowsG ordV KX KY = d := ⟨_, rfl⟩
                    rw [hd] at cr
                    have Hd := Lib.hid (show rowsG ordV (es.map (ofE x.row)) (es.map (ofE y.row)) = d by rw [hKX, hKY]; exact hd)
                    have Lkx := Lib.hid lkx
                    have Lky := Lib.hid lky
                    have Hym := Lib.hid hym
                    have Hmin := Lib.hid hmin
                    have CM := Lib.hid cm1
                    have dm : decide ((m : Int) < 0) = false := decide_eq_false (by omega)
                    clear hd hKX hKY lkx lky hym hmin hy0 e1 e2 e3 cm1
                    go_upto_region 18 with fail
                    clear bz fz
                    apply wp_region_calm 17 (by kernel_rfl) (by kernel_rfl)
                    case h' =>
                      intro Q0 hQ0
                      simp only [List.take_succ_cons, List.take_zero]
                      repeat (
                        first
                          | (apply calm_p rfl; case h1 => (intro w1 hw1 hF K hK; obtain ⟨bz, fz⟩ := (BZ.out.grow hw1).rules; have cm1 := hw1.cell CM.out; go_simp; first | exact hK _ (Grow.refl _) | fail))
                          | (apply calm_y rfl rfl rfl; case h1 => (intro w1 hw1 hF K hK; obtain ⟨bz, fz⟩ := (BZ.out.grow hw1).rules; have cm1 := hw1.cell CM.out; go_simp; first | exact hK _ (Grow.refl _) | fail))
                          | apply calm_n rfl rfl rfl rfl
                        intro K hK
                        go_simp
                        apply hK
                        clear hK K)
                      apply calm_fy (PVn es.length KX) rfl rfl rfl
                      case h1 =>
                        intro w1 hw1 hF K1 hK1
                        go_simp
                        go_at_call 33
                        refine (cvx w1 (Gz.trans hw1)).mono ?_
                        rintro en w' ⟨B, cap, rfl, ho, hg'⟩
                        exact ⟨_, rfl, hK1 _ _ hg' ⟨B, cap, rfl, own_vsn Lkx.out ho⟩⟩
                      intro v62 K1 hK1
                      go_simp
                      apply hK1
                      clear hK1 K1
                      repeat (
                        first
                          | (apply calm_p rfl; case h1 => (intro w1 hw1 hF K hK; obtain ⟨bz, fz⟩ := (BZ.out.grow hw1).rules; have cm1 := hw1.cell CM.out; go_simp; first | exact hK _ (Grow.refl _) | fail))
                          | (apply calm_y rfl rfl rfl; case h1 => (intro w1 hw1 hF K hK; obtain ⟨bz, fz⟩ := (BZ.out.grow hw1).rules; have cm1 := hw1.cell CM.out; go_simp; first | exact hK _ (Grow.refl _) | fail))
                          | apply calm_n rfl rfl rfl rfl
                        intro K hK
                        go_simp
                        apply hK
                        clear hK K)
                      apply calm_fy (PVn es.length KY) rfl rfl rfl
                      case h1 =>
                        intro w1 hw1 hF K1 hK1
                        go_simp
                        go_at_call 33
                        refine (cvy w1 (Gz.trans hw1)).mono ?_
                        rintro en w' ⟨B, cap, rfl, ho, hg'⟩
                        exact ⟨_, rfl, hK1 _ _ hg' ⟨B, cap, rfl, own_vsn Lky.out ho⟩⟩
                      intro v69 K1 hK1
                      go_simp
                      apply hK1
                      clear hK1 K1
                      apply calm_y rfl rfl rfl
                      case h1 =>
                        intro w1 hw1 hF K1 hK1
                        obtain ⟨B2, c2, hv2, h2⟩ := hF _ (List.mem_cons_self ..) ⟨_, rfl, by decide⟩
                        obtain ⟨B1, c1, hv1, h1⟩ := hF _ (List.mem_cons_of_mem _ (List.mem_cons_self ..)) ⟨_, rfl, by decide⟩
                        subst hv1 hv2
                        go_simp
                        go_at_call 39
                        refine (cr B1 c1 B2 c2 w1 h1 h2).mono ?_
                        rintro en w' ⟨rfl, hg'⟩
                        exact ⟨_, rfl, hK1 _ hg'⟩
                      intro K1 hK1
                      go_simp
                      apply hK1
                      clear hK1 K1
                      repeat (
                        first
                          | (apply calm_p rfl; case h1 => (intro w1 hw1 hF K hK; obtain ⟨bz, fz⟩ := (BZ.out.grow hw1).rules; go_simp; first | exact hK _ (Grow.refl _) | fail))
                          | (apply calm_y rfl rfl rfl; case h1 => (intro w1 hw1 hF K hK; obtain ⟨bz, fz⟩ := (BZ.out.grow hw1).rules; go_simp; first | exact hK _ (Grow.refl _) | fail))
                          | apply calm_n rfl rfl rfl rfl
                        intro K hK
                        go_simp
                        apply hK
                        clear hK K)
                      refine calm_nil ?_
                      intro w1 hw1 hF
                      apply hQ0
                      clear hQ0
                      simp only [List.drop_succ_cons, List.drop_zero]
                      clear hF
                      by_cases hd0 : d < 0
                      · have dd : decide (d < 0) = true := decide_eq_true hd0
                        go_wp2
                        go_roundw
                        case rel => exact ⟨j + 1, by omega, by go_num, BestI.take (m := m) Hmin.out HXK.out (by omega) (by rw [Hd.out]; exact hd0), hg5.trans (Gz.trans hw1)⟩
                        case measure => simp [intOf]; omega
                      · have dd : decide (d < 0) = false := decide_eq_false hd0
                        go_wp2
                        go_roundw
                        case rel => exact ⟨j + 1, by omega, by go_num, BestI.keep upR.out hmj Hym.out hyw Hmin.out HXK.out (by rw [Hd.out]; exact hd0), hg5.trans (Gz.trans hw1)⟩
                        case measure => simp [intOf]; omega
                    case hp' => exact ⟨fun v w w' hg ⟨B, c, e, h⟩ => ⟨B, c, e, h.grow hg⟩, fun v w w' hg ⟨B, c, e, h⟩ => ⟨B, c, e, h.grow hg⟩, trivial⟩
              · obtain rfl : j = xs.length := by omega
                rcases Best.out with ⟨rfl, hno⟩ | ⟨m, y, hmj, rfl, hym, hyw, hmin⟩
                · have e9 := Inv.out
                  rw [top_none (fun i x hx => hno i x (by have := (List.getElem?_eq_some_iff.1 hx).1; omega) hx), List.append_nil] at e9
                  obtain ⟨⟨B9, ys, cap9, e8, hz, hm, hk2, _⟩, hg', _⟩ := P.out.more hg5
                  simp only [Value.slice.injEq] at e8
                  obtain ⟨rfl, rfl, rfl⟩ := e8
                  have Out := Lib.hid (And.intro hz (And.intro hm hk2))
                  rw [e9] at Out
                  clear hz hm hk2 e9
                  go_wp2
                  refine bodyPost_ret (by simp [results, Tryz.results12, go_sem] <;> rfl) rfl ?_
                  exact ⟨_, ys, _, by rw [EQ.out], Out.out.1, by rw [EQ.out]; exact Out.out.2.1, Out.out.2.2, G3.trans hg'⟩
                · have hne : xs ≠ [] := fun e => by rw [e] at hmj; simp at hmj
                  obtain ⟨rfl, _⟩ := DB4.out hne
                  have db5 := (DBr.out hne).grow hg5
                  obtain ⟨c1, c2⟩ := db5.at hym
                  have fz := db5.frozen (m * 2 + 1)
                  obtain ⟨y0, hy0, e1, e2, e3⟩ := Rest.out.mem (List.mem_of_getElem? hym)
                  have ly := A2.out y0 hy0
                  have rvy := Lib.hid (Hrv.out y0 hy0)
                  have vy := Lib.hid (H.out.z.vsl y0 hy0)
                  rw [e2] at ly rvy
                  rw [e1, e2] at vy
                  obtain ⟨wy1, wy2⟩ := Rest.out.2 y (List.mem_of_getElem? hym)
                  have hwp : IntKind.i64.wrap (y.w - 1) = y.w - 1 := by rw [IntKind.wrap_i64]; omega
                  have st := Lib.hid (top_step hym hyw upR.out (fun i x hx hp => hmin i x (by have := (List.getElem?_eq_some_iff.1 hx).1; omega) hx hp) (k - 1))
                  have dec := Lib.hid (Rest.out.dec hym hyw)
                  have DBd := Lib.hid (db5.dec hym (y.w - 1))
                  have GXd := GX.set (hgx.grow hg5) (m * 2 + 1) (.int .i64 (y.w - 1))
                  have Pd := Lib.hid ((P.out.more hg5).gx (GX.set (GX.refl g w5) (m * 2 + 1) (.int .i64 (y.w - 1))) hbase)
                  have b0 : (0 : Int) ≤ (m : Int) := by omega
                  have b1 : (m : Int) < (xs.length : Int) := by omega
                  have hml := (List.getElem?_eq_some_iff.1 hym).1
                  have Hym := Lib.hid hym
                  have dm : decide ((m : Int) < 0) = false := decide_eq_false (by omega)
                  clear db5 hym hmin hy0 e1 e2 e3
                  go_upto_region 23 with fail
                  refine wp_forget (fun Z1 => DBx Z1 g (R.set m { y with w := y.w - 1 }) ∧ GX g w4 Z1 ∧ PutSo w3 g Z1 (.slice Bt nt ct) OL) ⟨DBd.out, GXd, Pd.out⟩ ?_
                  rintro Z1 ⟨db6, gx6, p6⟩
                  obtain ⟨c3, _⟩ := db6.at (x := { y with w := y.w - 1 }) (i := m) (by rw [List.getElem?_set_self hml])
                  have DB6 := Lib.hid db6
                  have P6 := Lib.hid p6
                  have lt6 := db6.lt
                  have Gr6 : Grow w3 Z1 := GX.base G4 hbase gx6
                  have cp := put_stepo P6.out lt6 y.row y.A y.cap 1 (vy.out.grow (G3.trans Gr6)) (by omega) rvy.out (by omega) (by omega)
                  clear c1 c2 fz DBd GXd Pd db6 p6
                  have hwk : IntKind.i64.wrap ((k : Int) - 1) = ((k - 1 : Nat) : Int) := by rw [IntKind.wrap_i64]; omega
                  go_wp2_with (go_at_call 29; (with_reducible refine cp.mono ?_); rintro e w7 ⟨v7, rfl, hp7, hg7⟩; have P7 := Lib.hid hp7; clear hp7)
                  go_roundw
                  case rel => exact ⟨k - 1, R.set m { y with w := y.w - 1 }, OL ++ [(y.row, 1)], by omega, by go_num, P7.out, by simp; omega, by have h1 := Inv.out; rw [show k = (k - 1) + 1 by omega, st.out] at h1; rw [List.append_assoc]; exact h1, dec.out, fun _ => DB6.out.grow hg7, gx6.grow hg7⟩
                  case measure => simp [intOf]; omega
          · obtain rfl : k = 0 := by omega
            have e9 := Inv.out
            rw [show pickN 0 (sortZ es (posZ (R.map zOf))) = [] from rfl, List.append_nil] at e9
            obtain ⟨⟨B9, ys, cap9, e8, hz, hm, hk2, _⟩, hg', _⟩ := P.out
            simp only [Value.slice.injEq] at e8
            obtain ⟨rfl, rfl, rfl⟩ := e8
            have Out := Lib.hid (And.intro hz (And.intro hm hk2))
            rw [e9] at Out
            clear hz hm hk2 e9
            go_wp2
            refine bodyPost_ret (by simp [results, Tryz.results12, go_sem] <;> rfl) rfl ?_
            exact ⟨_, ys, _, by rw [EQ.out], Out.out.1, by rw [EQ.out]; exact Out.out.2.1, Out.out.2.2, G3.trans hg'⟩
      · have eQ : Q = ([], IE) := by rw [Fin.out, if_neg (by simpa using h0), if_neg hk1, if_pos h1]
        have d3 : (IE != 0) = true := by simpa using h1
        subst h0
        go_wp2_with (first
          | (go_at_call 32; ((with_reducible refine ct.mono ?_); rintro e w2 ⟨BT, capT, rfl, _, _, hg2⟩))
          | (go_at_call 27; ((with_reducible refine (ci _ hg2).mono ?_); rintro e w3 ⟨rfl, hg3⟩)))
        refine bodyPost_ret (by simp [results, Tryz.results12, go_sem] <;> rfl) rfl ?_
        exact ⟨none, [], 0, by rw [eQ]; rfl, zin_nil _ _, by rw [eQ]; rfl, SlOk.nil, hg2.trans hg3⟩
  · have d0 : (TE != 0) = true := by simpa using h0
    have eQ : Q = ([], TE) := by rw [Fin.out, if_pos h0]
    go_wp2_with (go_at_call 32; ((with_reducible refine ct.mono ?_); rintro e w2 ⟨BT, capT, rfl, _, _, hg2⟩))
    refine bodyPost_ret (by simp [results, Tryz.results12, go_sem] <;> rfl) rfl ?_
    exact ⟨none, [], 0, by rw [eQ]; rfl, zin_nil _ _, by rw [eQ]; rfl, SlOk.nil, hg2⟩
end Go.Proofs.YtpdimihojeonhaaGreat
