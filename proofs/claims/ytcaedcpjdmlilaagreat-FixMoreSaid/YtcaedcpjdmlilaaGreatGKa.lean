/-
 Joined texts of this claim: Sml, zcc. What each proves its own head says; no condition beside those that each theorem names.
-/
import Derived.Test.YtcaedcpjdmlilaaGreatGI
import Derived.Test.YtcaedcpjdmlilaaGreatGJ
namespace Go.Proofs.YtcaedcpjdmlilaaGreat
open Go.RowKit Go.Calm
set_option linter.unusedSimpArgs false
set_option linter.unusedVariables false
def WZ (z : List Z) : Prop := z.length <= 400 /\ QC z
theorem Nj : WZ [] := ⟨by simp, fun x hx => by simp at hx⟩
theorem S.sml {s : S} (h : WZ s.z) : s.ok := ⟨by have := h.1; simp [S.z] at this; omega, fun x hx => by have := (h.2 (zj x) (List.mem_map_of_mem hx)).1; simp only [zj] at this; omega⟩
theorem In.sml {w : World} {B : Option Addr} {ys : List I} {cap : Nat} (hz : xF w B ys) (hk : yw B ys.length cap) (h : WZ (ys.map zj)) : In w ⟨B, ys, cap⟩ := ⟨hz, hk, S.sml (s := ⟨B, ys, cap⟩) h⟩
theorem kO {f : Int -> Int} {z d : List Z} (h : zP f z = (d, 0)) : zu z = 0 := by
 unfold zP at h; split at h
 ·rename_i h1; exact absurd (Prod.mk.inj h).2 h1
 ·rename_i h1; simpa using h1
theorem Gt {l : List Z} (h : QC l) : WZ (yN l).1 := by
 unfold yN; rcases Xr (xJ l) with ⟨e, h2, _⟩ | ⟨e, _, hf⟩
 ·rw [e]; exact ⟨h2, Jc h⟩
 ·rw [hf]; exact Nj
theorem NJ (x y : List Z) (t : Int) : WZ (yI x y t).1 := by
 unfold yI; split
 ·exact Nj
 ·rename_i h1; split
  ·exact Nj
  ·rename_i h2; exact Gt (qX (SM.of (by simpa using h1)).ok (YN (SM.of (by simpa using h2)).ok t))
theorem Ge (s1 s2 : S) (W : World) (h1 : In W s1) (h2 : In W s2) (hR : s1.z = s2.z) :
  Calls Tryz.prog 16 #[.slice s1.A s1.xs.length s1.cap, .slice s2.A s2.xs.length s2.cap] W fun e w' => e = .returned (.bool true) /\ za W w' :=
 Dy s1.xs s2.xs s1.A s2.A s1.cap s2.cap W h1.ok.1 h2.ok.1 h1.z h2.z h1.ok.2 h2.ok.2 true ((We _ _).2 hR)
theorem V0 {a b t : List Z} {n : Int} (ha : zu a = 0) (hb : zu b = 0) (hc : yp t) (ht : zu t = 0) (hw : ∀ q, yi a q + n * yi b q = yi t q) : yI a b n = (t, 0) := by
 have sa := SM.of ha; have sb := SM.of hb; have st := SM.of ht; have e : t = xJ (a ++ xl n b) := Jg (fun x hx => ((qX sa.ok (YN sb.ok n)) x hx).2) hc (fun q => by rw [jc, QS, hw]); unfold yI yN; rw [if_neg (by rw [ha]; simp), if_neg (by rw [hb]; simp), <- e]; exact Mz st.len st.bd
theorem Xl {a b s : List Z} {n : Int} (h : yI a b n = (s, 0)) : zu a = 0 /\ zu b = 0 /\ yp s /\ zu s = 0 /\ ∀ q, yi s q = yi a q + n * yi b q := by
 unfold yI at h; split at h
 ·rename_i h1; exact absurd (Prod.mk.inj h).2 h1
 ·rename_i h1; split at h
  ·rename_i h2; exact absurd (Prod.mk.inj h).2 h2
  ·rename_i h2; have h1 : zu a = 0 := by simpa using h1
   have h2 : zu b = 0 := by simpa using h2
   have ok := qX (SM.of h1).ok (YN (SM.of h2).ok n); have sp := qZ (a ++ xl n b) (fun x hx => (ok x hx).2); unfold yN at h; rcases Xr (xJ (a ++ xl n b)) with ⟨e, hl, hb⟩ | ⟨e, he, hf⟩
   ·rw [e] at h; have es : xJ (a ++ xl n b) = s := (Prod.mk.inj h).1; rw [es] at sp hl hb; have oks : QC s := by rw [<- es]; exact Jc ok
    exact ⟨h1, h2, sp.1, (SM.canon sp.1 oks hb hl).rz (by omega) (by omega), fun q => by rw [sp.2, jc, QS]⟩
   ·rw [hf] at h; exact absurd (Prod.mk.inj h).2 he
end Go.Proofs.YtcaedcpjdmlilaaGreat

