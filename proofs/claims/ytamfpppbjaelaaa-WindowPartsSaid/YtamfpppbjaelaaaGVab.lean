/-
  Joined texts of this claim: SoL, Wn2. What each proves its own head says; no condition beside those that each theorem names.
-/
import Derived.Test.YtamfpppbjaelaaaGF
import Derived.Test.YtamfpppbjaelaaaGVa
import Derived.Test.YtamfpppbjaelaaaGVaa
set_option maxRecDepth 100000
set_option maxHeartbeats 16000000
namespace Go.Proofs.Ytamfpppbjaelaaa
open Go.RowKit Go.Calm
set_option linter.unusedSimpArgs false
set_option linter.unusedVariables false
def Cl (K : KW) : Cm .l Ln where
  A := fun l => some ⟨l.g, 0, none⟩
  n := fun _ => 0
  cap := fun _ => 0
  w := fun _ => 0
  b := fun _ => 0
  cmp := cmpL K
  ans := ansL K
  tg := tgL
  good := GoodL K
  trans := fun _ _ _ => cmpW_trans K.ps K.ks _ _ _
  swap := fun _ _ => cmpW_swap K.ps K.ks _ _
  lt := ansL_lt
  call := cmp_fnL K
theorem flat_l (K : KW) : ∀ xs : List Ln, (Cl K).flat xs = xs.map Ln.val
  | [] => rfl
  | x :: xs => congrArg (x.val :: ·) (flat_l K xs)
def DL (w : World) (g : Nat) (xs : List Ln) : Prop := ∃ rs : List Value, Blk w g 61 (xs.map Ln.val ++ rs).toArray
theorem DL.at {w : World} {g : Nat} {xs : List Ln} (h : DL w g xs) {i : Nat} {x : Ln} (hx : xs[i]? = some x) : w.cell? ⟨g, i, none⟩ = some x.val := by
  obtain ⟨rs, h⟩ := h
  rw [h.cell, List.getElem?_toArray, List.getElem?_append_left (by simpa using (List.getElem?_eq_some_iff.1 hx).1), List.getElem?_map, hx]; rfl
theorem DL.grow {w w' : World} {g : Nat} {xs : List Ln} (h : DL w g xs) (hg : Grow w w') : DL w' g xs := by
  obtain ⟨rs, h⟩ := h
  exact ⟨rs, h.grow hg⟩
def SL (w : World) (B : Option Addr) (M : List Ln) : Prop := M = [] ∨ ∃ g, B = some ⟨g, 0, none⟩ ∧ DL w g M
theorem sort_ownL (K : KW) (L : List Ln) (B : Option Addr) (cap : Nat) (w3 w4 : World) (hg : Grow w3 w4) (own : w4.ownsRow w3.heap.size 61 1 (.slice B L.length cap) L.length (L.map Ln.val)) (hm : ∀ l ∈ L, LnIn K w4 l) (hk : K.ps.length ≤ 8 ∧ K.ks.length ≤ 8) (hr : ∀ l ∈ L, (∀ v ∈ valsR K.ps l.row, RV v) ∧ ∀ v ∈ valsR K.ks l.row, RV v) (hl : L.length ≤ 400) (ht : L.Pairwise tgL) :
    Calls Try.prog 22 #[.slice B L.length cap, .func (.func 23) #[] #[]] w4 fun en w' => en = .returned (.tuple #[]) ∧ (∃ M : List Ln, M.Perm L ∧ M.Pairwise (fun x y => cmpL K x y ≤ 0) ∧ SL w' B M ∧ ∀ l ∈ M, LnIn K w' l) ∧ Grow w3 w' := by
  have own0 := own
  rcases own.2 with ⟨e, h0⟩ | ⟨g, cap', cur, e, hB, hgb, _, _, _, ht2⟩
  · simp at e
    obtain ⟨rfl, h1, rfl⟩ := e
    subst h1
    refine (sort_nil .l w4).mono ?_
    rintro en w' ⟨rfl, hg'⟩
    exact ⟨rfl, ⟨[], List.Perm.refl _, List.Pairwise.nil, .inl rfl, fun y hy => by simp at hy⟩, hg.trans hg'⟩
  · simp at e
    obtain ⟨rfl, rfl⟩ := e
    have db : DY (Cl K) (cur.toList.drop L.length) w4 g L := by
      have hgb' : Blk w4 g 61 cur := hgb
      unfold DY
      rw [flat_l, ← ht2]
      simpa using hgb'
    have mx : ∀ l ∈ L, ∀ W, GX g w4 W → LnIn K W l := fun l hl W h => ⟨GX.blk h (fun e => by have h1 := (hm l hl).b; rw [e] at h1; exact absurd (blk_type h1 hgb) (by decide)) (hm l hl).b, (hm l hl).p.gx hgb (by decide) h, (hm l hl).k.gx hgb (by decide) h⟩
    refine (sorted (Cl K) _ L L.length cap g w4 w4 rfl (by omega) ht (fun l hl => ⟨mx l hl, hk, hr l hl⟩) (GX.refl _ _) db).mono ?_
    rintro en w' ⟨rfl, ⟨M, p, u, db'⟩, hgx⟩
    exact ⟨rfl, ⟨M, p, u, .inr ⟨g, rfl, _, by unfold DY at db'; rw [flat_l] at db'; exact db'⟩, fun l hl => mx l (p.mem_iff.1 hl) _ hgx⟩, GX.base hg hB hgx⟩
theorem drop_mapw {α β : Type} {l : List α} {k : Nat} {x : α} (f : α → β) (h : l[k]? = some x) : (l.drop k).map f = f x :: (l.drop (k + 1)).map f := by
  obtain ⟨h1, e1⟩ := List.getElem?_eq_some_iff.1 h
  rw [List.drop_eq_getElem_cons h1, e1]; rfl
theorem GivesP.bad {P : I → Prop} {w w' : World} {R : List Z × Int} {e : Int} (h : R = ([], e)) (hg : Grow w w') : GivesP P w w' (.returned (.tuple #[.slice none 0 0, .int .i64 e])) R := ⟨none, [], 0, by rw [h]; rfl, zin_nil _ _, by rw [h]; rfl, SlOk.nil, fun y hy => by simp at hy, hg⟩
theorem info_lineP : (Try.prog.info? 61).map (fun i => (i.zero, i.size, i.bytes)) = some (some (.pointer none), 1, 8) := by kernel_rfl
theorem wpList_append_ln {w : World} {ops : Array Oper} {rest : List Oper} {o : Oper} {a : Act} {Q : Exit → Act → World → Prop} (hgd : o.guard = none) (s x : Operand)
    (ho : o.op = .call { callee := .builtin .append, args := #[s, x], argTypes := #[60, 60] })
    (base : Nat) (v : Value) (n : Nat) (L : List Ln) (hs : a.eval s = v) (hown : w.ownsRow base 61 1 v n (L.map Ln.val)) (g c : Nat) (l : Ln) (hx : a.eval x = .slice (some ⟨g, 0, none⟩) 1 c) (hb : Blk w g 61 #[l.val]) (hB : n + 1 ≤ 1000000) (hbase : base ≤ w.heap.size)
    (h : ∀ v' w', w'.ownsRow base 61 1 v' (n + 1) ((L ++ [l]).map Ln.val) → w.grownBy w' v.ownBlock → wpList Try.prog ops Q rest (a.put o.dst v') w') : wpList Try.prog ops Q (o :: rest) a w := by
  have hi := info_lineP
  obtain ⟨ti, hti, hz0, hz1, hz2⟩ : ∃ i, Try.prog.info? 61 = some i ∧ i.zero = some (.pointer none) ∧ i.size = 1 ∧ i.bytes = 8 := by
    cases e : Try.prog.info? 61 with
    | none => rw [e] at hi; simp at hi
    | some i => rw [e] at hi; simp at hi; exact ⟨i, rfl, hi⟩
  refine wpList_append_own _ hgd s x _ ho base 61 ti (.pointer none) 1 8 Try.underlying60 hti hz0 hz1 hz2 rfl (by decide) v n _ hs hown ⟨g, 0, none⟩ 1 c [l.val] hx rfl (fun j u hj => ?_) (fun u hu => ?_) (by unfold maxLen; omega) (by omega) hbase ?_
  · match j, hj with
    | 0, hj => simp at hj; subst hj; rw [addr_add, hb.cell]; rfl
  · simp at hu; subst hu; rfl
  · intro v' w' h1 h2 _
    exact h v' w' (by rw [List.map_append]; exact h1) h2
structure Lns (w wr : World) (K : KW) (L : List Ln) : Prop where
  ln : ∀ l ∈ L, LnIn K wr l
  row : ∀ l ∈ L, VSl w l.rA l.row
theorem Lns.grow {w wr wq : World} {K : KW} {L : List Ln} (h : Lns w wr K L) (hg : Grow wr wq) : Lns w wq K L := ⟨fun l hl => (h.ln l hl).grow hg, h.row⟩
theorem LnIn.own {w w' : World} {K : KW} {l : Ln} {base n s : Nat} {e : TypeId} {v : Value} {cs : List Value} (h : LnIn K w l) (own : w.ownsRow base e s v n cs) (h1 : 64 ≠ e) (h2 : e ≠ 30) (hg : w.grownBy w' v.ownBlock) : LnIn K w' l := ⟨blk_own h.b own h1 hg, kv_own h.p own h2 hg, kv_own h.k own h2 hg⟩
def TeAt (w5 wr : World) (K : KW) (wins : List Ag) (M : List Ln) (k : Nat) (te : Value) (q : List Ln) : Prop := (k = 0 ∧ q = []) ∨ ∃ (a : Ln) (q1 : List Ln) (kp gT gS gB : Nat), k = kp + 1 ∧ q = a :: q1 ∧ M[kp]? = some a ∧ q.length ≤ k ∧ (∀ x ∈ q, x ∈ M) ∧ te = .pointer (some ⟨gT, 0, none⟩) ∧ (w5.heap.size ≤ gT ∧ w5.heap.size ≤ gS ∧ w5.heap.size ≤ gB) ∧ TellSt wr gT gS gB K wins q
def PLn (K : KW) (x : I) (v : Value) (W : World) : Prop := ∃ l : Ln, v = l.val ∧ l.row = x.row ∧ l.rA = x.A ∧ LnIn K W l

theorem window_p (cols : List Int) (Ac : Option Addr) (cc : Nat) (ps : List E) (Ap : Option Addr) (cp : Nat) (ks : List E) (Ak : Option Addr) (ck : Nat) (wins : List Ag) (Aw : Option Addr) (cw : Nat) (xs : List I) (A : Option Addr) (c : Nat) (w : World) (hlen : cols.length ≤ 140737488355328) (hlp : ps.length ≤ 140737488355328) (hlk : ks.length ≤ 140737488355328) (hlw : wins.length ≤ 140737488355328) (hc : ISl w Ac cols) (hp : ESl w Ap ps) (hk : ESl w Ak ks) (hw : AgSl w Aw wins) (h : In w ⟨A, xs, c⟩) :
    Calls Try.prog 8 #[.slice Ac cols.length cc, .slice Ap ps.length cp, .slice Ak ks.length ck, .slice Aw wins.length cw, .slice A xs.length c] w fun en w' => GivesP CapI w w' en (winZ cols ps ks wins (xs.map zOf)) := by
  have H := Lib.hid h
  have HC := Lib.hid hc
  have HP := Lib.hid hp
  have HK := Lib.hid hk
  have HW := Lib.hid hw
  have ctp := fun W (hg : Grow w W) => types_any cols Ac cc ps Ap cp W (by omega) (by omega) (hc.grow hg) (hp.grow hg)
  have ctk := fun W (hg : Grow w W) => types_any cols Ac cc ks Ak ck W (by omega) (by omega) (hc.grow hg) (hk.grow hg)
  have ctw := fun (h8 : wins.length ≤ 8) W (hg : Grow w W) => wtypes_any cols Ac cc wins Aw cw W (by omega) h8 (HC.out.grow hg) (HW.out.grow hg)
  have ci := fun W (hg : Grow w W) => input_any cols Ac cc xs A c W (by omega) (HC.out.grow hg) (H.out.grow hg)
  obtain ⟨R, hR⟩ : ∃ R, winZ cols ps ks wins (xs.map zOf) = R := ⟨_, rfl⟩
  rw [hR]
  obtain ⟨PT, PE, hPE⟩ : ∃ PT PE, typesE cols ps = (PT, PE) := ⟨_, _, rfl⟩
  obtain ⟨KT, KE, hKE⟩ : ∃ KT KE, typesE cols ks = (KT, KE) := ⟨_, _, rfl⟩
  obtain ⟨WE, hWE⟩ : ∃ WE, winsE cols wins = WE := ⟨_, rfl⟩
  obtain ⟨IE, hIE⟩ : ∃ IE, inputE cols (xs.map zOf) = IE := ⟨_, rfl⟩
  rw [hPE] at ctp
  rw [hKE] at ctk
  rw [hWE] at ctw
  rw [hIE] at ci
  have fin : R = if 8 < cols.length + wins.length then ([], 5) else if PE ≠ 0 then ([], PE) else if KE ≠ 0 then ([], KE) else if WE ≠ 0 then ([], WE) else if IE ≠ 0 then ([], IE) else if 400 < cntZ (xs.map zOf) then ([], 5) else sumZ ((toldW ps ks wins [] (linesW ps ks (xs.map zOf))).map (fun r => (r, 1))) := by rw [← hR]; unfold winZ; rw [hPE, hKE, hWE, hIE]
  have Fin := Lib.hid fin
  have ER := Lib.hid (And.intro hPE (And.intro hKE (And.intro hWE hIE)))
  clear h hc hp hk hw hR hPE hKE hWE hIE fin
  go_enter Try.func8, Try.ntmps8
  by_cases h8 : 8 < cols.length + wins.length
  · have d8 : decide ((8 : Int) < (cols.length : Int) + (wins.length : Int)) = true := decide_eq_true (by omega)
    go_wp2
    refine bodyPost_ret (by simp [results, Try.results8, go_sem] <;> rfl) rfl ?_
    exact GivesP.bad (by rw [Fin.out, if_pos h8]) (Grow.refl _)
  have d8 : decide ((8 : Int) < (cols.length : Int) + (wins.length : Int)) = false := decide_eq_false (by omega)
  have Fin := Lib.hid (Fin.out.trans (if_neg h8))
  have ctw := ctw (by omega)
  go_upto_block 0 with fail
  refine wp_forget (fun X => Blk X w.heap.size 23 #[.slice Ap ps.length cp, .slice Ak ks.length ck] ∧ Grow w X) ⟨Blk.new _ _ _, (Grow.refl w).al _⟩ ?_
  generalize w.heap.size = gb at *
  rintro X ⟨Bx, GX1⟩
  have BX := Lib.hid Bx
  clear Bx
  go_cut [] (fun wx => Hid (PE = 0 ∧ KE = 0) ∧ Grow w wx)
  case first =>
    go_wp2
    go_loopg [36] 2 (fun gk i wr => ∃ k : Nat, k ≤ 2 ∧ 2 - k ≤ gk ∧ i = .int .i64 k ∧ Hid ((1 ≤ k → PE = 0) ∧ (2 ≤ k → KE = 0)) ∧ Grow X wr)
    case atStart => exact ⟨0, by omega, by omega, rfl, Lib.hid ⟨by omega, by omega⟩, Grow.refl _⟩
    case round =>
      obtain ⟨k, hk, hgk, rfl, HPK, hg⟩ := hrel
      obtain ⟨bx, fx⟩ := (BX.out.grow hg).rules
      have G := GX1.trans hg
      rcases (by omega : k = 0 ∨ k = 1 ∨ k = 2) with rfl | rfl | rfl
      · by_cases h0 : PE = 0
        · have d0 : (PE != 0) = false := by simpa using h0
          have H0 := Lib.hid h0
          clear h0
          go_wp2_with (go_at_call 18; ((with_reducible refine (ctp _ G).mono ?_); rintro e w2 ⟨BT, capT, rfl, _, _, hg2⟩))
          go_roundg 1
          case measure => omega
          case rel => exact ⟨1, by omega, by omega, by go_num, Lib.hid ⟨fun _ => H0.out, by omega⟩, hg.trans hg2⟩
        · have d0 : (PE != 0) = true := by simpa using h0
          go_wp2_with (go_at_call 18; ((with_reducible refine (ctp _ G).mono ?_); rintro e w2 ⟨BT, capT, rfl, _, _, hg2⟩))
          refine bodyPost_ret (by simp [results, Try.results8, go_sem] <;> rfl) rfl ?_
          exact GivesP.bad (by rw [Fin.out, if_pos h0]) (G.trans hg2)
      · have p0 := HPK.out.1 (by omega)
        by_cases h0 : KE = 0
        · have d0 : (KE != 0) = false := by simpa using h0
          have H0 := Lib.hid (And.intro p0 h0)
          clear h0 p0
          go_wp2_with (go_at_call 18; ((with_reducible refine (ctk _ G).mono ?_); rintro e w2 ⟨BT, capT, rfl, _, _, hg2⟩))
          go_roundg 0
          case measure => omega
          case rel => exact ⟨2, by omega, by omega, by go_num, Lib.hid ⟨fun _ => H0.out.1, fun _ => H0.out.2⟩, hg.trans hg2⟩
        · have d0 : (KE != 0) = true := by simpa using h0
          have H0 := Lib.hid p0
          clear p0
          go_wp2_with (go_at_call 18; ((with_reducible refine (ctk _ G).mono ?_); rintro e w2 ⟨BT, capT, rfl, _, _, hg2⟩))
          refine bodyPost_ret (by simp [results, Try.results8, go_sem] <;> rfl) rfl ?_
          exact GivesP.bad (by rw [Fin.out, if_neg (by simp [H0.out]), if_pos h0]) (G.trans hg2)
      · go_wp2
        go_meet
        exact ⟨Lib.hid ⟨HPK.out.1 (by omega), HPK.out.2 (by omega)⟩, G⟩
  case rest =>
  obtain ⟨HPK, G⟩ := hcut
  rename World => wa
  have Fin := Lib.hid (Fin.out.trans ((if_neg (by simp [HPK.out.1])).trans (if_neg (by simp [HPK.out.2]))))
  clear ctp ctk BX GX1 d8
  by_cases h1 : WE = 0
  · have d1 : (WE != 0) = false := by simpa using h1
    have H1 := Lib.hid h1
    clear h1
    have Fin := Lib.hid (Fin.out.trans (if_neg (by simp [H1.out])))
    by_cases h2 : IE = 0
    · have d2 : (IE != 0) = false := by simpa using h2
      have ok : WOk cols ps ks wins (xs.map zOf) := ⟨by omega, by rw [ER.out.1]; exact HPK.out.1, by rw [ER.out.2.1]; exact HPK.out.2, by rw [ER.out.2.2.1]; exact H1.out, by rw [ER.out.2.2.2]; exact h2⟩
      have H2 := Lib.hid h2
      clear h2
      have Fin := Lib.hid (Fin.out.trans (if_neg (by simp [H2.out])))
      have OK := Lib.hid ok
      obtain ⟨_, hwz, _⟩ := inputE_zero ok.z
      have a1 : xs.length ≤ 400 := (S.facts (s := ⟨A, xs, c⟩) hwz).1
      have hn8 := ok.n
      have lps := (typesE_zero ok.ps).1
      have lks := (typesE_zero ok.ks).1
      have UP := Lib.hid (SM.of hwz).up
      have hrow : ∀ x ∈ xs, x.row.length = cols.length ∧ ∀ v ∈ x.row, RV v := fun x hx => ok.row (r := zOf x) (List.mem_map_of_mem hx)
      have Hrow := Lib.hid hrow
      clear ok hwz hrow
      go_upto_region 17 with (first
        | (go_at_call 19; ((with_reducible refine (ctw _ G).mono ?_); rintro e w2 ⟨vT, rfl, hg2⟩))
        | (go_at_call 20; ((with_reducible refine (ci _ (G.trans hg2)).mono ?_); rintro e w3 ⟨rfl, hg3⟩)))
      have G3 := G.trans (hg2.trans hg3)
      clear ctw ci hg2 hg3 G d1 d2
      have HV : ∀ W, Grow w W → ZIn W A xs := fun W hg => (H.out.grow hg).z
      have HVh := Lib.hid HV
      clear HV
      obtain ⟨K, hK⟩ : ∃ K : KW, K = ⟨ps, ks⟩ := ⟨_, rfl⟩
      have HKW := Lib.hid hK
      clear hK
      go_wp2
      go_loopg [19, 67] (xs.length) (fun gk t i wr => ∃ (k : Nat) (L : List Ln), k ≤ xs.length ∧ xs.length - k ≤ gk ∧ i = .int .i64 k ∧ wr.ownsRow w.heap.size 61 1 t L.length (L.map Ln.val) ∧ Lns w wr K L ∧ L.length ≤ 400 ∧ Hid (L.map Ln.row = expZ ((xs.take k).map zOf)) ∧ Grow w wr)
      case atStart => exact ⟨0, [], Nat.zero_le _, by omega, rfl, World.ownsRow_nil _ _ _ _, ⟨fun l hl => by simp at hl, fun l hl => by simp at hl⟩, by simp, Lib.hid rfl, G3⟩
      case round =>
        rename Nat => gout
        obtain ⟨k, L, hk, hgk, rfl, own, lns, lL, HM, hg⟩ := hrel
        have Own := Lib.hid own
        have LN := Lib.hid lns
        obtain ⟨B, cap, rfl⟩ := own_slice own
        clear own lns
        by_cases hlt : k < xs.length
        · obtain ⟨x, hxk⟩ : ∃ x, xs[k]? = some x := ⟨_, List.getElem?_eq_getElem hlt⟩
          obtain ⟨gx, ox, rfl, c1, c2, hxv⟩ := HVh.out _ hg k x hxk
          have lx := (Hrow.out x (List.mem_of_getElem? hxk)).1
          have rx := (Hrow.out x (List.mem_of_getElem? hxk)).2
          have hmx : max x.w 0 = ((x.w.toNat : Nat) : Int) := by omega
          have e1 := expZ_snoc hxk
          have e2 := expZ_more hxk
          rw [← HM.out] at e1 e2
          rw [List.length_map] at e2
          obtain ⟨n, hn⟩ : ∃ n, x.w.toNat = n := ⟨_, rfl⟩
          rw [hn] at hmx e1 e2
          have HN := Lib.hid (And.intro hn e1)
          have HE2 := Lib.hid e2
          have HX := Lib.hid (And.intro hxv rx)
          have xin := List.mem_of_getElem? hxk
          have VX := Lib.hid ((HVh.out w (Grow.refl w)).vsl x xin)
          have ep : ∀ e ∈ ps, RE x.row.length e := vals_re OK.out.ps lx
          have ek : ∀ e ∈ ks, RE x.row.length e := vals_re OK.out.ks lx
          have EPK := Lib.hid (And.intro ep ek)
          have lx8 : x.row.length ≤ 8 := by omega
          clear hxk hxv rx hn e1 e2 HM xin ep ek lx
          go_upto_region 20 with fail
          refine wp_forget (fun Z => Blk Z wr.heap.size 39 #[.slice x.A x.row.length x.cap, .int .i64 x.w] ∧ Grow wr Z) ⟨Blk.new _ _ _, (Grow.refl wr).al _⟩ ?_
          generalize wr.heap.size = gz
          rintro Z ⟨Bz, Gz⟩
          obtain ⟨bz, fz⟩ := Bz.rules
          have BZ := Lib.hid Bz
          have Own1 := Lib.hid (own_grow Own.out Gz)
          have LN1 := Lib.hid (LN.out.grow Gz)
          have G1 := hg.trans Gz
          clear c1 c2 Bz Gz Own LN
          go_upto_block 4 with fail
          clear hmx bz fz
          go_wp2
          go_loopg [19, 74] n (fun gj t j wq => ∃ (m : Nat) (M : List Ln), m ≤ n ∧ n - m ≤ gj ∧ j = .int .i64 m ∧ wq.ownsRow w.heap.size 61 1 t M.length (M.map Ln.val) ∧ Lns w wq K M ∧ M.length ≤ 400 ∧ Hid (M.map Ln.row = L.map Ln.row ++ List.replicate m x.row) ∧ Blk wq gz 39 #[.slice x.A x.row.length x.cap, .int .i64 x.w] ∧ Grow w wq)
          case atStart => exact ⟨0, L, Nat.zero_le _, by omega, rfl, Own1.out, LN1.out, lL, Lib.hid (by simp), BZ.out, G1⟩
          case round =>
            rename World => wq
            obtain ⟨m, M, hm, hgj, rfl, own, lns, lM, HM, bz, hgq⟩ := hrel
            have Own := Lib.hid own
            have LN := Lib.hid lns
            have BZ := Lib.hid bz
            obtain ⟨B, cap, rfl⟩ := own_slice own
            clear own lns bz
            by_cases hltm : m < n
            · by_cases h400 : M.length = 400
              · have eR : R = ([], 5) := by
                  rw [Fin.out, if_pos]
                  have h1 := congrArg List.length HM.out
                  have h2 := HE2.out
                  simp at h1
                  omega
                have d4 : ((M.length : Int) == 400) = true := by simp; omega
                have ER2 := Lib.hid eR
                clear eR
                go_wp2
                refine bodyPost_ret (by simp [results, Try.results8, go_sem] <;> rfl) rfl ?_
                exact GivesP.bad ER2.out hgq
              · have d4 : ((M.length : Int) == 400) = false := by simp; omega
                go_upto_region 24 with fail
                have cvp := fun W (hg : Grow wq W) => values_any ps Ap cp x.row x.A x.cap W (by omega) (by omega) (HP.out.grow (hgq.trans hg)) EPK.out.1 HX.out.2 (VX.out.grow (hgq.trans hg))
                have cvk := fun W (hg : Grow wq W) => values_any ks Ak ck x.row x.A x.cap W (by omega) (by omega) (HK.out.grow (hgq.trans hg)) EPK.out.2 HX.out.2 (VX.out.grow (hgq.trans hg))
                obtain ⟨PV, hPV⟩ : ∃ q, valsR ps x.row = q := ⟨_, rfl⟩
                obtain ⟨KV9, hKV⟩ : ∃ q, valsR ks x.row = q := ⟨_, rfl⟩
                have lpv : PV.length = ps.length := by rw [← hPV]; simp [valsR]
                have lkv : KV9.length = ks.length := by rw [← hKV]; simp [valsR]
                rw [show ps.map (ofE x.row) = PV from hPV] at cvp
                rw [show ks.map (ofE x.row) = KV9 from hKV] at cvk
                have HPV := Lib.hid (And.intro hPV (And.intro hKV (And.intro lpv lkv)))
                clear hPV hKV lpv lkv
                apply wp_region_calm 14 (by kernel_rfl) (by kernel_rfl)
                case h' =>
                  intro Q0 hQ0
                  simp only [List.take_succ_cons, List.take_zero]
                  repeat ((first | ((first | apply calm_p rfl | apply calm_y rfl rfl rfl); case h1 => (intro w1 hw1 hF K hK; obtain ⟨bz, fz⟩ := (BZ.out.grow hw1).rules; go_simp; first | exact hK _ (Grow.refl _))) | apply calm_n rfl rfl rfl rfl); intro K hK; go_simp; apply hK; clear hK K)
                  apply calm_fp (fun v W => ∃ (B : Option Addr) (cap : Nat), v = .slice B ps.length cap ∧ KV W B PV) rfl
                  case h1 =>
                    intro w1 hw1 hF K1 hK1
                    go_simp
                    go_at_call 21
                    refine (cvp w1 hw1).mono ?_
                    rintro en w' ⟨B, cap, rfl, ho, hg'⟩
                    exact ⟨_, rfl, hK1 _ _ hg' ⟨B, cap, rfl, own_kv HPV.out.2.2.1 ho⟩⟩
                  intro v83 K1 hK1
                  go_simp
                  apply hK1
                  clear hK1 K1
                  repeat ((first | ((first | apply calm_p rfl | apply calm_y rfl rfl rfl); case h1 => (intro w1 hw1 hF K hK; obtain ⟨bz, fz⟩ := (BZ.out.grow hw1).rules; go_simp; first | exact hK _ (Grow.refl _))) | apply calm_n rfl rfl rfl rfl); intro K hK; go_simp; apply hK; clear hK K)
                  apply calm_fp (fun v W => ∃ (B : Option Addr) (cap : Nat), v = .slice B ks.length cap ∧ KV W B KV9) rfl
                  case h1 =>
                    intro w1 hw1 hF K1 hK1
                    go_simp
                    go_at_call 21
                    refine (cvk w1 hw1).mono ?_
                    rintro en w' ⟨B, cap, rfl, ho, hg'⟩
                    exact ⟨_, rfl, hK1 _ _ hg' ⟨B, cap, rfl, own_kv HPV.out.2.2.2 ho⟩⟩
                  intro v87 K1 hK1
                  go_simp
                  apply hK1
                  clear hK1 K1
                  repeat ((first | ((first | apply calm_p rfl | apply calm_y rfl rfl rfl); case h1 => (intro w1 hw1 hF K hK; obtain ⟨bz, fz⟩ := (BZ.out.grow hw1).rules; go_simp; first | exact hK _ (Grow.refl _))) | apply calm_n rfl rfl rfl rfl); intro K hK; go_simp; apply hK; clear hK K)
                  apply calm_fp (fun v W => ∃ (B1 B2 : Option Addr) (n1 n2 : Nat), v = .agg #[.slice B1 ps.length n1, .slice B2 ks.length n2, .slice x.A x.row.length x.cap] ∧ KV W B1 PV ∧ KV W B2 KV9) rfl
                  case h1 =>
                    intro w1 hw1 hF K1 hK1
                    obtain ⟨B2, n2, e2, kv2⟩ := hF _ (List.mem_cons_self ..) ⟨_, rfl, by decide⟩
                    obtain ⟨B1, n1, e1, kv1⟩ := hF _ (List.mem_cons_of_mem _ (List.mem_cons_self ..)) ⟨_, rfl, by decide⟩
                    subst e1 e2
                    go_simp
                    exact hK1 _ _ (Grow.refl _) ⟨B1, B2, n1, n2, rfl, kv1, kv2⟩
                  intro v90 K1 hK1
                  go_simp
                  apply hK1
                  clear hK1 K1
                  apply calm_fp (PLn K x) rfl
                  case h1 =>
                    intro w1 hw1 hF K1 hK1
                    obtain ⟨B1, B2, n1, n2, e1, kv1, kv2⟩ := hF _ (List.mem_cons_self ..) ⟨_, rfl, by decide⟩
                    subst e1
                    go_simp
                    refine hK1 _ _ ((Grow.refl _).al _) ⟨⟨_, B1, n1, B2, n2, x.A, x.cap, x.row⟩, rfl, rfl, rfl, ?_⟩
                    obtain rfl := HKW.out
                    obtain ⟨rfl, rfl, l1, l2⟩ := HPV.out
                    refine ⟨?_, kv1.grow ((Grow.refl _).al _), kv2.grow ((Grow.refl _).al _)⟩
                    simp only [l1, l2]
                    exact Blk.new _ _ _
                  intro v91 K1 hK1
                  go_simp
                  apply hK1
                  clear hK1 K1
                  apply calm_fp (fun v W => ∃ (g : Nat) (l : Ln), v = .slice (some ⟨g, 0, none⟩) 1 1 ∧ Blk W g 61 #[l.val] ∧ l.row = x.row ∧ l.rA = x.A ∧ LnIn K W l) rfl
                  case h1 =>
                    intro w1 hw1 hF K1 hK1
                    obtain ⟨l, e1, er, ea, hl⟩ := hF _ (List.mem_cons_self ..) ⟨_, rfl, by decide⟩
                    subst e1
                    go_simp
                    exact hK1 _ _ ((Grow.refl _).al _) ⟨_, l, rfl, Blk.new _ _ _, er, ea, hl.grow ((Grow.refl _).al _)⟩
                  intro v92 K1 hK1
                  go_simp
                  apply hK1
                  clear hK1 K1
                  refine calm_nil ?_
                  intro w1 hw1 hF
                  apply hQ0
                  clear hQ0
                  simp only [List.drop_succ_cons, List.drop_zero]
                  obtain ⟨g, l, rfl, bg, er, ea, hl⟩ := hF _ (List.mem_cons_self ..)
                  have BG := Lib.hid bg
                  have HL := Lib.hid (And.intro er (And.intro ea hl))
                  have Own6 := Lib.hid (own_grow Own.out hw1)
                  have G6 := hgq.trans hw1
                  clear hF bg er ea hl
                  have m400 : m ≤ 400 := by have h1 := congrArg List.length HM.out; simp at h1; omega
                  go_wp2_with (at_builtin; refine wpList_append_ln rfl _ _ rfl w.heap.size _ _ M rfl Own6.out g 1 l rfl BG.out (by omega) G6.size ?_; intro v7 w7 own7 gr7; replace gr7 : World.grownBy _ w7 (Value.slice B M.length cap).ownBlock := gr7)
                  have G7 : Grow w w7 := grow_own G6 gr7 Own6.out
                  have B7 := blk_own (BZ.out.grow hw1) Own6.out (by decide) gr7
                  have L7 : Lns w w7 K (M ++ [l]) := by
                    refine ⟨fun y hy => ?_, fun y hy => ?_⟩
                    · rcases List.mem_append.1 hy with hy | hy
                      · exact ((LN.out.ln y hy).grow hw1).own Own6.out (by decide) (by decide) gr7
                      · simp at hy; subst hy; exact HL.out.2.2.own Own6.out (by decide) (by decide) gr7
                    · rcases List.mem_append.1 hy with hy | hy
                      · exact LN.out.row y hy
                      · simp at hy; subst hy; rw [HL.out.1, HL.out.2.1]; exact VX.out
                  have Own7 := Lib.hid own7
                  have LN7 := Lib.hid L7
                  have BZ7 := Lib.hid B7
                  have HM7 := Lib.hid (show (M ++ [l]).map Ln.row = L.map Ln.row ++ List.replicate (m + 1) x.row by rw [List.map_append, HM.out, List.replicate_succ', List.append_assoc]; simp [HL.out.1])
                  clear own7 gr7 L7 B7
                  go_roundg (gk - 1)
                  case measure => omega
                  case rel => exact ⟨m + 1, M ++ [l], by omega, by omega, by go_num, by simpa using Own7.out, LN7.out, by simp; omega, HM7, BZ7.out, G7⟩
                case hp' => exact ⟨fun v w w' hg ⟨B, cap, e, h⟩ => ⟨B, cap, e, h.grow hg⟩, fun v w w' hg ⟨B, cap, e, h⟩ => ⟨B, cap, e, h.grow hg⟩, fun v w w' hg ⟨B1, B2, n1, n2, e, h1, h2⟩ => ⟨B1, B2, n1, n2, e, h1.grow hg, h2.grow hg⟩, fun v w w' hg ⟨l, e, h1, h2, h3⟩ => ⟨l, e, h1, h2, h3.grow hg⟩, fun v w w' hg ⟨g, l, e, h0, h1, h2, h3⟩ => ⟨g, l, e, h0.grow hg, h1, h2, h3.grow hg⟩, trivial⟩
            · obtain rfl : m = n := by omega
              have e := HM.out.trans HN.out.2.symm
              have HM2 := Lib.hid e
              clear e
              go_wp2
              go_roundg (gout - 1)
              case measure => omega
              case rel => exact ⟨k + 1, M, by omega, by omega, by go_num, Own.out, LN.out, lM, HM2, hgq⟩
        · obtain rfl : k = xs.length := by omega
          have hM := HM.out
          rw [List.take_length] at hM
          have l400 : ¬ 400 < cntZ (xs.map zOf) := by unfold cntZ; rw [← hM, List.length_map]; omega
          have Fin := Lib.hid (Fin.out.trans (if_neg l400))
          have tgl : L.Pairwise tgL := by
            have h1 := expZ_up UP.out
            rw [← hM, List.pairwise_map] at h1
            exact h1
          have inz : ∀ l ∈ L, ∃ r ∈ xs.map zOf, l.row = r.1 := fun l hl => by
            have h1 : l.row ∈ expZ (xs.map zOf) := by rw [← hM]; exact List.mem_map_of_mem hl
            obtain ⟨r, hr, e, _⟩ := expZ_mem h1
            exact ⟨r, hr, e.symm⟩
          obtain rfl := HKW.out
          have cs := sort_ownL ⟨ps, ks⟩ L B cap w wr hg Own.out LN.out.ln ⟨lps, lks⟩ (fun l hl => by
            obtain ⟨r, hr, e⟩ := inz l hl
            rw [e]
            exact ⟨vals_rv OK.out.ps OK.out.z hr, vals_rv OK.out.ks OK.out.z hr⟩) lL tgl
          have INZ := Lib.hid inz
          have HM2 := Lib.hid hM
          clear tgl inz hM l400 HM
          go_upto_region 28 with (go_at_call 22; (with_reducible refine cs.mono ?_); rintro e w5 ⟨rfl, ⟨M, pM, uM, sM, iM⟩, hg5⟩)
          have eM : M.map Ln.row = linesW ps ks (xs.map zOf) := linesW_eq UP.out (by rw [← HM2.out]; exact pM.map _) (by rw [List.pairwise_map]; exact uM)
          have lM : M.length = L.length := pM.length_eq
          have hrow : ∀ l ∈ M, l.row.length = cols.length ∧ (∀ v ∈ l.row, RV v) ∧ (∀ v ∈ valsR ps l.row, RV v) ∧ (∀ v ∈ valsR ks l.row, RV v) ∧ LnIn ⟨ps, ks⟩ w5 l ∧ VSl w5 l.rA l.row := fun l hl => by
            have hL := pM.mem_iff.1 hl
            obtain ⟨r, hr, e⟩ := INZ.out l hL
            have h1 := OK.out.row hr
            refine ⟨by rw [e]; exact h1.1, by rw [e]; exact h1.2, by rw [e]; exact vals_rv OK.out.ps OK.out.z hr, by rw [e]; exact vals_rv OK.out.ks OK.out.z hr, iM l hl, (LN.out.row l hL).grow hg5⟩
          have Mrow := Lib.hid hrow
          have EM := Lib.hid (show R = sumZ ((toldW ps ks wins [] (M.map Ln.row)).map (fun r => (r, 1))) by rw [Fin.out, eM])
          have SM9 := Lib.hid sM
          have hlM : M.length = L.length := lM
          have HLM := Lib.hid hlM
          clear hrow eM sM iM pM uM cs lM hlM Own LN HM2
          have mk1 := fun W => make_i64 wins.length (by omega) W
          have mk2 := fun W => make_bools wins.length (by omega) W
          go_wp2
          go_loopg [22, 23, 100] (L.length) (fun gk t te i wr => ∃ (k : Nat) (out : List I) (q : List Ln), k ≤ L.length ∧ L.length - k ≤ gk ∧ i = .int .i64 k ∧ wr.ownsRow w5.heap.size 39 2 t out.length (flatI out) ∧ out.length = k ∧ Hid (toldW ps ks wins [] (M.map Ln.row) = out.map I.row ++ toldW ps ks wins (q.map Ln.row) ((M.drop k).map Ln.row)) ∧ (∀ u ∈ out, OwnR wr u ∧ u.w = 1) ∧ TeAt w5 wr ⟨ps, ks⟩ wins M k te q ∧ Grow w5 wr)
          case atStart => exact ⟨0, [], [], Nat.zero_le _, by omega, rfl, World.ownsRow_nil _ _ _ _, rfl, Lib.hid rfl, fun u hu => by simp at hu, .inl ⟨rfl, rfl⟩, Grow.refl _⟩
          case round =>
            rename World => wr
            obtain ⟨k, out, q, hk, hgk, rfl, own, lout, HT, hout, hte, hg⟩ := hrel
            have Own := Lib.hid own
            have Out := Lib.hid hout
            have TE := Lib.hid hte
            have LO := Lib.hid lout
            obtain ⟨Bo, capo, rfl⟩ := own_slice own
            clear own hout hte lout
            by_cases hlt : k < L.length
            · obtain ⟨l, hlk⟩ : ∃ l, M[k]? = some l := ⟨_, List.getElem?_eq_getElem (by rw [HLM.out]; exact hlt)⟩
              obtain ⟨gm, eB, dl⟩ : ∃ g, B = some ⟨g, 0, none⟩ ∧ DL w5 g M := by
                rcases SM9.out with h | h
                · rw [h] at hlk; simp at hlk
                · exact h
              subst eB
              have c1 := (dl.grow hg).at hlk
              have DM := Lib.hid (dl.grow hg)
              have HLK := Lib.hid hlk
              have hl := Mrow.out l (List.mem_of_getElem? hlk)
              have HL := Lib.hid hl
              obtain ⟨nb, hnb⟩ : ∃ nb, decide (partQ ps (q.map Ln.row) l.row = []) = nb := ⟨_, rfl⟩
              have NB := Lib.hid hnb
              clear dl hlk hl hnb
              go_upto_region 33 with fail
              go_cut [122] (fun s wx => s = .bool nb ∧ Grow wr wx)
              case first =>
                have BL := Lib.hid HL.out.2.2.2.2.1.b
                rcases TE.out with ⟨hk0, rfl⟩ | ⟨a, q1, kp, gT, gS, gB, hkp, rfl, ha, _, hqm, ht9, _, _⟩
                · obtain rfl : nb = true := NB.out.symm
                  have d0 : ((k : Int) == 0) = true := by simp [hk0]
                  clear hk0
                  apply wp_region_calm 18 (by kernel_rfl) (by kernel_rfl)
                  case h' =>
                    intro Q0 hQ0
                    simp only [List.take_succ_cons, List.take_zero]
                    repeat ((first | ((first | apply calm_p rfl | apply calm_y rfl rfl rfl); case h1 => (intro w1 hw1 hF K hK; skip; go_simp; first | exact hK _ (Grow.refl _))) | apply calm_n rfl rfl rfl rfl); intro K hK; go_simp; apply hK; clear hK K)
                    refine calm_nil ?_
                    intro w1 hw1 hF
                    apply hQ0
                    clear hQ0
                    simp only [List.drop_succ_cons, List.drop_zero]
                    clear hF
                    go_wp2
                    go_meet
                    exact ⟨rfl, hw1⟩
                  case hp' => trivial
                · have hq := Mrow.out a (hqm a (by simp))
                  have BA := Lib.hid hq.2.2.2.2.1.b
                  have cA := Lib.hid (DM.out.at ha)
                  have cr := fun W (h : Grow w5 W) => vrows_any (valsR ps a.row) (valsR ps l.row) a.pA l.pA a.pc l.pc W (by simp [valsR]; omega) (by simp [valsR]; omega) (hq.2.2.2.2.1.p.grow h).1 (HL.out.2.2.2.2.1.p.grow h).1
                  have hd : nb = decide (rowsG cmpV (valsR ps a.row) (valsR ps l.row) ≠ 0) := by
                    rw [← NB.out, rows_cmp_ord _ _ hq.2.2.1 HL.out.2.2.1]
                    show decide (partQ ps (a.row :: q1.map Ln.row) l.row = []) = _
                    unfold partQ
                    by_cases h : rowsG ordV (valsR ps a.row) (valsR ps l.row) ≠ 0
                    · simp only [if_pos h, decide_eq_true h, decide_true]
                    · simp only [if_neg h, decide_eq_false h]; rfl
                  generalize rowsG cmpV (valsR ps a.row) (valsR ps l.row) = d at *
                  have HD := Lib.hid hd
                  have d0 : ((k : Int) == 0) = false := by simp; omega
                  have hwp : IntKind.i64.wrap ((k : Int) - 1) = (kp : Int) := by rw [IntKind.wrap_i64]; omega
                  have k1 : kp < L.length := by omega
                  clear hq ha hqm hd hkp ht9
                  apply wp_region_calm 18 (by kernel_rfl) (by kernel_rfl)
                  case h' =>
                    intro Q0 hQ0
                    simp only [List.take_succ_cons, List.take_zero]
                    repeat ((first | ((first | apply calm_p rfl | apply calm_y rfl rfl rfl); case h1 => (intro w1 hw1 hF K hK; have cA1 := hw1.cell cA.out; obtain ⟨ba, fa⟩ := (BA.out.grow (hg.trans hw1)).rules; obtain ⟨bl, fl⟩ := (BL.out.grow (hg.trans hw1)).rules; go_simp; first | exact hK _ (Grow.refl _) | (go_at_call 24; ((with_reducible refine (cr w1 (hg.trans hw1)).mono ?_); rintro e w' ⟨rfl, hg⟩; exact ⟨_, rfl, hK _ hg⟩)))) | apply calm_n rfl rfl rfl rfl); intro K hK; go_simp; apply hK; clear hK K)
                    refine calm_nil ?_
                    intro w1 hw1 hF
                    apply hQ0
                    clear hQ0
                    simp only [List.drop_succ_cons, List.drop_zero]
                    clear hF
                    go_wp2
                    go_meet
                    exact ⟨by rw [HD.out]; simp only [ne_eq, decide_not]; rfl, hw1⟩
                  case hp' => trivial
              case rest =>
              obtain ⟨rfl, gx⟩ := hcut
              rename World => wa
              have Own := Lib.hid (own_grow Own.out gx)
              have G1 := hg.trans gx
              clear c1
              go_upto_if 122 with fail
              go_cut [23] (fun t wx => ∃ gT gS gB : Nat, t = .pointer (some ⟨gT, 0, none⟩) ∧ (w5.heap.size ≤ gT ∧ w5.heap.size ≤ gS ∧ w5.heap.size ≤ gB) ∧ TellSt wx gT gS gB ⟨ps, ks⟩ wins (if nb then [] else q) ∧ Grow wa wx)
              case first =>
                cases nb with
                | true =>
                  go_upto_region 34 with fail
                  apply wp_region_calm 8 (by kernel_rfl) (by kernel_rfl)
                  case h' =>
                    intro Q0 hQ0
                    simp only [List.take_succ_cons, List.take_zero]
                    repeat ((first | ((first | apply calm_p rfl | apply calm_y rfl rfl rfl); case h1 => (intro w1 hw1 hF K hK; skip; go_simp; first | exact hK _ (Grow.refl _))) | apply calm_n rfl rfl rfl rfl); intro K hK; go_simp; apply hK; clear hK K)
                    apply calm_fp (fun v W => ∃ g : Nat, v = .slice (some ⟨g, 0, none⟩) wins.length wins.length ∧ w5.heap.size ≤ g ∧ Blk W g 2 (List.replicate wins.length (.int .i64 0)).toArray) rfl
                    case h1 =>
                      intro w1 hw1 hF K1 hK1
                      go_simp
                      exact hK1 _ _ ((Grow.refl _).al _) ⟨_, rfl, (G1.trans hw1).size, Blk.new _ _ _⟩
                    intro v125 K1 hK1
                    go_simp
                    apply hK1
                    clear hK1 K1
                    repeat ((first | ((first | apply calm_p rfl | apply calm_y rfl rfl rfl); case h1 => (intro w1 hw1 hF K hK; skip; go_simp; first | exact hK _ (Grow.refl _))) | apply calm_n rfl rfl rfl rfl); intro K hK; go_simp; apply hK; clear hK K)
                    apply calm_fp (fun v W => ∃ g : Nat, v = .slice (some ⟨g, 0, none⟩) wins.length wins.length ∧ w5.heap.size ≤ g ∧ Blk W g 4 (List.replicate wins.length (.bool false)).toArray) rfl
                    case h1 =>
                      intro w1 hw1 hF K1 hK1
                      go_simp
                      exact hK1 _ _ ((Grow.refl _).al _) ⟨_, rfl, (G1.trans hw1).size, by rw [List.toArray_replicate]; exact Blk.new _ _ _⟩
                    intro v128 K1 hK1
                    go_simp
                    apply hK1
                    clear hK1 K1
                    apply calm_fp (fun v W => ∃ gS gB : Nat, v = .agg #[.int .i64 0, .int .i64 0, .int .i64 0, .slice (some ⟨gS, 0, none⟩) wins.length wins.length, .slice (some ⟨gB, 0, none⟩) wins.length wins.length, .pointer none] ∧ (w5.heap.size ≤ gS ∧ w5.heap.size ≤ gB) ∧ Blk W gS 2 (List.replicate wins.length (.int .i64 0)).toArray ∧ Blk W gB 4 (List.replicate wins.length (.bool false)).toArray) rfl
                    case h1 =>
                      intro w1 hw1 hF K1 hK1
                      obtain ⟨gB, e2, hB, bB⟩ := hF _ (List.mem_cons_self ..) ⟨_, rfl, by decide⟩
                      obtain ⟨gS, e1, hS, bS⟩ := hF _ (List.mem_cons_of_mem _ (List.mem_cons_self ..)) ⟨_, rfl, by decide⟩
                      subst e1 e2
                      go_simp
                      exact hK1 _ _ (Grow.refl _) ⟨gS, gB, rfl, ⟨hS, hB⟩, bS, bB⟩
                    intro v129 K1 hK1
                    go_simp
                    apply hK1
                    clear hK1 K1
                    apply calm_fp (fun v W => ∃ gT gS gB : Nat, v = .pointer (some ⟨gT, 0, none⟩) ∧ (w5.heap.size ≤ gT ∧ w5.heap.size ≤ gS ∧ w5.heap.size ≤ gB) ∧ TellSt W gT gS gB ⟨ps, ks⟩ wins []) rfl
                    case h1 =>
                      intro w1 hw1 hF K1 hK1
                      obtain ⟨gS, gB, e1, hSB, bS, bB⟩ := hF _ (List.mem_cons_self ..) ⟨_, rfl, by decide⟩
                      subst e1
                      go_simp
                      exact hK1 _ _ ((Grow.refl _).al _) ⟨_, gS, gB, rfl, ⟨(G1.trans hw1).size, hSB⟩, Blk.new _ _ _, by rw [List.map_nil, sum0_nil]; exact bS.al _, by rw [List.map_nil, some0_nil]; exact bB.al _⟩
                    intro v130 K1 hK1
                    go_simp
                    apply hK1
                    clear hK1 K1
                    refine calm_nil ?_
                    intro w1 hw1 hF
                    apply hQ0
                    clear hQ0
                    simp only [List.drop_succ_cons, List.drop_zero]
                    obtain ⟨gT, gS, gB, rfl, hb, T⟩ := hF _ (List.mem_cons_self ..)
                    have TH := Lib.hid (And.intro hb T)
                    clear hF hb T
                    go_wp2
                    go_meet
                    exact ⟨gT, gS, gB, rfl, TH.out.1, TH.out.2, hw1⟩
                  case hp' => exact ⟨fun v w w' hg ⟨g, e, h, h2⟩ => ⟨g, e, h, h2.grow hg⟩, fun v w w' hg ⟨g, e, h, h2⟩ => ⟨g, e, h, h2.grow hg⟩, fun v w w' hg ⟨g1, g2, e, h, h1, h2⟩ => ⟨g1, g2, e, h, h1.grow hg, h2.grow hg⟩, fun v w w' hg ⟨g0, g1, g2, e, h, h1⟩ => ⟨g0, g1, g2, e, h, h1.grow hg⟩, trivial⟩
                | false =>
                  rcases TE.out with ⟨_, rfl⟩ | ⟨a, q1, kp, gT, gS, gB, hkp, hq1, ha, _, hqm, ht, hb, T⟩
                  · exact absurd NB.out (by simp [partQ])
                  · have TH := Lib.hid (And.intro hb (And.intro T ht))
                    clear ha hqm hb T hkp hq1 ht
                    go_wp2
                    go_meet
                    exact ⟨gT, gS, gB, TH.out.2.2, TH.out.1, TH.out.2.1.grow gx, Grow.refl _⟩
              case rest =>
              obtain ⟨gT, gS, gB, rfl, hb, T, gy⟩ := hcut
              rename World => wb
              obtain ⟨q', hq'⟩ : ∃ q' : List Ln, (if nb then [] else q) = q' := ⟨_, rfl⟩
              have hpq : partQ ps (q.map Ln.row) l.row = q'.map Ln.row := by
                rw [← hq']
                have h1 := NB.out
                cases nb with
                | true => simpa using h1
                | false =>
                  have h2 : partQ ps (q.map Ln.row) l.row ≠ [] := by simpa using h1
                  show _ = q.map Ln.row
                  unfold partQ at h2 ⊢
                  cases q with
                  | nil => simp at h2
                  | cons a q1 =>
                    simp only [List.map_cons] at h2 ⊢
                    split at h2
                    · simp at h2
                    · rename_i h3; rw [if_neg h3]
              have hqk : q'.length ≤ k ∧ ∀ x ∈ q', x ∈ M := by
                rw [← hq']
                rcases TE.out with ⟨rfl, rfl⟩ | ⟨a, q1, kp, gT, gS, gB, _, rfl, _, hl9, hqm, _, _, _⟩
                · cases nb <;> simp
                · cases nb
                  · exact ⟨hl9, hqm⟩
                  · simp
              rw [hq'] at T
              have TH := Lib.hid T
              have HB := Lib.hid hb
              have G2 := G1.trans gy
              have Own := Lib.hid (own_grow Own.out gy)
              have OutB := Lib.hid (fun u hu => And.intro ((Out.out u hu).1.grow (gx.trans gy)) (Out.out u hu).2)
              have HPQ := Lib.hid (And.intro hpq hqk)
              have lq := hqk.1
              have ct := tell_any ⟨ps, ks⟩ wins Aw cw q' l gT gS gB w5 wb (by omega) (by omega) lks G2 hb (HW.out.grow hg5) (fun a ha => OK.out.kind ha) (fun x hx => by
                have hxM : x ∈ M := by
                  rcases List.mem_cons.1 hx with rfl | hx
                  · exact List.mem_of_getElem? HLK.out
                  · exact hqk.2 x hx
                have h1 := Mrow.out x hxM
                exact ⟨by rw [h1.1]; omega, h1.2.1, h1.2.2.2.1, h1.2.2.2.2.1, h1.2.2.2.2.2, fun a ha hk => OK.out.re ha hk h1.1⟩) T
              obtain ⟨U, hU⟩ : ∃ U, tellW ks wins (q'.map Ln.row) l.row = U := ⟨_, rfl⟩
              have lU : l.row.length + wins.length = U.length := by rw [← hU]; simp [tellW]
              have lU8 : U.length ≤ 8 := by rw [← lU, HL.out.1]; exact OK.out.n
              simp only [hU, lU] at ct
              have HU := Lib.hid hU
              have lo : out.length ≤ 400 := by have := LO.out; omega
              clear hq' hpq hqk T hb hU lU mk1 mk2
              go_wp2_with (first
                | (go_at_call 25; (with_reducible refine ct.mono ?_); rintro e w6 ⟨B6, cap6, rfl, own6, T6, tx6⟩; have Own6 := Lib.hid own6; have T6h := Lib.hid T6; have OwnZ := Lib.hid (TH.out.rows tx6 Own.out); have sz6 := tx6.size; clear own6 T6)
                | (at_builtin; refine wpList_append_src rfl _ _ rfl w5.heap.size _ _ _ rfl (OwnZ.out.alloc _) _ [I.mk B6 U cap6 1] rfl (src_one rfl (Blk.new _ _ _)) (by simp; omega) (by have := G2.size; simp; omega) ?_; intro v7 w7 own7 gr7; replace gr7 : World.grownBy _ w7 (Value.slice Bo out.length capo).ownBlock := gr7))
              have tz := tx6.grow ((Grow.refl _).al (.cells #[.slice B6 U.length cap6, .int .i64 1] 39))
              have G7 : Grow w5 w7 := grow_own (TX.base G2 (fun i h => by rcases h with rfl | rfl | rfl; exact HB.out.1; exact HB.out.2.1; exact HB.out.2.2) tz) gr7 (OwnZ.out.alloc _)
              have T7 := Lib.hid ((T6h.out.grow ((Grow.refl _).al (.cells #[.slice B6 U.length cap6, .int .i64 1] 39))).own (OwnZ.out.alloc _) gr7)
              have Out7 := Lib.hid (fun u (hu : u ∈ out ++ [I.mk B6 U cap6 1]) => show OwnR w7 u ∧ u.w = 1 by
                rcases List.mem_append.1 hu with hu | hu
                · exact ⟨(((TH.out.rowR tx6 (OutB.out u hu).1).grow ((Grow.refl _).al (.cells #[.slice B6 U.length cap6, .int .i64 1] 39))).kept (OwnZ.out.alloc _) gr7), (OutB.out u hu).2⟩
                · simp at hu
                  subst hu
                  exact ⟨((show OwnR w6 (I.mk B6 U cap6 1) from ⟨_, Own6.out⟩).grow ((Grow.refl _).al (.cells #[.slice B6 U.length cap6, .int .i64 1] 39))).kept (OwnZ.out.alloc _) gr7, rfl⟩)
              have Own7 := Lib.hid own7
              have HT7 := Lib.hid (show toldW ps ks wins [] (M.map Ln.row) = (out ++ [I.mk B6 U cap6 1]).map I.row ++ toldW ps ks wins ((l :: q').map Ln.row) ((M.drop (k + 1)).map Ln.row) by
                rw [HT.out, drop_mapw Ln.row HLK.out]
                simp only [toldW, HPQ.out.1, HU.out, List.map_append, List.append_assoc, List.map_cons, List.map_nil, List.cons_append, List.nil_append])
              clear own7 gr7 tz
              go_roundg (gk - 1)
              case measure => omega
              case rel =>
                refine ⟨k + 1, out ++ [I.mk B6 U cap6 1], l :: q', by omega, by omega, by go_num, by simpa using Own7.out, by simp [LO.out], HT7, Out7.out, .inr ⟨l, q', k, gT, gS, gB, rfl, rfl, HLK.out, by simp; omega, fun x hx => ?_, rfl, HB.out, T7.out⟩, G7⟩
                rcases List.mem_cons.1 hx with rfl | hx
                · exact List.mem_of_getElem? HLK.out
                · exact HPQ.out.2.2 x hx
            · obtain rfl : k = L.length := by omega
              have eo : out.map I.row = toldW ps ks wins [] (M.map Ln.row) := by
                rw [HT.out, ← HLM.out, List.drop_length, List.map_nil]
                simp [toldW]
              have ez : (toldW ps ks wins [] (M.map Ln.row)).map (fun r => (r, (1 : Int))) = out.map zOf := by
                rw [← eo, List.map_map]
                exact List.map_congr_left (fun u hu => by simp only [Function.comp, zOf, (Out.out u hu).2])
              have hmem : ∀ u ∈ out, u.row.length ≤ 8 ∧ ∀ v ∈ u.row, RV v := fun u hu => by
                have h1 : u.row ∈ toldW ps ks wins [] (M.map Ln.row) := by rw [← eo]; exact List.mem_map_of_mem hu
                obtain ⟨q', r, hr, hq, e⟩ := toldW_mem ps ks wins _ _ _ h1
                obtain ⟨x, hx, rfl⟩ := List.mem_map.1 hr
                have hx1 := Mrow.out x hx
                rw [e]
                refine ⟨by simp only [tellW, List.length_append, List.length_map, hx1.1]; exact OK.out.n, tell_rv (fun a ha => OK.out.kind ha) hx1.2.1 (fun y hy a ha h5 => ?_)⟩
                rcases hq y hy with h | h
                · simp at h
                · obtain ⟨x2, hx2, rfl⟩ := List.mem_map.1 h
                  exact rv_of x2.row (Mrow.out x2 hx2).2.1 a.x (OK.out.re ha (.inr h5) (Mrow.out x2 hx2).1)
              have lo : out.length ≤ 400 := by have := LO.out; omega
              obtain ⟨B9, cap9, e9, hz9, hk9⟩ := own_zin' Own.out (fun u hu => (Out.out u hu).1.vsl)
              simp only [Value.slice.injEq] at e9
              obtain ⟨rfl, _, rfl⟩ := e9
              have cs := sum_p out Bo capo wr (by omega) hz9 (fun u hu => by have := (hmem u hu).1; omega) (fun u hu => (hmem u hu).2) (fun u hu => by rw [(Out.out u hu).2]; omega)
              rw [← ez, ← EM.out] at cs
              clear hz9 hk9 eo ez hmem
              go_wp2_with (go_at_call 26; ((with_reducible refine cs.mono ?_); rintro en w7 ⟨C, zs, cap2, rfl, hz3, hm3, hk3, hp3, hg7⟩; have Out9 := Lib.hid (And.intro hz3 (And.intro hm3 (And.intro hk3 hp3))); clear hz3 hm3 hk3 hp3))
              refine bodyPost_ret (by simp [results, Try.results8, go_sem] <;> rfl) rfl ?_
              exact ⟨C, zs, cap2, rfl, Out9.out.1, Out9.out.2.1, Out9.out.2.2.1, Out9.out.2.2.2, hg5.trans (hg.trans hg7)⟩
    · have d2 : (IE != 0) = true := by simpa using h2
      go_wp2_with (first
        | (go_at_call 19; ((with_reducible refine (ctw _ G).mono ?_); rintro e w2 ⟨vT, rfl, hg2⟩))
        | (go_at_call 20; ((with_reducible refine (ci _ (G.trans hg2)).mono ?_); rintro e w3 ⟨rfl, hg3⟩)))
      refine bodyPost_ret (by simp [results, Try.results8, go_sem] <;> rfl) rfl ?_
      exact GivesP.bad (by rw [Fin.out, if_pos h2]) (G.trans (hg2.trans hg3))
  · have d1 : (WE != 0) = true := by simpa using h1
    go_wp2_with (go_at_call 19; ((with_reducible refine (ctw _ G).mono ?_); rintro e w2 ⟨vT, rfl, hg2⟩))
    refine bodyPost_ret (by simp [results, Try.results8, go_sem] <;> rfl) rfl ?_
    exact GivesP.bad (by rw [Fin.out, if_pos h1]) (G.trans hg2)
theorem window_any (cols : List Int) (Ac : Option Addr) (cc : Nat) (ps : List E) (Ap : Option Addr) (cp : Nat) (ks : List E) (Ak : Option Addr) (ck : Nat) (wins : List Ag) (Aw : Option Addr) (cw : Nat) (xs : List I) (A : Option Addr) (c : Nat) (w : World) (hlen : cols.length ≤ 140737488355328) (hlp : ps.length ≤ 140737488355328) (hlk : ks.length ≤ 140737488355328) (hlw : wins.length ≤ 140737488355328) (hc : ISl w Ac cols) (hp : ESl w Ap ps) (hk : ESl w Ak ks) (hw : AgSl w Aw wins) (h : In w ⟨A, xs, c⟩) :
    Calls Try.prog 8 #[.slice Ac cols.length cc, .slice Ap ps.length cp, .slice Ak ks.length ck, .slice Aw wins.length cw, .slice A xs.length c] w fun en w' => Gives w w' en (winZ cols ps ks wins (xs.map zOf)) := (window_p cols Ac cc ps Ap cp ks Ak ck wins Aw cw xs A c w hlen hlp hlk hlw hc hp hk hw h).mono fun _ _ h => h.gives
end Go.Proofs.Ytamfpppbjaelaaa
