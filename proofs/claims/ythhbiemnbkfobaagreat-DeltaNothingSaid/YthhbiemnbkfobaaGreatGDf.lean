/- Parts of a proof. No condition. -/
import Derived.Test.YthhbiemnbkfobaaGreatGDe
import Derived.Test.YthhbiemnbkfobaaGreatGQb
set_option maxRecDepth 100000
set_option maxHeartbeats 16000000
set_option maxRecDepth 100000
set_option linter.unusedSimpArgs false
set_option linter.unusedVariables false
namespace Go
variable {p : Prop}
theorem oq_ (h : p := by rw [<- O2.out.2.1]; exact qZ9 hy) : p := h
theorem oN_ (h : p := by simp [results, Tryz.results19, go_sem] <;> rfl) : p := h
theorem uk_ (h : p := by
 intro w1 hw1 hF K hK; obtain ⟨B3, n3, hv, hi⟩ := hF _ (List.mem_cons_self ..) ⟨_, rfl, by decide⟩; subst hv; go_simp; exact hK _ _ (za.refl _) ⟨B3, n3, rfl, hi⟩) : p := h
theorem wa_ (h : p := by
 have h1 := hd; unfold yM at h1; split at h1
 · simp at h1
 · rename_i h3; simpa using h3) : p := h
theorem wu_ (h : p := by
 obtain ⟨rfl, rfl, hg⟩ := hrel; go_wp2; go_ret; exact Jr _ _ hg) : p := h
end Go
namespace Go.Proofs.YthhbiemnbkfobaaGreat
open Go.RowKit Go.Calm
theorem Jr (w w' : World) (hg : za w w') : zK w w' (.returned (.slice none 0 0)) [] := ⟨none, [], 0, rfl, zu _ _, rfl, zN.nil, hg⟩
theorem WI (v : Value) (B : Option Addr) (c : Nat) (w : World) : Calls Tryz.prog 58 #[v, .slice B 0 c] w fun en w' => zK w w' en [] := by
  go_enter Tryz.func58, Tryz.ntmps58; go_wp2
  go_loopw [5, 10] (fun t i wr => t = .slice none 0 0 /\ i = .int .i64 0 /\ za w wr) (fun _ _ _ => 0)
  case atStart => exact uV_
  case round => exact wu_
theorem Mf (v : Value) (B : Option Addr) (c : Nat) (w : World) : Calls Tryz.prog 59 #[v, .slice B 0 c] w fun en w' => zK w w' en [] := by
  have ct : ∀ W, Calls Tryz.prog 35 #[.slice none 0 0] W fun en w' => zK W w' en [] := fun W => (JX [] none 0 W (Nat.zero_le _) (zu _ _) (fun x hx => by simp at hx) (fun x hx => by simp at hx) (fun x hx => by simp at hx)).mono (by
    rintro en w' ⟨B, ys, cap, rfl, hz, hc, hw, hk, hg⟩
    exact ⟨B, ys, cap, rfl, hz, Uy (l := []) (fun y hy => by simp at hy) hc hw, hk, hg⟩)
  go_enter Tryz.func59, Tryz.ntmps59; go_wp2
  go_loopw [5, 10] (fun t i wr => t = .slice none 0 0 /\ i = .int .i64 0 /\ za w wr) (fun _ _ _ => 0)
  case atStart => exact uV_
  case round =>
    obtain ⟨rfl, rfl, hg⟩ := hrel
    go_wp2_with (go_at_call 35; ((with_reducible refine (ct _).mono ?_); rintro en w4 ⟨B4, ys, cap9, rfl, hz, hm, hk, hg4⟩; have Out := hh_ (And.intro hz (And.intro hm hk)); clear hz hm hk))
    go_ret; exact ⟨B4, ys, cap9, rfl, Out.out.1, Out.out.2.1, Out.out.2.2, hg.trans hg4⟩
theorem Y5 (v F : Value) (B : Option Addr) (c : Nat) (w : World) : Calls Tryz.prog 63 #[v, .slice B 0 c, F] w fun en w' => zK w w' en [] := by
  go_enter Tryz.func63, Tryz.ntmps63; go_wp2
  go_loopw [7, 14] (fun t i wr => t = .slice none 0 0 /\ i = .int .i64 0 /\ za w wr) (fun _ _ _ => 0)
  case atStart => exact uV_
  case round => exact wu_
theorem kU (gx ox : Nat) (x : E) (a b : S) (w : World) (hx : EX w x) (hc : zA w gx ox x) (ha : yI w a.A a.xs) (hb : yI w b.A b.xs) (hok : y8 x a b) (h : a.z = [] \/ b.z = []) :
    Calls Tryz.prog 61 #[.pointer (some ⟨gx, ox, none⟩), .slice a.A a.xs.length a.cap, .slice b.A b.xs.length b.cap] w fun en w' => zK w w' en [] :=
  (Ya gx ox x a b w hx hc ha hb hok).mono (by
    rintro en w' ⟨B, ys, cap, rfl, own, _, m, hg⟩
    have e : ys.map zp = [] := by
      rw [m]; rcases h with h | h
      · rw [h]; exact ZH _ _
      · rw [h]; exact Mb _ _
    obtain rfl := Qo e
    exact jS own hg)
/-! delta.Apply -/
theorem MZ {ds ms : List S} {k : Nat} {s t : S} (h1 : ds[k]? = some s) (h2 : ms[k]? = some t) : xz ((ds.map S.z).drop k) ((ms.map S.z).drop k) = if (yL s.z t.z 1).2 ≠ 0 then ([], (yL s.z t.z 1).2) else if (xz ((ds.map S.z).drop (k + 1)) ((ms.map S.z).drop (k + 1))).2 ≠ 0 then ([], (xz ((ds.map S.z).drop (k + 1)) ((ms.map S.z).drop (k + 1))).2) else ((yL s.z t.z 1).1 :: (xz ((ds.map S.z).drop (k + 1)) ((ms.map S.z).drop (k + 1))).1, 0) := by
  rw [Xw S.z h1, Xw S.z h2]; rfl
theorem Te (ds : List S) (Ad : Option Addr) (nd : Nat) (ms : List S) (Am : Option Addr) (nm : Nat) (w : World) (hds : MT w Ad ds nd) (hms : MT w Am ms nm) (hlen : ms.length = ds.length) (h0 : (XS (ds.map S.z) (ms.map S.z)).2 = 0) (hl : ds.length <= 1000000) :
    Calls Tryz.prog 18 #[.slice Ad ds.length nd, .slice Am ms.length nm] w fun en w' => ∃ (B : Option Addr) (n c : Nat), en = .returned (.tuple #[.slice B n c, .int .i64 0]) /\ za w w' := by
  have HD := hh_ hds; have HM := hh_ hms
  have inv0 : (xz ((ds.map S.z).drop 0) ((ms.map S.z).drop 0)).2 = 0 := by
    unfold XS at h0; rw [if_neg (by simp [hlen])] at h0; exact h0
  have Inv0 := hh_ inv0; have dl : ((ds.length : Int) != (ms.length : Int)) = false := by simp; omega
  have HLen := hh_ hlen; clear hds hms h0 inv0 hlen; go_enter Tryz.func18, Tryz.ntmps18; go_wp2
  go_loopw [6, 18] (fun t i wr => ∃ (k : Nat) (bs : List S), bs.length = k /\ k <= ds.length /\ i = .int .i64 k /\ xf wr w.heap.size t bs.length bs /\ (xz ((ds.map S.z).drop k) ((ms.map S.z).drop k)).2 = 0 /\ za w wr) (fun _ i _ => ds.length - (intOf i).toNat)
  case atStart => exact ⟨0, [], rfl, Nat.zero_le _, rfl, xf.nil _ _, Inv0.out, za.refl _⟩
  case round =>
    rename World => wr
    obtain ⟨k, bs, hak, hk, rfl, hown, hinv, hg⟩ := hrel; have Own := hh_ hown; have kL := hh_ hinv; have HK := hh_ hak; clear hown hinv hak
    by_cases hlt : k < ds.length
    · obtain ⟨s, hsk⟩ : ∃ s, ds[k]? = some s := ⟨_, qQ_ hlt⟩
      obtain ⟨u, huk⟩ : ∃ u, ms[k]? = some u := ⟨_, qQ_ (by have := HLen.out; omega)⟩
      obtain ⟨g1, o1, rfl, c1, _⟩ := (HD.out.grow hg).s k s hsk; obtain ⟨g2, o2, rfl, c2, _⟩ := (HM.out.grow hg).s k u huk; have ca := fun W (h : za wr W) => Pk s u W (((HD.out.each s (qZ_ hsk)).grow hg).grow h) (((HM.out.each u (qZ_ huk)).grow hg).grow h)
      have st := MZ hsk huk; rw [st] at kL; obtain ⟨T, e, hT⟩ : ∃ T e, yL s.z u.z 1 = (T, e) := ⟨_, _, rfl⟩
      rw [hT] at ca kL
      have he : e = 0 := by
        have h := kL.out
        by_cases h0 : e = 0
        · exact h0
        · rw [if_pos h0] at h; exact absurd h h0
      subst he
      have inv2 : (xz ((ds.map S.z).drop (k + 1)) ((ms.map S.z).drop (k + 1))).2 = 0 := by
        have h := kL.out; rw [if_neg vV_] at h
        by_cases h0 : (xz ((ds.map S.z).drop (k + 1)) ((ms.map S.z).drop (k + 1))).2 = 0
        · exact h0
        · rw [if_pos h0] at h; exact absurd h h0
      have Inv2 := hh_ inv2; have CA := hh_ ca; have k0 : (0 : Int) <= (k : Int) := by omega
      have k1 : (k : Int) < (ds.length : Int) := by omega
      have k2 : (k : Int) < (ms.length : Int) := by have := HLen.out; omega
      clear ca st hT hsk huk inv2 kL; unfold yK at CA; go_upto_region 10 with (go_at_call 32; ((with_reducible refine (CA.out _ (za.refl _)).mono ?_); rintro en w2 ⟨B, ys, cap9, rfl, hz, hm, hk2, hg2⟩; clear hz hm hk2)); have Own2 := hh_ (Own.out.grow hg2); have sz := (hg.trans hg2).size
      go_wp2_with (at_builtin; refine kE rfl _ _ rfl w.heap.size _ bs.length bs rfl (Own2.out.grow ((za.refl _).al _)) _ ⟨B, ys, cap9⟩ rfl _ (zc.new _ _ _) (by have := HK.out; omega) vN_ ?_; intro v7 w7 own7 gr7)
      have G7 : za w w7 := yg ((hg.trans hg2).al _) gr7 (Own2.out.grow ((za.refl _).al _)).1; have Own7 := hh_ own7; clear own7 gr7; go_roundw
      case rel => exact ⟨k + 1, bs ++ [⟨B, ys, cap9⟩], by simp [HK.out], by omega, by go_num, by simpa using Own7.out, Inv2.out, G7⟩
      case measure => exact vZ_
    · obtain rfl : k = ds.length := by omega
      obtain ⟨Bo, co, rfl⟩ := yH Own.out.1; go_wp2; refine qX_ (by simp [results, Tryz.results18, go_sem] <;> rfl) rfl ?_; exact ⟨Bo, _, co, rfl, hg⟩
/-! two rows of sets that grow beside each other -/
def ka (u v : Value) : Prop := ∀ g, u.ownBlock = some g -> v.ownBlock = some g -> False
theorem ka.symm {u v : Value} (h : ka u v) : ka v u := fun g h1 h2 => h g h2 h1
theorem ka.row {u v : Value} (h : ka u v) : v.ownBlock = none \/ v.ownBlock ≠ u.ownBlock := by
  cases hv : v.ownBlock with
  | none => exact .inl rfl
  | some g => exact .inr fun e => h g e.symm hv
theorem ka.app {v v' e : Value} {sz : Nat} (h : ka v e) (h4 : v'.ownBlock = v.ownBlock \/ v'.ownBlock = some sz) (lt : ∀ g, e.ownBlock = some g -> g < sz) : ka v' e := fun g h1 h2 => by
  rcases h4 with h4 | h4
  · exact h g (by rw [<- h4]; exact h1) h2
  · rw [h4] at h1
    cases h1; exact absurd (lt _ h2) (Nat.lt_irrefl _)
theorem WN {w : World} (ty : TypeId) (base : Nat) (v : Value) (n : Nat) (ss : List S) (hown : xf w base v n ss) (g : Nat) (y : S) (t : TypeId) (hb : zc w g t #[.slice y.A y.xs.length y.cap]) (hB : n + 1 <= 5864062014805) (hbase : base <= w.heap.size) :
    ∃ v' w', (Builtin.append_ #[32, 32] ty #[v, .slice (some ⟨g, 0, none⟩) 1 1]).run Tryz.prog w = .ok v' w' /\ xf w' base v' (n + 1) (ss ++ [y]) /\ w.grownBy w' v.ownBlock /\ (v'.ownBlock = v.ownBlock \/ v'.ownBlock = some w.heap.size) := by
  obtain ⟨v', w', hr, h1, h2⟩ := YS ty base v n ss hown g y t hb hB hbase; obtain ⟨ti, hti, hz0, hz1, hz2⟩ := QZ
  have hnews : ∀ (j : Nat) u, ([y.v'] : List Value)[j]? = some u -> w.cell? ((⟨g, 0, none⟩ : Addr).add j) = some u := fun j u hj => wo_
  obtain ⟨v2, w2, hr2, _, _, _, h4⟩ := run_append_own_at (P := Tryz.prog) w base 32 ty 34 ti (.slice none 0 0) 1 24 Tryz.underlying32 hti hz0 hz1 hz2 rfl vT_ v n (XK ss) hown.1 ⟨g, 0, none⟩ 1 1 [y.v'] rfl hnews (fun u hu => by simp at hu; subst hu; rfl) vr_ vU_ hbase; have e := hr.symm.trans hr2; simp only [Result.ok.injEq] at e; obtain ⟨rfl, rfl⟩ := e; exact ⟨v', w', hr, h1, h2, h4⟩
theorem j6 {w : World} {ops : Array Oper} {rest : List Oper} {o : Oper} {a : Act} {Q : Exit -> Act -> World -> Prop} (hgd : o.guard = none) (s x : Operand)
    (ho : o.op = .call { callee := .builtin .append, args := #[s, x], argTypes := #[32, 32] })
    (base : Nat) (v : Value) (n : Nat) (ss : List S) (hs : a.eval s = v) (hown : xf w base v n ss) (g : Nat) (y : S) (hx : a.eval x = .slice (some ⟨g, 0, none⟩) 1 1) (t : TypeId) (hb : zc w g t #[.slice y.A y.xs.length y.cap]) (hB : n + 1 <= 5864062014805) (hbase : base <= w.heap.size)
    (h : ∀ v' w', xf w' base v' (n + 1) (ss ++ [y]) -> w.grownBy w' v.ownBlock -> (v'.ownBlock = v.ownBlock \/ v'.ownBlock = some w.heap.size) -> wpList Tryz.prog ops Q rest (a.put o.dst v') w') : wpList Tryz.prog ops Q (o :: rest) a w := by
  obtain ⟨v', w', hr, h1, h2, h3⟩ := WN o.type base v n ss hown g y t hb hB hbase; exact Lib.wpList_append_run w hgd s x _ _ ho v (.slice (some ⟨g, 0, none⟩) 1 1) hs hx v' w' hr (h v' w' h1 h2 h3)
def S3 (w w' : World) (en : Ending) (o d : List Z) : Prop := ∃ (B : Option Addr) (ys : List I) (c : Nat) (B2 : Option Addr) (ys2 : List I) (c2 : Nat), en = .returned (.tuple #[.slice B ys.length c, .slice B2 ys2.length c2, .int .i64 0]) /\ (yI w' B ys /\ ys.map zp = o /\ zN B ys.length c) /\ (yI w' B2 ys2 /\ ys2.map zp = d /\ zN B2 ys2.length c2) /\ za w w'
structure Cn where
  ts : List (L2 Int)
  At : Option Addr
  nt : Nat
  ds : List S
  Ad : Option Addr
  nd : Nat
  ms : List S
  Am : Option Addr
  nm : Nat
structure Cn.in (s : Cn) (w : World) (gs : Nat) : Prop where
  b : zc w gs 66 #[.slice s.At s.ts.length s.nt, .slice s.Ad s.ds.length s.nd, .slice s.Am s.ms.length s.nm]
  t : S1 w s.At s.ts
  d : MT w s.Ad s.ds s.nd
  m : MT w s.Am s.ms s.nm
theorem Cn.in.grow {s : Cn} {w w' : World} {gs : Nat} (h : s.in w gs) (hg : za w w') : s.in w' gs := ⟨h.b.grow hg, h.t.grow hg, h.d.grow hg, h.m.grow hg⟩
def Qq (s : Cn) (gs : Nat) (p : PL) (o d : List Z) : Prop := ∀ (gx ox : Nat) (w : World), PX w p -> zJ w gx ox p -> s.in w gs -> Calls Tryz.prog 19 #[.pointer (some ⟨gs, 0, none⟩), .pointer (some ⟨gx, ox, none⟩)] w fun en w' => S3 w w' en o d
theorem Mh (s : Cn) (gs : Nat) (n : Nat) (x : E) (xs : jw) (ag : ju) (A : Option Addr) (mm cap : Nat) (kid : Nat -> PL) (a b : S) (ha : s.ds[n]? = some a) (hb : s.ms[n]? = some b) (hl : s.ds.length <= 1000000) (hl2 : s.ms.length <= 1000000) : Qq s gs (.mk 1 n x xs ag A mm cap kid) a.z b.z := by
  intro gx ox w hP hx hs; obtain ⟨ts, At, nt, ds, Ad, nd, ms, Am, nm⟩ := s; simp only at ha hb hl hl2; obtain ⟨g1, o1, rfl, e1, _⟩ := hs.d.s n a ha; obtain ⟨g2, o2, rfl, e2, _⟩ := hs.m.s n b hb; have ia := hs.d.each a (qZ_ ha); have ib := hs.m.each b (qZ_ hb); have l1 : n < ds.length := (qQ9.1 ha).1; have l2 : n < ms.length := (qQ9.1 hb).1; have k0 : (0 : Int) <= (n : Int) := by omega
  have k1 : (n : Int) < (ds.length : Int) := by omega
  have k2 : (n : Int) < (ms.length : Int) := by omega
  have ea : ((n : Int)).toNat = n := by omega
  have hb9 := hs.b; simp only at hb9 e1 e2; obtain ⟨b0, f0⟩ := hb9.rules; obtain ⟨c0, c1, c2, c3, c4, c5, c6, c7, c8, c9, c10⟩ := hx; simp only [PL.k, PL.n] at c0 c1; have IA := hh_ (And.intro ia ib); clear c2 c3 c4 c5 c6 c7 c8 c9 c10 hP hs ha hb ia ib hb9; go_enter Tryz.func19, Tryz.ntmps19; go_wp2
  go_quiet (fail)
  go_wp2; refine qX_ oN_ rfl ?_; exact ⟨a.A, a.xs, a.cap, b.A, b.xs, b.cap, rfl, ⟨IA.out.1.z.grow zi, rfl, IA.out.1.sl⟩, ⟨IA.out.2.z.grow zi, rfl, IA.out.2.sl⟩, zi⟩
def Ev (C : List Int) (v : Value) (W : World) : Prop := ∃ (B : Option Addr) (n : Nat), v = .tuple #[.slice B C.length n, .int .i64 0] /\ xc W B C
def Eu (C : List Int) (v : Value) (W : World) : Prop := ∃ (B : Option Addr) (n : Nat), v = .slice B C.length n /\ xc W B C
theorem Ev.pers (C : List Int) : qT (Ev C) := fun v w w' hg ⟨B, n, e, h⟩ => ⟨B, n, e, h.grow hg⟩
theorem Eu.pers (C : List Int) : qT (Eu C) := fun v w w' hg ⟨B, n, e, h⟩ => ⟨B, n, e, h.grow hg⟩
theorem Zf (s : Cn) (gs : Nat) (hlt : s.ts.length <= zD) (hl : ∀ t ∈ s.ts, t.xs.length <= zD) (k n : Int) (x : E) (xs : jw) (ag : ju) (A : Option Addr) (mm cap : Nat) (kid : Nat -> PL) (F D : Nat -> List Z) (o d : List Z) (hk1 : k ≠ 1) (h0 : (zt (zF s.ts) (.mk k n x xs ag A mm cap kid)).2 = 0)
    (ih : ∀ i, i < mm -> Qq s gs (kid i) (F i) (D i)) (hF : ∀ i, i < mm -> WO (F i)) (hD : ∀ i, i < mm -> WO (D i)) (hone : xy k n x xs.l ag.l ((List.range mm).map (fun i => (zt (zF s.ts) (kid i)).1)) ((List.range mm).map F) = (o, 0))
    (cchg : ∀ (gx ox base : Nat) (W : World) (cs : List (L2 Int)) (zs es : List S) (tc tz te : Value), PX W (.mk k n x xs ag A mm cap kid) -> zJ W gx ox (.mk k n x xs ag A mm cap kid) -> xv 55 W base tc mm (cs.map vL) -> xf W base tz mm zs -> xf W base te mm es -> (∀ q ∈ zs, In W q) -> (∀ q ∈ es, In W q) -> cs.map L2.xs = (List.range mm).map (fun i => (zt (zF s.ts) (kid i)).1) -> zs.map S.z = (List.range mm).map F -> es.map S.z = (List.range mm).map D ->
      Calls Tryz.prog 33 #[.pointer (some ⟨gs, 0, none⟩), .pointer (some ⟨gx, ox, none⟩), tc, tz, te] W fun en w' => zK W w' en d) :
    Qq s gs (.mk k n x xs ag A mm cap kid) o d := by
  intro gx ox w hP hx hs; have Hx := hh_ hx; have HP := hh_ hP; have HS := hh_ hs; have HL := hh_ (And.intro hlt hl); have H0 := hh_ h0; have nodeE := xV h0; have knd := Zh nodeE.1 nodeE.2.1 hk1; have Knd := hh_ knd.2; have hn2 : mm <= 2 := knd.1; have IH := hh_ ih; have HF := hh_ (And.intro hF hD); have HO := hh_ hone; have CH := hh_ cchg; have dk : (k == 1) = false := by simpa using hk1
  obtain ⟨ts, At, nt, ds, Ad, nd, ms, Am, nm⟩ := s; simp only at IH HS HL H0 HO CH; obtain ⟨c0, c1, c2, c3, c4, c5, c6, c7, c8, c9, c10⟩ := hx; simp only [PL.k, PL.n, PL.x, PL.xs, PL.ag, PL.A, PL.m, PL.cap] at c0 c1 c2 c3 c4 c5 c6 c7 c8 c9 c10; clear hP hs h0 hlt hl nodeE knd hk1 ih hF hD hone cchg; go_enter Tryz.func19, Tryz.ntmps19; go_wp2
  go_loopw [7, 8, 9, 46] (fun tz te tc i wr => ∃ (j : Nat) (cs : List (L2 Int)) (zs es : List S), j <= mm /\ i = .int .i64 j /\ xv 55 wr w.heap.size tc j (cs.map vL) /\ xf wr w.heap.size tz j zs /\ xf wr w.heap.size te j es /\ ka tz te /\ za w wr /\ (∀ c ∈ cs, c.xs.length <= 140737488355328 /\ xc wr c.A c.xs) /\ (∀ q ∈ zs, In wr q) /\ (∀ q ∈ es, In wr q) /\ cs.length = j /\ zs.length = j /\ es.length = j /\
      cs.map L2.xs = (List.range j).map (fun i => (zt (zF ts) (kid i)).1) /\ zs.map S.z = (List.range j).map F /\ es.map S.z = (List.range j).map D) (fun _ _ _ i _ => mm - (intOf i).toNat)
  case atStart => exact ⟨0, [], [], [], Nat.zero_le _, rfl, xv.nil _ _ _, xf.nil _ _, xf.nil _ _, fun g h => by simp [Value.ownBlock] at h, za.refl _, (fun c hc => by simp at hc), (fun q hq => by simp at hq), (fun q hq => by simp at hq), rfl, rfl, rfl, rfl, rfl, rfl⟩
  case round =>
    rename World => wr
    obtain ⟨j, cs, zs, es, hj, rfl, hown, hownz, howne, hap, hgw, hcs, hzs, hes, hcl, hzl, hel, hcm, hzm, hem⟩ := hrel; have Own := hh_ (And.intro hown (And.intro hownz (And.intro howne hap))); have HC := hh_ (And.intro hcs (And.intro hzs hes)); have HM := hh_ (And.intro hcl (And.intro hzl (And.intro hel (And.intro hcm (And.intro hzm hem))))); obtain ⟨c0, c1, c2, c3, c4, c5, c6, c7, c8, c9, c10⟩ := Hx.out.grow hgw; simp only [PL.k, PL.n, PL.x, PL.xs, PL.ag, PL.A, PL.m, PL.cap] at c0 c1 c2 c3 c4 c5 c6 c7 c8 c9 c10; clear hown hownz howne hap hcs hzs hes hcl hzl hel hcm hzm hem
    by_cases hltj : j < mm
    · obtain ⟨gk, ok, hA, hck, hEk⟩ : ∃ gk ok, A = some ⟨gk, ok, none⟩ /\ zJ w gk (ok + j * 11) (kid j) /\ PX w (kid j) := by
        cases HP.out with
        | mk hm' hc hk =>
          obtain ⟨gk, ok, h1, h2⟩ := hc j hltj; exact ⟨gk, ok, h1, h2, hk j hltj⟩
      subst hA; have h0k := y9 H0.out hltj; have ihj := IH.out j hltj gk (ok + j * 11) wr (hEk.grow hgw) (hck.grow hgw) (HS.out.grow hgw); have hsm := HF.out.1 j hltj; have hsd := HF.out.2 j hltj; have cq := fun W (h : za w W) => XA ts At nt (kid j) W HL.out.1 HL.out.2 (HS.out.t.grow h) (hEk.grow h)
      obtain ⟨C, hC⟩ : ∃ C, (zt (zF ts) (kid j)).1 = C := ⟨_, rfl⟩
      have hCE : zt (zF ts) (kid j) = (C, 0) := Prod.ext hC h0k; have hCl : C.length <= 8 := by rw [<- hC]; exact XW (zF ts) (kid j)
      rw [hCE] at cq; unfold XP at cq; unfold PL.val at cq; unfold S3 at ihj; have IHJ := hh_ ihj; have CQ := hh_ cq; have HSM := hh_ (And.intro hsm hsd); have HCE := hh_ hC; have HCK := hh_ hck; clear ihj cq hsm hsd h0k hC hCE hck; go_upto_region 11 with (go_at_call 19; ((with_reducible refine IHJ.out.mono ?_); rintro en w2 ⟨B, ys, cap9, B2, ys2, cap92, rfl, h1, h2, hg2⟩; have O1 := hh_ (And.intro h1 h2); clear h1 h2)); have hin : In w2 ⟨B, ys, cap9⟩ := In.sml O1.out.1.1 O1.out.1.2.2 (by rw [O1.out.1.2.1]; exact HSM.out.1); have hin2 : In w2 ⟨B2, ys2, cap92⟩ := In.sml O1.out.2.1 O1.out.2.2.2 (by rw [O1.out.2.2.1]; exact HSM.out.2); have HIN := hh_ (And.intro hin hin2); have HMZ := hh_ (And.intro O1.out.1.2.1 O1.out.2.2.1); have G2 := hgw.trans hg2; clear hin hin2 c0 c1 c2 c3 c4 c5 c6 c7 c8 c9 c10; apply zb 17 vP_ vP_
      case h' =>
        intro Q0 hQ0; simp only [List.take_succ_cons, List.take_zero]
        repeat ((first | ((first | apply zh rfl | apply zo rfl rfl rfl); case h1 => (intro w1 hw1 hF K hK; obtain ⟨b0, f0⟩ := (HS.out.b.grow (G2.trans hw1)).rules; obtain ⟨c0, c1, c2, c3, c4, c5, c6, c7, c8, c9, c10⟩ := Hx.out.grow (G2.trans hw1); simp only [PL.k, PL.n, PL.x, PL.xs, PL.ag, PL.A, PL.m, PL.cap] at c0 c1 c2 c3 c4 c5 c6 c7 c8 c9 c10; obtain ⟨k0, k1, k2, k3, k4, k5, k6, k7, k8, k9, k10⟩ := HCK.out.grow (G2.trans hw1); go_simp; first | exact hK _ (za.refl _))) | apply zm rfl rfl rfl rfl); intro K hK; go_simp; apply hK; clear hK K)
        apply ze (Ev C) rfl
        case h1 =>
          intro w1 hw1 hF K hK; go_simp
          go_at_call 15
          refine (CQ.out w1 (G2.trans hw1)).mono ?_; rintro en w' ⟨B3, n3, rfl, hi3, hn3, hg'⟩; exact ⟨_, rfl, hK _ _ hg' ⟨B3, n3, rfl, hi3⟩⟩
        intro v76 K hK; go_simp; apply hK; clear hK K; apply ze (Ev C) rfl
        case h1 => exact uk_
        intro v64 K hK; go_simp; apply hK; clear hK K; apply ze (Eu C) rfl
        case h1 => exact uk_
        intro v77 K hK; go_simp; apply hK; clear hK K; apply zh rfl
        case h1 =>
          intro w1 hw1 hF K hK; obtain ⟨B3, n3, hv, hi⟩ := hF _ (List.mem_cons_of_mem _ (List.mem_cons_self ..)) ⟨_, rfl, by decide⟩; subst hv; go_simp; exact hK _ (za.refl _)
        intro K hK; go_simp; apply hK; clear hK K; apply ze (Eu C) rfl
        case h1 => exact uk_
        intro v14 K hK; go_simp; apply hK; clear hK K
        repeat ((first | ((first | apply zh rfl | apply zo rfl rfl rfl); case h1 => (intro w1 hw1 hF K hK; go_simp; first | exact hK _ (za.refl _))) | apply zm rfl rfl rfl rfl); intro K hK; go_simp; apply hK; clear hK K)
        refine zk ?_; intro w1 hw1 hF; apply hQ0; clear hQ0; simp only [List.drop_succ_cons, List.drop_zero]; obtain ⟨B3, n3, hv, hi3⟩ := hF _ (List.mem_cons_self ..); subst hv; rename World => w3
        have HI3 := hh_ hi3; have hg3 := hw1; clear hF hi3; have G3 := G2.trans hg3; have G13 := hg2.trans hg3; have OwnC := hh_ (Own.out.1.grow G13); have OwnZ := hh_ (Own.out.2.1.grow G13); have OwnE := hh_ (Own.out.2.2.1.grow G13); have AP := hh_ Own.out.2.2.2; have hs3 := G3.size; go_upto_region 12 with fail
        have OZA := hh_ (OwnZ.out.grow ((za.refl w3).al (.cells #[.slice B ys.length cap9] 34))); have OEA := hh_ (OwnE.out.grow ((za.refl w3).al (.cells #[.slice B ys.length cap9] 34))); have OCA := hh_ (OwnC.out.grow ((za.refl w3).al (.cells #[.slice B ys.length cap9] 34))); have GA := hh_ (G3.al (.cells #[.slice B ys.length cap9] 34)); have sA : w.heap.size <= (w3.alloc (.cells #[.slice B ys.length cap9] 34)).heap.size := by simp; omega
        have SA := hh_ sA; clear sA hs3
        go_wp2_with (first
          | (at_builtin; refine j6 rfl _ _ rfl w.heap.size _ _ _ rfl OZA.out _ ⟨B, ys, cap9⟩ rfl _ (zc.new _ _ _) vU_ SA.out ?_; intro v5 w5 own5 gb5 at5; have Own5 := hh_ (And.intro own5 (And.intro gb5 at5)); clear own5 gb5 at5; have OE5 := hh_ ((OEA.out.kept Own5.out.2.1 AP.out.row).grow ((za.refl w5).al (.cells #[.slice B2 ys2.length cap92] 34))); have OC5 := hh_ ((OCA.out.kept2 Own5.out.2.1 (qv OCA.out OZA.out).1).grow ((za.refl w5).al (.cells #[.slice B2 ys2.length cap92] 34))); have OZ5 := hh_ (Own5.out.1.grow ((za.refl w5).al (.cells #[.slice B2 ys2.length cap92] 34))); have AP5 := hh_ (AP.out.app Own5.out.2.2 (fun g h => (OEA.out.1.lt g h).2)); have G5 := hh_ ((za.own GA.out Own5.out.2.1 (fun i hi => (OZA.out.1.lt i hi).1)).al (.cells #[.slice B2 ys2.length cap92] 34)); have S5 := hh_ G5.out.size)
          | (at_builtin; refine j6 rfl _ _ rfl w.heap.size _ _ _ rfl OE5.out _ ⟨B2, ys2, cap92⟩ rfl _ (zc.new _ _ _) vU_ S5.out ?_; intro v6 w6 own6 gb6 at6; have Own6 := hh_ (And.intro own6 (And.intro gb6 at6)); clear own6 gb6 at6; have OZ6 := hh_ ((OZ5.out.kept Own6.out.2.1 AP5.out.symm.row).grow ((za.refl w6).al (.cells #[.slice B3 C.length n3] 55))); have OC6 := hh_ ((OC5.out.kept2 Own6.out.2.1 (qv OC5.out OE5.out).1).grow ((za.refl w6).al (.cells #[.slice B3 C.length n3] 55))); have OE6 := hh_ (Own6.out.1.grow ((za.refl w6).al (.cells #[.slice B3 C.length n3] 55))); have AP6 := hh_ (AP5.out.symm.app Own6.out.2.2 (fun g h => (OZ5.out.1.lt g h).2)).symm; have G6 := hh_ ((za.own G5.out Own6.out.2.1 (fun i hi => (OE5.out.1.lt i hi).1)).al (.cells #[.slice B3 C.length n3] 55)); have S6 := hh_ G6.out.size)
          | (at_builtin; refine qX Zo rfl _ _ rfl w.heap.size _ _ _ rfl OC6.out _ _ ⟨_, _, _, rfl⟩ rfl _ (zc.new _ _ _) vU_ S6.out ?_; intro v7 w7 own7 gb7; have Own7 := hh_ (And.intro own7 gb7); clear own7 gb7))
        have G7 : za w w7 := za.own G6.out Own7.out.2 (fun i hi => (OC6.out.1.lt i hi).1); have step : ∀ q, In w3 q -> In w7 q := fun q h => ((((h.grow ((za.refl _).al _)).gb OZA.out.2 Own5.out.2.1).grow ((za.refl _).al _)).gb OE5.out.2 Own6.out.2.1 |>.grow ((za.refl _).al _)).gb OC6.out.2.1 Own7.out.2
        have Jw : ∀ q ∈ zs ++ [⟨B, ys, cap9⟩], In w7 q := fun q hq => by
          rcases List.mem_append.1 hq with hq | hq
          · exact step q ((HC.out.2.1 q hq).grow G13)
          · simp at hq; subst hq; exact step _ (HIN.out.1.grow hg3)
        have keepE : ∀ q ∈ es ++ [⟨B2, ys2, cap92⟩], In w7 q := fun q hq => by
          rcases List.mem_append.1 hq with hq | hq
          · exact step q ((HC.out.2.2 q hq).grow G13)
          · simp at hq; subst hq; exact step _ (HIN.out.2.grow hg3)
        have keepC : ∀ c ∈ cs ++ [⟨B3, C, n3⟩], c.xs.length <= 140737488355328 /\ xc w7 c.A c.xs := fun c hc => by
          have h3 : c.xs.length <= 140737488355328 /\ xc w3 c.A c.xs := by
            rcases List.mem_append.1 hc with hc | hc
            · exact ⟨(HC.out.1 c hc).1, (HC.out.1 c hc).2.grow G13⟩
            · exact wz_
          exact ⟨h3.1, ((((h3.2.grow ((za.refl _).al _)).gb OZA.out.2 Own5.out.2.1).grow ((za.refl _).al _)).gb OE5.out.2 Own6.out.2.1 |>.grow ((za.refl _).al _)).gb OC6.out.2.1 Own7.out.2⟩
        have OZ7 := OZ6.out.kept Own7.out.2 (qv OC6.out OZ6.out).2; have OE7 := OE6.out.kept Own7.out.2 (qv OC6.out OE6.out).2; have Z7 := hh_ (And.intro G7 (And.intro keepC (And.intro Jw (And.intro keepE (And.intro OZ7 OE7))))); clear G7 step keepC Jw keepE OZ7 OE7; go_roundw
        case rel =>
          obtain ⟨z1, z2, z3, z4, z5, z6⟩ := Z7.out; obtain ⟨m1, m2, m3, m4, m5, m6⟩ := HM.out; refine ⟨j + 1, cs ++ [⟨B3, C, n3⟩], zs ++ [⟨B, ys, cap9⟩], es ++ [⟨B2, ys2, cap92⟩], by omega, by go_num, by simpa using Own7.out.1, z5, z6, AP6.out, z1, z2, z3, z4, by simp [m1], by simp [m2], by simp [m3], ?_, ?_, ?_⟩
          · rw [List.map_append, m4, List.range_succ, List.map_append]
            simp [HCE.out]
          · rw [List.map_append, m5, List.range_succ, List.map_append]
            simp [S.z, HMZ.out.1]
          · rw [List.map_append, m6, List.range_succ, List.map_append]
            simp [S.z, HMZ.out.2]
        case measure => exact vZ_
      case hp' => exact ⟨Ev.pers _, Ev.pers _, Eu.pers _, Eu.pers _, trivial⟩
    · obtain rfl : j = mm := by omega
      obtain ⟨hcl, hzl, hel, hcm, hzm, hem⟩ := HM.out; have co := Mr k n x xs ag A j cap kid gx ox w.heap.size cs zs _ _ wr (HP.out.grow hgw) (Hx.out.grow hgw) (by rw [hcl, hzl]; exact Knd.out) HC.out.1 HC.out.2.1 (by rw [hcl]; exact Own.out.1) (by rw [hzl]; exact Own.out.2.1); rw [hcm, hzm, HO.out] at co; unfold yK at co; have CO := hh_ co; have cc := fun W (h : za wr W) => CH.out gx ox w.heap.size W cs zs es _ _ _ ((HP.out.grow hgw).grow h) ((Hx.out.grow hgw).grow h) (Own.out.1.grow h) (Own.out.2.1.grow h) (Own.out.2.2.1.grow h) (fun q hq => (HC.out.2.1 q hq).grow h) (fun q hq => (HC.out.2.2 q hq).grow h) hcm hzm hem
      unfold zK at cc; have CC := hh_ cc; clear hcl hzl hel hcm hzm hem co cc IH CH
      go_wp2_with (first
        | (go_at_call 31; ((with_reducible refine CO.out.mono ?_); rintro en w4 ⟨B, ys, cap9, rfl, hz4, hm4, hk4, hg4⟩; have Out := hh_ (And.intro hz4 (And.intro hm4 hk4)); clear hz4 hm4 hk4))
        | (go_at_call 33; ((with_reducible refine (CC.out _ hg4).mono ?_); rintro en w5 ⟨B2, ys2, cap2, rfl, hz5, hm5, hk5, hg5⟩; have Out2 := hh_ (And.intro hz5 (And.intro hm5 hk5)); clear hz5 hm5 hk5)))
      refine qX_ oN_ rfl ?_; exact ⟨B, ys, cap9, B2, ys2, cap2, rfl, ⟨Out.out.1.grow hg5, Out.out.2.1, Out.out.2.2⟩, ⟨Out2.out.1, Out2.out.2.1, Out2.out.2.2⟩, hgw.trans (hg4.trans hg5)⟩
theorem zK.as {w w' : World} {en : Ending} {r r' : List Z} (h : zK w w' en r) (e : r = r') : zK w w' en r' := e ▸ h
/-! what a right node tells of its kids -/
theorem P5 {cols : List Int} {es : List E} {n : Int} {z o : List Z} (h : kA cols es n z = (o, 0)) : ((zC cols es).2 = 0 /\ 0 <= n /\ n <= 50 /\ zz cols z = 0) := by
  unfold kA at h; split at h
  · exact v4_
  · rename_i h1
    split at h
    · simp at h
    · rename_i h2
      split at h
      · rename_i h3; exact absurd (Prod.mk.inj h).2 h3
      · rename_i h3
        exact ⟨by simpa using h1, by omega, by omega, by simpa using h3⟩
theorem Dr {cols : List Int} {es : List E} {n : Int} {a : S} {o : List Z} (h : kA cols es n a.z = (o, 0)) : Lb es n a.xs /\ ∀ (ys : List I), ys.map zp = zW (a.z ++ []) -> Lb es n ys := by
  obtain ⟨h1, h2, h3, h4⟩ := P5 h; obtain ⟨_, hwz, hfit⟩ := zj h4; obtain ⟨a1, a2, a3, a4⟩ := S.facts hwz; obtain ⟨he8, hty⟩ := yW h1
  have hre : ∀ x ∈ a.xs, ∀ e ∈ es, RE x.row.length e := fun x hx e he => ut_
  have up : a.xs.Pairwise tg := by
    have h5 := (SM.of hwz).up; unfold S.z at h5; rw [List.pairwise_map] at h5; exact h5
  refine ⟨⟨by omega, up, fun y hy => by have := a2 y hy; omega, a3, fun y hy => by have := a4 y hy; omega, hre, by omega, ⟨h2, h3⟩⟩, fun ys hm => ?_⟩; obtain ⟨f1, f2⟩ := jW hwz hm; have c := (yB (a.z ++ []) (fun y hy => by rw [List.append_nil] at hy; exact (SM.of hwz).rv y hy)).1
  have up2 : ys.Pairwise tg := by
    have h5 := c.up; rw [<- hm, List.pairwise_map] at h5; exact h5
  have src : ∀ y ∈ ys, ∃ x ∈ a.xs, y.row = zg x.row := fun y hy => by
    have h5 : zp y ∈ zW (a.z ++ []) := by rw [<- hm]; exact qZ9 hy
    obtain ⟨x, hx, e⟩ := Xe h5; rw [List.append_nil] at hx; obtain ⟨x', hx', rfl⟩ := List.mem_map.1 hx; exact ⟨x', hx', e⟩
  exact ⟨by omega, up2, fun y hy => by have := (f2 y hy).1; omega, fun y hy => (f2 y hy).2.1, fun y hy => by have := (f2 y hy).2.2; omega, fun y hy e he => by obtain ⟨x, hx, e2⟩ := src y hy; rw [e2, qr]; exact hre x hx e he, by omega, ⟨h2, h3⟩⟩
theorem Ux {z : List Z} (h : zw z = 0) : zW z = z.map bZ := by
  have sm := SM.of h; obtain ⟨c, w⟩ := yB z sm.rv; refine x4 _ _ c ⟨?_, fun y hy => ?_, fun y hy => ?_, fun y hy => ?_⟩ fun u _ => by rw [w, J6]
  · rw [List.pairwise_map]
    exact List.Pairwise.imp_of_mem (fun ha hb e => qM (sm.rv _ ha) (sm.rv _ hb) e) sm.up
  · obtain ⟨x, hx, rfl⟩ := List.mem_map.1 hy
    exact yy (sm.rv x hx)
  · exact u0_
  · obtain ⟨x, hx, rfl⟩ := List.mem_map.1 hy
    exact sm.ne x hx
theorem Ns {cols : List Int} {es : List E} {n : Int} {z o : List Z} (h : kA cols es n z = (o, 0)) : zW (xx es n (zW (z ++ [])) ++ zP (-1) (xx es n z)) = [] := by
  obtain ⟨h1, h2, h3, h4⟩ := P5 h; have hwz := (zj h4).2.1; have sm := SM.of hwz; rw [List.append_nil, Ux hwz]
  have e : xx es n (z.map bZ) = (xx es n z).map bZ := by
    unfold xx; have e1 : (z.map bZ).filter (fun x => decide (0 < x.2)) = (z.filter (fun x => decide (0 < x.2))).map bZ := by rw [List.filter_map]; rfl
    rw [e1, JO (sm.up.filter _) (fun x hx => sm.rv x (List.mem_filter.1 hx).1), kz]
  rw [e]; refine Mt (fun y hy => ?_) (YC sm.rv) fun u => J6 u _
  obtain ⟨x, hx, rfl⟩ := List.mem_map.1 hy; exact yy (YC sm.rv x hx)
theorem ZK {α β : Type} {l : List α} {f : α -> β} {b : β} (h : l.map f = [b]) : ∃ a, l = [a] /\ f a = b := by
  match l, h with
  | [a], h => exact ⟨a, rfl, by simpa using h⟩
theorem jA {α β : Type} {l : List α} {f : α -> β} {b c : β} (h : l.map f = [b, c]) : ∃ p q, l = [p, q] /\ f p = b /\ f q = c := by
  match l, h with
  | [p, q], h => simp at h; exact ⟨p, q, rfl, h.1, h.2⟩
theorem Uv {e : S} (h : e.z = []) : ∃ A c, e = ⟨A, [], c⟩ := by
  obtain ⟨A, xs, c⟩ := e; obtain rfl : xs = [] := Qo h; exact ⟨A, c, rfl⟩
theorem Rw (k n : Int) (hk : k = 2 \/ k = 3 \/ k = 10 \/ k = 11 \/ k = 12 \/ k = 13) (x : E) (xs : jw) (ag : ju) (A : Option Addr) (cap : Nat) (kid : Nat -> PL) (C : List Int) (o : List Z) (gs gx ox g1 n1 g2 n2 c0 : Nat) (tc : Value) (a : S) (B0 : Option Addr) (w : World) (hP : PX w (.mk k n x xs ag A 1 cap kid)) (hx : zJ w gx ox (.mk k n x xs ag A 1 cap kid)) (Z0 : w.cell? ⟨g1, 0, none⟩ = some (sL a)) (E0 : w.cell? ⟨g2, 0, none⟩ = some (.slice B0 0 c0)) (ha : In w a) (k0 : zN B0 0 c0) (wa : zw a.z = 0) (one : xy k n x xs.l ag.l [C] [a.z] = (o, 0)) :
    Calls Tryz.prog 33 #[.pointer (some ⟨gs, 0, none⟩), .pointer (some ⟨gx, ox, none⟩), tc, .slice (some ⟨g1, 0, none⟩) 1 n1, .slice (some ⟨g2, 0, none⟩) 1 n2] w fun en w' => zK w w' en [] := by
  obtain ⟨hEx, hES, hAG, hlens⟩ : EX w x /\ Y6 w xs.A xs.l /\ kF w ag.A ag.l /\ (xs.l.length <= zD /\ ag.l.length <= zD) := by cases hP with | mk hm hc hk hx hs ha hl hi => exact ⟨hx, hs, ha, hl⟩
  obtain ⟨a1, a2, a3, a4⟩ := S.facts wa; have sok : yP (a.xs ++ []) := yP.app ⟨by omega, fun y hy => by have := a2 y hy; omega, a3, fun y hy => by have := a4 y hy; omega⟩ yP.nil vN_; rcases hk with rfl | rfl | rfl | rfl | rfl | rfl
  · exact ED n x xs ag A 1 cap kid gs gx ox g1 n1 g2 n2 c0 tc a B0 w hx Z0 E0 (fun W h => WI _ _ _ _)
  · exact EJ n x xs ag A 1 cap kid gs gx ox g1 n1 g2 n2 c0 tc a B0 w hx Z0 E0 (fun W h => Mf _ _ _ _)
  · exact EK n x xs ag A 1 cap kid gs gx ox g1 n1 g2 n2 c0 tc a B0 w hx Z0 E0 (fun W h => Y5 _ _ _ _ _)
  · exact EN n x xs ag A 1 cap kid gs gx ox g1 n1 g2 n2 c0 tc a B0 w hx Z0 E0 (fun W h => Y5 _ _ _ _ _)
  · have ok : xe C xs.l ag.l a.z := (NE (s := o) (by simpa [xy] using one)).2
    exact EG n x xs ag A 1 cap kid gs gx ox g1 n1 g2 n2 c0 tc a B0 w hx Z0 E0 (fun W h => L5 C (.mk 12 n x xs ag A 1 cap kid) gx ox a B0 c0 W (hx.grow h) (hES.grow h) (hAG.grow h) ok (ha.grow h) k0)
  · have ot : kA C xs.l n a.z = (o, 0) := by simpa [xy] using one
    obtain ⟨f1, f2⟩ := Dr ot; refine (EP n x xs ag A 1 cap kid gs gx ox g1 n1 g2 n2 c0 tc a B0 w hx Z0 E0 ha k0 sok [] (fun B ys cap9 W h hz hk hm => ?_)); refine (UR (.mk 13 n x xs ag A 1 cap kid) gx ox a.xs ys a.A B a.cap cap9 W (hx.grow h) (hES.grow h) (ha.z.grow h) ha.sl f1 hz hk (f2 ys hm)).mono ?_; intro en w' hg; refine hg.as ?_; rw [hm]; exact Ns ot
theorem Rx (k n : Int) (hk : k = 4 \/ k = 5 \/ k = 6 \/ k = 7 \/ k = 8 \/ k = 9) (x : E) (xs : jw) (ag : ju) (A : Option Addr) (cap : Nat) (kid : Nat -> PL) (c d : L2 Int) (o : List Z) (gs gx ox g1 n1 g2 n2 g3 n3 c0 d0 : Nat) (a b : S) (B0 B1 : Option Addr) (w : World) (hP : PX w (.mk k n x xs ag A 2 cap kid)) (hx : zJ w gx ox (.mk k n x xs ag A 2 cap kid)) (C1 : w.cell? ⟨g3, 1, none⟩ = some (vL d)) (Z0 : w.cell? ⟨g1, 0, none⟩ = some (sL a)) (Z1 : w.cell? ⟨g1, 1, none⟩ = some (sL b)) (E0 : w.cell? ⟨g2, 0, none⟩ = some (.slice B0 0 c0)) (E1 : w.cell? ⟨g2, 1, none⟩ = some (.slice B1 0 d0)) (ha : In w a) (hb : In w b) (k0 : zN B0 0 c0) (k1 : zN B1 0 d0) (wa : zw a.z = 0) (wb : zw b.z = 0) (one : xy k n x xs.l ag.l [c.xs, d.xs] [a.z, b.z] = (o, 0)) :
    Calls Tryz.prog 33 #[.pointer (some ⟨gs, 0, none⟩), .pointer (some ⟨gx, ox, none⟩), .slice (some ⟨g3, 0, none⟩) 2 n3, .slice (some ⟨g1, 0, none⟩) 2 n1, .slice (some ⟨g2, 0, none⟩) 2 n2] w fun en w' => zK w w' en [] := by
  obtain ⟨hEx, hlens⟩ : EX w x /\ (xs.l.length <= zD /\ ag.l.length <= zD) := by cases hP with | mk hm hc hk hx hs ha hl hi => exact ⟨hx, hl⟩
  have two : k = 4 \/ k = 5 \/ k = 6 \/ k = 7 -> xQ c.xs d.xs x a.z b.z = 0 := fun h => by
    apply Classical.byContradiction; intro hne; rcases h with rfl | rfl | rfl | rfl
    · have h1 : jU c.xs d.xs x a.z b.z = (o, 0) := by simpa [xy] using one
      unfold jU at h1; rw [if_pos hne] at h1; exact hne (Prod.mk.inj h1).2
    · have h1 : xA true c.xs d.xs x a.z b.z = (o, 0) := by simpa [xy] using one
      unfold xA at h1; rw [if_pos hne] at h1; exact hne (Prod.mk.inj h1).2
    · have h1 : xA false c.xs d.xs x a.z b.z = (o, 0) := by simpa [xy] using one
      unfold xA at h1; rw [if_pos hne] at h1; exact hne (Prod.mk.inj h1).2
    · have h1 : jV c.xs d.xs x a.z b.z = (o, 0) := by simpa [xy] using one
      unfold jV at h1; rw [if_pos hne] at h1; exact hne (Prod.mk.inj h1).2
  have part : (k = 5 \/ k = 6 \/ k = 7) -> Calls Tryz.prog 33 #[.pointer (some ⟨gs, 0, none⟩), .pointer (some ⟨gx, ox, none⟩), .slice (some ⟨g3, 0, none⟩) 2 n3, .slice (some ⟨g1, 0, none⟩) 2 n1, .slice (some ⟨g2, 0, none⟩) 2 n2] w fun en w' => zK w w' en [] := fun h => by
    have t0 := two (.inr h); have h8 := (qy t0).1; exact EO k h n x xs ag A 2 cap kid gs gx ox g3 n3 0 d (.slice (some ⟨g1, 0, none⟩) 2 n1) (.slice (some ⟨g2, 0, none⟩) 2 n2) w hx C1 (fun W h => WL (.mk k n x xs ag A 2 cap kid) gx ox d.xs.length g1 n1 g2 n2 c0 d0 a b B0 B1 W vU_ (hx.grow h) (hEx.grow h) (h.cell Z0) (h.cell Z1) (h.cell E0) (h.cell E1) (ha.grow h) (hb.grow h) k0 k1 (Yl t0) wa wb)
  rcases hk with rfl | rfl | rfl | rfl | rfl | rfl
  · have ok := Yl (two (.inl rfl))
    exact EH n x xs ag A 2 cap kid gs gx ox g1 n1 g2 n2 c0 d0 _ a B0 b B1 w hx Z0 E0 Z1 E1
      (fun W h => kU gx (ox + 2) x ⟨B0, [], c0⟩ b W (hEx.grow h) (hx.grow h).e (zu _ _) (hb.z.grow h) (Uq ok B0 c0) (.inl rfl))
      (fun W h => kU gx (ox + 2) x a ⟨B1, [], d0⟩ W (hEx.grow h) (hx.grow h).e (ha.z.grow h) (zu _ _) (Ur ok B1 d0) (.inr rfl))
      (fun W h => kU gx (ox + 2) x ⟨B0, [], c0⟩ ⟨B1, [], d0⟩ W (hEx.grow h) (hx.grow h).e (zu _ _) (zu _ _) (Uq (Ur ok B1 d0) B0 c0) (.inl rfl))
  · exact part (.inl rfl)
  · exact part (.inr (.inl rfl))
  · exact part (.inr (.inr rfl))
  · exact (Cp n x xs ag A 2 cap kid gs gx ox g2 n2 _ _ ⟨B0, [], c0⟩ ⟨B1, [], d0⟩ w hx E0 E1 ⟨zu _ _, k0, by simp [S.ok]⟩ ⟨zu _ _, k1, by simp [S.ok]⟩ yP.nil).mono (fun en w' h => h)
  · exact EU n x xs ag A 2 cap kid gs gx ox g1 n1 g2 n2 c0 d0 _ a B0 b B1 w hx Z0 E0 Z1 E1 k0 k1
theorem Yg {z : List Z} (h : zw z = 0) : WO z := ⟨(SM.of h).len, (SM.of h).ok⟩
theorem RI (s : Cn) (gs : Nat) (hlt : s.ts.length <= zD) (hl : ∀ t ∈ s.ts, t.xs.length <= zD) (hd : yM (zF s.ts) (s.ds.map S.z) = 0) (hm : s.ms.map S.z = (s.ds.map S.z).map fun _ => []) (hlen : s.ds.length <= 1000000) (p : PL) :
    (zt (zF s.ts) p).2 = 0 -> ∀ o, yp (zF s.ts) (s.ds.map S.z) p = (o, 0) -> Qq s gs p (yD (zF s.ts) (s.ds.map S.z) ((s.ds.map S.z).map fun _ => []) p).1 [] := by
  induction p with
  | leaf => intro h; exact absurd rfl (yY h)
  | mk k n x xs ag A mm cap kid ih =>
    intro hc o ho
    by_cases hk1 : k = 1
    · subst hk1
      have e1 : (yD (zF s.ts) (s.ds.map S.z) ((s.ds.map S.z).map fun _ => []) (.mk 1 n x xs ag A mm cap kid)).1 = (s.ds.map S.z).getD n.toNat [] := by
        unfold yD; rw [if_pos rfl]
      have hn : 0 <= n /\ n.toNat < s.ts.length := by
        have h1 := (xV hc).2.2; unfold yt at h1; rw [if_pos rfl] at h1; split at h1
        · simp at h1
        · rename_i h2; simp at h2; omega
      have hdl : s.ds.length = s.ts.length := wa_
      have hml : s.ms.length = s.ds.length := by have := congrArg List.length hm; simpa using this
      obtain ⟨nn, rfl⟩ : ∃ nn : Nat, n = (nn : Int) := ⟨n.toNat, by omega⟩
      have hlt2 : nn < s.ds.length := by have := hn.2; simp at this; omega
      obtain ⟨a, ha⟩ : ∃ a, s.ds[nn]? = some a := ⟨_, qQ_ hlt2⟩
      obtain ⟨b, hb⟩ : ∃ b, s.ms[nn]? = some b := ⟨_, qQ_ vU_⟩
      have ea : (s.ds.map S.z).getD (nn : Int).toNat [] = a.z := by rw [List.getD_eq_getElem?_getD]; simp [ha]
      have eb : b.z = [] := by
        have h1 : (s.ms.map S.z)[nn]? = some b.z := by rw [List.getElem?_map, hb]; rfl
        rw [hm, List.getElem?_map, List.getElem?_map, ha] at h1; simpa using h1.symm
      have h := Mh s gs nn x xs ag A mm cap kid a b ha hb hlen vU_; rw [e1, ea]; rw [eb] at h; exact h
    · have nodeE := xV hc
      have knd := (Zh nodeE.1 nodeE.2.1 hk1).2; rcases knd with ⟨hk, rfl, _⟩ | ⟨hk, rfl, _⟩
      · obtain ⟨a, r, hpa, rz, e, hone⟩ := Ub hd hk1 hc ho
        have hN := ih 0 (y9 hc vU_) a hpa; rw [e] at hN
        have eo : (yD (zF s.ts) (s.ds.map S.z) ((s.ds.map S.z).map fun _ => []) (.mk k n x xs ag A 1 cap kid)).1 = o := by
          unfold yD; rw [if_neg hk1, if_pos rfl, e]; simp [hone]
        rw [eo]; have wr := (zj rz.ri).2.1; refine Zf s gs hlt hl k n x xs ag A 1 cap kid (fun _ => r) (fun _ => []) o [] hk1 hc (fun i hi => by obtain rfl : i = 0 := vU_; exact hN) (fun i hi => Yg wr) (fun i hi => KQ) hone ?_; intro gx ox base W cs zs es tc tz te hP hx oc oz oe iz ie hcm hzm hem; obtain ⟨q, rfl, hq⟩ := ZK (show zs.map S.z = [_] from hzm); obtain ⟨u, rfl, hu⟩ := ZK (show es.map S.z = [_] from hem); obtain ⟨B0, c0, rfl⟩ := Uv hu; obtain ⟨g1, n1, rfl, Z0⟩ := xf.one (a := q) oz; obtain ⟨g2, n2, rfl, E0⟩ := xf.one (a := ⟨B0, [], c0⟩) oe; exact Rw k n hk x xs ag A cap kid _ o gs gx ox g1 n1 g2 n2 c0 tc q B0 W hP hx Z0 E0 (iz q vV_) (ie ⟨B0, [], c0⟩ vV_).sl (by rw [hq]; exact wr) (by rw [hq]; exact hone)
      · obtain ⟨a, b, r, t, hpa, hpb, rz, rz2, e, e2, hone⟩ := Uc hd hk1 hc ho
        have hN := ih 0 (y9 hc vU_) a hpa; have hN2 := ih 1 (y9 hc vU_) b hpb; rw [e] at hN; rw [e2] at hN2
        have eo : (yD (zF s.ts) (s.ds.map S.z) ((s.ds.map S.z).map fun _ => []) (.mk k n x xs ag A 2 cap kid)).1 = o := by
          unfold yD; rw [if_neg hk1, if_neg vT_, e, e2]; simp [hone]
        rw [eo]; have wr := (zj rz.ri).2.1; have wr2 := (zj rz2.ri).2.1; refine Zf s gs hlt hl k n x xs ag A 2 cap kid (fun i => if i = 0 then r else t) (fun _ => []) o [] hk1 hc (fun i hi => ?_) (fun i hi => ?_) (fun i hi => KQ) hone ?_
        · rcases (by omega : i = 0 \/ i = 1) with rfl | rfl
          · exact hN
          · exact hN2
        · show WO (if i = 0 then r else t)
          split
          · exact Yg wr
          · exact Yg wr2
        intro gx ox base W cs zs es tc tz te hP hx oc oz oe iz ie hcm hzm hem; obtain ⟨c, d, rfl, hc1, hd1⟩ := jA (show cs.map L2.xs = [_, _] from hcm); obtain ⟨q, v, rfl, hq, hv⟩ := jA (show zs.map S.z = [_, _] from hzm); obtain ⟨u, y, rfl, hu, hy⟩ := jA (show es.map S.z = [_, _] from hem); obtain ⟨B0, c0, rfl⟩ := Uv hu; obtain ⟨B1, d0, rfl⟩ := Uv hy; obtain ⟨g3, n3, rfl, C0, C1⟩ := xv.two (a := c) (b := d) oc; obtain ⟨g1, n1, rfl, Z0, Z1⟩ := xf.two (a := q) (b := v) oz; obtain ⟨g2, n2, rfl, E0, E1⟩ := xf.two (a := ⟨B0, [], c0⟩) (b := ⟨B1, [], d0⟩) oe; have hq : q.z = r := hq; have hv : v.z = t := hv; exact Rx k n hk x xs ag A cap kid c d o gs gx ox g1 n1 g2 n2 g3 n3 c0 d0 q v B0 B1 W hP hx C1 Z0 Z1 E0 E1 (iz q vV_) (iz v vV_) (ie ⟨B0, [], c0⟩ vV_).sl (ie ⟨B1, [], d0⟩ vV_).sl (by rw [hq]; exact wr) (by rw [hv]; exact wr2) (by rw [hq, hv, hc1, hd1]; exact hone)
theorem Tx (ts : List (L2 Int)) (At : Option Addr) (nt : Nat) (p : PL) (ds : List S) (Ad : Option Addr) (nd : Nat) (ms : List S) (Am : Option Addr) (nm : Nat) (w : World) (hlt : ts.length <= zD) (hl : ∀ t ∈ ts, t.xs.length <= zD) (hts : S1 w At ts) (hp : PX w p) (hds : MT w Ad ds nd) (hms : MT w Am ms nm) (hc : (zt (zF ts) p).2 = 0) (hd : yM (zF ts) (ds.map S.z) = 0) (hm : yM (zF ts) (ms.map S.z) = 0) (ha : (XS (ds.map S.z) (ms.map S.z)).2 = 0) (hlen : ms.length = ds.length) (hld : ds.length <= 1000000) (r d : List Z) (hN : ∀ gs, Qq ⟨ts, At, nt, ds, Ad, nd, ms, Am, nm⟩ gs p r d) (hsd : d.length <= 200000 /\ Y7 d /\ Lt 1000000000000 d) :
    Calls Tryz.prog 9 #[.slice At ts.length nt, p.val, .slice Ad ds.length nd, .slice Am ms.length nm] w fun en w' => yK w w' en (yF d) := by
  have HT := hh_ (And.intro hts (And.intro hp (And.intro hds hms))); obtain ⟨CE, hCE⟩ : ∃ CE, (zt (zF ts) p).1 = CE := ⟨_, rfl⟩
  have hCE2 : zt (zF ts) p = (CE, 0) := Prod.ext hCE hc; have cc := fun W (h : za w W) => XA ts At nt p W hlt hl (hts.grow h) (hp.grow h)
  have cd1 := fun W (h : za w W) => Zm ts At nt ds Ad nd W hlt hl (hts.grow h) (hds.grow h)
  have cd2 := fun W (h : za w W) => Zm ts At nt ms Am nm W hlt hl (hts.grow h) (hms.grow h)
  have ca := fun W (h : za w W) => Te ds Ad nd ms Am nm W (hds.grow h) (hms.grow h) hlen ha hld
  rw [hCE2] at cc; rw [hd] at cd1; rw [hm] at cd2; unfold XP at cc; have hB : ∀ W g, zc W g 31 #[.int .i64 p.k, .int .i64 p.n, .int .i64 p.x.kind, .int .i64 p.x.v.k, .int .i64 p.x.v.n, .string p.x.v.s, .int .i64 p.x.col, .slice p.x.A p.x.n p.x.cap, .slice p.xs.A p.xs.l.length p.xs.c, .slice p.ag.A p.ag.l.length p.ag.c, .slice p.A p.m p.cap] -> zJ W g 0 p := fun W g B => ⟨B.cells rfl, B.cells rfl, B.cells rfl, B.cells rfl, B.cells rfl, B.cells rfl, B.cells rfl, B.cells rfl, B.cells rfl, B.cells rfl, B.cells rfl⟩
  have HB := hh_ hB; unfold PL.val at cc ⊢; have CC := hh_ cc; have CD := hh_ (And.intro cd1 cd2); have CA := hh_ ca; have CN := hh_ hN; have SD := hh_ hsd; obtain ⟨Q, hQ⟩ : ∃ Q, yF d = Q := ⟨_, rfl⟩
  rw [hQ]; have HQ := hh_ hQ; clear hts hp hds hms hlt hl hc hd hm ha hlen hCE hCE2 cc cd1 cd2 ca hB hN hsd hQ; go_enter Tryz.func9, Tryz.ntmps9; go_upto_region 1 with fail
  refine zd (fun X => zc X w.heap.size 31 #[.int .i64 p.k, .int .i64 p.n, .int .i64 p.x.kind, .int .i64 p.x.v.k, .int .i64 p.x.v.n, .string p.x.v.s, .int .i64 p.x.col, .slice p.x.A p.x.n p.x.cap, .slice p.xs.A p.xs.l.length p.xs.c, .slice p.ag.A p.ag.l.length p.ag.c, .slice p.A p.m p.cap] /\ za w X) ⟨zc.new _ _ _, (za.refl w).al _⟩ ?_; rintro X ⟨BX0, G⟩; have BX := hh_ BX0; obtain ⟨bx, fx⟩ := BX0.rules; have lx := BX0.lt; clear BX0; generalize w.heap.size = gx at *; go_upto_region 2 with (go_at_call 15; ((refine (CC.out _ G).mono ?_); rintro en w3 ⟨B3, n3, rfl, hi3, hn3, hg3⟩)); clear hi3 hn3 bx fx lx; have G3 := G.trans hg3; go_upto_region 5 with fail
  refine zd (fun Y => zc Y w3.heap.size 32 #[.slice Ad ds.length nd, .slice Am ms.length nm] /\ za w3 Y) ⟨zc.new _ _ _, (za.refl w3).al _⟩ ?_; rintro Y ⟨BY0, GY⟩; have BY := hh_ BY0; have G4 := G3.trans GY; have BXY := hh_ (BX.out.grow (hg3.trans GY)); clear BY0; generalize w3.heap.size = gy at *; go_wp2
  go_loopw [33] (fun i wr => ∃ k : Nat, k <= 2 /\ i = .int .i64 k /\ za Y wr) (fun i _ => 2 - (intOf i).toNat)
  case atStart => exact ⟨0, by omega, rfl, za.refl _⟩
  case round =>
    rename World => wr
    obtain ⟨k, hk, rfl, hg⟩ := hrel; obtain ⟨b0, f0⟩ := (BY.out.grow hg).rules; rcases (by omega : k = 0 \/ k = 1 \/ k = 2) with rfl | rfl | rfl
    · go_wp2_with (go_at_call 16; ((with_reducible refine (CD.out.1 _ (G4.trans hg)).mono ?_); rintro en w4 ⟨rfl, hg4⟩))
      go_roundw
      case rel => exact ⟨1, by omega, by go_num, hg.trans hg4⟩
      case measure => simp [intOf]
    · go_wp2_with (go_at_call 16; ((with_reducible refine (CD.out.2 _ (G4.trans hg)).mono ?_); rintro en w4 ⟨rfl, hg4⟩))
      go_roundw
      case rel => exact ⟨2, by omega, by go_num, hg.trans hg4⟩
      case measure => simp [intOf]
    · clear b0 f0
      have G5 := G4.trans hg; go_upto_region 14 with (go_at_call 18; ((with_reducible refine (CA.out _ G5).mono ?_); rintro en w5 ⟨B5, n5, c5, rfl, hg5⟩)); have G6 := G5.trans hg5; have cn := CN.out w5.heap.size gx 0 (w5.alloc (.cells #[.slice At ts.length nt, .slice Ad ds.length nd, .slice Am ms.length nm] 66)) (HT.out.2.1.grow (G6.al _)) (HB.out _ _ (BXY.out.grow ((hg.trans hg5).al _))) ⟨zc.new _ _ _, HT.out.1.grow (G6.al _), HT.out.2.2.1.grow (G6.al _), HT.out.2.2.2.grow (G6.al _)⟩; unfold S3 at cn; have CN2 := hh_ cn; clear cn; go_upto_region 15 with (go_at_call 19; ((with_reducible refine CN2.out.mono ?_); rintro en w6 ⟨B, ys, c6, B2, ys2, c2, rfl, h1, h2, hg6⟩; have O2 := hh_ h2; clear h1 h2)); have cs := Qj ys2 B2 c2 w6 (by have h1 := congrArg List.length O2.out.2.1; have h2 := SD.out.1; simp at h1; omega) O2.out.1 (fun y hy => by have h1 := (SD.out.2.1 (zp y) oq_).1; have e : (zp y).1 = y.row := rfl; rw [e] at h1; omega) (fun y hy => (SD.out.2.1 (zp y) oq_).2) (fun y hy => by have h1 := SD.out.2.2 (zp y) oq_; have e : (zp y).2 = y.w := rfl; rw [e] at h1; omega); rw [O2.out.2.1, HQ.out] at cs; unfold yK at cs; have CS := hh_ cs; clear cs
      go_wp2_with (go_at_call 20; ((with_reducible refine CS.out.mono ?_); rintro en w7 ⟨C, zs, cap7, rfl, hz7, hm7, hk7, hg7⟩; have Out := hh_ (And.intro hz7 (And.intro hm7 hk7)); clear hz7 hm7 hk7))
      refine qX_ (by simp [results, Tryz.results9, go_sem] <;> rfl) rfl ?_; exact ⟨C, zs, cap7, rfl, Out.out.1, Out.out.2.1, Out.out.2.2, G6.trans (((za.refl _).al _).trans (hg6.trans hg7))⟩
