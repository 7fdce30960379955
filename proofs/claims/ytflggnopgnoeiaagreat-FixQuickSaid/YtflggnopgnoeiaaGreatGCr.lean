/- Parts of a proof. No condition. -/
import Derived.Test.YtflggnopgnoeiaaGreatGWa
set_option maxRecDepth 100000
set_option linter.unusedSimpArgs false
set_option linter.unusedVariables false
namespace Go
variable {p : Prop}
theorem v7_ (h : p := by rintro ⟨_, _, _, e⟩; cases e) : p := h
theorem yC_ (h : p := by
 subst hij; rw [hs] at hv; simpa [σ, Go.Calm.Spec.holds] using hv) : p := h
end Go
namespace Go.CalmR
open Go.RowKit
open Go.Calm (qG yX Wo Zm ZQ jS Yd qK Yj YU YV Yi W9 jv Wb Yu Z9 Tx za0 zaF Ug Xa NY YB Jf KF Jg Sep jJ jA)
structure IsR (R : World -> World -> Prop) : Prop where
 refl : ∀ w, R w w
 trans : ∀ {a b c}, R a b -> R b c -> R a c
 drew : ∀ w, R w w.drew
 size : ∀ {a b}, R a b -> a.heap.size <= b.heap.size
def xQ (R : World -> World -> Prop) (D : Value -> World -> Prop) : Prop := ∀ v w w', R w w' -> D v w -> D v w'
def xL (R : World -> World -> Prop) : List Go.Calm.Spec -> Prop
 | [] => True
 | .inl _ :: ss => xL R ss
 | .inr D :: ss => xQ R D /\ xL R ss
theorem xL.of_mem {R : World -> World -> Prop} : ∀ {ss : List Go.Calm.Spec}, xL R ss -> ∀ s ∈ ss, ∀ D, s = .inr D -> xQ R D
 | .inl _ :: ss, h, s, hs, D, e => x8_
 | .inr _ :: ss, h, s, hs, D, e => xP_
section
variable {P : Program} {ops : Array Oper} {md : Region.Mode} {R : World -> World -> Prop}
def Xy (R : World -> World -> Prop) (P : Program) (ops : Array Oper) (o : Oper) (s : Go.Calm.Spec) (a : Act) (w : World) : Prop :=
 if Region.wanted o (yielded ops a.tmps) then yX P o a w (fun v w' => R w w' /\ s.holds v w') else s.holds undef w
def zG (R : World -> World -> Prop) (P : Program) (ops : Array Oper) (w0 : World) (Q : Act -> World -> Prop) : List Go.Calm.Spec -> List Oper -> Act -> List (Option Tmp × (World -> Prop)) -> List Value -> Prop
 | _, [], a, F, G => ∀ w, R w0 w -> (∀ p ∈ F, p.2 w) -> G.Pairwise (· ≠ ·) -> Q a w
 | [], _ :: _, _, _, _ => False
 | .inl c :: ss, o :: os, a, F, G => (∀ w, R w0 w -> (∀ p ∈ F, (∃ t, p.1 = some t /\ t ∈ o.looksAt ops) -> p.2 w) -> Xy R P ops o (.inl c) a w) /\ zG R P ops w0 Q ss os (a.put o.dst c) F G
 | .inr D :: ss, o :: os, a, F, G => (∀ w, R w0 w -> (∀ p ∈ F, (∃ t, p.1 = some t /\ t ∈ o.looksAt ops) -> p.2 w) -> Xy R P ops o (.inr D) a w) /\ ∀ v, zG R P ops w0 Q ss os (a.put o.dst v) ((o.dst, D v) :: F) (Yd o v G)
variable {a0 : Act}
structure Jj (R : World -> World -> Prop) (P : Program) (ops : Array Oper) (w0 : World) (a0 : Act) (n : Nat) (sp : Nat -> Go.Calm.Spec) (Q : Act -> World -> Prop) : Prop where
 op : ∀ ρ : Nat -> Value, (∀ i c, i < n -> sp i = .inl c -> ρ i = c) -> ∀ j o, j < n -> ops[j]? = some o -> ∀ w, R w0 w ->
  (∀ i D t, i < j -> sp i = .inr D -> (ops[i]?).bind (·.dst) = some t -> t ∈ o.looksAt ops -> D (ρ i) w) -> Xy R P ops o (sp j) (qK ops a0 (fun _ => true) ρ j) w
 fin : ∀ ρ : Nat -> Value, (∀ i c, i < n -> sp i = .inl c -> ρ i = c) -> ∀ w, R w0 w -> (∀ i D, i < n -> sp i = .inr D -> D (ρ i) w) -> Sep ops n (fun _ => true) ρ -> Q (qK ops a0 (fun _ => true) ρ n) w
theorem qS {w0 : World} {Q : Act -> World -> Prop} {n : Nat} {sp : Nat -> Go.Calm.Spec} {ρ : Nat -> Value} (hfix : ∀ i c, i < n -> sp i = .inl c -> ρ i = c) :
  ∀ (os : List Oper) (ss : List Go.Calm.Spec) (k : Nat) (F : List (Option Tmp × (World -> Prop))) (G : List Value), k + os.length = n -> (∀ j, j < os.length -> os[j]? = ops[k + j]?) -> (∀ j, j < os.length -> ss[j]? = some (sp (k + j))) ->
   (∀ p ∈ F, ∃ i D, i < k /\ sp i = .inr D /\ p = ((ops[i]?).bind (·.dst), D (ρ i))) ->
   (∀ v ∈ G, ∃ i oi, i < k /\ ops[i]? = some oi /\ jS oi = true /\ v = ρ i) -> (Sep ops n (fun _ => true) ρ -> G.Pairwise (· ≠ ·)) ->
   zG R P ops w0 Q ss os (qK ops a0 (fun _ => true) ρ k) F G ->
   (∀ j o, k <= j -> j < n -> ops[j]? = some o -> ∀ w, R w0 w -> (∀ i D t, i < j -> sp i = .inr D -> (ops[i]?).bind (·.dst) = some t -> t ∈ o.looksAt ops -> D (ρ i) w) -> Xy R P ops o (sp j) (qK ops a0 (fun _ => true) ρ j) w) /\
   (∀ w, R w0 w -> (∀ i D, i < n -> sp i = .inr D -> D (ρ i) w) -> Sep ops n (fun _ => true) ρ -> Q (qK ops a0 (fun _ => true) ρ n) w)
 | [], ss, k, F, G, hn, _, _, hF, hG, hGp, h => wQ_
 | o :: os, ss, k, F, G, hn, hos, hss, hF, hG, hGp, h => by
  have hlen : k < n := by simp only [List.length_cons] at hn; omega
  have h0 : ops[k]? = some o := by simpa using (hos 0 uY_).symm
  have hs0 : ss[0]? = some (sp k) := by simpa using hss 0 uY_
  cases ss with
  | nil => simp at hs0
  | cons s ss =>
   have hs : s = sp k := by simpa using hs0
   have hfr : qK ops a0 (fun _ => true) ρ (k + 1) = (qK ops a0 (fun _ => true) ρ k).put o.dst (ρ k) := by
    conv => lhs; unfold qK
    simp [h0]
   have hos' : ∀ j, j < os.length -> os[j]? = ops[(k + 1) + j]? := fun j hj => yd_
   have hss' : ∀ j, j < os.length -> ss[j]? = some (sp ((k + 1) + j)) := fun j hj => ye_
   have here : ∀ (s' : Go.Calm.Spec), (∀ w, R w0 w -> (∀ p ∈ F, (∃ t, p.1 = some t /\ t ∈ o.looksAt ops) -> p.2 w) -> Xy R P ops o s' (qK ops a0 (fun _ => true) ρ k) w) -> s' = sp k ->
     ∀ w, R w0 w -> (∀ i D t, i < k -> sp i = .inr D -> (ops[i]?).bind (·.dst) = some t -> t ∈ o.looksAt ops -> D (ρ i) w) -> Xy R P ops o (sp k) (qK ops a0 (fun _ => true) ρ k) w := by
    intro s' h1 h2 w hw hD; rw [<- h2]; refine h1 w hw fun p hp ⟨t, ht, hl⟩ => ?_
    obtain ⟨i, D, hi, hsi, rfl⟩ := hF p hp; exact hD i D t hi hsi ht hl
   cases s with
   | inl c =>
    unfold zG at h; obtain ⟨h1, h2⟩ := h; have hc : ρ k = c := hfix k c hlen hs.symm; have h2' : zG R P ops w0 Q ss os (qK ops a0 (fun _ => true) ρ (k + 1)) F G := by rw [hfr, hc]; exact h2
    obtain ⟨g1, g2⟩ := qS hfix os ss (k + 1) F G vu_ hos' hss' (fun p hp => by
     obtain ⟨i, D, hi, r⟩ := hF p hp
     exact ⟨i, D, by omega, r⟩) (fun v hv => by
     obtain ⟨i, oi, hi, r⟩ := hG v hv
     exact ⟨i, oi, by omega, r⟩) hGp h2'
    refine ⟨fun j oj hkj hjn hoj => ?_, g2⟩
    by_cases hjk : j = k
    ·exact wJ_
    ·exact yK_
   | inr D =>
    unfold zG at h; obtain ⟨h1, h2⟩ := h; have h2' : zG R P ops w0 Q ss os (qK ops a0 (fun _ => true) ρ (k + 1)) ((o.dst, D (ρ k)) :: F) (Yd o (ρ k) G) := by rw [hfr]; exact h2 (ρ k)
    obtain ⟨g1, g2⟩ := qS hfix os ss (k + 1) _ (Yd o (ρ k) G) vu_ hos' hss' (fun p hp => by
     rcases List.mem_cons.1 hp with rfl | hp
     ·exact ⟨k, D, by omega, hs.symm, by simp [h0]⟩
     ·obtain ⟨i, D, hi, r⟩ := hF p hp
      exact ⟨i, D, by omega, r⟩) (fun v hv => by
     unfold Yd at hv; split at hv
     ·exact xa_
     ·obtain ⟨i, oi, hi, r⟩ := hG v hv
      exact ⟨i, oi, by omega, r⟩) (fun hsep => by
     unfold Yd; split
     ·exact xb_
     ·exact hGp hsep) h2'
    refine ⟨fun j oj hkj hjn hoj => ?_, g2⟩
    by_cases hjk : j = k
    ·exact wJ_
    ·exact yK_
structure xt (R : World -> World -> Prop) (md : Region.Mode) (ops : Array Oper) (w0 : World) (a0 : Act) (n : Nat) (sp : Nat -> Go.Calm.Spec) (listed : Array Bool) (ρ : Nat -> Value) (a : Act) (w : World) : Prop where
 head : HeadInv md ops n listed
 grow : R w0 w
 fix : ∀ i c, i < n -> sp i = .inl c -> ρ i = c
 free : ∀ i D, i < n -> listed.getD i false = true -> sp i = .inr D -> D (ρ i) w
 act : a = qK ops a0 (fun i => listed.getD i false) ρ n
 alc : ∀ i oi, i < n -> listed.getD i false = true -> ops[i]? = some oi -> jS oi = true -> ∃ g, ρ i = .pointer (some ⟨g, 0, none⟩) /\ g < w.heap.size
 sep : Sep ops n (fun i => listed.getD i false) ρ
theorem Jp (hR : IsR R) {Q' : Exit -> Act -> World -> Prop} {w0 : World} {n : Nat} {sp : Nat -> Go.Calm.Spec} {tl : List Oper}
  (hB : Z9 md ops n = true) (htl : tl = ops.toList.drop n) (hp : ∀ i D, i < n -> sp i = .inr D -> xQ R D)
  (H : Jj R P ops w0 a0 n sp (fun a w => wpList P ops Q' tl a w)) :
  ∀ (m : Nat) (listed : Array Bool) (ρ : Nat -> Value) (a : Act) (w : World), NY (fun i => listed.getD i false) n = m -> xt R md ops w0 a0 n sp listed ρ a w -> wpAny P md ops Q' (m + tl.length) listed a w := by
 simp only [Z9, Bool.and_eq_true, decide_eq_true_eq] at hB; obtain ⟨⟨⟨⟨⟨⟨hsel, hn⟩, hdst⟩, hdep⟩, hback⟩, htail⟩, hseq⟩ := hB; have hlen : tl.length = ops.size - n := by rw [htl]; simp
 have hget : ∀ j, tl[j]? = ops[n + j]? := fun j => by rw [htl]; simp [List.getElem?_drop]
 intro m
 induction m with
 | zero =>
  intro listed ρ a w hm inv; have hall := YB hm
  have hl : listed = Xa n ops.size := wC_
  rw [Nat.zero_add]; refine wpAny_of_seq tl n listed a w hget (by rw [hlen, hl]; exact hseq) ?_
  have hfr : a = qK ops a0 (fun _ => true) ρ n := by
   rw [inv.act]; exact Yi n hall (fun _ _ _ => rfl)
  rw [hfr]; exact H.fin ρ inv.fix w inv.grow (fun i D hi hs => inv.free i D hi (hall i hi) hs) fun i j oi oj hi hj hne _ _ => inv.sep i j oi oj hi hj hne (hall i hi) (hall j hj)
 | succ m ih =>
  intro listed ρ a w hm inv; obtain ⟨i0, hi0, hun0, hmin⟩ := Jf (n := n) (p := fun i => listed.getD i false) uX_; have hun0' : listed.getD i0 true = false := getD_in (by rw [inv.head.size]; omega) hun0
  have hr0 : i0 ∈ Region.ready md ops listed := wm_
  rw [show m + 1 + tl.length = (m + tl.length) + 1 by omega]; refine ⟨fun h => (by rw [h] at hr0; cases hr0), fun j hj => ?_⟩; obtain ⟨hjun, oj, hoj, hall⟩ := mem_ready.1 hj; have hjs : j < ops.size := (Array.getElem?_eq_some_iff.1 hoj).1
  have hjn : j < n := wK_
  have hjf : listed.getD j false = false := getD_both hjun
  -- the frame that stands, and the walk's own
  have hsame : ∀ t, t ∈ oj.looksAt ops -> a.tmps[t]? = (qK ops a0 (fun _ => true) ρ j).tmps[t]? := u4_
  have hst := H.op ρ inv.fix j oj hjn hoj w inv.grow (fun i D t hi hs hd ht => inv.free i D uX_ (by
   have h3 := jv hdep (i := i) (j := j) uX_ hjn uX_ hoj hd ht; rw [if_pos hi] at h3; obtain ⟨oj', hoj', e, he, hb, hon⟩ := Region.waitsFor_spec h3; obtain rfl : oj' = oj := Option.some.inj (hoj'.symm.trans hoj); rw [<- hon]
   exact hall e he hb) hs)
  have hselj : ∀ cs b, oj.op ≠ .select cs b := fun cs b => Region.noSelect_spec hsel j oj cs b hoj
  -- what follows, once it has yielded v in w'
  have next : ∀ v w', R w w' -> (sp j).holds v w' -> (jS oj = true -> v = .pointer (some ⟨w.heap.size, 0, none⟩) /\ w'.heap.size = w.heap.size + 1) -> wpAny P md ops Q' (m + tl.length) (listed.setIfInBounds j true) (a.put oj.dst v) w' := by
   intro v w' hg hv hnew
   let σ : Nat -> Value := fun i => if i = j then v else ρ i
   have hset : (listed.setIfInBounds j true).getD j false = true := yt_
   have hoth : ∀ i, i ≠ j -> (listed.setIfInBounds j true).getD i false = listed.getD i false := fun i hi => getD_set_ne false (Ne.symm hi)
   refine ih (listed.setIfInBounds j true) σ (a.put oj.dst v) w' ?_ ⟨inv.head.set hj hjn, hR.trans inv.grow hg, ?_, ?_, ?_, ?_, ?_⟩
   ·exact xq_
   ·intro i c hi hs
    by_cases hij : i = j
    ·exact yC_
    ·simp only [σ, if_neg hij]; exact inv.fix i c hi hs
   ·intro i D hi hl hs
    by_cases hij : i = j
    ·exact yC_
    ·exact yn_
   ·exact wF_
   ·intro i oi hi hl hoi hal
    by_cases hij : i = j
    ·exact xf_
    ·obtain ⟨g, h1, h2⟩ := inv.alc i oi hi v3_ hoi hal; exact ⟨g, by simp [σ, hij, h1], Nat.lt_of_lt_of_le h2 (hR.size hg)⟩
   ·exact u5_
  unfold wpOp; simp only [hoj]; unfold Xy at hst; rw [Yu hsame]; split
  ·exact xo_
  ·rename_i hw; rw [if_neg hw] at hst; refine next undef w (hR.refl _) hst fun hal => ?_
   exfalso; apply hw; unfold Region.wanted; unfold jS at hal; split at hal
   ·rename_i hg; rw [hg]
   ·cases hal
theorem qT {w0 : World} {Q : Act -> World -> Prop} : ∀ {os : List Oper} {ss : List Go.Calm.Spec} {a : Act} {F : List (Option Tmp × (World -> Prop))} {G : List Value}, zG R P ops w0 Q ss os a F G -> os.length <= ss.length
 | [], _, _, _, _, _ => Nat.zero_le _
 | _ :: _, [], _, _, _, h => h.elim
 | _ :: os, .inl _ :: ss, _, _, _, h => Nat.succ_le_succ (qT (os := os) (ss := ss) h.2)
 | _ :: os, .inr _ :: ss, _, _, _, h => Nat.succ_le_succ (qT (os := os) (ss := ss) (h.2 undef))
theorem qm (hR : IsR R) {w0 w0' : World} {Q : Act -> World -> Prop} (hg : R w0 w0') : ∀ {os : List Oper} {ss : List Go.Calm.Spec} {a : Act} {F : List (Option Tmp × (World -> Prop))} {G : List Value}, zG R P ops w0 Q ss os a F G -> zG R P ops w0' Q ss os a F G
 | [], _, _, _, _, h => by
  unfold zG at h ⊢; exact fun w hw => h w (hR.trans hg hw)
 | _ :: _, [], _, _, _, h => h.elim
 | _ :: os, .inl _ :: ss, _, _, _, h => ⟨fun w hw => h.1 w (hR.trans hg hw), qm hR hg (os := os) (ss := ss) h.2⟩
 | _ :: os, .inr _ :: ss, _, _, _, h => ⟨fun w hw => h.1 w (hR.trans hg hw), fun v => qm hR hg (os := os) (ss := ss) (h.2 v)⟩
theorem wp_region_calm (hR : IsR R) {id : Nat} {Q : Exit -> Act -> World -> Prop} {a : Act} {w : World} {l : List Oper} (n : Nat) {ss : List Go.Calm.Spec} (hm : P.follows .mixedOrders = true) (hB : Z9 .any l.toArray n = true) (hp' : xL R ss)
  (h' : ∀ Q0 : Act -> World -> Prop, (∀ a' w', wpList P l.toArray Q (l.drop n) a' w' -> Q0 a' w') -> zG R P l.toArray w Q0 ss (l.take n) a [] []) : (Code.region id l.toArray true).wp P Q a w := by
 have h := qm hR (w0' := w.drew) (hR.drew w) (h' _ fun _ _ h => h)
 have hn : n <= l.length := yg_
 have hss : n <= ss.length := by
  have := qT h; rw [List.length_take] at this; omega
 have hp := hp'.of_mem; refine wp_region_any hm ?_
 have hsp : ∀ j, j < (l.take n).length -> ss[j]? = some ((fun i => ss.getD i (.inl undef)) (0 + j)) := fun j hj => yM_
 have W : Jj R P l.toArray w.drew a n (fun i => ss.getD i (.inl undef)) (fun a w => wpList P l.toArray Q (l.drop n) a w) := by
  have key : ∀ ρ : Nat -> Value, (∀ i c, i < n -> (fun i => ss.getD i (.inl undef)) i = .inl c -> ρ i = c) -> _ := fun ρ hfix =>
   qS (R := R) (P := P) (ops := l.toArray) (a0 := a) (w0 := w.drew) (Q := fun a w => wpList P l.toArray Q (l.drop n) a w) (n := n) (sp := fun i => ss.getD i (.inl undef)) (ρ := ρ) hfix (l.take n) ss 0 [] [] uN_ (fun j hj => by
    have : j < n := by simp at hj; omega
    simp [this]) hsp (fun p hp => by cases hp) (fun v hv => by cases hv) (fun _ => List.Pairwise.nil) h
  exact ⟨fun ρ hfix j o hj ho w hw hD => (key ρ hfix).1 j o (Nat.zero_le _) hj ho w hw hD, fun ρ hfix w hw hD hsep => (key ρ hfix).2 w hw hD hsep⟩
 have hps : ∀ i D, i < n -> (fun i => ss.getD i (.inl undef)) i = .inr D -> xQ R D := fun i D hi hs => x7_
 have inv0 : xt R .any l.toArray w.drew a n (fun i => ss.getD i (.inl undef)) (Array.replicate l.toArray.size false) (fun i => match ss.getD i (.inl undef) with | .inl c => c | .inr _ => undef) a w.drew := by
  refine ⟨⟨by simp, fun j oj _ hl => vv_, fun t _ ht => getD_in (by simpa using ht) (getD_replicate_false _ _)⟩, hR.refl _, fun i c _ hs => ?_, fun i D _ hl => vv_, ?_, fun i oi _ hl => vv_, fun i j oi oj _ _ _ hl => oA_⟩
  ·exact xm_
  ·exact ww_
 have hu : ∀ k, NY (fun i => (Array.replicate l.toArray.size false).getD i false) k = k := xO_
 have := Jp hR (P := P) (Q' := Q) (tl := l.drop n) hB uY_ hps W n _ _ a w.drew (hu n) inv0
 rwa [show n + (l.drop n).length = l.toArray.size by simp; omega] at this
theorem calm_nil {w0 : World} {Q : Act -> World -> Prop} {a : Act} {F : List (Option Tmp × (World -> Prop))} {G : List Value} (h : ∀ w, R w0 w -> (∀ p ∈ F, p.2 w) -> Q a w) : zG R P ops w0 Q [] [] a F G := fun w h1 h2 _ => h w h1 h2
theorem qd {w0 : World} {Q : Act -> World -> Prop} {ss : List Go.Calm.Spec} {a : Act} {F : List (Option Tmp × (World -> Prop))} {G : List Value} {o : Oper} {os : List Oper} {c : Value}
  (h1 : ∀ w, R w0 w -> (∀ p ∈ F, (∃ t, p.1 = some t /\ t ∈ o.looksAt ops) -> p.2 w) -> ∀ K : Value -> World -> Prop, (∀ w', R w w' -> K c w') ->
   if Region.wanted o (yielded ops a.tmps) then yX P o a w K else undef = c)
  (h2 : ∀ K : Act -> Prop, (∀ a, zG R P ops w0 Q ss os a F G -> K a) -> K (a.put o.dst c)) : zG R P ops w0 Q (.inl c :: ss) (o :: os) a F G :=
 ⟨fun w hw hF => by
  have := h1 w hw hF (fun v w' => R w w' /\ v = c) (fun w' hg => ⟨hg, rfl⟩); unfold Xy
  exact this, h2 _ fun _ h => h⟩
theorem j5 {w0 : World} {Q : Act -> World -> Prop} {ss : List Go.Calm.Spec} {a : Act} {F : List (Option Tmp × (World -> Prop))} {G : List Value} {o : Oper} {os : List Oper} (D : Value -> World -> Prop)
  (h1 : ∀ w, R w0 w -> (∀ p ∈ F, (∃ t, p.1 = some t /\ t ∈ o.looksAt ops) -> p.2 w) -> ∀ K : Value -> World -> Prop, (∀ v w', R w w' -> D v w' -> K v w') ->
   if Region.wanted o (yielded ops a.tmps) then yX P o a w K else D undef w)
  (h2 : ∀ v, ∀ K : Act -> Prop, (∀ a, zG R P ops w0 Q ss os a ((o.dst, D v) :: F) (Yd o v G) -> K a) -> K (a.put o.dst v)) : zG R P ops w0 Q (.inr D :: ss) (o :: os) a F G :=
 ⟨fun w hw hF => by
  have := h1 w hw hF (fun v w' => R w w' /\ D v w') (fun v w' hg hd => ⟨hg, hd⟩); unfold Xy
  exact this, fun v => h2 v _ fun _ h => h⟩
section
variable {w0 : World} {Q : Act -> World -> Prop} {ss : List Go.Calm.Spec} {a : Act} {F : List (Option Tmp × (World -> Prop))} {G : List Value} {o : Oper} {os : List Oper} {c : Value}
theorem calm_p (ho : o.guard = none)
  (h1 : ∀ w, R w0 w -> (∀ p ∈ F, (∃ t, p.1 = some t /\ t ∈ o.looksAt ops) -> p.2 w) -> ∀ K : Value -> World -> Prop, (∀ w', R w w' -> K c w') -> yX P o a w K)
  (h2 : ∀ K : Act -> Prop, (∀ a, zG R P ops w0 Q ss os a F G -> K a) -> K (a.put o.dst c)) : zG R P ops w0 Q (.inl c :: ss) (o :: os) a F G :=
 qd (fun w hw hF K hK => by rw [if_pos (jJ ho _)]; exact h1 w hw hF K hK) h2
theorem zu {j : Nat} {want : Bool} {t : Tmp} (ho : o.guard = some (j, want)) (hj : (ops[j]?).bind (·.dst) = some t) (hb : a.tmps[t]? = some (.bool want))
  (h1 : ∀ w, R w0 w -> (∀ p ∈ F, (∃ t, p.1 = some t /\ t ∈ o.looksAt ops) -> p.2 w) -> ∀ K : Value -> World -> Prop, (∀ w', R w w' -> K c w') -> yX P o a w K)
  (h2 : ∀ K : Act -> Prop, (∀ a, zG R P ops w0 Q ss os a F G -> K a) -> K (a.put o.dst c)) : zG R P ops w0 Q (.inl c :: ss) (o :: os) a F G :=
 qd (fun w hw hF K hK => by rw [if_pos ub_]; exact h1 w hw hF K hK) h2
theorem zw {j : Nat} {b want : Bool} {t : Tmp} (ho : o.guard = some (j, want)) (hj : (ops[j]?).bind (·.dst) = some t) (hb : a.tmps[t]? = some (.bool b)) (hne : (b == want) = false)
  (h2 : ∀ K : Act -> Prop, (∀ a, zG R P ops w0 Q ss os a F G -> K a) -> K (a.put o.dst undef)) : zG R P ops w0 Q (.inl undef :: ss) (o :: os) a F G :=
 qd (fun w hw hF K hK => by rw [if_neg (by rw [jA ho hj hb, hne]; simp)]) h2
theorem calm_fp (D : Value -> World -> Prop) (ho : o.guard = none)
  (h1 : ∀ w, R w0 w -> (∀ p ∈ F, (∃ t, p.1 = some t /\ t ∈ o.looksAt ops) -> p.2 w) -> ∀ K : Value -> World -> Prop, (∀ v w', R w w' -> D v w' -> K v w') -> yX P o a w K)
  (h2 : ∀ v, ∀ K : Act -> Prop, (∀ a, zG R P ops w0 Q ss os a ((o.dst, D v) :: F) (Yd o v G) -> K a) -> K (a.put o.dst v)) : zG R P ops w0 Q (.inr D :: ss) (o :: os) a F G :=
 j5 D (fun w hw hF K hK => by rw [if_pos (jJ ho _)]; exact h1 w hw hF K hK) h2
theorem M5 (D : Value -> World -> Prop) {j : Nat} {want : Bool} {t : Tmp} (ho : o.guard = some (j, want)) (hj : (ops[j]?).bind (·.dst) = some t) (hb : a.tmps[t]? = some (.bool want))
  (h1 : ∀ w, R w0 w -> (∀ p ∈ F, (∃ t, p.1 = some t /\ t ∈ o.looksAt ops) -> p.2 w) -> ∀ K : Value -> World -> Prop, (∀ v w', R w w' -> D v w' -> K v w') -> yX P o a w K)
  (h2 : ∀ v, ∀ K : Act -> Prop, (∀ a, zG R P ops w0 Q ss os a ((o.dst, D v) :: F) (Yd o v G) -> K a) -> K (a.put o.dst v)) : zG R P ops w0 Q (.inr D :: ss) (o :: os) a F G :=
 j5 D (fun w hw hF K hK => by rw [if_pos ub_]; exact h1 w hw hF K hK) h2
end
end
end Go.CalmR
namespace Go.Proofs.YtflggnopgnoeiaaGreat
open Go.RowKit Go.Calm
structure GM (base : Nat) (M : Nat -> Obj -> Obj -> Prop) (w w' : World) : Prop where
 low : Below base w w'
 blk : ∀ g o, w.heap[g]? = some o -> ∃ o', w'.heap[g]? = some o' /\ (o' = o \/ M g o o')
def Abs (M : Nat -> Obj -> Obj -> Prop) : Prop := ∀ g a b c, M g a b -> M g b c -> M g a c
section
variable {base : Nat} {M : Nat -> Obj -> Obj -> Prop} {a b c w w' : World}
theorem GM.refl (w : World) : GM base M w w := ⟨Below.refl _ _, fun g o h => ⟨o, h, .inl rfl⟩⟩
theorem GM.trans (hM : Abs M) (h : GM base M a b) (k : GM base M b c) : GM base M a c := by
 refine ⟨Below.trans h.low k.low, fun g o hg => ?_⟩; obtain ⟨o1, h1, h2⟩ := h.blk g o hg; obtain ⟨o2, h3, h4⟩ := k.blk g o1 h1; refine ⟨o2, h3, ?_⟩; rcases h2 with rfl | h2
 ·exact h4
 ·rcases h4 with rfl | h4
  ·exact .inr h2
  ·exact .inr (hM _ _ _ _ h2 h4)
theorem GM.of (hb : base <= w.heap.size) (hg : za w w') : GM base M w w' := ⟨Below.mono hg.below hb, fun g o h => ⟨o, hg.heap h, .inl rfl⟩⟩
theorem GM.size (h : GM base M w w') : w.heap.size <= w'.heap.size := h.low.size
theorem GM.isR (hM : Abs M) : CalmR.IsR (GM base M) := ⟨GM.refl, GM.trans hM, fun w => ⟨Below.drew (Below.refl _ _), fun g o h => ⟨o, h, .inl rfl⟩⟩, GM.size⟩
theorem GM.grow {w0 : World} (hg : za w0 w) (hb : w0.heap.size <= base) (h : GM base M w w') : za w0 w' := ⟨Below.trans hg.below (Below.mono h.low hb)⟩
theorem GM.keep (h : GM base M w w') {g : Nat} {t : TypeId} {cs : Array Value} (hb : zb w g t cs) (hn : ∀ o o', ¬ M g o o') : zb w' g t cs := by
 obtain ⟨o', h1, h2⟩ := h.blk g _ hb; rcases h2 with rfl | h2
 ·exact h1
 ·exact absurd h2 (hn _ _)
def M1 (b0 : Nat) (fin : Obj) (g : Nat) (_ o' : Obj) : Prop := g = b0 /\ o' = fin
theorem M1.abs (b0 : Nat) (fin : Obj) : Abs (M1 b0 fin) := fun _ _ _ _ _ h => h
theorem GM.other {b0 : Nat} {fin : Obj} (h : GM base (M1 b0 fin) w w') {g : Nat} {t : TypeId} {cs : Array Value} (hb : zb w g t cs) (hn : g ≠ b0) : zb w' g t cs := h.keep hb (fun _ _ hm => hn hm.1)
theorem GM.fin {b0 : Nat} {t : TypeId} {cs : Array Value} (h : GM base (M1 b0 (.cells cs t (0, 0))) w w') (hb : zb w b0 t cs) : zb w' b0 t cs := by
 obtain ⟨o', h1, h2⟩ := h.blk b0 _ hb; rcases h2 with rfl | h2
 ·exact h1
 ·rw [h2.2] at h1; exact h1
theorem GM.or {b0 : Nat} {t : TypeId} {cs ds : Array Value} (h : GM base (M1 b0 (.cells cs t (0, 0))) w w') (hb : zb w b0 t ds) : zb w' b0 t ds \/ zb w' b0 t cs := by
 obtain ⟨o', h1, h2⟩ := h.blk b0 _ hb; rcases h2 with rfl | h2
 ·exact .inl h1
 ·rw [h2.2] at h1; exact .inr h1
theorem GM.put {b0 : Nat} {t : TypeId} {cs : Array Value} (hb : base <= b0) (hs : w'.heap.size = w.heap.size) (hl : Below b0 w w') (ho : ∀ g, g ≠ b0 -> w'.heap[g]? = w.heap[g]?) (hf : zb w' b0 t cs) : GM base (M1 b0 (.cells cs t (0, 0))) w w' := by
 refine ⟨Below.mono hl hb, fun g o h => ?_⟩
 by_cases e : g = b0
 ·subst e; exact ⟨_, hf, .inr ⟨rfl, rfl⟩⟩
 ·exact ⟨o, (ho g e).trans h, .inl rfl⟩
end
theorem Ph {P : Program} {o : Oper} {a : Act} {w : World} {R : Value -> World -> Prop} (s x : Operand) (t : TypeId) (ho : o.op = .call { callee := .builtin .append, args := #[s, x], argTypes := #[t, t] }) (ty : TypeId) (hty : o.type = ty) (v v2 : Value) (hs : a.eval s = v) (hx : a.eval x = v2) (v' : Value) (w' : World) (hr : (Builtin.append_ #[t, t] ty #[v, v2]).run P w = .ok v' w') (hR : R v' w') : yX P o a w R := by
 subst hty; unfold yX execOp; simp only [ho, resolve, invoke, builtin, Sem.run_bind, Sem.run_pure, Result.andThen_ok, List.map_toArray, List.map_cons, List.map_nil, hs, hx, hr, qG]; exact hR
def RO (n : Nat) (f : TypeId -> Value) (_ : Nat) (o o' : Obj) : Prop := ∃ (t : TypeId) (cs ds : List Value), o = .cells cs.toArray t (0, 0) /\ o' = .cells ds.toArray t (0, 0) /\ (∀ u ∈ cs, RQ u) /\ (∀ u ∈ ds, RQ u) /\ ds.length = cs.length /\ (∀ i, i < n -> ds[i]? = cs[i]?) /\ (ds[n]? = cs[n]? \/ ds[n]? = some (f t))
section
variable {n base : Nat} {f : TypeId -> Value} {w w' : World}
theorem RO.abs (n : Nat) (f : TypeId -> Value) : Abs (RO n f) := by
 rintro g a b c ⟨t, cs, ds, rfl, rfl, h1, h2, h3, h4, h5⟩ ⟨t2, cs2, ds2, e1, rfl, k1, k2, k3, k4, k5⟩; simp only [Obj.cells.injEq, List.toArray_inj] at e1; obtain ⟨rfl, rfl, _⟩ : ds = cs2 /\ t = t2 /\ True := ⟨by simpa using e1.1, e1.2.1, trivial⟩
 refine ⟨t, cs, ds2, rfl, rfl, h1, k2, k3.trans h3, fun i hi => (k4 i hi).trans (h4 i hi), ?_⟩; rcases k5 with e | e
 ·rw [e]; exact h5
 ·exact .inr e
theorem j6 {g o : Nat} (h : w'.heap[g]? = w.heap[g]?) : w'.cell? ⟨g, o, none⟩ = w.cell? ⟨g, o, none⟩ := by unfold World.cell?; simp only [h]
theorem GM.stay (h : GM base (RO n f) w w') {g o : Nat} {u : Value} (hc : w.cell? ⟨g, o, none⟩ = some u) (hu : ¬ RQ u) : w'.heap[g]? = w.heap[g]? := by
 have hlt : g < w.heap.size := za.lt hc; have hob : w.heap[g]? = some w.heap[g] := Array.getElem?_eq_getElem hlt; obtain ⟨o', h1, h2⟩ := h.blk g _ hob; rcases h2 with e | ⟨t, cs, ds, e1, _, hs, _⟩
 ·rw [h1, hob, e]
 ·exfalso; have hb : zb w g t cs.toArray := by unfold zb; rw [hob, e1]
  rw [hb.cell] at hc; exact hu (hs u (by rw [List.getElem?_toArray] at hc; exact qZ_ hc))
theorem GM.isl (h : GM base (RO n f) w w') {A : Option Addr} {xs : List Int} (hx : yU w A xs) : yU w' A xs := fun i x hi => by
 obtain ⟨g, o, e, c1⟩ := hx i x hi; exact ⟨g, o, e, (j6 (h.stay c1 v7_)).trans c1⟩
theorem GM.vsl (h : GM base (RO n f) w w') {A : Option Addr} {xs : List V} (hx : xi w A xs) : xi w' A xs := fun i x hi => by
 obtain ⟨g, o, e, c1, c2, c3⟩ := hx i x hi; have k := h.stay c1 v7_; exact ⟨g, o, e, (j6 k).trans c1, (j6 k).trans c2, (j6 k).trans c3⟩
theorem GM.zin (h : GM base (RO n f) w w') {A : Option Addr} {xs : List I} (hx : xe w A xs) : xe w' A xs := fun i x hi => by
 obtain ⟨g, o, e, c1, c2, c3⟩ := hx i x hi; have k := h.stay c2 v7_; exact ⟨g, o, e, (j6 k).trans c1, (j6 k).trans c2, h.vsl c3⟩
def Ce (t : TypeId) (base : Nat) (vs : List Value) (v : Value) (W : World) : Prop := ∃ (g : Nat) (cs : List Value), v = .slice (some ⟨g, 0, none⟩) vs.length cs.length /\ base <= g /\ zb W g t cs.toArray /\ (∀ u ∈ cs, RQ u) /\ vs.length <= cs.length /\ cs.length <= maxLen /\ ∀ i, i < vs.length -> cs[i]? = vs[i]?
theorem Ce.keep {t : TypeId} {vs : List Value} {v : Value} (h : Ce t base vs v w) (hg : GM base (RO n f) w w') (hn : vs.length <= n \/ vs.length = n + 1 /\ vs[n]? = some (f t)) : Ce t base vs v w' := by
 obtain ⟨g, cs, rfl, hb, hB, hs, hl, hm, hc⟩ := h; obtain ⟨o', h1, h2⟩ := hg.blk g _ hB; rcases h2 with rfl | ⟨t2, cs2, ds, e1, rfl, k1, k2, k3, k4, k5⟩
 ·exact ⟨g, cs, rfl, hb, h1, hs, hl, hm, hc⟩
 ·simp only [Obj.cells.injEq, List.toArray_inj] at e1; obtain ⟨rfl, rfl, _⟩ : cs = cs2 /\ t = t2 /\ True := ⟨by simpa using e1.1, e1.2.1, trivial⟩
  refine ⟨g, ds, by rw [k3], hb, h1, k2, by omega, by omega, fun i hi => ?_⟩; rcases hn with hn | ⟨hn, hv⟩
  ·rw [k4 i uX_]; exact hc i hi
  ·rcases Nat.lt_or_ge i n with h | h
   ·rw [k4 i h]; exact hc i hi
   ·obtain rfl : i = n := by omega
    rcases k5 with e | e
    ·rw [e]; exact hc _ hi
    ·rw [e, hv]
theorem GM.one {t : TypeId} {g : Nat} (h : GM base (RO n f) w w') (hb : zb w g t #[f t]) : zb w' g t #[f t] := by
 obtain ⟨o', h1, h2⟩ := h.blk g _ hb; rcases h2 with rfl | ⟨t2, cs2, ds, e1, rfl, k1, k2, k3, k4, k5⟩
 ·exact h1
 ·simp only [Obj.cells.injEq] at e1; obtain ⟨e2, rfl, _⟩ := e1; obtain rfl : cs2 = [f t] := by have := congrArg Array.toList e2; simpa using this.symm
  have hd : ds = [f t] := by
   match ds, k3 with
   | [d], _ =>
    rcases Nat.eq_zero_or_pos n with h0 | h0
    ·subst h0; rcases k5 with e | e <;> simpa using e
    ·have := k4 0 h0; simpa using this
  rw [hd] at h1; exact h1
theorem TZ {t : TypeId} (lo : Nat) (olds news : List Value) (G : Nat) (hge : olds.length + news.length <= G) (hmx : G <= maxLen) (hlo : lo <= w.heap.size) (hs : ∀ u ∈ olds ++ news, RQ u) :
  Ce t lo (olds ++ news) (.slice (some ⟨w.heap.size, 0, none⟩) (olds.length + news.length) G) (w.drew.alloc (.cells (olds.toArray ++ news.toArray ++ Builtin.zeroCells (Value.slice none 0 0).cells (G - (olds.length + news.length))) t)) := by
 refine ⟨w.heap.size, olds ++ news ++ (Builtin.zeroCells (Value.slice none 0 0).cells (G - (olds.length + news.length))).toList, ?_, hlo, ?_, fun u hu => ?_, by simp, ?_, fun i hi => ?_⟩
 ·simp [size_zeroCells, Value.cells]; omega
 ·have h := zb.new w.drew t (olds.toArray ++ news.toArray ++ Builtin.zeroCells (Value.slice none 0 0).cells (G - (olds.length + news.length))); have e : (olds ++ news ++ (Builtin.zeroCells (Value.slice none 0 0).cells (G - (olds.length + news.length))).toList).toArray = olds.toArray ++ news.toArray ++ Builtin.zeroCells (Value.slice none 0 0).cells (G - (olds.length + news.length)) := by simp
  rw [e]; exact h
 ·rcases List.mem_append.1 hu with hu | hu
  ·exact hs u hu
  ·exact Wk _ u hu
 ·simp [size_zeroCells, Value.cells]; omega
 ·rw [List.getElem?_append_left hi]
theorem EN {tr t : TypeId} (hR : Cf tr t) (ty : TypeId) {lo g : Nat} (vs : List Value) (hvs : ∀ u ∈ vs, RQ u) (hl : vs.length <= 1000) {src : Value} (hsrc : (∃ c, src = .slice none 0 c /\ vs = []) \/ ∃ ad c, src = .slice (some ad) vs.length c /\ ∀ j u, vs[j]? = some u -> w.cell? (ad.add j) = some u) (hb : zb w g t #[]) (hg : lo <= g) :
  ∃ v' w', (Builtin.append_ #[tr, tr] ty #[.slice (some ⟨g, 0, none⟩) 0 0, src]).run Tryz.prog w = .ok v' w' /\ Ce t lo vs v' w' /\ za w w' := by
 obtain ⟨ti, hti, hz0, hz1, hz2⟩ := hR.hi; have own : w.ownsRow lo t 1 (.slice (some ⟨g, 0, none⟩) 0 0) 0 [] := ⟨rfl, .inr ⟨g, 0, #[], rfl, hg, hb, Nat.le_refl _, by unfold maxLen; omega, rfl, rfl⟩⟩
 have lg := hb.lt; rcases hsrc with ⟨c, rfl, rfl⟩ | ⟨ad, c, rfl, hc⟩
 ·exact ⟨_, _, kT (P := Tryz.prog) (w := w) lo tr ty t ti 1 hR.hu hti _ 0 [] own c, ⟨g, [], rfl, hg, hb, fun u h => by simp at h, Nat.le_refl _, by simp, fun i hi => by simp at hi⟩, za.refl _⟩
 ·by_cases h0 : vs.length = 0
  ·obtain rfl := List.length_eq_zero_iff.1 h0; have hr := run_append_room (P := Tryz.prog) w tr ty t ti hR.hu hti g 0 0 #[] hb ad 0 c [] uY_ (fun j u h => by simp at h) (fun u h => by simp at h) (Nat.le_refl _) uY_; obtain ⟨v', w', hr', own', gr, _⟩ := run_append_own (P := Tryz.prog) w lo tr ty t ti (.slice none 0 0) 1 24 hR.hu hti hz0 hz1 hz2 rfl uW_ _ 0 [] own ad 0 c [] uY_ (fun j u h => by simp at h) (fun u h => by simp at h) uh_ uX_ uX_; have e2 := hr'.symm.trans hr; simp only [Result.ok.injEq] at e2; obtain ⟨rfl, rfl⟩ := e2
   have h3 : (w.setRow g (#[].toList.take (0 * ti.size) ++ [] ++ #[].toList.drop (0 * ti.size + ([] : List Value).length)).toArray).heap[g]? = some (.cells #[] t (0, 0)) := by
    have := setRow_heap w g #[] (#[].toList.take (0 * ti.size) ++ [] ++ #[].toList.drop (0 * ti.size + ([] : List Value).length)).toArray t _ hb; simpa using this
   refine ⟨_, _, hr, ⟨g, [], rfl, hg, h3, fun u h => by simp at h, Nat.le_refl _, by simp, fun i hi => by simp at hi⟩, ⟨⟨gr.os, gr.tape, gr.output, gr.size, fun i hi => ?_⟩⟩⟩
   by_cases hig : i = g
   ·subst hig; have hb' : w.heap[i]? = _ := hb; rw [hb']; exact h3
   ·exact gr.block i hi (by simp [Value.ownBlock]; exact hig)
  ·have hr := run_append_grow (P := Tryz.prog) w tr ty t ti _ hR.hu hti hz0 ⟨g, 0, none⟩ 0 0 [] uY_ (fun j u h => by simp at h) ad vs.length c vs (by rw [hz1]; simp) hc uX_ uX_ (growslice_fits uX_ ut_); have hge := grownCap_ge w (0 + vs.length) 0 t; have hmx := grownCap_le_maxLen w (0 + vs.length) 0 t uh_; obtain ⟨G, hG⟩ : ∃ G, grownCap w (0 + vs.length) 0 t = G := ⟨_, rfl⟩
   rw [hG] at hr hge hmx; exact ⟨_, _, hr, TZ (t := t) lo [] vs G (by simpa using hge) hmx (by have := hb.lt; omega) (by simpa using hvs), za.al (za.drew (za.refl w)) _⟩
theorem EP {tr t : TypeId} (hR : Cf tr t) (ty : TypeId) {vs : List Value} {v : Value} (hp : Ce t base vs v w) (hn : vs.length = n) (hn2 : n <= 1000) (hvs : ∀ u ∈ vs, RQ u) (hy : RQ (f t)) {g1 : Nat} (hb : zb w g1 t #[f t]) (hbase : base <= w.heap.size) :
  ∃ v' w', (Builtin.append_ #[tr, tr] ty #[v, .slice (some ⟨g1, 0, none⟩) 1 1]).run Tryz.prog w = .ok v' w' /\ Ce t base (vs ++ [f t]) v' w' /\ GM base (RO n f) w w' := by
 obtain ⟨ti, hti, hz0, hz1, hz2⟩ := hR.hi
 have hone : ∀ u ∈ [f t], u.oneCell' = true := fun u hu => by
  obtain ⟨a, l, c, e⟩ := hy; simp at hu; subst hu; rw [e]; rfl
 have hnews : ∀ (j : Nat) u, [f t][j]? = some u -> w.cell? ((⟨g1, 0, none⟩ : Addr).add j) = some u := fun j u hj => by
  match j, hj with
  | 0, hj => simp at hj; subst hj; rw [zQ]; exact hb.cells rfl
 obtain ⟨g, cs, rfl, hlo, hB, hs, hl, hm, hc⟩ := hp
 have htk : cs.take vs.length = vs := by
  apply List.ext_getElem?; intro i; rw [List.getElem?_take]; split
  ·rename_i h; exact hc i h
  ·rename_i h; exact (List.getElem?_eq_none uX_).symm
 have own : w.ownsRow base t 1 (.slice (some ⟨g, 0, none⟩) vs.length cs.length) vs.length vs := ⟨by simp, .inr ⟨g, cs.length, cs.toArray, rfl, hlo, hB, hl, hm, by simp, by simpa using htk⟩⟩
 obtain ⟨v', w', hr', own', gr, _⟩ := run_append_own (P := Tryz.prog) w base tr ty t ti (.slice none 0 0) 1 24 hR.hu hti hz0 hz1 hz2 rfl uW_ _ vs.length vs own ⟨g1, 0, none⟩ 1 1 [f t] rfl hnews hone uh_ uX_ hbase
 by_cases hroom : vs.length + 1 <= cs.length
 ·have hr := run_append_room (P := Tryz.prog) w tr ty t ti hR.hu hti g vs.length cs.length cs.toArray hB ⟨g1, 0, none⟩ 1 1 [f t] uJ_ hnews hone hroom (by rw [hz1]; simp; omega); have e2 := hr'.symm.trans hr; simp only [Result.ok.injEq] at e2; obtain ⟨rfl, rfl⟩ := e2; rw [hz1] at *; have h3 := setRow_heap w g cs.toArray (cs.toArray.toList.take (vs.length * 1) ++ [f t] ++ cs.toArray.toList.drop (vs.length * 1 + [f t].length)).toArray t _ hB; simp only [List.toList_toArray, Nat.mul_one, List.length_singleton] at h3 hr gr; obtain ⟨ds, hds⟩ : ∃ ds, cs.take vs.length ++ [f t] ++ cs.drop (vs.length + 1) = ds := ⟨_, rfl⟩
  have dl : ds.length = cs.length := by rw [<- hds]; simp; omega
  have d1 : ∀ i, i < vs.length -> ds[i]? = cs[i]? := fun i hi => by
   rw [<- hds, List.append_assoc, List.getElem?_append_left uN_, List.getElem?_take, if_pos hi]
  have d2 : ds[vs.length]? = some (f t) := by
   rw [<- hds, List.append_assoc, List.getElem?_append_right uN_, List.length_take, Nat.min_eq_left hl, Nat.sub_self]; rfl
  have d3 : ∀ u ∈ ds, RQ u := fun u hu => by
   rw [<- hds] at hu; rcases List.mem_append.1 hu with hu | hu
   ·rcases List.mem_append.1 hu with hu | hu
    ·exact hs u (List.mem_of_mem_take hu)
    ·simp at hu; subst hu; exact hy
   ·exact hs u (List.mem_of_mem_drop hu)
  rw [hds] at h3 hr gr; refine ⟨_, _, hr, ⟨g, ds, by simp [dl], hlo, h3, d3, by simp; omega, by omega, fun i hi => ?_⟩, ⟨⟨gr.os, gr.tape, gr.output, gr.size, fun k hk => gr.block k uX_ (by simp [Value.ownBlock]; omega)⟩, fun k o h => ?_⟩⟩
  ·simp at hi; rcases Nat.lt_or_ge i vs.length with h | h
   ·rw [d1 i h, hc i h, List.getElem?_append_left h]
   ·obtain rfl : i = vs.length := by omega
    rw [d2]; simp
  ·by_cases hk : k = g
   ·subst hk; have hB' : w.heap[k]? = _ := hB; rw [hB'] at h; cases h; exact ⟨_, h3, .inr ⟨t, cs, ds, rfl, rfl, hs, d3, dl, fun i hi => d1 i uX_, .inr (by rw [<- hn]; exact d2)⟩⟩
   ·have hlt : k < w.heap.size := (Array.getElem?_eq_some_iff.1 h).1; exact ⟨o, (gr.block k hlt (by simp [Value.ownBlock]; exact hk)).trans h, .inl rfl⟩
 ·have hr := run_append_grow (P := Tryz.prog) w tr ty t ti _ hR.hu hti hz0 ⟨g, 0, none⟩ vs.length cs.length vs (by rw [hz1]; simp) (own.cells (g := g) rfl) ⟨g1, 0, none⟩ 1 1 [f t] uJ_ hnews uX_ uX_ (growslice_fits uX_ ut_); have hge := grownCap_ge w (vs.length + 1) cs.length t; have hmx := grownCap_le_maxLen w (vs.length + 1) cs.length t uh_; obtain ⟨G, hG⟩ : ∃ G, grownCap w (vs.length + 1) cs.length t = G := ⟨_, rfl⟩
  rw [hG] at hr hge hmx
  have h := TZ (w := w) (t := t) base vs [f t] G (by simpa using hge) hmx hbase (fun u hu => by
   rcases List.mem_append.1 hu with hu | hu
   ·exact hvs u hu
   ·simp at hu; subst hu; exact hy)
  exact ⟨_, _, hr, h, GM.of hbase (za.al (za.drew (za.refl w)) _)⟩
end
