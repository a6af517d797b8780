/- The abstract machine's drawn regions, part 6: the model's steps within a drawn region. -/
import Derived.Test.YtoipnedbpjfeiaaDoorAmDraw5
set_option linter.all false
set_option linter.unusedSectionVars false
set_option linter.unusedSimpArgs false
set_option linter.unusedVariables false
namespace Go.AM
variable [Orc] [OrcOk]
theorem eqCap_eq {a b : Cap} (h : eqCap a b = true) : a = b := by
  cases a <;> cases b <;> simp [eqCap] at h <;> rw [h]
theorem zip_eq {f : AVal → AVal → Bool} (hf : ∀ x y, f x y = true → x = y) : ∀ (a b : List AVal), a.length = b.length → ((a.zip b).all fun x => f x.1 x.2) = true → a = b
  | [], [], _, _ => rfl
  | [], _ :: _, h, _ => by simp at h
  | _ :: _, [], h, _ => by simp at h
  | x :: a, y :: b, h, e => by
    simp only [List.zip_cons_cons, List.all_cons, Bool.and_eq_true] at e
    rw [hf x y e.1, zip_eq hf a b (by simpa using h) e.2]
theorem eqVal_eq : ∀ (d : Nat) (a b : AVal), eqVal d a b = true → a = b
  | 0, a, b, h => by simp [eqVal] at h
  | d + 1, a, b, h => by
    cases a <;> cases b <;> simp only [eqVal, Bool.and_eq_true, beq_iff_eq, Bool.false_eq_true] at h <;> first
      | rfl
      | (rw [h])
      | (rw [h.1, h.2])
      | (rw [Pos.toNat_inj h])
      | (rw [Pos.toNat_inj h.1, h.2])
      | (rw [Pos.toNat_inj h.1.1.1, h.1.1.2, h.1.2, eqCap_eq h.2])
      | (rw [zip_eq (eqVal_eq d) _ _ h.1 h.2])
      | (rw [h.1.1.1.1, zip_eq (eqVal_eq d) _ _ h.1.1.1.2 h.1.2, zip_eq (eqVal_eq d) _ _ h.1.1.2 h.2])
      | (cases h)
section
variable {P : Program} {rec : RecT} {ops : Array Oper} {masks : List Nat} {tree : PT AVal} {fi : FI} {k : PT AVal → St → Bool} {a0 : Act} {ι0 : Ren} {w0 : World}
  {pre : List Nat} {vals : Nat → AVal} {nm : Nat → Option Pos} {T : St} {L : Nat → Prop} {ι : Ren} {a : Act} {w : World} {pl : List PItem} {done : Nat} {F : Fence} {m : Nat} {Q : Exit → Act → World → Prop} {i : Nat}
theorem opAt_get (h : i < ops.size) : ops[i]? = some (opAt ops i) := by
  unfold opAt
  simp [h]
theorem Inv.real (h : Inv P rec ops masks tree fi k a0 ι0 w0 pre vals nm T L ι a w pl done) (ht : TmpsOk ops masks) (h0 : ∀ t v, PT.get (posOf t) tree = some v → ∃ u, a0.tmps[t]? = some u ∧ VRel ι0 v u) (hi : i < ops.size) (hL : ¬ L i)
    (hanc : ∀ j, Anc masks i j → L j) (x : Operand) : ORl ι (rho ops masks tree vals i x) (a.eval x) :=
  look_real ht hi hL (fun j hj => h.lt j (h.sub j hj)) hanc h.lanc h.t1 h.t2 (fun t v e => let ⟨u, h1, h2⟩ := h0 t v e; ⟨u, h1, h2.mono h.ext.le⟩) x
/-- The model has run what the plan had run. -/
theorem Inv.ran (h : Inv P rec ops masks tree fi k a0 ι0 w0 pre vals nm T L ι a w pl done) (ht : TmpsOk ops masks) (hds : ∀ d, dstAt ops i = some d → d < a0.tmps.size) (hi : i ∈ pre) (hL : ¬ L i) (hanc : ∀ j, Anc masks i j → L j)
    {ι' : Ren} {u : Value} {w' : World} (hw : WRel P ι' T w') (he : Ext ι w ι' w') (hv : VRel ι' (vals i) u) (hnames : ∀ j ∈ pre, ¬ L j → j ≠ i → ∀ q, nm j = some q → ι' q = none) :
    Inv P rec ops masks tree fi k a0 ι0 w0 pre vals nm T (fun j => L j ∨ j = i) ι' (a.put (dstAt ops i) u) w' pl done := by
  refine ⟨hw, h.ext.trans he, (put_defers a _ u).trans h.defs, (put_size a _ u).trans h.size, ?_, h.lt, h.anc, ?_, ?_, ?_, ?_, ?_, ?_, ?_, h.nmk, h.bits, h.plan, h.cont⟩
  · rintro j (hj | rfl)
    · exact h.sub j hj
    · exact hi
  · rintro j (hj | rfl) x hx
    · exact .inl (h.lanc j hj x hx)
    · exact .inl (hanc x hx)
  · rintro j (hj | rfl) d hd
    · obtain ⟨u', h1, h2⟩ := h.t1 j hj d hd
      refine ⟨u', ?_, h2.mono he.le⟩
      rw [put_other]
      · exact h1
      · intro e
        have := ht.one i j d (h.lt i hi) (h.lt j (h.sub j hj)) e hd
        exact hL (this ▸ hj)
    · rw [hd]
      exact ⟨u, put_same (by rw [h.size]; exact hds d hd), hv⟩
  · intro t hno
    rw [put_other (hno i (.inr rfl))]
    exact h.t2 t fun j hj => hno j (.inl hj)
  · intro j hj hc
    exact .inl (h.effs j hj hc)
  · intro j hj hLj
    exact h.prom j hj fun e => hLj (.inl e)
  · intro j hj hLj q e
    exact ⟨hnames j hj (fun e => hLj (.inl e)) (fun e => hLj (.inr e)) q e, (h.names j hj (fun e => hLj (.inl e)) q e).2⟩
  · intro j hj x hx hLj hLx
    exact h.apart j hj x hx (fun e => hLj (.inl e)) (fun e => hLx (.inl e))
theorem step_calm (hs : Sound P rec) (hF : ∀ f, F.fn f) (hd : F.depth = none) (h : Inv P rec ops masks tree fi k a0 ι0 w0 pre vals nm T L ι a w pl done) (ht : TmpsOk ops masks) (hds : ∀ d, dstAt ops i = some d → d < a0.tmps.size)
    (h0 : ∀ t v, PT.get (posOf t) tree = some v → ∃ u, a0.tmps[t]? = some u ∧ VRel ι0 v u) (hi : i ∈ pre) (hL : ¬ L i) (hanc : ∀ j, Anc masks i j → L j) (hc : cls P ops i ≤ 1) {K : Act → World → Prop}
    (hK : ∀ ι' a' w', Inv P rec ops masks tree fi k a0 ι0 w0 pre vals nm T (fun j => L j ∨ j = i) ι' a' w' pl done → K a' w') : wpOpIn F m P ops Q i K a w := by
  have hlt := h.lt i hi
  have hreal := h.real ht h0 hlt hL hanc
  have hp : CalmProm P rec ops masks tree vals i T := by
    rcases h.prom i hi hL with ⟨_, hp⟩ | ⟨hc2, _⟩
    · exact hp
    · omega
  unfold wpOpIn
  rw [opAt_get hlt]
  show if Region.wanted (opAt ops i) (yielded ops a.tmps) = true then _ else _
  have hno : ∀ j ∈ pre, ¬ L j → j ≠ i → ∀ q, nm j = some q → ι q = none := fun j hj hLj _ q e => (h.names j hj hLj q e).1
  rcases guardK_true hp hreal with ⟨hw, h1⟩ | ⟨hw, h1⟩
  · rw [if_pos hw]
    have h2 : opK P rec (opAt ops i).op (rho ops masks tree vals i) (T.known ι) (fun v s => hold (v = vals i ∧ s = T.known ι)) = true := by
      rcases Nat.lt_or_ge (cls P ops i) 1 with hc0 | hc1
      · have hc0 : opClass P (opAt ops i).op = 0 := Nat.lt_one_iff.1 hc0
        rw [opK_calm hc0 (T.known ι) T]
        rw [opK_calm hc0 T T] at h1
        have : (fun v (_ : St) => hold (v = vals i ∧ T = T)) = (fun v (_ : St) => hold (v = vals i ∧ T.known ι = T.known ι)) := by
          funext v _
          simp [hold]
        rw [← this]
        exact h1
      · obtain ⟨t, x, hx⟩ := opClass_load (P := P) (o := (opAt ops i).op) (Nat.le_antisymm hc hc1)
        rw [hx] at h1 ⊢
        refine opLoad_move (K := fun v s => hold (v = vals i ∧ s = T)) (K' := fun v s => hold (v = vals i ∧ s = T.known ι)) (show opLoad P t (rho ops masks tree vals i x) T (fun v s => hold (v = vals i ∧ s = T)) = true from h1) (fun b off e => ?_) (fun v hv => hold_true.2 ⟨(hold_true.1 hv).1, rfl⟩)
        have hrel := hreal x _ e
        generalize a.eval x = gx at hrel
        cases hrel with
        | ptr hb => exact St.known_get (by simp [hb])
    refine opK_wpIn hs h2 hF hd h.wr.known hreal fun v w' ι' s' av he hw' hv hk => ?_
    obtain ⟨rfl, rfl⟩ := hold_true.1 hk
    have hι : ι' = ι := WRel.same_names he.le hw'
    subst hι
    exact hK _ _ _ (h.ran ht hds hi hL hanc (h.wr.unknown hw') he hv hno)
  · rw [if_neg (by rw [hw]; simp)]
    refine ⟨fun f _ => hF f, hK ι _ _ (h.ran ht hds hi hL hanc h.wr (Ext.refl ι w) ?_ hno)⟩
    rw [hold_true.1 h1]
    exact .tup .nil
theorem step_make (hF : ∀ f, F.fn f) (h : Inv P rec ops masks tree fi k a0 ι0 w0 pre vals nm T L ι a w pl done) (ht : TmpsOk ops masks) (hds : ∀ d, dstAt ops i = some d → d < a0.tmps.size)
    (h0 : ∀ t v, PT.get (posOf t) tree = some v → ∃ u, a0.tmps[t]? = some u ∧ VRel ι0 v u) (hi : i ∈ pre) (hL : ¬ L i) (hanc : ∀ j, Anc masks i j → L j) (hc : cls P ops i = 2) {K : Act → World → Prop}
    (hK : ∀ ι' a' w', Inv P rec ops masks tree fi k a0 ι0 w0 pre vals nm T (fun j => L j ∨ j = i) ι' a' w' pl done → K a' w') : wpOpIn F m P ops Q i K a w := by
  have hlt := h.lt i hi
  have hreal := h.real ht h0 hlt hL hanc
  have hp : MakeProm P ops masks tree vals nm i T := by
    rcases h.prom i hi hL with ⟨hc2, _⟩ | ⟨_, hp⟩
    · omega
    · exact hp
  unfold wpOpIn
  rw [opAt_get hlt]
  show if Region.wanted (opAt ops i) (yielded ops a.tmps) = true then _ else _
  rcases guardK_true hp hreal with ⟨hw, h1⟩ | ⟨hw, h1⟩
  · rw [if_pos hw]
    obtain ⟨x, v, q, e1, e2, e3, e4⟩ := hold_true.1 h1
    obtain ⟨obj, u, sz, hrun, hlay⟩ := e4 ι a.eval hreal w
    have hrun : (execOp a.eval (opAt ops i)).run P w = .ok (.value u) { w with heap := w.heap.push obj } := hrun
    obtain ⟨hqn, hqlt⟩ := h.names i hi hL q e1
    obtain ⟨hv, hx⟩ := hlay (Ren.set ι q ⟨w.heap.size, 0, sz, false⟩) q (Ren.le_set hqn) (Ren.set_same _ _ _)
    obtain ⟨hw', he'⟩ := h.wr.adopt e3 hqn hqlt hx
    have hnd : ∀ c, (opAt ops i).op ≠ .defer c := fun c e => by
      have : opClass P (opAt ops i).op = 2 := hc
      rw [e] at this
      simp [opClass] at this
    refine ⟨fun f _ => hF f, ?_⟩
    rw [Oper.semAt_eq _ _ _ hnd, hrun]
    show K _ _
    refine hK _ _ _ (h.ran ht hds hi hL hanc hw' he' (e2 ▸ hv) fun j hj hLj hji q' e => ?_)
    have hne : q' ≠ q := fun e' => h.apart j hj i hi hLj hL hji q' e (e' ▸ e1)
    rw [Ren.set_ne hne]
    exact (h.names j hj hLj q' e).1
  · rw [if_neg (by rw [hw]; simp)]
    refine ⟨fun f _ => hF f, hK ι _ _ (h.ran ht hds hi hL hanc h.wr (Ext.refl ι w) ?_ fun j hj hLj _ q e => (h.names j hj hLj q e).1)⟩
    rw [hold_true.1 h1]
    exact .tup .nil
/-- The loads are looked at again. -/
theorem chks (ht : TmpsOk ops masks) (hlt : ∀ j ∈ pre, j < ops.size) (hanc : ∀ i ∈ pre, ∀ j, Anc masks i j → j ∈ pre) {R : List DItem} : ∀ (cs : List Nat), (∀ j ∈ cs, j ∈ pre ∧ cls P ops j ≤ 1 ∧ (dstAt ops j).isSome = true ∧ ∀ x ∈ pre, Anc masks j x ∨ ∀ d, dstAt ops x = some d → d ∉ readsAt ops j) →
    itemsK P rec fi ops (cs.map (fun j => .chk (opAt ops j)) ++ R) (pre.map (dstAt ops)) (pre.map vals) tree T k = true →
    itemsK P rec fi ops R (pre.map (dstAt ops)) (pre.map vals) tree T k = true ∧ ∀ j ∈ cs, ∀ T0, CalmProm P rec ops masks tree vals j T0 → CalmProm P rec ops masks tree vals j T
  | [], _, h => ⟨h, fun j hj => by cases hj⟩
  | j :: cs, hcs, h => by
    obtain ⟨hj, hc, hds, hrd⟩ := hcs j (by simp)
    have hlook := fun x hx => look_plan (tree := tree) ht (vals := vals) hlt (hanc j hj) hrd x hx
    have h : guardK ops (opAt ops j) (fun x => getO tree (pre.map vals) (resolveO (pre.map (dstAt ops)) x))
        (opK P rec (opAt ops j).op (fun x => getO tree (pre.map vals) (resolveO (pre.map (dstAt ops)) x)) T fun v _ => optK (opAt ops j).dst fun d => optK (getO tree (pre.map vals) (resolveO (pre.map (dstAt ops)) (.tmp d))) fun u =>
          ifK (eqVal 8 v u) (itemsK P rec fi ops (cs.map (fun j => .chk (opAt ops j)) ++ R) (pre.map (dstAt ops)) (pre.map vals) tree T k) (fail 49))
        (itemsK P rec fi ops (cs.map (fun j => .chk (opAt ops j)) ++ R) (pre.map (dstAt ops)) (pre.map vals) tree T k) = true := h
    rw [guardK_congr (fun t ht => hlook (.tmp t) (fun t' e => by cases e; exact ht)), opK_congr (ρ' := rho ops masks tree vals j) (fun x hx => hlook x (fun t e => opTmps_mem (e ▸ hx)))] at h
    rcases guardK_sel h with ⟨h1, h2⟩ | ⟨h1, h2⟩
    · obtain ⟨v, h3, h4⟩ := calm_to hc h1
      obtain ⟨d, hd, h5⟩ := optK_true.1 h3
      obtain ⟨u, hu, h6⟩ := optK_true.1 h5
      rcases ifK_true.1 h6 with ⟨h7, h8⟩ | ⟨_, h8⟩
      · have hvu := eqVal_eq _ _ _ h7
        subst hvu
        have huv : v = vals j := by
          simp only [resolveO] at hu
          cases hi : idxOf d (pre.map (dstAt ops)) 0 with
          | none => exact absurd hd (idxOf_map_none pre hi j hj)
          | some e =>
            rw [hi] at hu
            obtain ⟨j', g1, g2⟩ := idxOf_map pre hi
            have : j' = j := ht.one j' j d (hlt _ (List.mem_of_getElem? g1)) (hlt j hj) g2 hd
            subst this
            have hu : nthO (pre.map vals) e = some v := hu
            rw [nthO_eq] at hu
            simp [g1] at hu
            exact hu.symm
        subst huv
        obtain ⟨h9, h10⟩ := chks ht hlt hanc cs (fun x hx => hcs x (by simp [hx])) h8
        refine ⟨h9, fun x hx T0 hp => ?_⟩
        rcases List.mem_cons.1 hx with rfl | hx
        · unfold CalmProm
          rw [h2]
          exact h4 T (Grown.refl T) _ (hold_true.2 ⟨rfl, rfl⟩)
        · exact h10 x hx T0 hp
      · cases h8
    · obtain ⟨h9, h10⟩ := chks ht hlt hanc cs (fun x hx => hcs x (by simp [hx])) h1
      refine ⟨h9, fun x hx T0 hp => ?_⟩
      rcases List.mem_cons.1 hx with rfl | hx
      · unfold CalmProm at hp ⊢
        rw [h2] at hp ⊢
        exact hp
      · exact h10 x hx T0 hp
theorem readsOk_some {j : Nat} {dn : Nat} {pr : List Nat} (hb : ∀ x, dn.testBit x = true ↔ x ∈ pr) (hlt : ∀ x ∈ pr, x < ops.size) (h : readsOk ops masks j dn = true) : ∀ x ∈ pr, Anc masks j x ∨ ∀ d, dstAt ops x = some d → d ∉ readsAt ops j := by
  intro x hx
  have := List.all_eq_true.1 h x (by simpa using hlt x hx)
  rw [(hb x).2 hx] at this
  simp only [Bool.not_true, Bool.false_or, Bool.or_eq_true] at this
  rcases this with h5 | h5
  · exact .inl h5
  · refine .inr fun d e => ?_
    rw [show (opAt ops x).dst = some d from e] at h5
    simpa using h5
theorem step_eff (hs : Sound P rec) (hF : ∀ f, F.fn f) (hd : F.depth = none) {cs : List Nat} {r : List PItem} (h : Inv P rec ops masks tree fi k a0 ι0 w0 pre vals nm T L ι a w (.eff i cs :: r) done) (ht : TmpsOk ops masks)
    (hds : ∀ d, dstAt ops i = some d → d < a0.tmps.size) (h0 : ∀ t v, PT.get (posOf t) tree = some v → ∃ u, a0.tmps[t]? = some u ∧ VRel ι0 v u) (hanc : ∀ j, Anc masks i j → L j) {K : Act → World → Prop}
    (hK : ∀ vals' T' ι' a' w', Inv P rec ops masks tree fi k a0 ι0 w0 (i :: pre) vals' nm T' (fun j => L j ∨ j = i) ι' a' w' r (done ||| (1 <<< i)) → K a' w') : wpOpIn F m P ops Q i K a w := by
  have hpl := h.plan
  simp only [planOk, Bool.and_eq_true] at hpl
  obtain ⟨⟨⟨hst, hef⟩, hch⟩, hr⟩ := hpl
  obtain ⟨hlt, hn, ha, hrd⟩ := stepOk_some h.bits h.lt hst
  have hLi : ¬ L i := fun e => hn (h.sub i e)
  have hne : ∀ j ∈ pre, j ≠ i := fun j hj e => hn (e ▸ hj)
  have hreal := h.real ht h0 hlt hLi hanc
  have hlook := fun x hx => look_plan (tree := tree) ht (vals := vals) h.lt ha hrd x hx
  have hk : guardK ops (opAt ops i) (fun x => getO tree (pre.map vals) (resolveO (pre.map (dstAt ops)) x))
      (opK P rec (opAt ops i).op (fun x => getO tree (pre.map vals) (resolveO (pre.map (dstAt ops)) x)) T fun v s =>
        itemsK P rec fi ops (cs.map (fun j => .chk (opAt ops j)) ++ planItems ops r) (dstAt ops i :: pre.map (dstAt ops)) (v :: pre.map vals) tree s k)
      (itemsK P rec fi ops (cs.map (fun j => .chk (opAt ops j)) ++ planItems ops r) (dstAt ops i :: pre.map (dstAt ops)) (.tup [] :: pre.map vals) tree T k) = true := h.cont
  rw [guardK_congr (fun t ht => hlook (.tmp t) (fun t' e => by cases e; exact ht)), opK_congr (ρ' := rho ops masks tree vals i) (fun x hx => hlook x (fun t e => opTmps_mem (e ▸ hx)))] at hk
  -- what is known of the operations that the plan has run and the model has not
  have hpend : ∀ j ∈ pre, ¬ L j → cls P ops j ≤ 1 ∧ (cls P ops j = 1 → j ∈ cs) := by
    intro j hj hLj
    have h1 := List.all_eq_true.1 hef j (by simpa using h.lt j hj)
    simp only [Bool.and_eq_true, (h.bits j).2 hj, Bool.not_true, Bool.false_or, Bool.true_or, true_and] at h1
    obtain ⟨h2, h3⟩ := h1
    have hna : ¬ (maskAt masks i).testBit j = true := fun e => hLj (hanc j e)
    have hnf : (maskAt masks i).testBit j = false := by simpa using hna
    rw [hnf] at h2 h3
    simp only [Bool.or_false, bne_iff_ne, ne_eq] at h2 h3
    have hle : cls P ops j ≤ 2 := by
      rcases Nat.lt_or_ge 2 (cls P ops j) with h4 | h4
      · exact absurd (h.effs j hj h4) hLj
      · exact h4
    have h2 : ¬ cls P ops j = 2 := h2
    refine ⟨by omega, fun e => ?_⟩
    simp only [Bool.or_eq_true, bne_iff_ne, ne_eq] at h3
    rcases h3 with h3 | h3
    · exact absurd e h3
    · simpa using h3
  have hlt' : ∀ j ∈ i :: pre, j < ops.size := fun j hj => by
    rcases List.mem_cons.1 hj with rfl | hj
    · exact hlt
    · exact h.lt j hj
  have hanc' : ∀ j ∈ i :: pre, ∀ x, Anc masks j x → x ∈ i :: pre := fun j hj x hx => by
    rcases List.mem_cons.1 hj with rfl | hj
    · exact List.mem_cons_of_mem _ (ha x hx)
    · exact List.mem_cons_of_mem _ (h.anc j hj x hx)
  have hcs : ∀ j ∈ cs, j ∈ i :: pre ∧ cls P ops j ≤ 1 ∧ (dstAt ops j).isSome = true ∧ ∀ x ∈ i :: pre, Anc masks j x ∨ ∀ d, dstAt ops x = some d → d ∉ readsAt ops j := fun j hj => by
    have h1 := List.all_eq_true.1 hch j hj
    unfold chkOk at h1
    simp only [Bool.and_eq_true, beq_iff_eq] at h1
    obtain ⟨⟨⟨h2, h3⟩, h4⟩, h5⟩ := h1
    exact ⟨(bits_push h.bits i j).1 h2, Nat.le_of_eq h3, h5, readsOk_some (bits_push h.bits i) hlt' h4⟩
  -- behind the operation
  have hgo : ∀ (v : AVal) (T' : St) (ι' : Ren) (u : Value) (w' : World), WRel P ι' T' w' → Ext ι w ι' w' → VRel ι' v u →
      itemsK P rec fi ops (cs.map (fun j => .chk (opAt ops j)) ++ planItems ops r) (dstAt ops i :: pre.map (dstAt ops)) (v :: pre.map vals) tree T' k = true → K (a.put (dstAt ops i) u) w' := by
    intro v T' ι' u w' hw' he hv hk
    have hk' : itemsK P rec fi ops (cs.map (fun j => .chk (opAt ops j)) ++ planItems ops r) ((i :: pre).map (dstAt ops)) ((i :: pre).map (upd vals i v)) tree T' k = true := by
      rw [map_upd hn]
      exact hk
    obtain ⟨hk2, hchk⟩ := chks ht hlt' hanc' cs hcs hk'
    have hinv : Inv P rec ops masks tree fi k a0 ι0 w0 (i :: pre) (upd vals i v) nm T' (fun j => L j ∨ j = i) ι' (a.put (dstAt ops i) u) w' r (done ||| (1 <<< i)) := by
      refine ⟨hw', h.ext.trans he, (put_defers a _ u).trans h.defs, (put_size a _ u).trans h.size, ?_, hlt', hanc', ?_, ?_, ?_, ?_, ?_, ?_, ?_, h.nmk, bits_push h.bits i, hr, hk2⟩
      · rintro j (hj | rfl)
        · exact List.mem_cons_of_mem _ (h.sub j hj)
        · simp
      · rintro j (hj | rfl) x hx
        · exact .inl (h.lanc j hj x hx)
        · exact .inl (hanc x hx)
      · rintro j (hj | rfl) d hdj
        · obtain ⟨u', h1, h2⟩ := h.t1 j hj d hdj
          rw [upd_ne (hne j (h.sub j hj))]
          refine ⟨u', ?_, h2.mono he.le⟩
          rw [put_other]
          · exact h1
          · intro e
            exact hne j (h.sub j hj) (ht.one i j d hlt (h.lt j (h.sub j hj)) e hdj).symm
        · rw [upd_same, hdj]
          exact ⟨u, put_same (by rw [h.size]; exact hds d hdj), hv⟩
      · intro t hno
        rw [put_other (hno i (.inr rfl))]
        exact h.t2 t fun j hj => hno j (.inl hj)
      · intro j hj hc
        rcases List.mem_cons.1 hj with rfl | hj
        · exact .inr rfl
        · exact .inl (h.effs j hj hc)
      · intro j hj hLj
        have hji : j ≠ i := fun e => hLj (.inr e)
        have hjp : j ∈ pre := by
          rcases List.mem_cons.1 hj with e | hj
          · exact absurd e hji
          · exact hj
        have hLj' : ¬ L j := fun e => hLj (.inl e)
        obtain ⟨hc1, hc2⟩ := hpend j hjp hLj'
        have hp : CalmProm P rec ops masks tree vals j T := by
          rcases h.prom j hjp hLj' with ⟨_, hp⟩ | ⟨hc3, _⟩
          · exact hp
          · omega
        have hp' : CalmProm P rec ops masks tree (upd vals i v) j T := by
          rcases Prom.congr (vals' := upd vals i v) (nm' := nm) (nm := nm) (fun x hx => by rw [upd_ne (hne x (h.anc j hjp x hx))]) (by rw [upd_ne hji]) rfl (.inl ⟨hc1, hp⟩ : Prom P rec ops masks tree vals nm j T) with ⟨_, hp⟩ | ⟨hc3, _⟩
          · exact hp
          · omega
        refine .inl ⟨hc1, ?_⟩
        rcases Nat.lt_or_ge (cls P ops j) 1 with h1 | h1
        · have hc0 : opClass P (opAt ops j).op = 0 := Nat.lt_one_iff.1 h1
          unfold CalmProm at hp' ⊢
          rcases guardK_sel hp' with ⟨g1, g2⟩ | ⟨g1, g2⟩
          · rw [g2, opK_calm hc0 T' T]
            rw [opK_calm hc0 T T] at g1
            have : (fun v' (_ : St) => hold (v' = upd vals i v j ∧ T = T)) = (fun v' (_ : St) => hold (v' = upd vals i v j ∧ T' = T')) := by
              funext v' _
              simp [hold]
            rw [← this]
            exact g1
          · rw [g2]; exact g1
        · exact hchk j (hc2 (Nat.le_antisymm hc1 h1)) T hp'
      · intro j hj hLj q e
        have hji : j ≠ i := fun e => hLj (.inr e)
        have hjp : j ∈ pre := by
          rcases List.mem_cons.1 hj with e | hj
          · exact absurd e hji
          · exact hj
        have := (hpend j hjp (fun e => hLj (.inl e))).1
        have := h.nmk j q e
        omega
      · intro j hj x hx hLj hLx _ q e
        have hji : j ≠ i := fun e => hLj (.inr e)
        have hjp : j ∈ pre := by
          rcases List.mem_cons.1 hj with e | hj
          · exact absurd e hji
          · exact hj
        have := (hpend j hjp (fun e => hLj (.inl e))).1
        have := h.nmk j q e
        omega
    exact hK _ _ _ _ _ hinv
  unfold wpOpIn
  rw [opAt_get hlt]
  show if Region.wanted (opAt ops i) (yielded ops a.tmps) = true then _ else _
  rcases guardK_true hk hreal with ⟨hw, h1⟩ | ⟨hw, h1⟩
  · rw [if_pos hw]
    exact opK_wpIn hs h1 hF hd h.wr hreal fun v w' ι' s' av he hw' hv hk => hgo av s' ι' v w' hw' he hv hk
  · rw [if_neg (by rw [hw]; simp)]
    exact ⟨fun f _ => hF f, hgo (.tup []) T ι undef w h.wr (Ext.refl ι w) (.tup .nil) h1⟩
end
end Go.AM
