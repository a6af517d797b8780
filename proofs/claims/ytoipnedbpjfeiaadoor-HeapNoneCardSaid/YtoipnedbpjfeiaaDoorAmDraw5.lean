/- The abstract machine's drawn regions, part 5: any order that the model draws comes to what the plan came to. -/
import Derived.Test.YtoipnedbpjfeiaaDoorAmDraw4
set_option linter.all false
set_option linter.unusedSectionVars false
set_option linter.unusedSimpArgs false
set_option linter.unusedVariables false
namespace Go.AM
variable [Orc] [OrcOk]
theorem put_defers (a : Act) (dst : Option Tmp) (u : Value) : (a.put dst u).defers = a.defers := by
  unfold Act.put; split <;> rfl
theorem put_size (a : Act) (dst : Option Tmp) (u : Value) : (a.put dst u).tmps.size = a.tmps.size := by
  unfold Act.put; split <;> simp
theorem put_same {a : Act} {d : Tmp} {u : Value} (h : d < a.tmps.size) : (a.put (some d) u).tmps[d]? = some u := by simp [Act.put, h]
theorem put_other {a : Act} {dst : Option Tmp} {t : Tmp} {u : Value} (h : dst ≠ some t) : (a.put dst u).tmps[t]? = a.tmps[t]? := by
  cases dst with
  | none => rfl
  | some d => exact Array.getElem?_setIfInBounds_ne (fun e => h (by rw [e]))
def upd {α : Type} (f : Nat → α) (i : Nat) (v : α) : Nat → α := fun j => if j = i then v else f j
theorem upd_same {α : Type} (f : Nat → α) (i : Nat) (v : α) : upd f i v i = v := by simp [upd]
theorem upd_ne {α : Type} {f : Nat → α} {i j : Nat} {v : α} (h : j ≠ i) : upd f i v j = f j := by simp [upd, h]
theorem map_upd {α : Type} {f : Nat → α} {i : Nat} {v : α} {l : List Nat} (h : i ∉ l) : (i :: l).map (upd f i v) = v :: l.map f := by
  rw [List.map_cons, upd_same]
  congr 1
  exact List.map_congr_left fun j hj => upd_ne fun e => h (e ▸ hj)
open Classical in
/-- A test of what cannot be computed. -/
noncomputable def hold (p : Prop) : Bool := decide p
theorem hold_true {p : Prop} : hold p = true ↔ p := by simp [hold]
theorem opLoad_move {P : Program} {t : TypeId} {x : Option AVal} {s s' : St} {K K' : VK} (h : opLoad P t x s K = true) (hb : ∀ b off, x = some (.ptr b off) → PT.get b s'.heap = PT.get b s.heap) (hK : ∀ v, K v s = true → K' v s' = true) :
    opLoad P t x s' K' = true := by
  obtain ⟨n, hn, h1⟩ := optK_true.1 h
  obtain ⟨a, ha, h2⟩ := optK_true.1 h1
  obtain ⟨b, off, rfl, h3⟩ := AVal.ptrK_true.1 h2
  obtain ⟨cs, ro, hc, h4⟩ := cellsK_true.1 h3
  obtain ⟨v, hv, hd⟩ := partK_det h4
  exact optK_true.2 ⟨n, hn, optK_true.2 ⟨_, ha, AVal.ptrK_true.2 ⟨b, off, rfl, cellsK_true.2 ⟨cs, ro, (hb b off ha).trans hc, hd (fun v => K' v s') (hK v hv)⟩⟩⟩⟩
theorem calm_to {P : Program} {rec : RecT} {o : Op} {ρ : Operand → Option AVal} {T : St} {K : VK} (hc : opClass P o ≤ 1) (h : opK P rec o ρ T K = true) :
    ∃ v, K v T = true ∧ ∀ T', Grown T T' → ∀ K' : VK, K' v T' = true → opK P rec o ρ T' K' = true := by
  rcases Nat.lt_or_ge (opClass P o) 1 with h0 | h1
  · have h0 : opClass P o = 0 := by omega
    rw [opK_calm h0 T T] at h
    obtain ⟨v, h1, h2⟩ := opK_det (P := P) (rec := rec) (s := T) (ρ := ρ) h0 (fun v => K v T) h
    refine ⟨v, h1, fun T' _ K' hk => ?_⟩
    rw [opK_calm h0 T' T]
    exact h2 (fun v => K' v T') hk
  · obtain ⟨t, a, rfl⟩ := opClass_load (P := P) (o := o) (by omega)
    obtain ⟨v, h1, h2⟩ := opLoad_det (show opLoad P t (ρ a) T K = true from h)
    exact ⟨v, h1, fun T' hg K' hk => h2 T' hg K' hk⟩

section
variable (P : Program) (rec : RecT) (ops : Array Oper) (masks : List Nat) (tree : PT AVal)
def CalmProm (vals : Nat → AVal) (i : Nat) (T : St) : Prop :=
  guardK ops (opAt ops i) (rho ops masks tree vals i) (opK P rec (opAt ops i).op (rho ops masks tree vals i) T fun v s => hold (v = vals i ∧ s = T)) (hold (vals i = .tup [])) = true
def MakeProm (vals : Nat → AVal) (nm : Nat → Option Pos) (i : Nat) (T : St) : Prop :=
  guardK ops (opAt ops i) (rho ops masks tree vals i) (hold (∃ x v q, nm i = some q ∧ vals i = v q ∧ PT.get q T.heap = some x ∧
    ∀ ι ρc, (∀ y, ORl ι (rho ops masks tree vals i y) (ρc y)) → Lays P ι x v (fun w => (execOp ρc (opAt ops i)).run P w))) (hold (vals i = .tup [])) = true
/-- What is promised of an operation that the plan has run and the model has not. -/
def Prom (vals : Nat → AVal) (nm : Nat → Option Pos) (i : Nat) (T : St) : Prop :=
  (cls P ops i ≤ 1 ∧ CalmProm P rec ops masks tree vals i T) ∨ (cls P ops i = 2 ∧ MakeProm P ops masks tree vals nm i T)
end
section
variable {P : Program} {rec : RecT} {ops : Array Oper} {masks : List Nat} {tree : PT AVal}
theorem CalmProm.to {vals : Nat → AVal} {i : Nat} {T T' : St} (hc : cls P ops i ≤ 1) (hg : Grown T T') (h : CalmProm P rec ops masks tree vals i T) : CalmProm P rec ops masks tree vals i T' := by
  unfold CalmProm at h ⊢
  rcases guardK_sel h with ⟨h1, h2⟩ | ⟨h1, h2⟩
  · rw [h2]
    obtain ⟨v, h3, h4⟩ := calm_to hc h1
    exact h4 T' hg _ (hold_true.2 ⟨(hold_true.1 h3).1, rfl⟩)
  · rw [h2]; exact h1
theorem Prom.grow {vals : Nat → AVal} {nm : Nat → Option Pos} {i : Nat} {T T' : St} (hg : Grown T T') (h : Prom P rec ops masks tree vals nm i T) : Prom P rec ops masks tree vals nm i T' := by
  rcases h with ⟨hc, h⟩ | ⟨hc, h⟩
  · exact .inl ⟨hc, h.to hc hg⟩
  · refine .inr ⟨hc, ?_⟩
    unfold MakeProm at h ⊢
    rcases guardK_sel h with ⟨h1, h2⟩ | ⟨h1, h2⟩
    · rw [h2]
      obtain ⟨x, v, q, e1, e2, e3, e4⟩ := hold_true.1 h1
      exact hold_true.2 ⟨x, v, q, e1, e2, hg _ _ e3, e4⟩
    · rw [h2]; exact h1
theorem Prom.congr {vals vals' : Nat → AVal} {nm nm' : Nat → Option Pos} {i : Nat} {T : St} (hv : ∀ j, Anc masks i j → vals j = vals' j) (hi : vals i = vals' i) (hn : nm i = nm' i) (h : Prom P rec ops masks tree vals nm i T) : Prom P rec ops masks tree vals' nm' i T := by
  have hr : rho ops masks tree vals i = rho ops masks tree vals' i := rho_congr hv
  unfold Prom CalmProm MakeProm at h ⊢
  rw [← hr, ← hi, ← hn]
  exact h
end
section
variable (P : Program) (rec : RecT) (ops : Array Oper) (masks : List Nat) (tree : PT AVal) (fi : FI) (k : PT AVal → St → Bool) (a0 : Act) (ι0 : Ren) (w0 : World)
/-- Where the model stands within a region whose order it draws: what the plan has run (`pre`), what the model has run (`L`). -/
structure Inv (pre : List Nat) (vals : Nat → AVal) (nm : Nat → Option Pos) (T : St) (L : Nat → Prop) (ι : Ren) (a : Act) (w : World) (pl : List PItem) (done : Nat) : Prop where
  wr : WRel P ι T w
  ext : Ext ι0 w0 ι w
  defs : a.defers = a0.defers
  size : a.tmps.size = a0.tmps.size
  sub : ∀ i, L i → i ∈ pre
  lt : ∀ i ∈ pre, i < ops.size
  anc : ∀ i ∈ pre, ∀ j, Anc masks i j → j ∈ pre
  lanc : ∀ i, L i → ∀ j, Anc masks i j → L j
  t1 : ∀ j, L j → ∀ d, dstAt ops j = some d → ∃ u, a.tmps[d]? = some u ∧ VRel ι (vals j) u
  t2 : ∀ t, (∀ j, L j → dstAt ops j ≠ some t) → a.tmps[t]? = a0.tmps[t]?
  effs : ∀ i ∈ pre, 2 < cls P ops i → L i
  prom : ∀ i ∈ pre, ¬ L i → Prom P rec ops masks tree vals nm i T
  names : ∀ i ∈ pre, ¬ L i → ∀ q, nm i = some q → ι q = none ∧ q.toNat < T.next.toNat
  apart : ∀ i ∈ pre, ∀ j ∈ pre, ¬ L i → ¬ L j → i ≠ j → ∀ q, nm i = some q → nm j ≠ some q
  nmk : ∀ i q, nm i = some q → cls P ops i = 2
  bits : ∀ j, done.testBit j = true ↔ j ∈ pre
  plan : planOk P ops masks pl done = true
  cont : itemsK P rec fi ops (planItems ops pl) (pre.map (dstAt ops)) (pre.map vals) tree T k = true
end
section
variable {P : Program} {rec : RecT} {ops : Array Oper} {masks : List Nat} {tree : PT AVal} {fi : FI} {k : PT AVal → St → Bool} {a0 : Act} {ι0 : Ren} {w0 : World}
  {pre : List Nat} {vals : Nat → AVal} {nm : Nat → Option Pos} {T : St} {L : Nat → Prop} {ι : Ren} {a : Act} {w : World} {pl : List PItem} {done : Nat}
theorem bits_push (hb : ∀ j, done.testBit j = true ↔ j ∈ pre) (i j : Nat) : (done ||| (1 <<< i)).testBit j = true ↔ j ∈ i :: pre := by
  rw [Nat.testBit_or, Bool.or_eq_true, Nat.one_shiftLeft, Nat.testBit_two_pow, decide_eq_true_eq, hb j, List.mem_cons]
  constructor
  · rintro (h | h)
    · exact .inr h
    · exact .inl h.symm
  · rintro (h | h)
    · exact .inr h.symm
    · exact .inl h
theorem stepOk_some {i : Nat} (hb : ∀ j, done.testBit j = true ↔ j ∈ pre) (hlt : ∀ i ∈ pre, i < ops.size) (h : stepOk ops masks i done = true) :
    i < ops.size ∧ i ∉ pre ∧ (∀ j, Anc masks i j → j ∈ pre) ∧ ∀ j ∈ pre, Anc masks i j ∨ ∀ d, dstAt ops j = some d → d ∉ readsAt ops i := by
  unfold stepOk at h
  simp only [Bool.and_eq_true, decide_eq_true_eq, Bool.not_eq_true', beq_iff_eq] at h
  obtain ⟨⟨⟨h1, h2⟩, h3⟩, h4⟩ := h
  refine ⟨h1, fun hm => ?_, fun j hj => ?_, fun j hj => ?_⟩
  · have := (hb i).2 hm
    rw [h2] at this; cases this
  · have := congrArg (fun m => m.testBit j) h3
    simp only [Nat.testBit_and] at this
    rw [show (maskAt masks i).testBit j = true from hj] at this
    exact (hb j).1 (by simpa using this)
  · have := List.all_eq_true.1 h4 j (by simpa using hlt j hj)
    rw [(hb j).2 hj] at this
    simp only [Bool.not_true, Bool.false_or, Bool.or_eq_true] at this
    rcases this with h5 | h5
    · exact .inl h5
    · refine .inr fun d e => ?_
      rw [show (opAt ops j).dst = some d from e] at h5
      simpa using h5
theorem Inv.push {i : Nat} {T' : St} {v : AVal} {nq : Option Pos} {r : List PItem} (h : Inv P rec ops masks tree fi k a0 ι0 w0 pre vals nm T L ι a w pl done) (hi : i < ops.size) (hn : i ∉ pre) (ha : ∀ j, Anc masks i j → j ∈ pre) (hc : cls P ops i ≤ 2)
    (hg : Grown T T') (hnx : T.next.toNat ≤ T'.next.toNat) (hp : Prom P rec ops masks tree (upd vals i v) (upd nm i nq) i T')
    (hq : ∀ q, nq = some q → cls P ops i = 2 ∧ ι q = none ∧ q.toNat < T'.next.toNat ∧ ∀ j ∈ pre, ¬ L j → nm j ≠ some q)
    (hpl : planOk P ops masks r (done ||| (1 <<< i)) = true) (hk : itemsK P rec fi ops (planItems ops r) (dstAt ops i :: pre.map (dstAt ops)) (v :: pre.map vals) tree T' k = true) :
    Inv P rec ops masks tree fi k a0 ι0 w0 (i :: pre) (upd vals i v) (upd nm i nq) T' L ι a w r (done ||| (1 <<< i)) := by
  have hLi : ¬ L i := fun e => hn (h.sub i e)
  have hne : ∀ j ∈ pre, j ≠ i := fun j hj e => hn (e ▸ hj)
  refine ⟨h.wr.grow hg hnx, h.ext, h.defs, h.size, fun j hj => List.mem_cons_of_mem _ (h.sub j hj), ?_, ?_, h.lanc, ?_, h.t2, ?_, ?_, ?_, ?_, ?_, bits_push h.bits i, hpl, ?_⟩
  · intro j hj
    rcases List.mem_cons.1 hj with rfl | hj
    · exact hi
    · exact h.lt j hj
  · intro j hj m hm
    rcases List.mem_cons.1 hj with rfl | hj
    · exact List.mem_cons_of_mem _ (ha m hm)
    · exact List.mem_cons_of_mem _ (h.anc j hj m hm)
  · intro j hj d hd
    rw [upd_ne (hne j (h.sub j hj))]
    exact h.t1 j hj d hd
  · intro j hj hcj
    rcases List.mem_cons.1 hj with rfl | hj
    · omega
    · exact h.effs j hj hcj
  · intro j hj hLj
    rcases List.mem_cons.1 hj with rfl | hj
    · exact hp
    · refine Prom.congr (fun m hm => ?_) ?_ ?_ ((h.prom j hj hLj).grow hg)
      · rw [upd_ne (hne m (h.anc j hj m hm))]
      · rw [upd_ne (hne j hj)]
      · rw [upd_ne (hne j hj)]
  · intro j hj hLj q e
    rcases List.mem_cons.1 hj with rfl | hj
    · rw [upd_same] at e
      exact ⟨(hq q e).2.1, (hq q e).2.2.1⟩
    · rw [upd_ne (hne j hj)] at e
      obtain ⟨h1, h2⟩ := h.names j hj hLj q e
      exact ⟨h1, by omega⟩
  · intro j hj m hm hLj hLm hjm q e
    rcases List.mem_cons.1 hj with rfl | hj
    · rw [upd_same] at e
      rcases List.mem_cons.1 hm with rfl | hm
      · exact absurd rfl hjm
      · rw [upd_ne (hne m hm)]
        exact (hq q e).2.2.2 m hm hLm
    · have hj' := hj
      rw [upd_ne (hne j hj)] at e
      rcases List.mem_cons.1 hm with rfl | hm
      · rw [upd_same]
        intro e'
        exact (hq q e').2.2.2 j hj' hLj e
      · rw [upd_ne (hne m hm)]
        exact h.apart j hj m hm hLj hLm hjm q e
  · intro j q e
    by_cases hj : j = i
    · subst hj
      rw [upd_same] at e
      exact (hq q e).1
    · rw [upd_ne hj] at e
      exact h.nmk j q e
  · rw [List.map_cons, map_upd hn]
    exact hk
/-- The plan runs on to the next operation that may do anything. -/
theorem Inv.settle (ht : TmpsOk ops masks) : ∀ (pl : List PItem) (pre : List Nat) (vals : Nat → AVal) (nm : Nat → Option Pos) (T : St) (done : Nat), Inv P rec ops masks tree fi k a0 ι0 w0 pre vals nm T L ι a w pl done →
    ∃ pre' vals' nm' T' pl' done', Inv P rec ops masks tree fi k a0 ι0 w0 pre' vals' nm' T' L ι a w pl' done' ∧ (pl' = [] ∨ ∃ i cs r, pl' = .eff i cs :: r)
  | [], pre, vals, nm, T, done, h => ⟨pre, vals, nm, T, [], done, h, .inl rfl⟩
  | .eff i cs :: r, pre, vals, nm, T, done, h => ⟨pre, vals, nm, T, _, done, h, .inr ⟨i, cs, r, rfl⟩⟩
  | .calm i :: r, pre, vals, nm, T, done, h => by
    have hpl := h.plan
    simp only [planOk, Bool.and_eq_true, decide_eq_true_eq] at hpl
    obtain ⟨⟨hst, hc⟩, hr⟩ := hpl
    obtain ⟨hi, hn, ha, hrd⟩ := stepOk_some h.bits h.lt hst
    have hlook := fun x hx => look_plan (tree := tree) ht (vals := vals) h.lt ha hrd x hx
    have hk : guardK ops (opAt ops i) (fun x => getO tree (pre.map vals) (resolveO (pre.map (dstAt ops)) x))
        (opK P rec (opAt ops i).op (fun x => getO tree (pre.map vals) (resolveO (pre.map (dstAt ops)) x)) T fun v s => itemsK P rec fi ops (planItems ops r) (dstAt ops i :: pre.map (dstAt ops)) (v :: pre.map vals) tree s k)
        (itemsK P rec fi ops (planItems ops r) (dstAt ops i :: pre.map (dstAt ops)) (.tup [] :: pre.map vals) tree T k) = true := h.cont
    rw [guardK_congr (fun t ht => hlook (.tmp t) (fun t' e => by cases e; exact ht)), opK_congr (ρ' := rho ops masks tree vals i) (fun x hx => hlook x (fun t e => opTmps_mem (e ▸ hx)))] at hk
    have hri : ∀ v, rho ops masks tree (upd vals i v) i = rho ops masks tree vals i := fun v => rho_congr fun j hj => upd_ne fun e => hn (e ▸ ha j hj)
    have hqn : ∀ q, (none : Option Pos) = some q → cls P ops i = 2 ∧ ι q = none ∧ q.toNat < T.next.toNat ∧ ∀ j ∈ pre, ¬ L j → nm j ≠ some q := fun q e => by cases e
    rcases guardK_sel hk with ⟨h1, h2⟩ | ⟨h1, h2⟩
    · obtain ⟨v, h3, h4⟩ := calm_to hc h1
      refine Inv.settle ht r _ _ _ _ _ (h.push (v := v) (nq := none) hi hn ha (Nat.le_trans hc (by decide)) (Grown.refl T) (Nat.le_refl _) (.inl ⟨hc, ?_⟩) hqn hr h3)
      unfold CalmProm
      rw [hri, h2, upd_same]
      exact h4 T (Grown.refl T) _ (hold_true.2 ⟨rfl, rfl⟩)
    · refine Inv.settle ht r _ _ _ _ _ (h.push (v := .tup []) (nq := none) hi hn ha (Nat.le_trans hc (by decide)) (Grown.refl T) (Nat.le_refl _) (.inl ⟨hc, ?_⟩) hqn hr h1)
      unfold CalmProm
      rw [hri, h2, upd_same]
      exact hold_true.2 rfl
  | .make i :: r, pre, vals, nm, T, done, h => by
    have hpl := h.plan
    simp only [planOk, Bool.and_eq_true, beq_iff_eq] at hpl
    obtain ⟨⟨hst, hc⟩, hr⟩ := hpl
    obtain ⟨hi, hn, ha, hrd⟩ := stepOk_some h.bits h.lt hst
    have hlook := fun x hx => look_plan (tree := tree) ht (vals := vals) h.lt ha hrd x hx
    have hk0 : @Option.rec AObj (fun _ => Bool) (guardK ops (opAt ops i) (fun x => getO tree (pre.map vals) (resolveO (pre.map (dstAt ops)) x))
        (opK P rec (opAt ops i).op (fun x => getO tree (pre.map vals) (resolveO (pre.map (dstAt ops)) x)) T fun v s => itemsK P rec fi ops (planItems ops r) (dstAt ops i :: pre.map (dstAt ops)) (v :: pre.map vals) tree s k)
        (itemsK P rec fi ops (planItems ops r) (dstAt ops i :: pre.map (dstAt ops)) (.tup [] :: pre.map vals) tree T k)) (fun _ => fail 56) (PT.get T.next T.heap) = true := h.cont
    cases hfr : PT.get T.next T.heap with
    | some y => rw [hfr] at hk0; cases hk0
    | none =>
      rw [hfr] at hk0
      have hk := hk0
      simp only at hk
      rw [guardK_congr (fun t ht => hlook (.tmp t) (fun t' e => by cases e; exact ht)), opK_congr (ρ' := rho ops masks tree vals i) (fun x hx => hlook x (fun t e => opTmps_mem (e ▸ hx)))] at hk
      have hri : ∀ v, rho ops masks tree (upd vals i v) i = rho ops masks tree vals i := fun v => rho_congr fun j hj => upd_ne fun e => hn (e ▸ ha j hj)
      rcases guardK_sel hk with ⟨h1, h2⟩ | ⟨h1, h2⟩
      · obtain ⟨x, v, _, h3, h4⟩ := alloc_form hc h1
        have hsucc : T.next.succ.toNat = T.next.toNat + 1 := Pos.succ_toNat _
        refine Inv.settle ht r _ _ _ _ _ (h.push (T' := { heap := PT.set T.next x T.heap, next := T.next.succ }) (v := v T.next) (nq := some T.next) hi hn ha (Nat.le_of_eq hc) (Grown.set hfr) (by simp only [hsucc]; omega) (.inr ⟨hc, ?_⟩) (fun q e => ?_) hr h3)
        · unfold MakeProm
          rw [hri, h2, upd_same, upd_same]
          exact hold_true.2 ⟨x, v, T.next, rfl, rfl, PT.get_set_same _ _ _, h4⟩
        · cases e
          refine ⟨hc, h.wr.next_none, by simp only [hsucc]; omega, fun j hj hLj e => ?_⟩
          have := (h.names j hj hLj _ e).2
          omega
      · refine Inv.settle ht r _ _ _ _ _ (h.push (v := .tup []) (nq := none) hi hn ha (Nat.le_of_eq hc) (Grown.refl T) (Nat.le_refl _) (.inr ⟨hc, ?_⟩) (fun q e => by cases e) hr h1)
        unfold MakeProm
        rw [hri, h2, upd_same]
        exact hold_true.2 rfl
end
end Go.AM
