/- The abstract machine's drawn regions, part 4: what an operation reads; what is promised of an operation that the plan has run and the model has not. -/
import Derived.Test.YtoipnedbpjfeiaaDoorAmDraw3
set_option linter.all false
set_option linter.unusedSectionVars false
set_option linter.unusedSimpArgs false
set_option linter.unusedVariables false
namespace Go.AM
variable [Orc]
/-! ### Heaps restricted -/
def PT.restrict {α : Type} : (Pos → Bool) → PT α → PT α
  | _, .leaf => .leaf
  | f, .node l v r => .node (PT.restrict (fun p => f (.o p)) l) (if f .h then v else none) (PT.restrict (fun p => f (.i p)) r)
theorem PT.get_restrict {α : Type} : ∀ (k : Pos) (f : Pos → Bool) (t : PT α), PT.get k (PT.restrict f t) = if f k then PT.get k t else none
  | .h, f, .leaf => by cases hf : f .h <;> rfl
  | .o k, f, .leaf => by cases hf : f (.o k) <;> rfl
  | .i k, f, .leaf => by cases hf : f (.i k) <;> rfl
  | .h, f, .node l v r => rfl
  | .o k, f, .node l v r => PT.get_restrict k (fun p => f (.o p)) l
  | .i k, f, .node l v r => PT.get_restrict k (fun p => f (.i p)) r
noncomputable def St.known (ι : Ren) (s : St) : St := { heap := PT.restrict (fun b => (ι b).isSome) s.heap, next := s.next }
theorem St.known_get {ι : Ren} {s : St} {b : Pos} (h : (ι b).isSome = true) : PT.get b (s.known ι).heap = PT.get b s.heap := by
  unfold St.known
  simp [PT.get_restrict, h]
theorem St.known_some {ι : Ren} {s : St} {b : Pos} {x : AObj} (h : PT.get b (s.known ι).heap = some x) : (ι b).isSome = true := by
  unfold St.known at h
  rw [PT.get_restrict] at h
  cases hb : (ι b).isSome with
  | true => rfl
  | false => rw [hb] at h; cases h
theorem WRel.known {P : Program} {ι : Ren} {s : St} {w : World} (h : WRel P ι s w) : WRel P ι (s.known ι) w := by
  refine ⟨fun b p e => ?_, fun b b' p p' o o' e e' g g' => ?_, h.fresh, h.bound⟩
  · obtain ⟨o, ho, hr⟩ := h.objs b p e
    exact ⟨o, by rw [St.known_get (by simp [e])]; exact ho, hr⟩
  · rw [St.known_get (by simp [e])] at g
    rw [St.known_get (by simp [e'])] at g'
    exact h.apart b b' p p' o o' e e' g g'
/-- Nothing new is named where the heap is what is known. -/
theorem WRel.same_names {P : Program} {ι ι' : Ren} {s : St} {w' : World} (hle : Ren.le ι ι') (h : WRel P ι' (s.known ι) w') : ι' = ι := by
  funext b
  cases e : ι' b with
  | none =>
    cases e' : ι b with
    | none => rfl
    | some p => rw [hle b p e'] at e; cases e
  | some p =>
    obtain ⟨o, ho, _⟩ := h.objs b p e
    have := St.known_some ho
    cases e' : ι b with
    | none => rw [e'] at this; cases this
    | some q => rw [hle b q e'] at e; exact e.symm
theorem WRel.unknown {P : Program} {ι : Ren} {s : St} {w w' : World} (hw : WRel P ι s w) (h : WRel P ι (s.known ι) w') : WRel P ι s w' := by
  refine ⟨fun b p e => ?_, fun b b' p p' o o' e e' g g' => ?_, hw.fresh, h.bound⟩
  · obtain ⟨o, ho, hr⟩ := h.objs b p e
    exact ⟨o, by rw [← St.known_get (ι := ι) (s := s) (b := b) (by simp [e])]; exact ho, hr⟩
  · rw [← St.known_get (ι := ι) (s := s) (b := b) (by simp [e])] at g
    rw [← St.known_get (ι := ι) (s := s) (b := b') (by simp [e'])] at g'
    exact h.apart b b' p p' o o' e e' g g'
/-- A heap that says more is related where it says more of what is not known. -/
theorem WRel.grow {P : Program} {ι : Ren} {s s' : St} {w : World} (h : WRel P ι s w) (hg : Grown s s') (hn : s.next.toNat ≤ s'.next.toNat) : WRel P ι s' w := by
  have hsame : ∀ b p, ι b = some p → PT.get b s'.heap = PT.get b s.heap := fun b p e => by
    obtain ⟨o, ho, _⟩ := h.objs b p e
    rw [ho, hg b o ho]
  refine ⟨fun b p e => ?_, fun b b' p p' o o' e e' g g' => ?_, fun b p e => Nat.lt_of_lt_of_le (h.fresh b p e) hn, h.bound⟩
  · rw [hsame b p e]; exact h.objs b p e
  · rw [hsame b p e] at g
    rw [hsame b' p' e'] at g'
    exact h.apart b b' p p' o o' e e' g g'
/-- A block that has been laid is given the name of an object that stands already. -/
theorem WRel.adopt {P : Program} {ι : Ren} {s : St} {w : World} (h : WRel P ι s w) {q : Pos} {x : AObj} {obj : Obj} {sz : Nat} (hq : PT.get q s.heap = some x) (hn : ι q = none) (hlt : q.toNat < s.next.toNat)
    (hx : ORel P (Ren.set ι q ⟨w.heap.size, 0, sz, false⟩) { w with heap := w.heap.push obj } ⟨w.heap.size, 0, sz, false⟩ x) :
    WRel P (Ren.set ι q ⟨w.heap.size, 0, sz, false⟩) s { w with heap := w.heap.push obj } ∧ Ext ι w (Ren.set ι q ⟨w.heap.size, 0, sz, false⟩) { w with heap := w.heap.push obj } := by
  have hle : Ren.le ι (Ren.set ι q ⟨w.heap.size, 0, sz, false⟩) := Ren.le_set hn
  refine ⟨⟨fun b p e => ?_, fun b b' p p' o o' e e' g g' hl hl' hb => ?_, fun b p e => ?_, fun b p e => ?_⟩, ⟨hle, by simp, fun b p e => ?_, fun i hi _ => push_old hi, rfl, rfl⟩⟩
  · rcases Ren.set_some e with ⟨rfl, rfl⟩ | ⟨_, e⟩
    · exact ⟨x, hq, hx⟩
    · obtain ⟨o, ho, hr⟩ := h.objs b p e
      exact ⟨o, ho, ORel.mono (w := w) hle (fun _ => push_old (h.bound b p e)) hr⟩
  · rcases Ren.set_some e with ⟨hb1, hp1⟩ | ⟨_, e2⟩
    · rcases Ren.set_some e' with ⟨hb2, hp2⟩ | ⟨_, e3⟩
      · exact .inl (hb1.trans hb2.symm)
      · have := h.bound b' p' e3
        rw [hp1] at hb
        simp only at hb; omega
    · rcases Ren.set_some e' with ⟨hb2, hp2⟩ | ⟨_, e3⟩
      · have := h.bound b p e2
        rw [hp2] at hb
        simp only at hb; omega
      · exact h.apart b b' p p' o o' e2 e3 g g' hl hl' hb
  · rcases Ren.set_some e with ⟨rfl, rfl⟩ | ⟨_, e⟩
    · exact hlt
    · exact h.fresh b p e
  · rcases Ren.set_some e with ⟨rfl, rfl⟩ | ⟨_, e⟩
    · simp
    · have := h.bound b p e; simp; omega
  · rcases Ren.set_some e with ⟨rfl, rfl⟩ | ⟨_, e⟩
    · exact .inr (.inl (Nat.le_refl _))
    · exact .inl e
theorem Grown.set {s : St} {x : AObj} (h : PT.get s.next s.heap = none) : Grown s { heap := PT.set s.next x s.heap, next := s.next.succ } := by
  intro b y e
  by_cases hb : b = s.next
  · subst hb; rw [h] at e; cases e
  · rw [PT.get_set_ne _ _ _ _ hb]; exact e

noncomputable def guardV (v : AVal) (w x y : Bool) : Bool :=
  @AVal.rec (fun _ => Bool) (fun _ => Bool) (fun b => ifK (eqBool b w) x y) (fun _ _ => y) (fun _ => y) (fun _ _ => y) y (fun _ _ _ _ => y) y (fun _ => y) y (fun _ _ _ _ _ => y) (fun _ => y) y
        (fun _ _ _ => y) y (fun _ _ => y) (fun _ _ => y) false (fun _ _ _ _ => false) v
theorem guardK_some {all : Array Oper} {o : Oper} {ρ : Operand → Option AVal} {g0 : Nat × Bool} {g : Tmp × Bool} {v : AVal} (hg : o.guard = some g0) (h1 : guardTmp all o = some g) (h3 : ρ (.tmp g.1) = some v) (x y : Bool) :
    guardK all o ρ x y = guardV v g.2 x y := by
  unfold guardK
  rw [hg]
  show optK (guardTmp all o) _ = _
  rw [h1]
  show optK (ρ (.tmp g.1)) _ = _
  rw [h3]
  rfl
/-- A guard chooses, whatever it chooses from. -/
theorem guardK_sel {all : Array Oper} {o : Oper} {ρ : Operand → Option AVal} {x y : Bool} (h : guardK all o ρ x y = true) :
    (x = true ∧ ∀ x' y', guardK all o ρ x' y' = x') ∨ (y = true ∧ ∀ x' y', guardK all o ρ x' y' = y') := by
  cases hg : o.guard with
  | none =>
    have he : ∀ x' y', guardK all o ρ x' y' = x' := fun x' y' => by unfold guardK; rw [hg]
    exact .inl ⟨by rw [← he x y]; exact h, he⟩
  | some g0 =>
    have h0 := h
    unfold guardK at h0
    rw [hg] at h0
    obtain ⟨g, h1, h2⟩ := optK_true.1 h0
    obtain ⟨v, h3, _⟩ := optK_true.1 h2
    have he := guardK_some (all := all) hg h1 h3
    rw [he] at h
    simp only [he]
    cases v with
    | bool b =>
      have h : ifK (eqBool b g.2) x y = true := h
      rcases ifK_true.1 h with ⟨h5, h6⟩ | ⟨h5, h6⟩
      · refine .inl ⟨h6, fun x' y' => ?_⟩
        show ifK (eqBool b g.2) x' y' = x'
        rw [h5]; rfl
      · refine .inr ⟨h6, fun x' y' => ?_⟩
        show ifK (eqBool b g.2) x' y' = y'
        rw [h5]; rfl
    | _ => exact .inr ⟨h, fun _ _ => rfl⟩

section
variable (P : Program) (ops : Array Oper) (masks : List Nat) (tree : PT AVal)
abbrev cls (i : Nat) : Nat := opClass P (opAt ops i).op
abbrev dstAt (i : Nat) : Option Tmp := (opAt ops i).dst
abbrev Anc (i j : Nat) : Prop := (maskAt masks i).testBit j = true
abbrev readsAt (i : Nat) : List Tmp := operReads ops (opAt ops i)
def writer (i : Nat) (t : Tmp) : Option Nat := (List.range ops.size).find? fun j => (maskAt masks i).testBit j && dstAt ops j == some t
/-- The operands of an operation, by what stands ahead of it. -/
noncomputable def rho (vals : Nat → AVal) (i : Nat) : Operand → Option AVal
  | .tmp t => if (readsAt ops i).contains t then (match writer ops masks i t with
    | some j => some (vals j)
    | none => PT.get (posOf t) tree) else none
  | .const v => conv v
  | .global _ => none
  | .func f => some (.fn f [] [])
/-- What the plan's check says of temporaries. -/
structure TmpsOk : Prop where
  one : ∀ i j d, i < ops.size → j < ops.size → dstAt ops i = some d → dstAt ops j = some d → i = j
  read : ∀ i j d, i < ops.size → j < ops.size → i ≠ j → dstAt ops i = some d → d ∈ readsAt ops j → Anc masks j i ∨ Anc masks i j
end
section
variable {P : Program} {ops : Array Oper} {masks : List Nat} {tree : PT AVal}
theorem writer_some {i j : Nat} {t : Tmp} (h : writer ops masks i t = some j) : j < ops.size ∧ Anc masks i j ∧ dstAt ops j = some t := by
  unfold writer at h
  have h1 := List.mem_of_find?_eq_some h
  have h2 := List.find?_some h
  simp only [Bool.and_eq_true, beq_iff_eq] at h2
  exact ⟨by simpa using h1, h2.1, h2.2⟩
theorem writer_none {i : Nat} {t : Tmp} (h : writer ops masks i t = none) (j : Nat) (hj : j < ops.size) (ha : Anc masks i j) : dstAt ops j ≠ some t := by
  unfold writer at h
  rw [List.find?_eq_none] at h
  have := h j (by simpa using hj)
  intro e
  simp only [Bool.and_eq_true, beq_iff_eq, not_and] at this
  exact this ha e
theorem rho_congr {vals vals' : Nat → AVal} {i : Nat} (h : ∀ j, Anc masks i j → vals j = vals' j) : rho ops masks tree vals i = rho ops masks tree vals' i := by
  funext x
  cases x with
  | tmp t =>
    simp only [rho]
    split
    · cases hw : writer ops masks i t with
      | none => rfl
      | some j => simp only [h j (writer_some hw).2.1]
    · rfl
  | _ => rfl
theorem idxOf_map {t : Tmp} {dst : Nat → Option Tmp} : ∀ (pre : List Nat) {d : Nat}, idxOf t (pre.map dst) 0 = some d → ∃ j, pre[d]? = some j ∧ dst j = some t
  | [], d, h => by cases h
  | j :: pre, d, h => by
    rw [List.map_cons] at h
    unfold idxOf at h
    split at h
    · rename_i e
      cases h
      exact ⟨j, rfl, e⟩
    · rw [idxOf_shift] at h
      cases hi : idxOf t (pre.map dst) 0 with
      | none => rw [hi] at h; cases h
      | some d' =>
        rw [hi] at h
        cases h
        obtain ⟨j', h1, h2⟩ := idxOf_map pre hi
        exact ⟨j', by simpa using h1, h2⟩
theorem idxOf_map_none {t : Tmp} {dst : Nat → Option Tmp} : ∀ (pre : List Nat), idxOf t (pre.map dst) 0 = none → ∀ j ∈ pre, dst j ≠ some t
  | [], h, j, hj => by cases hj
  | i :: pre, h, j, hj => by
    rw [List.map_cons] at h
    unfold idxOf at h
    split at h
    · cases h
    · rename_i e
      rw [idxOf_shift] at h
      have hi : idxOf t (pre.map dst) 0 = none := by
        cases hi : idxOf t (pre.map dst) 0 with
        | none => rfl
        | some d' => rw [hi] at h; cases h
      rcases List.mem_cons.1 hj with rfl | hj
      · exact e
      · exact idxOf_map_none pre hi j hj
/-- The plan's operands are these. -/
theorem look_plan (ht : TmpsOk ops masks) {vals : Nat → AVal} {i : Nat} {pre : List Nat} (hlt : ∀ j ∈ pre, j < ops.size) (hanc : ∀ j, Anc masks i j → j ∈ pre) (hrd : ∀ j ∈ pre, Anc masks i j ∨ ∀ d, dstAt ops j = some d → d ∉ readsAt ops i)
    (x : Operand) (hx : ∀ t, x = .tmp t → t ∈ readsAt ops i) : getO tree (pre.map vals) (resolveO (pre.map (dstAt ops)) x) = rho ops masks tree vals i x := by
  cases x with
  | tmp t =>
    have hr := hx t rfl
    simp only [rho, resolveO]
    rw [if_pos (by simpa using hr)]
    cases hi : idxOf t (pre.map (dstAt ops)) 0 with
    | some d =>
      obtain ⟨j, h1, h2⟩ := idxOf_map pre hi
      have hj : j ∈ pre := List.mem_of_getElem? h1
      have ha : Anc masks i j := by
        rcases hrd j hj with h | h
        · exact h
        · exact absurd hr (h t h2)
      cases hw : writer ops masks i t with
      | none => exact absurd h2 (writer_none hw j (hlt j hj) ha)
      | some j' =>
        obtain ⟨h3, _, h5⟩ := writer_some hw
        have : j' = j := ht.one j' j t h3 (hlt j hj) h5 h2
        subst this
        show nthO (pre.map vals) d = some (vals j')
        rw [nthO_eq]
        simp [h1]
    | none =>
      have hno := idxOf_map_none pre hi
      cases hw : writer ops masks i t with
      | none => rfl
      | some j =>
        obtain ⟨_, h4, h5⟩ := writer_some hw
        exact absurd h5 (hno j (hanc j h4))
  | const v =>
    simp only [rho, resolveO]
    cases hc : conv v <;> rfl
  | global g => rfl
  | func f => rfl
/-- The model's operands are these. -/
theorem look_real (ht : TmpsOk ops masks) {ι : Ren} {vals : Nat → AVal} {i : Nat} {L : Nat → Prop} {a : Act} {tmps0 : Array Value} (hi : i < ops.size) (hLi : ¬ L i) (hlt : ∀ j, L j → j < ops.size) (hanc : ∀ j, Anc masks i j → L j) (hLanc : ∀ j, L j → ∀ k, Anc masks j k → L k)
    (h1 : ∀ j, L j → ∀ d, dstAt ops j = some d → ∃ u, a.tmps[d]? = some u ∧ VRel ι (vals j) u) (h2 : ∀ t, (∀ j, L j → dstAt ops j ≠ some t) → a.tmps[t]? = tmps0[t]?)
    (h0 : ∀ t v, PT.get (posOf t) tree = some v → ∃ u, tmps0[t]? = some u ∧ VRel ι v u) (x : Operand) : ORl ι (rho ops masks tree vals i x) (a.eval x) := by
  intro v hv
  cases x with
  | tmp t =>
    simp only [rho] at hv
    split at hv
    · rename_i hr
      have hr : t ∈ readsAt ops i := by simpa using hr
      cases hw : writer ops masks i t with
      | some j =>
        rw [hw] at hv
        cases hv
        obtain ⟨_, h4, h5⟩ := writer_some hw
        obtain ⟨u, h6, h7⟩ := h1 j (hanc j h4) t h5
        simpa [Act.eval, Array.getD_eq_getD_getElem?, h6] using h7
      | none =>
        rw [hw] at hv
        have hv : PT.get (posOf t) tree = some v := hv
        obtain ⟨u, h6, h7⟩ := h0 t v hv
        have h8 := h2 t (fun j hj e => by
          have hne : j ≠ i := fun e => hLi (e ▸ hj)
          rcases ht.read j i t (hlt j hj) hi hne e hr with h | h
          · exact writer_none hw j (hlt j hj) h e
          · exact hLi (hLanc j hj i h))
        rw [h6] at h8
        simpa [Act.eval, Array.getD_eq_getD_getElem?, h8] using h7
    · cases hv
  | const c => exact conv_rel hv
  | global g => cases hv
  | func f =>
    have hv : some (AVal.fn f [] []) = some v := hv
    cases hv
    exact .fn .nil .nil
theorem opTmps_mem {all : Array Oper} {o : Oper} {t : Tmp} (h : .tmp t ∈ o.op.operands) : t ∈ operReads all o := by
  unfold operReads
  refine List.mem_append_left _ (List.mem_flatMap.2 ⟨.tmp t, by simpa using h, by simp [opTmps]⟩)
end
end Go.AM
