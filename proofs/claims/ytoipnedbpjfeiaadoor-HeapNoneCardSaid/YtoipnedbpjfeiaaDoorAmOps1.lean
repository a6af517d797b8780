/- The abstract machine's operations hold of the model's, part 1: tables, memory, numbers, strings. -/
import Derived.Test.YtoipnedbpjfeiaaDoorAmMem
import Derived.Laws.CopyRow
import Derived.Laws.IdiomCopy
set_option linter.all false
set_option linter.unusedSectionVars false
set_option linter.unusedSimpArgs false
set_option linter.unusedVariables false
namespace Go.AM

/-- What an operation comes to: a value (or nothing), in a world that fits a state behind which the rest of the run answers true. -/
def Fine (P : Program) (ι : Ren) (w : World) (K : VK) (r : Result Next) : Prop :=
  ∃ v w' ι' s' a, (r = .ok (.value v) w' ∨ (r = .ok .skip w' ∧ v = undef)) ∧ Ext ι w ι' w' ∧ WRel P ι' s' w' ∧ VRel ι' a v ∧ K a s' = true
/-- The like for a computation of a value. -/
def FineV (P : Program) (ι : Ren) (w : World) (K : VK) (r : Result Value) : Prop :=
  ∃ v w' ι' s' a, r = .ok v w' ∧ Ext ι w ι' w' ∧ WRel P ι' s' w' ∧ VRel ι' a v ∧ K a s' = true
theorem FineV.fine {P : Program} {ι : Ren} {w : World} {K : VK} {x : Sem Value} (h : FineV P ι w K (x.run P w)) : Fine P ι w K (Sem.run P (do pure (.value (← x))) w) := by
  obtain ⟨v, w', ι', s', a, e, h1, h2, h3, h4⟩ := h
  exact ⟨v, w', ι', s', a, .inl (by simp [e]), h1, h2, h3, h4⟩
theorem FineV.same {P : Program} {ι : Ren} {w : World} {s : St} {K : VK} {a : AVal} {v : Value} (hw : WRel P ι s w) (hv : VRel ι a v) (hk : K a s = true) : FineV P ι w K (.ok v w) :=
  ⟨v, w, ι, s, a, rfl, Ext.refl ι w, hw, hv, hk⟩
/-- An operand, as far as it is known. -/
def ORl (ι : Ren) (x : Option AVal) (v : Value) : Prop := ∀ a, x = some a → VRel ι a v

section
variable {P : Program} {ι : Ren} {s : St} {w : World} {K : VK}

/-! ### Tables -/
theorem run_underlyingA {t : TypeId} {d : TypeDesc} (h : P.underlying t = some d) : (underlying t).run P w = .ok d w := by simp [underlying, h]
theorem run_typeInfoA {t : TypeId} {i : TypeInfo} (h : P.info? t = some i) : (typeInfo t).run P w = .ok i w := by simp [typeInfo, h]
theorem run_sizeOfA {t : TypeId} {n : Nat} (h : tySize P t = some n) : (sizeOf t).run P w = .ok n w := by
  unfold tySize at h
  cases hi : P.info? t with
  | none => rw [hi] at h; cases h
  | some i => rw [hi] at h; simp at h; simp [sizeOf, run_typeInfoA hi, h]
theorem run_isAggA {t : TypeId} {d : TypeDesc} (h : P.underlying t = some d) : (isAgg t).run P w = .ok (isAggT d) w := by
  simp only [isAgg, Sem.run_bind, run_underlyingA h, Result.andThen_ok]
  cases d <;> rfl
theorem convCell_rel {v : Value} {a : AVal} (h : convCell v = some a) : VRel ι a v ∧ a.scalar = true := by
  unfold convCell at h
  split at h <;> cases h
  · exact ⟨.bool _, rfl⟩
  · exact ⟨.int _ _, rfl⟩
  · exact ⟨by simpa using VRel.str (ι := ι) _, rfl⟩
  · exact ⟨.nilPtr, rfl⟩
  · exact ⟨.nilSlice, rfl⟩
  · exact ⟨.nilMap, rfl⟩
  · exact ⟨.nilFn, rfl⟩
  · exact ⟨.nilIface, rfl⟩
theorem convL_rel : ∀ {l : List Value} {m : List AVal}, convL l = some m → VRels ι m l ∧ ∀ x ∈ m, x.scalar = true
  | [], m, h => by cases h; exact ⟨.nil, by simp⟩
  | v :: l, m, h => by
    simp only [convL] at h
    split at h
    · rename_i a r ha hr
      cases h
      obtain ⟨h1, h2⟩ := convCell_rel (ι := ι) ha
      obtain ⟨h3, h4⟩ := convL_rel hr
      refine ⟨.cons h1 h3, fun x hx => ?_⟩
      rcases List.mem_cons.1 hx with rfl | hx
      · exact h2
      · exact h4 x hx
    · cases h
theorem conv_rel {v : Value} {a : AVal} (h : conv v = some a) : VRel ι a v := by
  unfold conv at h
  split at h
  · cases hl : convL (Array.toList _) with
    | none => rw [hl] at h; cases h
    | some m =>
      rw [hl] at h; cases h
      obtain ⟨h1, h2⟩ := convL_rel (ι := ι) hl
      exact .agg h1 h2
  · exact (convCell_rel h).1
theorem run_zeroA {t : TypeId} {a : AVal} (h : zeroV P t = some a) : ∃ v, (zeroValue t).run P w = .ok v w ∧ VRel ι a v := by
  unfold zeroV at h
  cases hi : P.info? t with
  | none => rw [hi] at h; cases h
  | some i =>
    rw [hi] at h
    simp only [Option.bind_some] at h
    cases hz : i.zero with
    | none => rw [hz] at h; cases h
    | some v => rw [hz] at h; exact ⟨v, by simp [zeroValue, run_typeInfoA hi, hz], conv_rel h⟩
theorem conv_scalars {v : Value} {a : AVal} (h : conv v = some a) : ∀ x ∈ a.cells, x.scalar = true := by
  unfold conv at h
  split at h
  · cases hl : convL (Array.toList _) with
    | none => rw [hl] at h; cases h
    | some m => rw [hl] at h; cases h; exact (convL_rel (ι := fun _ => none) hl).2
  · have := (convCell_rel (ι := fun _ => none) h).2
    cases a <;> simp_all [AVal.cells, AVal.scalar]
theorem zeroV_scalars {t : TypeId} {a : AVal} (h : zeroV P t = some a) : ∀ x ∈ a.cells, x.scalar = true := by
  unfold zeroV at h
  cases hi : P.info? t with
  | none => rw [hi] at h; cases h
  | some i =>
    rw [hi] at h
    simp only [Option.bind_some] at h
    cases hz : i.zero with
    | none => rw [hz] at h; cases h
    | some v => rw [hz] at h; exact conv_scalars h

/-! ### Moves -/
theorem opMove_fine {x : Option AVal} {v : Value} (h : opMove x s K = true) (hw : WRel P ι s w) (hx : ORl ι x v) : FineV P ι w K (.ok v w) := by
  obtain ⟨a, ha, hk⟩ := optK_true.1 h
  exact .same hw (hx a ha) hk
theorem opPick_fine {c a b : Option AVal} {vc va vb : Value} (h : opPick c a b s K = true) (hw : WRel P ι s w) (hc : ORl ι c vc) (ha : ORl ι a va) (hb : ORl ι b vb) :
    FineV P ι w K (Sem.run P (do pure (if ← asBool vc then va else vb)) w) := by
  obtain ⟨c', hc', h⟩ := optK_true.1 h
  obtain ⟨t, rfl, h⟩ := AVal.boolK_true.1 h
  have hv := hc _ hc'
  cases hv
  simp only [asBool, Sem.run_bind, Sem.run_pure, Result.andThen_ok]
  rcases ifK_true.1 h with ⟨rfl, h⟩ | ⟨rfl, h⟩
  · obtain ⟨y, hy, hk⟩ := optK_true.1 h
    exact .same hw (ha y hy) hk
  · obtain ⟨y, hy, hk⟩ := optK_true.1 h
    exact .same hw (hb y hy) hk

/-! ### New cells -/
theorem VRels.cellsAt {l : List AVal} {c : Array Value} (h : VRels ι l c.toList) : CellsAt ι l 0 c := by
  intro i a e
  obtain ⟨v, hv, hr⟩ := h.get e
  exact ⟨v, by simpa using hv, hr⟩
theorem newCells {l : List AVal} {c : Array Value} {t : TypeId} (hw : WRel P ι s w) (hc : VRels ι l c.toList) (hs : ∀ x ∈ l, x.scalar = true) :
    WRel P (Ren.set ι s.next ⟨w.heap.size, 0, c.size, false⟩) { heap := PT.set s.next (.cells l false) s.heap, next := s.next.succ } { w with heap := w.heap.push (.cells c t) } ∧
      Ext ι w (Ren.set ι s.next ⟨w.heap.size, 0, c.size, false⟩) { w with heap := w.heap.push (.cells c t) } := by
  refine hw.alloc (.cells l false) (.cells c t) ⟨w.heap.size, 0, c.size, false⟩ rfl rfl ?_
  have hl := hc.length
  refine ORel.cells (p := ⟨w.heap.size, 0, c.size, false⟩) (c := c) (t := t) (fr := (0, 0)) (by simp) rfl (by simp [hl]) ?_ hs (fun _ i _ => by simp)
  exact (hc.cellsAt).mono (Ren.le_set hw.next_none)
theorem newCellsK_fine {l : List AVal} {c : Array Value} {t : TypeId} (h : newCellsK l s K = true) (hw : WRel P ι s w) (hc : VRels ι l c.toList) (hs : ∀ x ∈ l, x.scalar = true) :
    FineV P ι w K (.ok (.pointer (some ⟨w.heap.size, 0, none⟩)) { w with heap := w.heap.push (.cells c t) }) := by
  unfold newCellsK at h
  rw [allocK_eq] at h
  obtain ⟨h1, h2⟩ := newCells (t := t) hw hc hs
  exact ⟨_, _, _, _, _, rfl, h2, h1, VRel.ptr (p := ⟨w.heap.size, 0, c.size, false⟩) (off := 0) (Ren.set_same _ _ _), h⟩
theorem opAlloc_fine {t : TypeId} (h : opAlloc P t s K = true) (hw : WRel P ι s w) : FineV P ι w K ((Instr.alloc t true (.tuple #[])).run P w) := by
  obtain ⟨cs, hcs, h⟩ := optK_true.1 h
  unfold zeroCells at hcs
  cases hz : zeroV P t with
  | none => rw [hz] at hcs; cases hcs
  | some a =>
    rw [hz] at hcs; cases hcs
    obtain ⟨v, hv, hr⟩ := run_zeroA (ι := ι) (w := w) hz
    simp only [Instr.alloc, newVar, newRow, Sem.run_bind, hv, Result.andThen_ok, run_newObj, Sem.run_pure]
    exact newCellsK_fine h hw hr.cells (zeroV_scalars hz)
theorem noTup_true {v : AVal} {x : Bool} : noTup v x = true ↔ (∀ l, v ≠ .tup l) ∧ x = true := by cases v <;> simp [noTup]
theorem VRel.cells_scalar {a : AVal} {v : Value} (h : VRel ι a v) (ht : ∀ l, a ≠ .tup l) : ∀ x ∈ a.cells, x.scalar = true := by
  cases h <;> simp_all [AVal.cells, AVal.scalar]
theorem opBox_fine {t : TypeId} {x : Option AVal} {v : Value} (h : opBox x s K = true) (hw : WRel P ι s w) (hx : ORl ι x v) : FineV P ι w K ((Instr.box t v).run P w) := by
  obtain ⟨a, ha, h⟩ := optK_true.1 h
  obtain ⟨ht, h⟩ := noTup_true.1 h
  rw [cellsK_val] at h
  have hr := hx a ha
  simp only [Instr.box, newVar, newRow, Sem.run_bind, run_newObj, Result.andThen_ok, Sem.run_pure]
  exact newCellsK_fine h hw hr.cells (hr.cells_scalar ht)

/-! ### Loads and stores -/
theorem partK_seg {n : Option Nat} {cs : List AVal} {off : Nat} {k : AVal → Bool} (h : partK n cs off k = true) :
    (n = none ∧ ∃ a, cs[off]? = some a ∧ k a = true) ∨ (∃ m, n = some m ∧ off + m ≤ cs.length ∧ k (.agg ((cs.drop off).take m)) = true) := by
  cases n with
  | none => exact .inl ⟨rfl, nthK_true.1 h⟩
  | some m => exact .inr ⟨m, rfl, segK_true.1 h⟩
theorem mem_seg {α : Type} {l : List α} {i n : Nat} {x : α} (h : x ∈ (l.drop i).take n) : x ∈ l := List.mem_of_mem_drop (List.mem_of_mem_take h)
theorem loadSz_some {t : TypeId} {n : Option Nat} (h : loadSz P t = some n) : ∃ d m, P.underlying t = some d ∧ tySize P t = some m ∧ n = if isAggT d then some m else none := by
  unfold loadSz at h
  split at h
  · rename_i d m hd hm; cases h; exact ⟨d, m, hd, hm, rfl⟩
  · cases h
theorem loadVar_fine {t : TypeId} {n : Option Nat} {b : Pos} {off : Nat} {p : Place} {cs : List AVal} {ro : Bool} {k : AVal → Bool} (hn : loadSz P t = some n) (hb : ι b = some p)
    (hc : PT.get b s.heap = some (.cells cs ro)) (hw : WRel P ι s w) (h : partK n cs off k = true) :
    ∃ v a, (loadVar t ⟨p.blk, p.off + off, none⟩).run P w = .ok v w ∧ VRel ι a v ∧ k a = true := by
  obtain ⟨d, m, hd, hm, rfl⟩ := loadSz_some hn
  obtain ⟨o, ho, hr⟩ := hw.objs b p hb
  rw [hc] at ho; cases ho
  simp only [loadVar, Sem.run_bind, run_isAggA hd, Result.andThen_ok]
  cases hg : isAggT d with
  | false =>
    rw [hg] at h
    rcases partK_seg h with ⟨_, a, ha, hk⟩ | ⟨m', hm', _⟩
    · obtain ⟨v, hv, hrv⟩ := hr.cell ha
      refine ⟨v, a, ?_, hrv, hk⟩
      simp [run_load, hv]
    · simp at hm'
  | true =>
    rw [hg] at h
    rcases partK_seg h with ⟨hf, _⟩ | ⟨m', hm', hlen, hk⟩
    · simp at hf
    · simp at hm'; subst hm'
      obtain ⟨vs, hvs, hl, hcell⟩ := seg_vals hr off m hlen
      refine ⟨.agg vs.toArray, _, ?_, VRel.agg (by simpa using hvs) (fun x hx => hr.scalars x (mem_seg hx)), hk⟩
      have := run_loadCells_seg (P := P) hcell
      rw [hl] at this
      simp [run_sizeOfA hm, this]
theorem opLoad_fine {t : TypeId} {x : Option AVal} {v : Value} (h : opLoad P t x s K = true) (hw : WRel P ι s w) (hx : ORl ι x v) : FineV P ι w K ((Instr.loadAt t v).run P w) := by
  obtain ⟨n, hn, h⟩ := optK_true.1 h
  obtain ⟨a, ha, h⟩ := optK_true.1 h
  obtain ⟨b, off, rfl, h⟩ := AVal.ptrK_true.1 h
  obtain ⟨cs, ro, hc, h⟩ := cellsK_true.1 h
  have hr := hx _ ha
  cases hr with
  | ptr hb =>
    obtain ⟨u, a', hu, hru, hk⟩ := loadVar_fine hn hb hc hw h
    simp only [Instr.loadAt, Instr.sureAddr, Sem.run_bind, Sem.run_pure, Result.andThen_ok, hu]
    exact .same hw hru hk

theorem setCell_row {w : World} {g o : Nat} {c : Array Value} {t : TypeId} {fr : Nat × Nat} {v : Value} (h : w.heap[g]? = some (.cells c t fr)) :
    (w.setCell ⟨g, o, none⟩ v).heap[g]? = some (.cells (c.setIfInBounds o v) t fr) := by
  simp [World.setCell, Array.getElem?_modify, h]
theorem setCell_others {w : World} {g o k : Nat} {v : Value} (h : k ≠ g) : (w.setCell ⟨g, o, none⟩ v).heap[k]? = w.heap[k]? := by
  simp [World.setCell, Array.getElem?_modify, h.symm]
theorem storeCells_ok (g o : Nat) (t : TypeId) (fr : Nat × Nat) : ∀ (us : List Value) (i : Nat) (w : World) (c : Array Value), w.heap[g]? = some (.cells c t fr) → (∀ v ∈ us, v.oneCell' = true) →
    o + i + us.length ≤ c.size → (∀ j, j < us.length → ¬ (fr.1 ≤ o + i + j ∧ o + i + j < fr.2)) →
    ∃ w' c', (storeCells ⟨g, o, none⟩ us i).run P w = .ok () w' ∧ w'.heap[g]? = some (.cells c' t fr) ∧ c'.size = c.size ∧
      (∀ j, c'[j]? = if o + i ≤ j ∧ j < o + i + us.length then us[j - (o + i)]? else c[j]?) ∧ w'.heap.size = w.heap.size ∧ (∀ k, k ≠ g → w'.heap[k]? = w.heap[k]?) ∧ w'.os = w.os ∧ w'.output = w.output
  | [], i, w, c, h, _, _, _ => ⟨w, c, rfl, h, rfl, fun j => by rw [if_neg (by simp)], rfl, fun _ _ => rfl, rfl, rfl⟩
  | v :: us, i, w, c, h, h1, hl, hf => by
    have hi : o + i < c.size := by simp at hl; omega
    have hst : (store ((⟨g, o, none⟩ : Addr).add i) v).run P w = .ok () (w.setCell ⟨g, o + i, none⟩ v) := by
      have hz : w.frozen? ⟨g, o + i, none⟩ = false := by
        have := hf 0 (by simp)
        simp only [World.frozen?, h]
        simp at this ⊢
        omega
      rw [add_eq, run_store P w _ v _ (h1 v (by simp))]
      simp [World.cell?, h, hi, hz]
    obtain ⟨w', c', hr, hg, hs, hc, hz, hk, ho, hout⟩ := storeCells_ok g o t fr us (i + 1) (w.setCell ⟨g, o + i, none⟩ v) (c.setIfInBounds (o + i) v) (setCell_row h) (fun x hx => h1 x (by simp [hx]))
      (by simp at hl ⊢; omega) (fun j hj => by have := hf (j + 1) (by simp; omega); omega)
    refine ⟨w', c', by simp only [storeCells, Sem.run_bind, hst, Result.andThen_ok]; exact hr, hg, by simpa using hs, fun j => ?_, by simpa [World.setCell] using hz, fun k hk' => (hk k hk').trans (setCell_others hk'), ho, hout⟩
    rw [hc j]
    simp only [List.length_cons]
    by_cases hj : o + i = j
    · subst hj
      rw [if_neg (by omega), if_pos (by omega)]
      simp [hi]
    · by_cases hj2 : o + (i + 1) ≤ j ∧ j < o + (i + 1) + us.length
      · rw [if_pos hj2, if_pos (by omega), show j - (o + i) = (j - (o + (i + 1))) + 1 by omega]
        simp
      · rw [if_neg hj2, if_neg (by omega), Array.getElem?_setIfInBounds_ne (by omega)]

/-- A row's cells behind a write. -/
theorem row_written {p : Place} {cs vs : List AVal} {us : List Value} {c c' : Array Value} {off : Nat} (hat : CellsAt ι cs p.off c) (hv : VRels ι vs us) (hle : off + vs.length ≤ cs.length)
    (hc : ∀ j, c'[j]? = if p.off + off + 0 ≤ j ∧ j < p.off + off + 0 + us.length then us[j - (p.off + off + 0)]? else c[j]?) : CellsAt ι (cs.take off ++ vs ++ cs.drop (off + vs.length)) p.off c' := by
  intro i a e
  have hul := hv.length
  rw [hc (p.off + i)]
  by_cases h1 : i < off
  · rw [if_neg (by omega)]
    refine hat i a ?_
    rw [List.append_assoc, List.getElem?_append_left (by simp; omega), List.getElem?_take_of_lt h1] at e
    exact e
  · by_cases h2 : i < off + vs.length
    · rw [if_pos (by omega), show p.off + i - (p.off + off + 0) = i - off by omega]
      refine hv.get ?_
      rw [List.getElem?_append_left (by simp; omega), List.getElem?_append_right (by simp; omega)] at e
      simpa [Nat.min_eq_left (by omega : off ≤ cs.length)] using e
    · rw [if_neg (by omega)]
      refine hat i a ?_
      rw [List.getElem?_append_right (by simp; omega)] at e
      simp only [List.length_append, List.length_take, Nat.min_eq_left (by omega : off ≤ cs.length), List.getElem?_drop] at e
      rwa [show off + vs.length + (i - (off + vs.length)) = i by omega] at e
theorem mem_written {cs vs : List AVal} {off : Nat} {x : AVal} (hn : ∀ x ∈ cs, x.scalar = true) (hs : ∀ x ∈ vs, x.scalar = true) (h : x ∈ cs.take off ++ vs ++ cs.drop (off + vs.length)) : x.scalar = true := by
  rcases List.mem_append.1 h with h | h
  · rcases List.mem_append.1 h with h | h
    · exact hn x (List.mem_of_mem_take h)
    · exact hs x h
  · exact hn x (List.mem_of_mem_drop h)
/-- Cells are written. -/
theorem writeK_ok {b : Pos} {p : Place} {off : Nat} {vs : List AVal} {us : List Value} {k : St → Bool} (h : writeK b off vs s k = true) (hb : ι b = some p) (hw : WRel P ι s w) (hv : VRels ι vs us)
    (hs : ∀ x ∈ vs, x.scalar = true) : ∃ s' w', (storeCells ⟨p.blk, p.off + off, none⟩ us).run P w = .ok () w' ∧ WRel P ι s' w' ∧ Ext ι w ι w' ∧ k s' = true := by
  unfold writeK at h
  obtain ⟨cs, ro, hc, h⟩ := cellsK_true.1 h
  obtain ⟨o, ho, hr⟩ := hw.objs b p hb
  rw [hc] at ho; cases ho
  cases hr with
  | cells hcells hsz hlen hat hn hf =>
    rename_i c t fr
    rcases ifK_true.1 h with ⟨_, h⟩ | ⟨hro, h⟩
    · cases h
    · obtain ⟨hle, h⟩ := putAtK_true.1 h
      rw [putK_eq] at h
      have hul := hv.length
      obtain ⟨w', c', hr, hg, hs', hc', hz, hk, ho, hout⟩ := storeCells_ok (P := P) p.blk (p.off + off) t fr us 0 w c hcells (hv.oneCell hs) (by omega) (fun j hj => by
        have := hf hro (p.off + off + 0 + j) (by omega)
        omega)
      obtain ⟨h1, h2⟩ := hw.update (w' := w') (.cells (cs.take off ++ vs ++ cs.drop (off + vs.length)) p.ro) hb hc rfl hro hz hk ho hout
        (.cells hg (by omega) (by simp; omega) (row_written hat hv hle hc') (fun x hx => mem_written hn hs hx) (fun _ i hi => hf hro i (by omega)))
      rw [hro] at h1
      exact ⟨_, w', hr, h1, h2, h⟩
theorem opStore_fine {t : TypeId} {a x : Option AVal} {va vx : Value} (h : opStore P t a x s K = true) (hw : WRel P ι s w) (ha : ORl ι a va) (hx : ORl ι x vx) :
    Fine P ι w K (Sem.run P (do Instr.storeAt t va vx; pure .skip) w) := by
  obtain ⟨n, hn, h⟩ := optK_true.1 h
  obtain ⟨y, hy, h⟩ := optK_true.1 h
  obtain ⟨ht, h⟩ := noTup_true.1 h
  rw [cellsK_val, lenK_eq] at h
  rcases ifK_true.1 h with ⟨hm, h⟩ | ⟨_, h⟩
  · obtain ⟨z, hz, h⟩ := optK_true.1 h
    obtain ⟨b, off, rfl, h⟩ := AVal.ptrK_true.1 h
    have hr := ha _ hz
    cases hr with
    | ptr hb =>
      have hry := hx _ hy
      obtain ⟨s', w', hst, h1, h2, h3⟩ := writeK_ok h hb hw hry.cells (hry.cells_scalar ht)
      have hlen := hry.cells.length
      have hsz : vx.cells.size = n := by
        have := Nat.eq_of_beq_eq_true hm
        simp at this hlen
        omega
      refine ⟨undef, w', ι, s', .tup [], .inr ⟨?_, rfl⟩, h2, h1, .tup .nil, h3⟩
      simp only [Instr.storeAt, Instr.sureAddr, storeVar, Sem.run_bind, Sem.run_pure, Result.andThen_ok, run_sizeOfA hn, hsz, ne_eq, not_true_eq_false, if_false, hst]
  · cases h
theorem opNil_fine {x : Option AVal} {v : Value} (h : opNil x s K = true) (hx : ORl ι x v) : ∃ b o a, v = .pointer (some ⟨b, o, none⟩) ∧ VRel ι a v ∧ K a s = true := by
  obtain ⟨y, hy, h⟩ := optK_true.1 h
  obtain ⟨b, off, rfl, h⟩ := AVal.ptrK_true.1 h
  have hr := hx _ hy
  cases hr with
  | ptr hb => exact ⟨_, _, _, rfl, .ptr hb, h⟩
end
end Go.AM
