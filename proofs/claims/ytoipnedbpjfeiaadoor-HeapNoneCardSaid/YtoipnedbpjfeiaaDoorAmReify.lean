/- A world's blocks of cells, as the abstract machine names them: to be read alone. -/
import Derived.Test.YtoipnedbpjfeiaaDoorAmSymSimp
import Derived.ChangeArms
set_option linter.all false
set_option linter.unusedSectionVars false
set_option linter.unusedSimpArgs false
set_option linter.unusedVariables false
namespace Go.AM
section
variable (w : World) (N : Nat)
def nameOf (b o : Nat) : Pos := posOf (b * N + o)
/-- A value of the model's as the abstract machine's, names given to all places. -/
def convW : Value → Option AVal
  | .bool b => some (.bool b)
  | .int k n => some (.int k n)
  | .string s => some (.str s.data.toList)
  | .pointer none => some .nilPtr
  | .pointer (some ⟨b, o, none⟩) => if b < w.heap.size ∧ o < N then some (.ptr (nameOf N b o) 0) else none
  | .slice none 0 0 => some .nilSlice
  | .slice (some a) len cap => if len = 0 ∧ cap = 0 then some (.slice (posOf 0) 0 0 (.lim 0)) else
    if a.block < w.heap.size ∧ a.off < N ∧ a.spot = none then some (.slice (nameOf N a.block a.off) 0 len (.lim cap)) else none
  | _ => none
def runW : List Value → List AVal
  | [] => []
  | v :: r => match convW w N v with
    | some a => a :: runW r
    | none => []
def objW (m : Nat) : AObj := match w.heap[m / N]? with
  | some (.cells c _ _) => if m % N ≤ c.size then .cells (runW w N (c.toList.drop (m % N))) true else .dead
  | _ => .dead
def sizeW (b : Nat) : Nat := match w.heap[b]? with
  | some (.cells c _ _) => c.size
  | _ => 0
def renW : Ren := fun p => if (p.toNat - 1) / N < w.heap.size then some ⟨(p.toNat - 1) / N, (p.toNat - 1) % N, sizeW w ((p.toNat - 1) / N), true⟩ else none
def ptOf (f : Nat → AObj) : Nat → PT AObj
  | 0 => .leaf
  | n + 1 => PT.set (posOf n) (f n) (ptOf f n)
noncomputable def stW : St := { heap := ptOf (objW w N) (w.heap.size * N), next := posOf (w.heap.size * N) }
end
theorem Pos.eq_posOf (p : Pos) : p = posOf (p.toNat - 1) := Pos.toNat_inj (by have := p.toNat_pos; rw [posOf_toNat]; omega)
theorem ptOf_get (f : Nat → AObj) : ∀ (n m : Nat), PT.get (posOf m) (ptOf f n) = if m < n then some (f m) else none
  | 0, m => by simp [ptOf, PT.get_leaf]
  | n + 1, m => by
    unfold ptOf
    by_cases h : m = n
    · subst h; rw [PT.get_set_same]; simp
    · rw [PT.get_set_ne _ _ _ _ (fun e => h (posOf_inj e)), ptOf_get f n m]
      by_cases h2 : m < n
      · rw [if_pos h2, if_pos (by omega)]
      · rw [if_neg h2, if_neg (by omega)]
section
variable {w : World} {N : Nat}
theorem stW_obj (m : Nat) : (stW w N).obj (posOf m) = if m < w.heap.size * N then some (objW w N m) else none := ptOf_get _ _ _
theorem stW_wf : (stW w N).Wf := by
  intro b hb
  rw [b.eq_posOf, stW_obj, if_neg]
  intro h
  apply hb
  unfold St.Old stW
  rw [posOf_toNat]
  have := b.toNat_pos
  omega
theorem renW_name {b o : Nat} (hb : b < w.heap.size) (ho : o < N) : renW w N (nameOf N b o) = some ⟨b, o, sizeW w b, true⟩ := by
  have h1 : (b * N + o) / N = b := by rw [Nat.mul_comm, Nat.mul_add_div (by omega), Nat.div_eq_of_lt ho]; omega
  have h2 : (b * N + o) % N = o := by rw [Nat.mul_comm, Nat.mul_add_mod]; exact Nat.mod_eq_of_lt ho
  unfold renW nameOf
  rw [posOf_toNat, Nat.add_sub_cancel, h1, h2, if_pos hb]
theorem convW_rel {v : Value} {a : AVal} (h : convW w N v = some a) : VRel (renW w N) a v ∧ a.scalar = true := by
  unfold convW at h
  split at h
  · cases h; exact ⟨.bool _, rfl⟩
  · cases h; exact ⟨.int _ _, rfl⟩
  · cases h
    rename_i s
    exact ⟨by have := VRel.str (ι := renW w N) s.data.toList; simpa using this, rfl⟩
  · cases h; exact ⟨.nilPtr, rfl⟩
  · split at h
    · rename_i hc
      cases h
      exact ⟨by have := VRel.ptr (off := 0) (renW_name (w := w) hc.1 hc.2); simpa using this, rfl⟩
    · cases h
  · cases h; exact ⟨.nilSlice, rfl⟩
  · rename_i ad len cap
    split at h
    · rename_i hz
      cases h
      obtain ⟨rfl, rfl⟩ := hz
      exact ⟨.empty, rfl⟩
    · split at h
      · rename_i hc
        cases h
        obtain ⟨b, o, sp⟩ := ad
        obtain ⟨h1, h2, h3⟩ := hc
        subst h3
        exact ⟨by have := VRel.slice (off := 0) (len := len) (c := cap) (renW_name (w := w) h1 h2); simpa using this, rfl⟩
      · cases h
  · cases h
theorem runW_get : ∀ (l : List Value) (i : Nat) (a : AVal), (runW w N l)[i]? = some a → ∃ v, l[i]? = some v ∧ convW w N v = some a
  | [], i, a, h => by simp [runW] at h
  | v :: r, i, a, h => by
    unfold runW at h
    split at h
    · rename_i b hb
      cases i with
      | zero => simp at h; subst h; exact ⟨v, rfl, hb⟩
      | succ i => simpa using runW_get r i a (by simpa using h)
    · simp at h
theorem runW_len : ∀ (l : List Value), (runW w N l).length ≤ l.length
  | [] => by simp [runW]
  | v :: r => by
    unfold runW
    split
    · simpa using runW_len r
    · simp
theorem runW_of : ∀ (l : List Value) (m : Nat), (∀ k, k < m → ∃ v a, l[k]? = some v ∧ convW w N v = some a) → ∀ (k : Nat) (v : Value), k < m → l[k]? = some v → (runW w N l)[k]? = convW w N v
  | [], m, h, k, v, hk, hv => by simp at hv
  | u :: r, m, h, k, v, hk, hv => by
    obtain ⟨u', a, h1, h2⟩ := h 0 (by omega)
    simp at h1; subst h1
    unfold runW
    rw [h2]
    cases k with
    | zero => simp at hv; subst hv; simpa using h2.symm
    | succ k =>
      simp only [List.getElem?_cons_succ] at hv ⊢
      refine runW_of r (m - 1) (fun k' hk' => ?_) k v (by omega) hv
      obtain ⟨v', a', h3, h4⟩ := h (k' + 1) (by omega)
      exact ⟨v', a', by simpa using h3, h4⟩
theorem wrel_W (P : Program) (hN : 0 < N) : WRel P (renW w N) (stW w N) w := by
  have hpos : ∀ p q, renW w N p = some q → 0 < N → (p.toNat - 1) < w.heap.size * N := by
    intro p q h hN
    unfold renW at h
    split at h
    · rename_i hlt
      have := Nat.div_lt_iff_lt_mul (x := p.toNat - 1) (y := w.heap.size) hN
      exact this.1 hlt
    · cases h
  · refine ⟨fun p q e => ?_, fun b b' p p' o o' e e' g g' _ _ _ => .inr ?_, fun p q e => ?_, fun p q e => ?_⟩
    · have hlt := hpos p q e hN
      unfold renW at e
      split at e
      · cases e
        refine ⟨objW w N (p.toNat - 1), ?_, ?_⟩
        · have := stW_obj (w := w) (N := N) (p.toNat - 1)
          rw [if_pos hlt, ← Pos.eq_posOf] at this
          exact this
        · unfold objW
          split
          · rename_i c t fr hc
            split
            · rename_i hle
              refine ORel.cells (p := ⟨(p.toNat - 1) / N, (p.toNat - 1) % N, sizeW w ((p.toNat - 1) / N), true⟩) (c := c) (t := t) (fr := fr) hc (by simp [sizeW, hc]) ?_ ?_ ?_ (fun h => by cases h)
              · have := runW_len (w := w) (N := N) (c.toList.drop ((p.toNat - 1) % N))
                simp at this ⊢
                omega
              · intro i a hi
                obtain ⟨v, h1, h2⟩ := runW_get _ _ _ hi
                refine ⟨v, ?_, (convW_rel h2).1⟩
                simpa using h1
              · intro x hx
                obtain ⟨i, hi⟩ := List.getElem?_of_mem hx
                obtain ⟨v, _, h2⟩ := runW_get _ _ _ hi
                exact (convW_rel h2).2
            · exact .dead
          · exact .dead
      · cases e
    · constructor
      · unfold renW at e; split at e <;> cases e; rfl
      · unfold renW at e'; split at e' <;> cases e'; rfl
    · have hlt := hpos p q e hN
      unfold stW
      rw [posOf_toNat]
      omega
    · unfold renW at e
      split at e
      · rename_i h; cases e; exact h
      · cases e
variable {H : Type} {enc : TypeId × Value → H} {P : Program} {sp : Nat → Bool} {held : Bool}
/-- Every offset of a block is below the bound. -/
def Big (w : World) (N : Nat) : Prop := 0 < N ∧ ∀ b, sizeW w b < N
theorem big_ex (w : World) : ∃ N, Big w N := by
  have h : ∀ n, ∃ N, 0 < N ∧ ∀ b, b < n → sizeW w b < N := by
    intro n
    induction n with
    | zero => exact ⟨1, by omega, fun b hb => by omega⟩
    | succ n ih =>
      obtain ⟨N, h1, h2⟩ := ih
      refine ⟨N + sizeW w n + 1, by omega, fun b hb => ?_⟩
      by_cases e : b = n
      · subst e; omega
      · have := h2 b (by omega); omega
  obtain ⟨N, h1, h2⟩ := h w.heap.size
  refine ⟨N, h1, fun b => ?_⟩
  by_cases hb : b < w.heap.size
  · exact h2 b hb
  · unfold sizeW
    rw [Array.getElem?_eq_none (by omega)]
    exact h1
/-- A slice that reads, as the abstract machine has it: its elements' cells. -/
inductive SliceW (P : Program) (enc : TypeId × Value → H) (w : World) (sp : Nat → Bool) (held : Bool) (N : Nat) (e : TypeId) : Value → AVal → List (DataW H × List MemPlace) → Prop where
  | nil : SliceW P enc w sp held N e (.slice none 0 0) .nilSlice []
  | empty {a : Addr} : SliceW P enc w sp held N e (.slice (some a) 0 0) (.slice (posOf 0) 0 0 (.lim 0)) []
  | row {b o len cap n : Nat} {elems : List (DataW H × List MemPlace)} {cs : List AVal} (hb : b < w.heap.size) (ho : o < N) (hcells : (stW w N).cells (nameOf N b o) = some cs) (hlen : elems.length = len) (hc0 : 0 < cap) (hcap : len ≤ cap) (hmax : cap ≤ maxLen)
      (hcs : len * P.cellsOf e ≤ cs.length)
      (hel : ∀ i, i < len → ∃ vs x l, DataW.trod enc P w 0 sp held n e vs = some x ∧ elems[i]? = some x ∧ vs.mapM (convW w N) = some l ∧ (cs.drop (i * P.cellsOf e)).take (P.cellsOf e) = l) :
      SliceW P enc w sp held N e (.slice (some ⟨b, o, none⟩) len cap) (.slice (nameOf N b o) 0 len (.lim cap)) elems
theorem SliceW.conv {e : TypeId} {v : Value} {a : AVal} {elems : List (DataW H × List MemPlace)} (h : SliceW P enc w sp held N e v a elems) : convW w N v = some a := by
  cases h with
  | nil => rfl
  | empty => simp [convW]
  | row hb ho hcells hlen hc0 hcap hmax hcs hel =>
    have hz : ∀ len : Nat, ∀ cap : Nat, 0 < cap → ¬ (len = 0 ∧ cap = 0) := by omega
    simp only [convW]
    rw [if_neg (hz _ _ hc0), if_pos ⟨hb, ho, trivial⟩]
theorem cell_of {w : World} {b o : Nat} {s : Option Nat} {v : Value} (h : w.cell? ⟨b, o, s⟩ = some v) : s = none ∧ ∃ c t fr, w.heap[b]? = some (.cells c t fr) ∧ c[o]? = some v := by
  unfold World.cell? at h
  split at h
  · rename_i c t fr hc
    cases s with
    | some k => simp at h
    | none => exact ⟨rfl, c, t, fr, hc, by simpa using h⟩
  · cases h
theorem cells_get {w : World} {base : Nat} {a : Addr} {n : Nat} {l : List Value} (h : w.cells? base a n = some l) : l.length = n ∧ ∀ j, j < n → w.cell? (a.add j) = l[j]? := by
  unfold World.cells? at h
  split at h
  · refine ⟨by simpa using mapM_some_length h, fun j hj => ?_⟩
    exact mapM_some_get h j j (by simp [hj])
  · cases h
theorem stW_cells {b o : Nat} {c : Array Value} {t : TypeId} {fr : Nat × Nat} (hb : b < w.heap.size) (ho : o < N) (hc : w.heap[b]? = some (.cells c t fr)) (hle : o ≤ c.size) :
    (stW w N).cells (nameOf N b o) = some (runW w N (c.toList.drop o)) := by
  have h1 : (b * N + o) / N = b := by rw [Nat.mul_comm, Nat.mul_add_div (by omega), Nat.div_eq_of_lt ho]; omega
  have h2 : (b * N + o) % N = o := by rw [Nat.mul_comm, Nat.mul_add_mod]; exact Nat.mod_eq_of_lt ho
  have hlt : b * N + o < w.heap.size * N := by
    have : (b + 1) * N ≤ w.heap.size * N := Nat.mul_le_mul_right N hb
    rw [Nat.add_mul] at this
    omega
  unfold St.cells nameOf
  rw [stW_obj, if_pos hlt]
  unfold objW
  rw [h1, h2, hc]
  simp [hle]
theorem add_parts (a : Addr) (n m : Nat) (h : a.spot = none) : (a.add n).add m = ⟨a.block, a.off + n + m, none⟩ := by
  obtain ⟨b, o, s⟩ := a
  simp only at h
  subst h
  rw [add_eq, add_eq]
theorem slice_reads {t e : TypeId} {fuel : Nat} {vs : List Value} {x : DataW H × List MemPlace} (hN : Big w N) (ht : P.underlying t = some (.slice e)) (he : 0 < P.cellsOf e)
    (hconv : ∀ n vs x, DataW.trod enc P w 0 (fun _ => true) held n e vs = some x → ∃ l, vs.mapM (convW w N) = some l) (h : DataW.trod enc P w 0 (fun _ => true) held fuel t vs = some x) :
    ∃ v a elems, vs = [v] ∧ SliceW P enc w (fun _ => true) held N e v a elems := by
  rcases DataW.trod_slice ht h with ⟨rfl, rfl⟩ | ⟨ad, len, cap, elems, rest, n, rfl, rfl, _, _, hlc, hcm, hel, hread, hrest, _⟩
  · exact ⟨_, _, _, rfl, .nil⟩
  · by_cases hz : cap = 0
    · obtain rfl : len = 0 := by omega
      subst hz
      exact ⟨_, _, _, rfl, .empty⟩
    · -- one place of the row is read
      have hone : ∃ k l, w.cells? 0 (ad.add (k * P.cellsOf e)) (P.cellsOf e) = some l ∧ k = 0 := by
        by_cases hl : 0 < len
        · have h0 := hread 0 hl
          cases hcs : w.cells? 0 (ad.add (0 * P.cellsOf e)) (P.cellsOf e) with
          | none =>
            rw [hcs] at h0
            have : elems[0]? = none := h0.symm
            rw [List.getElem?_eq_none_iff] at this
            omega
          | some l => exact ⟨0, l, hcs, rfl⟩
        · obtain ⟨hr1, hr2⟩ := hrest rfl
          have h0 := hr2 0 (by omega)
          have hz0 : (len + 0) = 0 := by omega
          rw [hz0] at h0
          cases hcs : w.cells? 0 (ad.add (0 * P.cellsOf e)) (P.cellsOf e) with
          | none =>
            rw [hcs] at h0
            have : rest[0]? = none := h0.symm
            rw [List.getElem?_eq_none_iff] at this
            omega
          | some l => exact ⟨0, l, hcs, rfl⟩
      obtain ⟨k, l0, hl0, rfl⟩ := hone
      obtain ⟨hll, hg⟩ := cells_get hl0
      have hg0 := hg 0 he
      rw [List.getElem?_eq_getElem (by omega)] at hg0
      have hz0 : (ad.add (0 * P.cellsOf e)).add 0 = ad := by simp [Addr.add]
      rw [hz0] at hg0
      obtain ⟨b, o, s⟩ := ad
      obtain ⟨rfl, c, tt, fr, hc, hco⟩ := cell_of hg0
      have hb : b < w.heap.size := (Array.getElem?_eq_some_iff.1 hc).1
      have hoc : o < c.size := (Array.getElem?_eq_some_iff.1 hco).1
      have hoN : o < N := by
        have := hN.2 b
        unfold sizeW at this
        rw [hc] at this
        simp only at this
        omega
      have hcells := stW_cells hb hoN hc (Nat.le_of_lt hoc)
      -- the rows
      have hrow : ∀ i, i < len → ∃ vs x l, DataW.trod enc P w 0 (fun _ => true) held n e vs = some x ∧ elems[i]? = some x ∧ vs.mapM (convW w N) = some l ∧ vs.length = P.cellsOf e ∧ ∀ j, j < P.cellsOf e → c[o + i * P.cellsOf e + j]? = vs[j]? := by
        intro i hi
        have h1 := hread i hi
        rw [List.getElem?_eq_getElem (by omega)] at h1
        obtain ⟨vs, h2, h3⟩ := Option.bind_eq_some_iff.1 h1
        obtain ⟨l, hl⟩ := hconv n vs _ h3
        obtain ⟨h4, h5⟩ := cells_get h2
        refine ⟨vs, _, l, h3, List.getElem?_eq_getElem (by omega), hl, h4, fun j hj => ?_⟩
        have h6 := h5 j hj
        rw [add_parts _ _ _ rfl] at h6
        rw [List.getElem?_eq_getElem (by omega)] at h6 ⊢
        obtain ⟨_, c', _, _, hc', h7⟩ := cell_of h6
        rw [hc] at hc'
        cases hc'
        exact h7
      have hall : ∀ k, k < len * P.cellsOf e → ∃ v a, (c.toList.drop o)[k]? = some v ∧ convW w N v = some a := by
        intro k hk
        have hi : k / P.cellsOf e < len := (Nat.div_lt_iff_lt_mul he).2 hk
        have hj : k % P.cellsOf e < P.cellsOf e := Nat.mod_lt _ he
        obtain ⟨vs, x, l, _, _, hm, hvl, hcj⟩ := hrow _ hi
        have hk2 : k / P.cellsOf e * P.cellsOf e + k % P.cellsOf e = k := by rw [Nat.mul_comm]; exact Nat.div_add_mod _ _
        have h1 := hcj _ hj
        rw [Nat.add_assoc, hk2, List.getElem?_eq_getElem (by omega)] at h1
        refine ⟨_, l[k % P.cellsOf e]'(by rw [mapM_some_length hm]; omega), by simpa using h1, ?_⟩
        · have := mapM_some_get hm (k % P.cellsOf e) _ (List.getElem?_eq_getElem (by omega))
          rw [this, List.getElem?_eq_getElem (by rw [mapM_some_length hm]; omega)]
      have hget := runW_of (w := w) (N := N) (c.toList.drop o) (len * P.cellsOf e) hall
      have hlen : len * P.cellsOf e ≤ (runW w N (c.toList.drop o)).length := by
        rcases Nat.lt_or_ge (runW w N (c.toList.drop o)).length (len * P.cellsOf e) with hlt | hge
        · obtain ⟨v, a, h1, h2⟩ := hall _ hlt
          have h3 := hget _ v hlt h1
          rw [h2, List.getElem?_eq_none (Nat.le_refl _)] at h3
          cases h3
        · exact hge
      refine ⟨_, _, elems, rfl, .row (n := n) hb hoN hcells hel (by omega) hlc hcm hlen fun i hi => ?_⟩
      obtain ⟨vs, x, l, h1, h2, h3, h4, h5⟩ := hrow i hi
      refine ⟨vs, x, l, h1, h2, h3, ?_⟩
      have hll2 := mapM_some_length h3
      refine List.ext_getElem? fun j => ?_
      by_cases hj : j < P.cellsOf e
      · rw [List.getElem?_take_of_lt hj, List.getElem?_drop]
        have hlt : i * P.cellsOf e + j < len * P.cellsOf e := by
          have : (i + 1) * P.cellsOf e ≤ len * P.cellsOf e := Nat.mul_le_mul_right _ hi
          rw [Nat.add_mul] at this
          omega
        have h6 := h5 j hj
        rw [List.getElem?_eq_getElem (by omega)] at h6
        rw [hget _ vs[j] hlt (by rw [List.getElem?_drop, ← Nat.add_assoc]; simpa using h6)]
        exact mapM_some_get h3 j _ (List.getElem?_eq_getElem (by omega))
      · rw [List.getElem?_eq_none (by simp; omega), List.getElem?_eq_none (by omega)]
end
end Go.AM
