/- The abstract machine's states against the model's worlds: positions and maps, renamings of blocks, values, objects, frames; and what a step leaves alone. -/
import Derived.Test.YtoipnedbpjfeiaaDoorAmComp
import Derived.Laws.Sem
import Derived.Laws.World
import Derived.WalkKit
set_option linter.all false
set_option linter.unusedSectionVars false
set_option linter.unusedSimpArgs false
set_option linter.unusedVariables false
namespace Go.AM

/-! ### Positions -/
theorem Pos.toNat_pos (p : Pos) : 0 < p.toNat := by
  induction p <;> simp [Pos.toNat] <;> omega
theorem Pos.toNat_inj : ∀ {p q : Pos}, p.toNat = q.toNat → p = q
  | .h, .h, _ => rfl
  | .h, .o q, e => by simp [Pos.toNat] at e; omega
  | .h, .i q, e => by have := q.toNat_pos; simp [Pos.toNat] at e; omega
  | .o p, .h, e => by simp [Pos.toNat] at e; omega
  | .o p, .o q, e => by simp [Pos.toNat] at e; exact congrArg Pos.o (Pos.toNat_inj (by omega))
  | .o p, .i q, e => by simp [Pos.toNat] at e; omega
  | .i p, .h, e => by have := p.toNat_pos; simp [Pos.toNat] at e; omega
  | .i p, .o q, e => by simp [Pos.toNat] at e; omega
  | .i p, .i q, e => by simp [Pos.toNat] at e; exact congrArg Pos.i (Pos.toNat_inj (by omega))
theorem Pos.succ_toNat (p : Pos) : p.succ.toNat = p.toNat + 1 := by
  induction p <;> simp [Pos.succ, Pos.toNat] <;> omega
theorem succK_eq (p : Pos) : ∀ K, succK p K = K p.succ := by
  induction p with
  | h => intro K; rfl
  | o p _ => intro K; rfl
  | i p ih => intro K; exact ih _
theorem posF_toNat : ∀ f m, 1 ≤ m → m ≤ f → (posF f m).toNat = m
  | 0, m, h1, h2 => by omega
  | f + 1, m, h1, h2 => by
    unfold posF
    split
    · simp [Pos.toNat]; omega
    · split
      · simp only [Pos.toNat]; rw [posF_toNat f (m / 2) (by omega) (by omega)]; omega
      · simp only [Pos.toNat]; rw [posF_toNat f (m / 2) (by omega) (by omega)]; omega
theorem posOf_toNat (n : Nat) : (posOf n).toNat = n + 1 := posF_toNat _ _ (by omega) (by omega)
theorem posOf_inj {m n : Nat} (h : posOf m = posOf n) : m = n := by
  have := congrArg Pos.toNat h
  rw [posOf_toNat, posOf_toNat] at this
  omega

/-! ### Maps -/
theorem PT.get_leaf {α : Type} (k : Pos) : PT.get k (.leaf : PT α) = none := by cases k <;> rfl
theorem PT.setK_eq {α : Type} (k : Pos) (x : α) : ∀ (t : PT α) K, PT.setK k x t K = K (PT.set k x t) := by
  induction k with
  | h => intro t K; cases t <;> rfl
  | o k ih => intro t K; cases t with
    | leaf => exact ih .leaf _
    | node l v r => exact ih l _
  | i k ih => intro t K; cases t with
    | leaf => exact ih .leaf _
    | node l v r => exact ih r _
theorem PT.get_set_same {α : Type} (k : Pos) (x : α) : ∀ t : PT α, PT.get k (PT.set k x t) = some x := by
  induction k with
  | h => intro t; cases t <;> rfl
  | o k ih => intro t; cases t with
    | leaf => exact ih .leaf
    | node l v r => exact ih l
  | i k ih => intro t; cases t with
    | leaf => exact ih .leaf
    | node l v r => exact ih r
theorem PT.get_set_ne {α : Type} (k : Pos) (x : α) : ∀ (j : Pos) (t : PT α), j ≠ k → PT.get j (PT.set k x t) = PT.get j t := by
  induction k with
  | h => intro j t hj; cases j with
    | h => exact absurd rfl hj
    | o j => cases t <;> first | rfl | exact PT.get_leaf j
    | i j => cases t <;> first | rfl | exact PT.get_leaf j
  | o k ih => intro j t hj; cases j with
    | h => cases t <;> rfl
    | o j => cases t with
      | leaf => exact (ih j .leaf (fun e => hj (e ▸ rfl))).trans (PT.get_leaf j)
      | node l v r => exact ih j l (fun e => hj (e ▸ rfl))
    | i j => cases t <;> first | rfl | exact PT.get_leaf j
  | i k ih => intro j t hj; cases j with
    | h => cases t <;> rfl
    | o j => cases t <;> first | rfl | exact PT.get_leaf j
    | i j => cases t with
      | leaf => exact (ih j .leaf (fun e => hj (e ▸ rfl))).trans (PT.get_leaf j)
      | node l v r => exact ih j r (fun e => hj (e ▸ rfl))

/-! ### Renamings and values -/
/-- Where a block of the abstract machine lies: the model's block, from which cell on; how many cells that block has; may it be read alone? -/
structure Place where
  blk : Nat
  off : Nat
  size : Nat
  ro : Bool
abbrev Ren := Pos → Option Place

mutual
/-- A value of the abstract machine and the model's. -/
inductive VRel (ι : Ren) : AVal → Value → Prop where
  | bool (b : Bool) : VRel ι (.bool b) (.bool b)
  | int (k : IntKind) (n : Int) : VRel ι (.int k n) (.int k n)
  | str (l : List UInt8) : VRel ι (.str l) (.string ⟨l.toArray⟩)
  | ptr {b : Pos} {p : Place} {off : Nat} (h : ι b = some p) : VRel ι (.ptr b off) (.pointer (some ⟨p.blk, p.off + off, none⟩))
  | nilPtr : VRel ι .nilPtr (.pointer none)
  | slice {b : Pos} {p : Place} {off len c : Nat} (h : ι b = some p) : VRel ι (.slice b off len (.lim c)) (.slice (some ⟨p.blk, p.off + off, none⟩) len c)
  | opn {b : Pos} {p : Place} {off len c o es : Nat} (h : ι b = some p) (he : 0 < es) (hc : len ≤ c) (hb : c = 0 ∨ o + c * es = p.size) (ha : 0 < len → o = p.off + off) :
      VRel ι (.slice b off len (.opn es)) (.slice (some ⟨p.blk, o, none⟩) len c)
  | empty {b : Pos} {off : Nat} {a : Addr} : VRel ι (.slice b off 0 (.lim 0)) (.slice (some a) 0 0)
  | nilSlice : VRel ι .nilSlice (.slice none 0 0)
  | map {b : Pos} {p : Place} (h : ι b = some p) : VRel ι (.map b) (.map (some p.blk))
  | nilMap : VRel ι .nilMap (.map none)
  | fn {f : Nat} {a c : List AVal} {a' c' : Array Value} (ha : VRels ι a a'.toList) (hc : VRels ι c c'.toList) : VRel ι (.fn f a c) (.func (.func f) a' c')
  | yld {l : Pos} {p : Place} (h : ι l = some p) : VRel ι (.yld l) (.func (.yield p.blk) #[] #[])
  | nilFn : VRel ι .nilFn .nilFunc
  | iface {t : Nat} {v : AVal} {v' : Value} (h : VRel ι v v') : VRel ι (.iface t v) (.iface t v')
  | nilIface : VRel ι .nilIface .nilIface
  | agg {l : List AVal} {c : Array Value} (h : VRels ι l c.toList) (hs : ∀ x ∈ l, x.scalar = true) : VRel ι (.agg l) (.agg c)
  | tup {l : List AVal} {c : Array Value} (h : VRels ι l c.toList) : VRel ι (.tup l) (.tuple c)
inductive VRels (ι : Ren) : List AVal → List Value → Prop where
  | nil : VRels ι [] []
  | cons {a : AVal} {v : Value} {l : List AVal} {m : List Value} (h : VRel ι a v) (t : VRels ι l m) : VRels ι (a :: l) (v :: m)
end

/-- A renaming that knows more. -/
def Ren.le (ι ι' : Ren) : Prop := ∀ b p, ι b = some p → ι' b = some p
theorem Ren.le_refl (ι : Ren) : Ren.le ι ι := fun _ _ h => h
theorem Ren.le_trans {ι ι' ι'' : Ren} (h : Ren.le ι ι') (h' : Ren.le ι' ι'') : Ren.le ι ι'' := fun b p e => h' b p (h b p e)

mutual
theorem VRel.mono {ι ι' : Ren} (hl : Ren.le ι ι') {a : AVal} {v : Value} (h : VRel ι a v) : VRel ι' a v := by
  cases h with
  | bool b => exact .bool b
  | int k n => exact .int k n
  | str l => exact .str l
  | ptr h => exact .ptr (hl _ _ h)
  | nilPtr => exact .nilPtr
  | slice h => exact .slice (hl _ _ h)
  | opn h he hc hb ha => exact .opn (hl _ _ h) he hc hb ha
  | nilSlice => exact .nilSlice
  | empty => exact .empty
  | map h => exact .map (hl _ _ h)
  | nilMap => exact .nilMap
  | fn ha hc => exact .fn (VRels.mono hl ha) (VRels.mono hl hc)
  | yld h => exact .yld (hl _ _ h)
  | nilFn => exact .nilFn
  | iface h => exact .iface (VRel.mono hl h)
  | nilIface => exact .nilIface
  | agg h hs => exact .agg (VRels.mono hl h) hs
  | tup h => exact .tup (VRels.mono hl h)
theorem VRels.mono {ι ι' : Ren} (hl : Ren.le ι ι') {l : List AVal} {m : List Value} (h : VRels ι l m) : VRels ι' l m := by
  cases h with
  | nil => exact .nil
  | cons h t => exact .cons (VRel.mono hl h) (VRels.mono hl t)
end

theorem VRels.length {ι : Ren} {l : List AVal} {m : List Value} (h : VRels ι l m) : l.length = m.length := by
  induction l generalizing m with
  | nil => cases h; rfl
  | cons a l ih => cases h with | cons h t => simp [ih t]
theorem VRels.get {ι : Ren} : ∀ {l : List AVal} {m : List Value}, VRels ι l m → ∀ {i : Nat} {a : AVal}, l[i]? = some a → ∃ v, m[i]? = some v ∧ VRel ι a v
  | _, _, .cons h t, 0, a, e => by simp at e; exact ⟨_, rfl, e ▸ h⟩
  | _, _, .cons h t, i + 1, a, e => by simp at e; obtain ⟨v, hv, hr⟩ := VRels.get t e; exact ⟨v, by simpa using hv, hr⟩
theorem VRels.of_get {ι : Ren} : ∀ {l : List AVal} {m : List Value}, l.length = m.length → (∀ (i : Nat) (a : AVal), l[i]? = some a → ∃ v, m[i]? = some v ∧ VRel ι a v) → VRels ι l m
  | [], [], _, _ => .nil
  | a :: l, v :: m, hl, h => by
    obtain ⟨w, hw, hr⟩ := h 0 a rfl
    simp at hw
    refine .cons (hw ▸ hr) (VRels.of_get (by simpa using hl) fun i b e => ?_)
    obtain ⟨u, hu, hr'⟩ := h (i + 1) b (by simpa using e)
    exact ⟨u, by simpa using hu, hr'⟩
theorem VRels.append {ι : Ren} {l l' : List AVal} {m m' : List Value} (h : VRels ι l m) (h' : VRels ι l' m') : VRels ι (l ++ l') (m ++ m') := by
  induction l generalizing m with
  | nil => cases h; exact h'
  | cons a l ih => cases h with | cons h t => exact .cons h (ih t)
theorem VRels.drop {ι : Ren} {l : List AVal} {m : List Value} (h : VRels ι l m) (n : Nat) : VRels ι (l.drop n) (m.drop n) := by
  induction n generalizing l m with
  | zero => simpa using h
  | succ n ih => cases h with
    | nil => simpa using VRels.nil
    | cons h t => simpa using ih t
theorem VRels.take {ι : Ren} {l : List AVal} {m : List Value} (h : VRels ι l m) (n : Nat) : VRels ι (l.take n) (m.take n) := by
  induction n generalizing l m with
  | zero => simpa using VRels.nil
  | succ n ih => cases h with
    | nil => simpa using VRels.nil
    | cons h t => simpa using VRels.cons h (ih t)

/-- A scalar's value is no aggregate and no tuple. -/
theorem VRel.oneCell {ι : Ren} {a : AVal} {v : Value} (h : VRel ι a v) (hs : a.scalar = true) : v.oneCell' = true := by
  cases h <;> simp [AVal.scalar] at hs <;> rfl
theorem VRels.oneCell {ι : Ren} {l : List AVal} {m : List Value} (h : VRels ι l m) (hs : ∀ x ∈ l, x.scalar = true) : ∀ v ∈ m, v.oneCell' = true := by
  induction l generalizing m with
  | nil => cases h; simp
  | cons a l ih => cases h with
    | cons h t =>
      intro v hv
      rcases List.mem_cons.1 hv with rfl | hv
      · exact h.oneCell (hs _ (by simp))
      · exact ih t (fun x hx => hs x (by simp [hx])) v hv
/-- A value's cells. -/
theorem VRel.cells {ι : Ren} {a : AVal} {v : Value} (h : VRel ι a v) : VRels ι a.cells v.cells.toList := by
  cases h with
  | agg h hs => exact h
  | bool b => exact .cons (.bool b) .nil
  | int k n => exact .cons (.int k n) .nil
  | str l => exact .cons (.str l) .nil
  | ptr h => exact .cons (.ptr h) .nil
  | nilPtr => exact .cons .nilPtr .nil
  | slice h => exact .cons (.slice h) .nil
  | opn h he hc hb ha => exact .cons (.opn h he hc hb ha) .nil
  | nilSlice => exact .cons .nilSlice .nil
  | empty => exact .cons .empty .nil
  | map h => exact .cons (.map h) .nil
  | nilMap => exact .cons .nilMap .nil
  | fn ha hc => exact .cons (.fn ha hc) .nil
  | yld h => exact .cons (.yld h) .nil
  | nilFn => exact .cons .nilFn .nil
  | iface h => exact .cons (.iface h) .nil
  | nilIface => exact .cons .nilIface .nil
  | tup h => exact .cons (.tup h) .nil

/-! ### Objects, states and worlds -/
/-- The cells of a row, from one on. -/
def CellsAt (ι : Ren) (cs : List AVal) (off : Nat) (c : Array Value) : Prop := ∀ (i : Nat) (a : AVal), cs[i]? = some a → ∃ v, c[off + i]? = some v ∧ VRel ι a v
inductive ERel (ι : Ren) : MapE → MapEntry → Prop where
  | mk {e : MapE} {e' : MapEntry} (hk : VRel ι e.key e'.key) (hv : VRel ι e.val e'.val) (hb : e.born = e'.born) : ERel ι e e'
/-- A frame's temporaries, as far as they are known. -/
structure TRel (ι : Ren) (n : Nat) (ps : List Tmp) (tm : PT AVal) (tmps : Array Value) : Prop where
  size : n ≤ tmps.size
  get : ∀ t a, PT.get (posOf t) tm = some a → t ∈ ps ∧ ∃ v, tmps[t]? = some v ∧ VRel ι a v
structure LRel (P : Program) (ι : Ren) (l : LoopR) (L : Loop) : Prop where
  state : L.state = l.state
  pending : L.pending = l.pending
  params : L.params = l.params.toArray
  tm : ∃ fi, funInfo P l.fn = some fi ∧ TRel ι fi.ntmps fi.ps l.tm L.tmps ∧ l.assign = compile P fi.ps fi.ntmps L.assign ∧ l.body = compile P fi.ps fi.ntmps L.body
inductive ORel (P : Program) (ι : Ren) (w : World) (p : Place) : AObj → Prop where
  | cells {cs : List AVal} {c : Array Value} {t : TypeId} {fr : Nat × Nat} (h : w.heap[p.blk]? = some (.cells c t fr)) (hs : c.size = p.size) (hl : p.off + cs.length ≤ c.size)
      (hc : CellsAt ι cs p.off c) (hn : ∀ x ∈ cs, x.scalar = true) (hf : p.ro = false → ∀ i, i < c.size → ¬ (fr.1 ≤ i ∧ i < fr.2)) : ORel P ι w p (.cells cs p.ro)
  | map {es : List MapE} {es' : Array MapEntry} {clock : Nat} (h : w.heap[p.blk]? = some (.map es' clock)) (hl : es.length = es'.size) (he : ∀ (i : Nat) (e : MapE), es[i]? = some e → ∃ e', es'[i]? = some e' ∧ ERel ι e e')
      (hr : p.ro = false) : ORel P ι w p (.map es clock)
  | loop {l : LoopR} {L : Loop} (h : w.heap[p.blk]? = some (.loop L)) (hL : LRel P ι l L) (hr : p.ro = false) : ORel P ι w p (.loop l)
  | dead : ORel P ι w p .dead

def AObj.live : AObj → Bool
  | .dead => false
  | _ => true
structure WRel (P : Program) (ι : Ren) (s : St) (w : World) : Prop where
  objs : ∀ b p, ι b = some p → ∃ o, PT.get b s.heap = some o ∧ ORel P ι w p o
  apart : ∀ b b' p p' o o', ι b = some p → ι b' = some p' → PT.get b s.heap = some o → PT.get b' s.heap = some o' → o.live = true → o'.live = true → p.blk = p'.blk → b = b' ∨ (p.ro = true ∧ p'.ro = true)
  fresh : ∀ b p, ι b = some p → b.toNat < s.next.toNat
  bound : ∀ b p, ι b = some p → p.blk < w.heap.size

/-- What a step leaves alone: all blocks that no name of the abstract machine's leads to, or that may be read alone. -/
structure Ext (ι : Ren) (w : World) (ι' : Ren) (w' : World) : Prop where
  le : Ren.le ι ι'
  size : w.heap.size ≤ w'.heap.size
  new : ∀ b p, ι' b = some p → ι b = some p ∨ w.heap.size ≤ p.blk ∨ (p.ro = false ∧ ∃ b0 p0, ι b0 = some p0 ∧ p0.ro = false ∧ p0.blk = p.blk)
  keep : ∀ i, i < w.heap.size → (∀ b p, ι b = some p → p.ro = false → p.blk ≠ i) → w'.heap[i]? = w.heap[i]?
  os : w'.os = w.os
  out : w'.output = w.output
theorem Ext.refl (ι : Ren) (w : World) : Ext ι w ι w := ⟨Ren.le_refl ι, Nat.le_refl _, fun _ _ h => .inl h, fun _ _ _ => rfl, rfl, rfl⟩
theorem Ext.trans {ι ι' ι'' : Ren} {w w' w'' : World} (h : Ext ι w ι' w') (h' : Ext ι' w' ι'' w'') : Ext ι w ι'' w'' where
  le := Ren.le_trans h.le h'.le
  size := Nat.le_trans h.size h'.size
  new := by
    intro b p e
    rcases h'.new b p e with e' | e' | ⟨hr, b0, p0, e0, hr0, hb0⟩
    · exact h.new b p e'
    · exact .inr (.inl (Nat.le_trans h.size e'))
    · rcases h.new b0 p0 e0 with e1 | e1 | ⟨_, b1, p1, e1, hr1, hb1⟩
      · exact .inr (.inr ⟨hr, b0, p0, e1, hr0, hb0⟩)
      · exact .inr (.inl (hb0 ▸ e1))
      · exact .inr (.inr ⟨hr, b1, p1, e1, hr1, hb1.trans hb0⟩)
  keep := by
    intro i hi hn
    rw [h'.keep i (Nat.lt_of_lt_of_le hi h.size) ?_, h.keep i hi hn]
    intro b p e hr
    rcases h.new b p e with e' | e' | ⟨_, b0, p0, e0, hr0, hb0⟩
    · exact hn b p e' hr
    · omega
    · exact hb0 ▸ hn b0 p0 e0 hr0
  os := h'.os.trans h.os
  out := h'.out.trans h.out
/-- Only the count of draws has turned. -/
theorem Ext.drawn (ι : Ren) (w : World) (n : Nat) : Ext ι w ι { w with drawn := n } := ⟨Ren.le_refl ι, Nat.le_refl _, fun _ _ h => .inl h, fun _ _ _ => rfl, rfl, rfl⟩

theorem CellsAt.mono {ι ι' : Ren} (hl : Ren.le ι ι') {cs : List AVal} {off : Nat} {c : Array Value} (h : CellsAt ι cs off c) : CellsAt ι' cs off c :=
  fun i a e => let ⟨v, hv, hr⟩ := h i a e; ⟨v, hv, hr.mono hl⟩
theorem TRel.mono {ι ι' : Ren} (hl : Ren.le ι ι') {n : Nat} {ps : List Tmp} {tm : PT AVal} {tmps : Array Value} (h : TRel ι n ps tm tmps) : TRel ι' n ps tm tmps :=
  ⟨h.size, fun t a e => let ⟨hm, v, hv, hr⟩ := h.get t a e; ⟨hm, v, hv, hr.mono hl⟩⟩
theorem LRel.mono {P : Program} {ι ι' : Ren} (hl : Ren.le ι ι') {l : LoopR} {L : Loop} (h : LRel P ι l L) : LRel P ι' l L :=
  ⟨h.state, h.pending, h.params, let ⟨fi, hf, ht, ha, hb⟩ := h.tm; ⟨fi, hf, ht.mono hl, ha, hb⟩⟩
theorem ERel.mono {ι ι' : Ren} (hl : Ren.le ι ι') {e : MapE} {e' : MapEntry} (h : ERel ι e e') : ERel ι' e e' := by
  cases h with | mk hk hv hb => exact .mk (hk.mono hl) (hv.mono hl) hb
/-- An object stands where its block stands and more names are known. -/
theorem ORel.mono {P : Program} {ι ι' : Ren} {w w' : World} {p : Place} {o : AObj} (hl : Ren.le ι ι') (hw : o.live = true → w'.heap[p.blk]? = w.heap[p.blk]?) (h : ORel P ι w p o) : ORel P ι' w' p o := by
  cases h with
  | cells h hs hlen hc hn hf => exact .cells ((hw rfl).trans h) hs hlen (hc.mono hl) hn hf
  | map h hlen he hr => exact .map ((hw rfl).trans h) hlen (fun i e hi => let ⟨e', h1, h2⟩ := he i e hi; ⟨e', h1, h2.mono hl⟩) hr
  | loop h hL hr => exact .loop ((hw rfl).trans h) (hL.mono hl) hr
  | dead => exact .dead
theorem WRel.drawn {P : Program} {ι : Ren} {s : St} {w : World} (h : WRel P ι s w) (n : Nat) : WRel P ι s { w with drawn := n } :=
  ⟨fun b p e => let ⟨o, ho, hr⟩ := h.objs b p e; ⟨o, ho, ORel.mono (w := w) (w' := { w with drawn := n }) (Ren.le_refl ι) (fun _ => rfl) hr⟩, h.apart, h.fresh, h.bound⟩
end Go.AM
