/- The abstract machine's memory against the model's: a new block; a block that is turned; a row that is given up for a longer one; cells read and written. -/
import Derived.Test.YtoipnedbpjfeiaaDoorAmRel
set_option linter.all false
set_option linter.unusedSectionVars false
set_option linter.unusedSimpArgs false
set_option linter.unusedVariables false
namespace Go.AM

theorem allocK_eq (x : AObj) (s : St) (K : Pos → St → Bool) : allocK x s K = K s.next { heap := PT.set s.next x s.heap, next := s.next.succ } := by
  simp only [allocK, PT.setK_eq, succK_eq]
theorem putK_eq (b : Pos) (x : AObj) (s : St) (K : St → Bool) : putK b x s K = K { heap := PT.set b x s.heap, next := s.next } := by
  simp only [putK, PT.setK_eq]
theorem cellsK_true {b : Pos} {s : St} {K : List AVal → Bool → Bool} : cellsK b s K = true ↔ ∃ cs ro, PT.get b s.heap = some (.cells cs ro) ∧ K cs ro = true := by
  unfold cellsK
  rw [optK_true]
  constructor
  · rintro ⟨o, h, hk⟩; cases o <;> simp at hk; exact ⟨_, _, h, hk⟩
  · rintro ⟨cs, ro, h, hk⟩; exact ⟨_, h, hk⟩
theorem mapK_true {b : Pos} {s : St} {K : List MapE → Nat → Bool} : mapK b s K = true ↔ ∃ es c, PT.get b s.heap = some (.map es c) ∧ K es c = true := by
  unfold mapK
  rw [optK_true]
  constructor
  · rintro ⟨o, h, hk⟩; cases o <;> simp at hk; exact ⟨_, _, h, hk⟩
  · rintro ⟨cs, ro, h, hk⟩; exact ⟨_, h, hk⟩
theorem loopK_true {b : Pos} {s : St} {K : LoopR → Bool} : loopK b s K = true ↔ ∃ l, PT.get b s.heap = some (.loop l) ∧ K l = true := by
  unfold loopK
  rw [optK_true]
  constructor
  · rintro ⟨o, h, hk⟩; cases o <;> simp at hk; exact ⟨_, h, hk⟩
  · rintro ⟨l, h, hk⟩; exact ⟨_, h, hk⟩

/-- One name more. -/
def Ren.set (ι : Ren) (b : Pos) (p : Place) : Ren := fun x => if x.toNat = b.toNat then some p else ι x
theorem Ren.set_same (ι : Ren) (b : Pos) (p : Place) : Ren.set ι b p b = some p := by simp [Ren.set]
theorem Ren.set_ne {ι : Ren} {b x : Pos} {p : Place} (h : x ≠ b) : Ren.set ι b p x = ι x := by
  unfold Ren.set
  rw [if_neg fun e => h (Pos.toNat_inj e)]
theorem Ren.set_some {ι : Ren} {b x : Pos} {p q : Place} (h : Ren.set ι b p x = some q) : (x = b ∧ q = p) ∨ (x ≠ b ∧ ι x = some q) := by
  by_cases e : x = b
  · subst e; rw [Ren.set_same] at h; cases h; exact .inl ⟨rfl, rfl⟩
  · rw [Ren.set_ne e] at h; exact .inr ⟨e, h⟩
theorem Ren.le_set {ι : Ren} {b : Pos} {p : Place} (h : ι b = none) : Ren.le ι (Ren.set ι b p) := by
  intro x q e
  rw [Ren.set_ne ?_]
  · exact e
  · rintro rfl; rw [h] at e; cases e

theorem push_old {w : World} {o : Obj} {i : Nat} (h : i < w.heap.size) : (w.heap.push o)[i]? = w.heap[i]? := by
  rw [Array.getElem?_push]
  have : i ≠ w.heap.size := by omega
  simp [this]
theorem push_new (w : World) (o : Obj) : (w.heap.push o)[w.heap.size]? = some o := by simp

theorem WRel.next_none {P : Program} {ι : Ren} {s : St} {w : World} (h : WRel P ι s w) : ι s.next = none := by
  cases e : ι s.next with
  | none => rfl
  | some p => exact absurd (h.fresh _ _ e) (Nat.lt_irrefl _)

/-- A NEW BLOCK. -/
theorem WRel.alloc {P : Program} {ι : Ren} {s : St} {w : World} (h : WRel P ι s w) (x : AObj) (o : Obj) (p : Place) (hp : p.blk = w.heap.size) (hr : p.ro = false)
    (hx : ORel P (Ren.set ι s.next p) { w with heap := w.heap.push o } p x) :
    WRel P (Ren.set ι s.next p) { heap := PT.set s.next x s.heap, next := s.next.succ } { w with heap := w.heap.push o } ∧ Ext ι w (Ren.set ι s.next p) { w with heap := w.heap.push o } := by
  have hn := h.next_none
  have hle : Ren.le ι (Ren.set ι s.next p) := Ren.le_set hn
  refine ⟨⟨?_, ?_, ?_, ?_⟩, ⟨hle, by simp, ?_, ?_, rfl, rfl⟩⟩
  · intro b q e
    rcases Ren.set_some e with ⟨rfl, rfl⟩ | ⟨hne, e'⟩
    · exact ⟨x, PT.get_set_same _ _ _, hx⟩
    · obtain ⟨y, hy, hr'⟩ := h.objs b q e'
      exact ⟨y, by rw [PT.get_set_ne _ _ _ _ hne]; exact hy, ORel.mono (w := w) hle (fun _ => push_old (h.bound b q e')) hr'⟩
  · intro b b' q q' y y' e e' hy hy' hl hl' hblk
    rcases Ren.set_some e with ⟨rfl, rfl⟩ | ⟨hne, e1⟩ <;> rcases Ren.set_some e' with ⟨rfl, rfl⟩ | ⟨hne', e1'⟩
    · exact .inl rfl
    · have := h.bound _ _ e1'; omega
    · have := h.bound _ _ e1; omega
    · simp only [PT.get_set_ne _ _ _ _ hne] at hy
      simp only [PT.get_set_ne _ _ _ _ hne'] at hy'
      exact h.apart b b' q q' y y' e1 e1' hy hy' hl hl' hblk
  · intro b q e
    simp only [Pos.succ_toNat]
    rcases Ren.set_some e with ⟨rfl, _⟩ | ⟨_, e'⟩
    · omega
    · have := h.fresh b q e'; omega
  · intro b q e
    simp only [Array.size_push]
    rcases Ren.set_some e with ⟨_, rfl⟩ | ⟨_, e'⟩
    · omega
    · have := h.bound b q e'; omega
  · intro b q e
    rcases Ren.set_some e with ⟨_, rfl⟩ | ⟨_, e'⟩
    · exact .inr (.inl (by omega))
    · exact .inl e'
  · intro i hi _
    exact push_old hi

/-- A BLOCK IS TURNED. -/
theorem WRel.update {P : Program} {ι : Ren} {s : St} {w w' : World} (h : WRel P ι s w) {b : Pos} {p : Place} {y : AObj} (x : AObj) (e : ι b = some p) (hy : PT.get b s.heap = some y) (hly : y.live = true)
    (hr : p.ro = false) (hsz : w'.heap.size = w.heap.size) (hk : ∀ i, i ≠ p.blk → w'.heap[i]? = w.heap[i]?) (hos : w'.os = w.os) (hout : w'.output = w.output) (hx : ORel P ι w' p x) :
    WRel P ι { heap := PT.set b x s.heap, next := s.next } w' ∧ Ext ι w ι w' := by
  refine ⟨⟨?_, ?_, h.fresh, fun c q e' => hsz ▸ h.bound c q e'⟩, ⟨Ren.le_refl ι, by omega, fun _ _ h => .inl h, ?_, hos, hout⟩⟩
  · intro c q e'
    by_cases hc : c = b
    · subst hc
      rw [e] at e'; cases e'
      exact ⟨x, PT.get_set_same _ _ _, hx⟩
    · obtain ⟨z, hz, hr'⟩ := h.objs c q e'
      refine ⟨z, by rw [PT.get_set_ne _ _ _ _ hc]; exact hz, ORel.mono (w := w) (Ren.le_refl ι) (fun hlz => hk _ fun hb => ?_) hr'⟩
      rcases h.apart c b q p z y e' e hz hy hlz hly hb with h1 | ⟨_, h2⟩
      · exact hc h1
      · rw [hr] at h2; cases h2
  · intro c c' q q' z z' e1 e2 hz hz' hl hl' hb
    by_cases hc : c = b <;> by_cases hc' : c' = b
    · exact .inl (hc.trans hc'.symm)
    · subst hc
      simp only [PT.get_set_ne _ _ _ _ hc'] at hz'
      exact h.apart c c' q q' y z' e1 e2 hy hz' hly hl' hb
    · subst hc'
      simp only [PT.get_set_ne _ _ _ _ hc] at hz
      exact h.apart c c' q q' z y e1 e2 hz hy hl hly hb
    · simp only [PT.get_set_ne _ _ _ _ hc] at hz
      simp only [PT.get_set_ne _ _ _ _ hc'] at hz'
      exact h.apart c c' q q' z z' e1 e2 hz hz' hl hl' hb
  · intro i _ hn
    exact hk i fun hb => hn b p e hr hb.symm

/-- A row is given up. -/
theorem WRel.kill {P : Program} {ι : Ren} {s : St} {w : World} (h : WRel P ι s w) (b : Pos) : WRel P ι { heap := PT.set b .dead s.heap, next := s.next } w := by
  refine ⟨?_, ?_, h.fresh, h.bound⟩
  · intro c q e
    by_cases hc : c = b
    · subst hc; exact ⟨.dead, PT.get_set_same _ _ _, .dead⟩
    · obtain ⟨z, hz, hr⟩ := h.objs c q e
      exact ⟨z, by rw [PT.get_set_ne _ _ _ _ hc]; exact hz, hr⟩
  · intro c c' q q' z z' e1 e2 hz hz' hl hl' hb
    by_cases hc : c = b
    · subst hc; simp only [PT.get_set_same, Option.some.injEq] at hz; subst hz; simp [AObj.live] at hl
    by_cases hc' : c' = b
    · subst hc'; simp only [PT.get_set_same, Option.some.injEq] at hz'; subst hz'; simp [AObj.live] at hl'
    simp only [PT.get_set_ne _ _ _ _ hc] at hz
    simp only [PT.get_set_ne _ _ _ _ hc'] at hz'
    exact h.apart c c' q q' z z' e1 e2 hz hz' hl hl' hb

/-- A ROW IS GIVEN UP, AND ITS BLOCK, TURNED, HAS A NEW NAME. -/
theorem WRel.regrow {P : Program} {ι : Ren} {s : St} {w w' : World} (h : WRel P ι s w) {b : Pos} {p q : Place} {y : AObj} (x : AObj) (e : ι b = some p) (hy : PT.get b s.heap = some y) (hly : y.live = true)
    (hr : p.ro = false) (hq : q.blk = p.blk) (hqr : q.ro = false) (hsz : w'.heap.size = w.heap.size) (hk : ∀ i, i ≠ p.blk → w'.heap[i]? = w.heap[i]?) (hos : w'.os = w.os) (hout : w'.output = w.output)
    (hx : ORel P (Ren.set ι s.next q) w' q x) :
    WRel P (Ren.set ι s.next q) { heap := PT.set s.next x (PT.set b .dead s.heap), next := s.next.succ } w' ∧ Ext ι w (Ren.set ι s.next q) w' := by
  have hn := h.next_none
  have hle : Ren.le ι (Ren.set ι s.next q) := Ren.le_set hn
  have hbn : b ≠ s.next := by rintro rfl; rw [hn] at e; cases e
  refine ⟨⟨?_, ?_, ?_, ?_⟩, ⟨hle, by omega, ?_, ?_, hos, hout⟩⟩
  · intro c r e'
    rcases Ren.set_some e' with ⟨rfl, rfl⟩ | ⟨hne, e1⟩
    · exact ⟨x, PT.get_set_same _ _ _, hx⟩
    · by_cases hc : c = b
      · subst hc
        exact ⟨.dead, by rw [PT.get_set_ne _ _ _ _ hne, PT.get_set_same], .dead⟩
      · obtain ⟨z, hz, hr'⟩ := h.objs c r e1
        refine ⟨z, by rw [PT.get_set_ne _ _ _ _ hne, PT.get_set_ne _ _ _ _ hc]; exact hz, ORel.mono (w := w) hle (fun hlz => hk _ fun hb => ?_) hr'⟩
        rcases h.apart c b r p z y e1 e hz hy hlz hly hb with h1 | ⟨_, h2⟩
        · exact hc h1
        · rw [hr] at h2; cases h2
  · intro c c' r r' z z' f1 f2 hz hz' hl hl' hb
    rcases Ren.set_some f1 with ⟨rfl, rfl⟩ | ⟨hne, e1⟩ <;> rcases Ren.set_some f2 with ⟨rfl, rfl⟩ | ⟨hne', e2⟩
    · exact .inl rfl
    · rw [PT.get_set_ne _ _ _ _ hne'] at hz'
      by_cases hc : c' = b
      · subst hc; rw [PT.get_set_same] at hz'; cases hz'; simp [AObj.live] at hl'
      · rw [PT.get_set_ne _ _ _ _ hc] at hz'
        rcases h.apart b c' p r' y z' e e2 hy hz' hly hl' (hq ▸ hb) with h1 | ⟨h2, _⟩
        · exact absurd h1.symm hc
        · rw [hr] at h2; cases h2
    · rw [PT.get_set_ne _ _ _ _ hne] at hz
      by_cases hc : c = b
      · subst hc; rw [PT.get_set_same] at hz; cases hz; simp [AObj.live] at hl
      · rw [PT.get_set_ne _ _ _ _ hc] at hz
        rcases h.apart b c p r y z e e1 hy hz hly hl (hq ▸ hb.symm) with h1 | ⟨h2, _⟩
        · exact absurd h1.symm hc
        · rw [hr] at h2; cases h2
    · rw [PT.get_set_ne _ _ _ _ hne] at hz
      rw [PT.get_set_ne _ _ _ _ hne'] at hz'
      exact (h.kill b).apart c c' r r' z z' e1 e2 hz hz' hl hl' hb
  · intro c r e'
    simp only [Pos.succ_toNat]
    rcases Ren.set_some e' with ⟨rfl, _⟩ | ⟨_, e1⟩
    · omega
    · have := h.fresh c r e1; omega
  · intro c r e'
    rw [hsz]
    rcases Ren.set_some e' with ⟨_, rfl⟩ | ⟨_, e1⟩
    · rw [hq]; exact h.bound b p e
    · exact h.bound c r e1
  · intro c r e'
    rcases Ren.set_some e' with ⟨_, rfl⟩ | ⟨_, e1⟩
    · exact .inr (.inr ⟨hqr, b, p, e, hr, hq.symm⟩)
    · exact .inl e1
  · intro i _ hn'
    exact hk i fun hb => hn' b p e hr hb.symm

/-! ### Forced lists are lists -/
section
variable {α : Type}
theorem nthK_nil (i : Nat) (K : α → Bool) : nthK [] i K = false := rfl
theorem nthK_zero (a : α) (l : List α) (K : α → Bool) : nthK (a :: l) 0 K = K a := rfl
theorem nthK_succ (a : α) (l : List α) (i : Nat) (K : α → Bool) : nthK (a :: l) (i + 1) K = nthK l i K := rfl
theorem dropK_nil0 (K : List α → Bool) : dropK [] 0 K = K [] := rfl
theorem dropK_nil1 (i : Nat) (K : List α → Bool) : dropK [] (i + 1) K = false := rfl
theorem dropK_zero (a : α) (l : List α) (K : List α → Bool) : dropK (a :: l) 0 K = K (a :: l) := rfl
theorem dropK_succ (a : α) (l : List α) (i : Nat) (K : List α → Bool) : dropK (a :: l) (i + 1) K = dropK l i K := rfl
theorem takeK_nil0 (K : List α → Bool) : takeK [] 0 K = K [] := rfl
theorem takeK_nil1 (i : Nat) (K : List α → Bool) : takeK [] (i + 1) K = false := rfl
theorem takeK_zero (a : α) (l : List α) (K : List α → Bool) : takeK (a :: l) 0 K = K [] := rfl
theorem takeK_succ (a : α) (l : List α) (i : Nat) (K : List α → Bool) : takeK (a :: l) (i + 1) K = takeK l i fun r => K (a :: r) := rfl
theorem overK_nil (m : List α) (K : List α → Bool) : overK [] m K = K m := rfl
theorem overK_cons0 (v : α) (vs : List α) (K : List α → Bool) : overK (v :: vs) [] K = false := rfl
theorem overK_cons (v a : α) (vs m : List α) (K : List α → Bool) : overK (v :: vs) (a :: m) K = overK vs m fun r => K (v :: r) := rfl
theorem putAtK_nil0 (vs : List α) (K : List α → Bool) : putAtK vs [] 0 K = overK vs [] K := rfl
theorem putAtK_nil1 (vs : List α) (i : Nat) (K : List α → Bool) : putAtK vs [] (i + 1) K = false := rfl
theorem putAtK_zero (vs : List α) (a : α) (l : List α) (K : List α → Bool) : putAtK vs (a :: l) 0 K = overK vs (a :: l) K := rfl
theorem putAtK_succ (vs : List α) (a : α) (l : List α) (i : Nat) (K : List α → Bool) : putAtK vs (a :: l) (i + 1) K = putAtK vs l i fun r => K (a :: r) := rfl
end
theorem nthK_true {α : Type} {l : List α} {i : Nat} {K : α → Bool} : nthK l i K = true ↔ ∃ a, l[i]? = some a ∧ K a = true := by
  induction l generalizing i with
  | nil => simp [nthK_nil]
  | cons a l ih => cases i with
    | zero => simp [nthK_zero]
    | succ i => rw [nthK_succ, ih]; simp
theorem dropK_true {α : Type} {l : List α} {i : Nat} {K : List α → Bool} : dropK l i K = true ↔ i ≤ l.length ∧ K (l.drop i) = true := by
  induction l generalizing i with
  | nil => cases i with
    | zero => simp [dropK_nil0]
    | succ i => simp [dropK_nil1]
  | cons a l ih => cases i with
    | zero => simp [dropK_zero]
    | succ i => rw [dropK_succ, ih]; simp
theorem takeK_true {α : Type} {l : List α} {i : Nat} {K : List α → Bool} : takeK l i K = true ↔ i ≤ l.length ∧ K (l.take i) = true := by
  induction l generalizing i K with
  | nil => cases i with
    | zero => simp [takeK_nil0]
    | succ i => simp [takeK_nil1]
  | cons a l ih => cases i with
    | zero => simp [takeK_zero]
    | succ i => rw [takeK_succ, ih]; simp
theorem appK_eq {α : Type} (l m : List α) (K : List α → Bool) : appK l m K = K (l ++ m) := by
  induction l generalizing K with
  | nil => rfl
  | cons a l ih => exact ih _
theorem overK_true {α : Type} {vs m : List α} {K : List α → Bool} : overK vs m K = true ↔ vs.length ≤ m.length ∧ K (vs ++ m.drop vs.length) = true := by
  induction vs generalizing m K with
  | nil => simp [overK_nil]
  | cons v vs ih => cases m with
    | nil => simp [overK_cons0]
    | cons a m => rw [overK_cons, ih]; simp
theorem putAtK_true {α : Type} {vs l : List α} {i : Nat} {K : List α → Bool} :
    putAtK vs l i K = true ↔ i + vs.length ≤ l.length ∧ K (l.take i ++ vs ++ l.drop (i + vs.length)) = true := by
  induction l generalizing i K with
  | nil => cases i with
    | zero => rw [putAtK_nil0, overK_true]; simp
    | succ i => rw [putAtK_nil1]; simp
  | cons a l ih => cases i with
    | zero => rw [putAtK_zero, overK_true]; simp
    | succ i =>
      rw [putAtK_succ, ih]
      have e : i + 1 + vs.length = (i + vs.length) + 1 := by omega
      simp [e]
theorem lenK_eq {α : Type} (l : List α) (n : Nat) (K : Nat → Bool) : lenK l n K = K (n + l.length) := by
  induction l generalizing n with
  | nil => simp [lenK, natK_eq]
  | cons a l ih =>
    have := ih (n := n + 1)
    simp only [lenK] at this ⊢
    rw [this]
    simp
    congr 1; omega
theorem segK_true {α : Type} {l : List α} {i n : Nat} {K : List α → Bool} : segK l i n K = true ↔ i + n ≤ l.length ∧ K ((l.drop i).take n) = true := by
  unfold segK
  rw [dropK_true, takeK_true]
  simp
  constructor
  · rintro ⟨h, h1, h2⟩; exact ⟨by omega, h2⟩
  · rintro ⟨h, h2⟩; exact ⟨by omega, by omega, h2⟩
theorem cellsK_val {v : AVal} {K : List AVal → Bool} : v.cellsK K = K v.cells := by cases v <;> rfl

/-! ### Cells read -/
theorem ORel.cell {P : Program} {ι : Ren} {w : World} {p : Place} {cs : List AVal} {ro : Bool} (h : ORel P ι w p (.cells cs ro)) {i : Nat} {a : AVal} (e : cs[i]? = some a) :
    ∃ v, w.cell? ⟨p.blk, p.off + i, none⟩ = some v ∧ VRel ι a v := by
  cases h with
  | cells h hs hl hc hn hf =>
    obtain ⟨v, hv, hr⟩ := hc i a e
    exact ⟨v, by simp [World.cell?, h, hv], hr⟩
theorem ORel.scalars {P : Program} {ι : Ren} {w : World} {p : Place} {cs : List AVal} {ro : Bool} (h : ORel P ι w p (.cells cs ro)) : ∀ x ∈ cs, x.scalar = true := by
  cases h with | cells h hs hl hc hn hf => exact hn
theorem add_eq (b o n : Nat) : (Addr.add ⟨b, o, none⟩ n) = ⟨b, o + n, none⟩ := by
  unfold Addr.add
  split <;> simp [*]
/-- The values that a list of cells is. -/
theorem seg_vals {P : Program} {ι : Ren} {w : World} {p : Place} {cs : List AVal} {ro : Bool} (h : ORel P ι w p (.cells cs ro)) (off n : Nat) (hn : off + n ≤ cs.length) :
    ∃ vs : List Value, VRels ι ((cs.drop off).take n) vs ∧ vs.length = n ∧ ∀ (j : Nat) (v : Value), vs[j]? = some v → w.cell? ⟨p.blk, p.off + off + j, none⟩ = some v := by
  induction n with
  | zero => exact ⟨[], by simpa using VRels.nil, rfl, by simp⟩
  | succ n ih =>
    obtain ⟨vs, hr, hl, hc⟩ := ih (by omega)
    have hlt : off + n < cs.length := by omega
    obtain ⟨v, hv, hrv⟩ := h.cell (i := off + n) (a := cs[off + n]) (by simp [hlt])
    refine ⟨vs ++ [v], ?_, by simp [hl], ?_⟩
    · rw [List.take_add_one]
      refine hr.append ?_
      have : (cs.drop off)[n]? = some cs[off + n] := by simp [hlt]
      rw [this]
      exact .cons hrv .nil
    · intro j u hj
      rw [List.getElem?_append] at hj
      split at hj
      · exact hc j u hj
      · have hj' : j = n := by
          rcases Nat.lt_trichotomy (j - vs.length) 0 with h0 | h0 | h0
          · omega
          · omega
          · have : ([v] : List Value)[j - vs.length]? = none := by simp; omega
            rw [this] at hj; cases hj
        subst hj'
        rw [hl] at hj
        simp at hj
        subst hj
        rw [show p.off + off + j = p.off + (off + j) by omega]
        exact hv
theorem run_loadCells_seg {P : Program} {w : World} {b o : Nat} {vs : List Value} (hc : ∀ (j : Nat) (v : Value), vs[j]? = some v → w.cell? ⟨b, o + j, none⟩ = some v) :
    (loadCells ⟨b, o, none⟩ vs.length).run P w = .ok vs.toArray w := by
  have := run_loadCells_list (P := P) (w := w) ⟨b, o, none⟩ vs (fun j v h => by rw [add_eq]; exact hc j v h)
  simpa using this
end Go.AM
