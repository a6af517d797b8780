/- Parts of the proof: Core, Comp, Rel, Mem. -/
import GoSem.Step
import Derived.KernelRfl
import Derived.Laws.Sem
import Derived.Laws.World
import Derived.WalkKit
set_option linter.all false
set_option linter.unusedSectionVars false
set_option linter.unusedSimpArgs false
set_option linter.unusedVariables false
section
/- The definitions of an abstract machine for the model's code: a deterministic evaluator in continuation-passing style, whose answers are proved to hold of every run of the model (AmSound). -/
namespace Go.AM

/-- A run that cannot go on answers false. The number tells where. -/
def fail (_ : Nat) : Bool := false

inductive Pos where
  | h | o (p : Pos) | i (p : Pos)

def Pos.toNat : Pos → Nat
  | .h => 1
  | .o p => 2 * p.toNat
  | .i p => 2 * p.toNat + 1

def posF : Nat → Nat → Pos
  | 0, _ => .h
  | f + 1, m => if m ≤ 1 then .h else if m % 2 = 0 then .o (posF f (m / 2)) else .i (posF f (m / 2))
def posOf (n : Nat) : Pos := posF (n + 1) (n + 1)

noncomputable def succK (p : Pos) : (Pos → Bool) → Bool :=
  @Pos.rec (fun _ => (Pos → Bool) → Bool) (fun K => K (.o .h)) (fun p _ K => K (.i p)) (fun _ ih K => ih fun q => K (.o q)) p
def Pos.succ : Pos → Pos
  | .h => .o .h
  | .o p => .i p
  | .i p => .o p.succ

/-- A finite map from positions. -/
inductive PT (α : Type) where
  | leaf
  | node (l : PT α) (v : Option α) (r : PT α)

noncomputable def PT.get {α : Type} (k : Pos) : PT α → Option α :=
  @Pos.rec (fun _ => PT α → Option α) (fun t => @PT.rec α (fun _ => Option α) none (fun _ v _ _ _ => v) t)
    (fun _ ih t => @PT.rec α (fun _ => Option α) none (fun l _ _ _ _ => ih l) t)
    (fun _ ih t => @PT.rec α (fun _ => Option α) none (fun _ _ r _ _ => ih r) t) k
noncomputable def PT.setK {α : Type} (k : Pos) (x : α) : PT α → (PT α → Bool) → Bool :=
  @Pos.rec (fun _ => PT α → (PT α → Bool) → Bool)
    (fun t K => @PT.rec α (fun _ => Bool) (K (.node .leaf (some x) .leaf)) (fun l _ r _ _ => K (.node l (some x) r)) t)
    (fun _ ih t K => @PT.rec α (fun _ => Bool) (ih .leaf fun l => K (.node l none .leaf)) (fun l v r _ _ => ih l fun l => K (.node l v r)) t)
    (fun _ ih t K => @PT.rec α (fun _ => Bool) (ih .leaf fun r => K (.node .leaf none r)) (fun l v r _ _ => ih r fun r => K (.node l v r)) t) k
def PT.set {α : Type} : Pos → α → PT α → PT α
  | .h, x, .leaf => .node .leaf (some x) .leaf
  | .h, x, .node l _ r => .node l (some x) r
  | .o k, x, .leaf => .node (PT.set k x .leaf) none .leaf
  | .o k, x, .node l v r => .node (PT.set k x l) v r
  | .i k, x, .leaf => .node .leaf none (PT.set k x .leaf)
  | .i k, x, .node l v r => .node l v (PT.set k x r)

noncomputable def optK {α : Type} (x : Option α) (K : α → Bool) : Bool := @Option.rec α (fun _ => Bool) false K x
theorem optK_true {α : Type} {x : Option α} {K : α → Bool} : optK x K = true ↔ ∃ v, x = some v ∧ K v = true := by
  cases x <;> simp [optK]
/-- A test; the second answer is asked only where it is false. -/
noncomputable def ifK (b : Bool) (x y : Bool) : Bool := @Bool.rec (fun _ => Bool) y x b
theorem ifK_true {b x y : Bool} : ifK b x y = true ↔ (b = true ∧ x = true) ∨ (b = false ∧ y = true) := by
  cases b <;> simp [ifK]
noncomputable def natK (n : Nat) (K : Nat → Bool) : Bool := @Nat.rec (fun _ => Bool) (K 0) (fun m _ => K (Nat.succ m)) n
theorem natK_eq {n : Nat} {K : Nat → Bool} : natK n K = K n := by cases n <;> rfl
noncomputable def intK (n : Int) (K : Int → Bool) : Bool := @Int.rec (fun _ => Bool) (fun n => natK n fun n => K (.ofNat n)) (fun n => natK n fun n => K (.negSucc n)) n
theorem intK_eq {n : Int} {K : Int → Bool} : intK n K = K n := by cases n <;> simp [intK, natK_eq]
/-- An integer that is not negative, as a natural number. -/
noncomputable def idxK (n : Int) (K : Nat → Bool) : Bool := @Int.rec (fun _ => Bool) (fun n => K n) (fun _ => false) n
theorem idxK_true {n : Int} {K : Nat → Bool} : idxK n K = true ↔ ∃ m : Nat, n = (m : Int) ∧ K m = true := by
  cases n with
  | ofNat a => exact ⟨fun h => ⟨a, rfl, h⟩, fun ⟨m, e, h⟩ => by cases e; exact h⟩
  | negSucc a => exact ⟨fun h => by simp [idxK] at h, fun ⟨m, e, h⟩ => by cases e⟩

/-- How far a slice reaches: so many elements; or to its row's end, wherever that is (its elements have so many cells). -/
inductive Cap where
  | lim (c : Nat)
  | opn (es : Nat)

inductive AVal where
  | bool (x0 : Bool)
  | int (x0 : IntKind) (x1 : Int)
  | str (x0 : List UInt8)
  | ptr (x0 : Pos) (x1 : Nat)
  | nilPtr 
  | slice (x0 : Pos) (x1 : Nat) (x2 : Nat) (x3 : Cap)
  | nilSlice 
  | map (x0 : Pos)
  | nilMap 
  | fn (x0 : Nat) (x1 : List AVal) (x2 : List AVal)
  | yld (x0 : Pos)
  | nilFn 
  | iface (x0 : Nat) (x1 : AVal)
  | nilIface 
  | agg (x0 : List AVal)
  | tup (x0 : List AVal)

noncomputable def AVal.boolK (v : AVal) (K : Bool → Bool) : Bool :=
  @AVal.rec (fun _ => Bool) (fun _ => Bool) (fun x0 => K x0) (fun _ _ => false) (fun _ => false) (fun _ _ => false) false (fun _ _ _ _ => false) false (fun _ => false) false (fun _ _ _ _ _ => false) (fun _ => false) false (fun _ _ _ => false) false (fun _ _ => false) (fun _ _ => false) false (fun _ _ _ _ => false) v
theorem AVal.boolK_true {v : AVal} {K : Bool → Bool} : v.boolK K = true ↔ ∃ x0, v = (.bool x0) ∧ K x0 = true := by
  cases v <;> simp [AVal.boolK]
noncomputable def AVal.intK (v : AVal) (K : IntKind → Int → Bool) : Bool :=
  @AVal.rec (fun _ => Bool) (fun _ => Bool) (fun _ => false) (fun x0 x1 => K x0 x1) (fun _ => false) (fun _ _ => false) false (fun _ _ _ _ => false) false (fun _ => false) false (fun _ _ _ _ _ => false) (fun _ => false) false (fun _ _ _ => false) false (fun _ _ => false) (fun _ _ => false) false (fun _ _ _ _ => false) v
theorem AVal.intK_true {v : AVal} {K : IntKind → Int → Bool} : v.intK K = true ↔ ∃ x0 x1, v = (.int x0 x1) ∧ K x0 x1 = true := by
  cases v with
  | int a0 a1 => exact ⟨fun h => ⟨a0, a1, rfl, h⟩, fun ⟨_, _, e, h⟩ => by cases e; exact h⟩
  | _ => simp [AVal.intK]
noncomputable def AVal.strK (v : AVal) (K : List UInt8 → Bool) : Bool :=
  @AVal.rec (fun _ => Bool) (fun _ => Bool) (fun _ => false) (fun _ _ => false) (fun x0 => K x0) (fun _ _ => false) false (fun _ _ _ _ => false) false (fun _ => false) false (fun _ _ _ _ _ => false) (fun _ => false) false (fun _ _ _ => false) false (fun _ _ => false) (fun _ _ => false) false (fun _ _ _ _ => false) v
theorem AVal.strK_true {v : AVal} {K : List UInt8 → Bool} : v.strK K = true ↔ ∃ x0, v = (.str x0) ∧ K x0 = true := by
  cases v <;> simp [AVal.strK]
noncomputable def AVal.ptrK (v : AVal) (K : Pos → Nat → Bool) : Bool :=
  @AVal.rec (fun _ => Bool) (fun _ => Bool) (fun _ => false) (fun _ _ => false) (fun _ => false) (fun x0 x1 => K x0 x1) false (fun _ _ _ _ => false) false (fun _ => false) false (fun _ _ _ _ _ => false) (fun _ => false) false (fun _ _ _ => false) false (fun _ _ => false) (fun _ _ => false) false (fun _ _ _ _ => false) v
theorem AVal.ptrK_true {v : AVal} {K : Pos → Nat → Bool} : v.ptrK K = true ↔ ∃ x0 x1, v = (.ptr x0 x1) ∧ K x0 x1 = true := by
  cases v with
  | ptr a0 a1 => exact ⟨fun h => ⟨a0, a1, rfl, h⟩, fun ⟨_, _, e, h⟩ => by cases e; exact h⟩
  | _ => simp [AVal.ptrK]
noncomputable def AVal.nilPtrK (v : AVal) (K : Bool) : Bool :=
  @AVal.rec (fun _ => Bool) (fun _ => Bool) (fun _ => false) (fun _ _ => false) (fun _ => false) (fun _ _ => false) K (fun _ _ _ _ => false) false (fun _ => false) false (fun _ _ _ _ _ => false) (fun _ => false) false (fun _ _ _ => false) false (fun _ _ => false) (fun _ _ => false) false (fun _ _ _ _ => false) v
theorem AVal.nilPtrK_true {v : AVal} {K : Bool} : v.nilPtrK K = true ↔ v = .nilPtr ∧ K = true := by
  cases v <;> simp [AVal.nilPtrK]
noncomputable def AVal.sliceK (v : AVal) (K : Pos → Nat → Nat → Cap → Bool) : Bool :=
  @AVal.rec (fun _ => Bool) (fun _ => Bool) (fun _ => false) (fun _ _ => false) (fun _ => false) (fun _ _ => false) false (fun x0 x1 x2 x3 => K x0 x1 x2 x3) false (fun _ => false) false (fun _ _ _ _ _ => false) (fun _ => false) false (fun _ _ _ => false) false (fun _ _ => false) (fun _ _ => false) false (fun _ _ _ _ => false) v
theorem AVal.sliceK_true {v : AVal} {K : Pos → Nat → Nat → Cap → Bool} : v.sliceK K = true ↔ ∃ x0 x1 x2 x3, v = (.slice x0 x1 x2 x3) ∧ K x0 x1 x2 x3 = true := by
  cases v with
  | slice a0 a1 a2 a3 => exact ⟨fun h => ⟨a0, a1, a2, a3, rfl, h⟩, fun ⟨_, _, _, _, e, h⟩ => by cases e; exact h⟩
  | _ => simp [AVal.sliceK]
noncomputable def AVal.nilSliceK (v : AVal) (K : Bool) : Bool :=
  @AVal.rec (fun _ => Bool) (fun _ => Bool) (fun _ => false) (fun _ _ => false) (fun _ => false) (fun _ _ => false) false (fun _ _ _ _ => false) K (fun _ => false) false (fun _ _ _ _ _ => false) (fun _ => false) false (fun _ _ _ => false) false (fun _ _ => false) (fun _ _ => false) false (fun _ _ _ _ => false) v
theorem AVal.nilSliceK_true {v : AVal} {K : Bool} : v.nilSliceK K = true ↔ v = .nilSlice ∧ K = true := by
  cases v <;> simp [AVal.nilSliceK]
noncomputable def AVal.mapK (v : AVal) (K : Pos → Bool) : Bool :=
  @AVal.rec (fun _ => Bool) (fun _ => Bool) (fun _ => false) (fun _ _ => false) (fun _ => false) (fun _ _ => false) false (fun _ _ _ _ => false) false (fun x0 => K x0) false (fun _ _ _ _ _ => false) (fun _ => false) false (fun _ _ _ => false) false (fun _ _ => false) (fun _ _ => false) false (fun _ _ _ _ => false) v
theorem AVal.mapK_true {v : AVal} {K : Pos → Bool} : v.mapK K = true ↔ ∃ x0, v = (.map x0) ∧ K x0 = true := by
  cases v <;> simp [AVal.mapK]
noncomputable def AVal.nilMapK (v : AVal) (K : Bool) : Bool :=
  @AVal.rec (fun _ => Bool) (fun _ => Bool) (fun _ => false) (fun _ _ => false) (fun _ => false) (fun _ _ => false) false (fun _ _ _ _ => false) false (fun _ => false) K (fun _ _ _ _ _ => false) (fun _ => false) false (fun _ _ _ => false) false (fun _ _ => false) (fun _ _ => false) false (fun _ _ _ _ => false) v
theorem AVal.nilMapK_true {v : AVal} {K : Bool} : v.nilMapK K = true ↔ v = .nilMap ∧ K = true := by
  cases v <;> simp [AVal.nilMapK]
noncomputable def AVal.fnK (v : AVal) (K : Nat → List AVal → List AVal → Bool) : Bool :=
  @AVal.rec (fun _ => Bool) (fun _ => Bool) (fun _ => false) (fun _ _ => false) (fun _ => false) (fun _ _ => false) false (fun _ _ _ _ => false) false (fun _ => false) false (fun x0 x1 x2 _ _ => K x0 x1 x2) (fun _ => false) false (fun _ _ _ => false) false (fun _ _ => false) (fun _ _ => false) false (fun _ _ _ _ => false) v
theorem AVal.fnK_true {v : AVal} {K : Nat → List AVal → List AVal → Bool} : v.fnK K = true ↔ ∃ x0 x1 x2, v = (.fn x0 x1 x2) ∧ K x0 x1 x2 = true := by
  cases v with
  | fn a0 a1 a2 => exact ⟨fun h => ⟨a0, a1, a2, rfl, h⟩, fun ⟨_, _, _, e, h⟩ => by cases e; exact h⟩
  | _ => simp [AVal.fnK]
noncomputable def AVal.aggK (v : AVal) (K : List AVal → Bool) : Bool :=
  @AVal.rec (fun _ => Bool) (fun _ => Bool) (fun _ => false) (fun _ _ => false) (fun _ => false) (fun _ _ => false) false (fun _ _ _ _ => false) false (fun _ => false) false (fun _ _ _ _ _ => false) (fun _ => false) false (fun _ _ _ => false) false (fun x0 _ => K x0) (fun _ _ => false) false (fun _ _ _ _ => false) v
theorem AVal.aggK_true {v : AVal} {K : List AVal → Bool} : v.aggK K = true ↔ ∃ x0, v = (.agg x0) ∧ K x0 = true := by
  cases v <;> simp [AVal.aggK]
noncomputable def AVal.tupK (v : AVal) (K : List AVal → Bool) : Bool :=
  @AVal.rec (fun _ => Bool) (fun _ => Bool) (fun _ => false) (fun _ _ => false) (fun _ => false) (fun _ _ => false) false (fun _ _ _ _ => false) false (fun _ => false) false (fun _ _ _ _ _ => false) (fun _ => false) false (fun _ _ _ => false) false (fun _ _ => false) (fun x0 _ => K x0) false (fun _ _ _ _ => false) v
theorem AVal.tupK_true {v : AVal} {K : List AVal → Bool} : v.tupK K = true ↔ ∃ x0, v = (.tup x0) ∧ K x0 = true := by
  cases v <;> simp [AVal.tupK]

/-! The code of the abstract machine: the model's, with what its tables say of types looked up, and its operands found. -/
inductive TK where
  | str | slc | arr | map | other
inductive SK where
  | bool | int | str
inductive EK where
  | bool | ptr | slc | map | func | agg | other
inductive CK where
  | int (k : IntKind)
  | same | toBytes | ofBytes | bad
inductive RO where
  | loc (d : Nat)
  | per (p : Pos)
  | cst (v : AVal)
  | bad

inductive MOp where
  | move (x : RO)
  | pick (c a b : RO)
  | alloc (z : Option (List AVal))
  | box (x : RO)
  | build (pl : Option (List (Nat × Nat × RO))) (z : Option (List AVal))
  | buildSlice (e : Option (Nat × Nat)) (z : Option (List AVal)) (len : Nat) (ps : List (Nat × RO))
  | mapSet (i : Option (Bool × List SK × AVal)) (m k x : RO)
  | load (n : Option (Option Nat)) (a : RO)
  | store (n : Option Nat) (a x : RO)
  | nilck (x : RO)
  | bin (op : BinOp) (k : EK) (sh : Option (List SK)) (x y : RO)
  | un (op : UnOp) (x : RO)
  | conv (k : CK) (x : RO)
  | func (f : Option FuncId) (a c : List RO)
  | makeMap (ok : Bool)
  | makeSlice (e : Option (Nat × Nat)) (z : Option (List AVal)) (l c : RO)
  | slice (k : TK) (e a : Option (Nat × Nat)) (x : RO) (lo hi mx : Option RO)
  | fieldAddr (o : Option Nat) (x : RO)
  | field (f : Option (Nat × Option Nat)) (x : RO)
  | indexAddr (k : TK) (e a : Option (Nat × Nat)) (x i : RO)
  | index (k : TK) (e : Option (Nat × Nat × Option Nat)) (x i : RO)
  | lookup (i : Option (Bool × List SK × AVal)) (ok : Bool) (m k : RO)
  | extract (x : RO) (i : Nat)
  | call (f : RO) (l : List RO)
  | append (e : Option (Nat × Nat)) (x y : RO)
  | len (e : Option (TK × Nat)) (x : RO)
  | copy (e : Option Nat) (x y : RO)
  | mnmx (mx : Bool) (l : List RO)
  | clear (e : Option (Option (Nat × List AVal))) (x : RO)
  | bad
inductive MItem where
  | run (g : Option (Option (RO × Bool))) (o : MOp)
  | chk (g : Option (Option (RO × Bool))) (o : MOp) (u : Option RO)
  | fresh
inductive MCode where
  | skip
  | region (l : List MItem) (cm : List (Option Pos))
  | seq (a b : MCode)
  | cond (c : RO) (a b : MCode)
  | block (id : Nat) (c : MCode)
  | loop (c : MCode)
  | range (f : RO) (ps : List Tmp) (a b : MCode)
  | scope (c : MCode)
  | exit (id : Nat)
  | ret
  | bad

/-- What a variable in memory is. -/
structure MapE where
  key : AVal
  val : AVal
  born : Nat
structure LoopR where
  state : LoopState
  pending : Option Code
  fn : FuncId
  tm : PT AVal
  params : List Tmp
  assign : MCode
  body : MCode
inductive AObj where
  | cells (cs : List AVal) (ro : Bool)
  | map (es : List MapE) (clock : Nat)
  | loop (l : LoopR)
  | dead

structure St where
  heap : PT AObj
  next : Pos

/-- How a piece of code is left. -/
inductive Ex where
  | normal
  | exit (id : Nat)
  | ret

noncomputable def allocK (x : AObj) (s : St) (K : Pos → St → Bool) : Bool :=
  PT.setK s.next x s.heap fun hp => succK s.next fun n => K s.next { heap := hp, next := n }
noncomputable def putK (b : Pos) (x : AObj) (s : St) (K : St → Bool) : Bool :=
  PT.setK b x s.heap fun hp => K { heap := hp, next := s.next }
noncomputable def cellsK (b : Pos) (s : St) (K : List AVal → Bool → Bool) : Bool :=
  optK (PT.get b s.heap) fun x => @AObj.rec (fun _ => Bool) (fun cs ro => K cs ro) (fun _ _ => false) (fun _ => false) false x
noncomputable def mapK (b : Pos) (s : St) (K : List MapE → Nat → Bool) : Bool :=
  optK (PT.get b s.heap) fun x => @AObj.rec (fun _ => Bool) (fun _ _ => false) (fun es c => K es c) (fun _ => false) false x
noncomputable def loopK (b : Pos) (s : St) (K : LoopR → Bool) : Bool :=
  optK (PT.get b s.heap) fun x => @AObj.rec (fun _ => Bool) (fun _ _ => false) (fun _ _ => false) (fun l => K l) false x

/-! Lists of cells, forced. -/
noncomputable def nthK {α : Type} (l : List α) : Nat → (α → Bool) → Bool :=
  @List.rec α (fun _ => Nat → (α → Bool) → Bool) (fun _ _ => false) (fun a _ ih i K => @Nat.rec (fun _ => Bool) (K a) (fun j _ => ih j K) i) l
noncomputable def dropK {α : Type} (l : List α) : Nat → (List α → Bool) → Bool :=
  @List.rec α (fun _ => Nat → (List α → Bool) → Bool) (fun i K => @Nat.rec (fun _ => Bool) (K []) (fun _ _ => false) i) (fun a r ih i K => @Nat.rec (fun _ => Bool) (K (a :: r)) (fun j _ => ih j K) i) l
noncomputable def takeK {α : Type} (l : List α) : Nat → (List α → Bool) → Bool :=
  @List.rec α (fun _ => Nat → (List α → Bool) → Bool) (fun i K => @Nat.rec (fun _ => Bool) (K []) (fun _ _ => false) i) (fun a _ ih i K => @Nat.rec (fun _ => Bool) (K []) (fun j _ => ih j fun r => K (a :: r)) i) l
noncomputable def appK {α : Type} (l : List α) : List α → (List α → Bool) → Bool :=
  @List.rec α (fun _ => List α → (List α → Bool) → Bool) (fun m K => K m) (fun a _ ih m K => ih m fun r => K (a :: r)) l
/-- `vs` laid over the head of the list, which is no shorter. -/
noncomputable def overK {α : Type} (vs : List α) : List α → (List α → Bool) → Bool :=
  @List.rec α (fun _ => List α → (List α → Bool) → Bool) (fun m K => K m) (fun v _ ih m K => @List.rec α (fun _ => Bool) false (fun _ r _ => ih r fun r => K (v :: r)) m) vs
noncomputable def putAtK {α : Type} (vs : List α) (l : List α) : Nat → (List α → Bool) → Bool :=
  @List.rec α (fun _ => Nat → (List α → Bool) → Bool) (fun i K => @Nat.rec (fun _ => Bool) (overK vs [] K) (fun _ _ => false) i)
    (fun a r ih i K => @Nat.rec (fun _ => Bool) (overK vs (a :: r) K) (fun j _ => ih j fun r => K (a :: r)) i) l
noncomputable def lenK {α : Type} (l : List α) : Nat → (Nat → Bool) → Bool :=
  @List.rec α (fun _ => Nat → (Nat → Bool) → Bool) (fun n K => natK n K) (fun _ _ ih n K => ih (Nat.succ n) K) l
noncomputable def segK {α : Type} (l : List α) (off n : Nat) (K : List α → Bool) : Bool := dropK l off fun r => takeK r n K

/-- The cells of a value. -/
noncomputable def AVal.cellsK (v : AVal) (K : List AVal → Bool) : Bool :=
  @AVal.rec (fun _ => Bool) (fun _ => Bool) (fun b => K [.bool b]) (fun k n => K [.int k n]) (fun s => K [.str s]) (fun b o => K [.ptr b o]) (K [.nilPtr])
    (fun b o n c => K [.slice b o n c]) (K [.nilSlice]) (fun b => K [.map b]) (K [.nilMap]) (fun f a c _ _ => K [.fn f a c]) (fun l => K [.yld l]) (K [.nilFn])
    (fun t v _ => K [.iface t v]) (K [.nilIface]) (fun l _ => K l) (fun l _ => K [.tup l]) false (fun _ _ _ _ => false) v
/-- May the value stand in one cell? -/
def AVal.scalar : AVal → Bool
  | .agg _ => false
  | .tup _ => false
  | _ => true
def AVal.cells : AVal → List AVal
  | .agg l => l
  | v => [v]

/-! What the tables say of a type: closed facts. -/
def convCell : Value → Option AVal
  | .bool b => some (.bool b)
  | .int k n => some (.int k n)
  | .string s => some (.str s.data.toList)
  | .pointer none => some .nilPtr
  | .slice none 0 0 => some .nilSlice
  | .map none => some .nilMap
  | .nilFunc => some .nilFn
  | .nilIface => some .nilIface
  | _ => none
def convL : List Value → Option (List AVal)
  | [] => some []
  | v :: r => match convCell v, convL r with
    | some a, some l => some (a :: l)
    | _, _ => none
def conv : Value → Option AVal
  | .agg cs => (convL cs.toList).map .agg
  | v => convCell v
def isAggT : TypeDesc → Bool
  | .struct _ => true
  | .array _ _ => true
  | _ => false
def tySize (P : Program) (t : TypeId) : Option Nat := (P.info? t).map (·.size)
/-- How a variable of a type is read: as one cell, or as so many. -/
def loadSz (P : Program) (t : TypeId) : Option (Option Nat) :=
  match P.underlying t, tySize P t with
  | some d, some n => some (if isAggT d then some n else none)
  | _, _ => none
def zeroV (P : Program) (t : TypeId) : Option AVal := ((P.info? t).bind (·.zero)).bind conv
def zeroCells (P : Program) (t : TypeId) : Option (List AVal) := (zeroV P t).map AVal.cells
def fieldOff (P : Program) (t : TypeId) (i : Nat) : Option Nat :=
  match P.underlying t with
  | some (.struct fs) => match fs[i]? with
    | some f => match tySize P f.type with
      | some (_ + 1) => some f.offset
      | _ => none
    | none => none
  | _ => none
def fieldVal (P : Program) (t : TypeId) (i : Nat) : Option (Nat × Option Nat) :=
  match P.underlying t with
  | some (.struct fs) => match fs[i]? with
    | some f => (loadSz P f.type).map fun n => (f.offset, n)
    | none => none
  | _ => none
/-- An array's length and its element's cells; a slice's element's cells. -/
def arrInfo (P : Program) (t : TypeId) : Option (Nat × Nat) :=
  match P.underlying t with
  | some (.array n e) => (tySize P e).map fun s => (n, s)
  | _ => none
def slcElem (P : Program) (t : TypeId) : Option TypeId :=
  match P.underlying t with
  | some (.slice e) => some e
  | _ => none
def slcInfo (P : Program) (t : TypeId) : Option (Nat × Nat) :=
  (slcElem P t).bind fun e => (P.info? e).map fun i => (i.size, i.bytes)
def arrVal (P : Program) (t : TypeId) : Option (Nat × Nat × Option Nat) :=
  match P.underlying t with
  | some (.array n e) => (loadSz P e).bind fun l => (tySize P e).map fun s => (n, s, l)
  | _ => none
def tyKind (P : Program) (t : TypeId) : TK :=
  match P.underlying t with
  | some .string => .str
  | some (.slice _) => .slc
  | some (.array _ _) => .arr
  | some (.map _ _) => .map
  | _ => .other

noncomputable def partK (n : Option Nat) (cs : List AVal) (off : Nat) (K : AVal → Bool) : Bool :=
  @Option.rec Nat (fun _ => Bool) (nthK cs off K) (fun n => segK cs off n fun l => K (.agg l)) n

/-! The operations, each on its operands' values. -/
abbrev VK := AVal → St → Bool
noncomputable def opPick (c a b : Option AVal) (s : St) (K : VK) : Bool :=
  optK c fun c => c.boolK fun t => ifK t (optK a fun v => K v s) (optK b fun v => K v s)
noncomputable def opMove (x : Option AVal) (s : St) (K : VK) : Bool := optK x fun v => K v s
noncomputable def newCellsK (cs : List AVal) (s : St) (K : VK) : Bool := allocK (.cells cs false) s fun b s => K (.ptr b 0) s
noncomputable def opAlloc (P : Program) (t : TypeId) (s : St) (K : VK) : Bool := optK (zeroCells P t) fun cs => newCellsK cs s K
noncomputable def noTup (v : AVal) (x : Bool) : Bool :=
  @AVal.rec (fun _ => Bool) (fun _ => Bool) (fun _ => x) (fun _ _ => x) (fun _ => x) (fun _ _ => x) x (fun _ _ _ _ => x) x (fun _ => x) x (fun _ _ _ _ _ => x) (fun _ => x) x (fun _ _ _ => x) x (fun _ _ => x) (fun _ _ => false) false (fun _ _ _ _ => false) v
noncomputable def opBox (x : Option AVal) (s : St) (K : VK) : Bool := optK x fun v => noTup v (v.cellsK fun cs => newCellsK cs s K)
noncomputable def opLoad (P : Program) (t : TypeId) (a : Option AVal) (s : St) (K : VK) : Bool :=
  optK (loadSz P t) fun n => optK a fun a => a.ptrK fun b off => cellsK b s fun cs _ => partK n cs off fun v => K v s
noncomputable def writeK (b : Pos) (off : Nat) (vs : List AVal) (s : St) (K : St → Bool) : Bool :=
  cellsK b s fun cs ro => ifK ro (fail 1) (putAtK vs cs off fun cs => putK b (.cells cs false) s K)
noncomputable def opStore (P : Program) (t : TypeId) (a x : Option AVal) (s : St) (K : VK) : Bool :=
  optK (tySize P t) fun n => optK x fun v => noTup v (v.cellsK fun vs => lenK vs 0 fun m => ifK (Nat.beq m n) (optK a fun a => a.ptrK fun b off => writeK b off vs s fun s => K (.tup []) s) (fail 2))
noncomputable def opNil (x : Option AVal) (s : St) (K : VK) : Bool :=
  optK x fun v => v.ptrK fun b o => K (.ptr b o) s

def kindCode : IntKind → Nat
  | .i8 => 0 | .i16 => 1 | .i32 => 2 | .i64 => 3 | .u8 => 4 | .u16 => 5 | .u32 => 6 | .u64 => 7
noncomputable def inI64 (n : Int) : Bool := @Int.rec (fun _ => Bool) (fun n => Nat.ble n 9223372036854775807) (fun n => Nat.ble n 9223372036854775807) n
noncomputable def wrapF (k : IntKind) (n : Int) : Int :=
  @IntKind.rec (fun _ => Int) (k.wrap n) (k.wrap n) (k.wrap n) (@Bool.rec (fun _ => Int) (IntKind.wrap .i64 n) n (inI64 n)) (k.wrap n) (k.wrap n) (k.wrap n) (k.wrap n) k
noncomputable def ltI (x y : Int) : Bool :=
  @Int.rec (fun _ => Bool) (fun a => @Int.rec (fun _ => Bool) (fun b => Nat.ble (Nat.succ a) b) (fun _ => false) y) (fun a => @Int.rec (fun _ => Bool) (fun _ => true) (fun b => Nat.ble (Nat.succ b) a) y) x
noncomputable def eqI (x y : Int) : Bool :=
  @Int.rec (fun _ => Bool) (fun a => @Int.rec (fun _ => Bool) (fun b => Nat.beq a b) (fun _ => false) y) (fun a => @Int.rec (fun _ => Bool) (fun _ => false) (fun b => Nat.beq a b) y) x
noncomputable def notB (b : Bool) : Bool := @Bool.rec (fun _ => Bool) true false b
noncomputable def boolV (b : Bool) (s : St) (K : VK) : Bool := @Bool.rec (fun _ => Bool) (K (.bool false) s) (K (.bool true) s) b
noncomputable def intV (k : IntKind) (n : Int) (s : St) (K : VK) : Bool := intK n fun n => K (.int k n) s
noncomputable def intBin (op : BinOp) (k : IntKind) (a b : Int) (s : St) (K : VK) : Bool :=
  @BinOp.rec (fun _ => Bool) (intV k (wrapF k (Int.add a b)) s K) (intV k (wrapF k (Int.sub a b)) s K) (intV k (wrapF k (Int.mul a b)) s K)
    (ifK (eqI b 0) (fail 3) (intV k (k.wrap (a.tdiv b)) s K)) (ifK (eqI b 0) (fail 3) (intV k (a.tmod b) s K))
    (intV k (k.wrap (BitVec.ofInt k.bits a &&& BitVec.ofInt k.bits b).toNat) s K) (intV k (k.wrap (BitVec.ofInt k.bits a ||| BitVec.ofInt k.bits b).toNat) s K)
    (intV k (k.wrap (BitVec.ofInt k.bits a ^^^ BitVec.ofInt k.bits b).toNat) s K)
    (ifK (ltI b 0) (fail 4) (intV k (k.wrap (a * 2 ^ min b.toNat k.bits)) s K)) (ifK (ltI b 0) (fail 4) (intV k (a.fdiv (2 ^ min b.toNat k.bits)) s K))
    (intV k (k.wrap (BitVec.ofInt k.bits a &&& ~~~BitVec.ofInt k.bits b).toNat) s K)
    (boolV (eqI a b) s K) (boolV (notB (eqI a b)) s K) (boolV (ltI a b) s K) (boolV (notB (ltI b a)) s K) (boolV (ltI b a) s K) (boolV (notB (ltI a b)) s K) op
def isShift : BinOp → Bool
  | .shl => true
  | .shr => true
  | _ => false
noncomputable def eqBytes (x : List UInt8) : List UInt8 → Bool :=
  @List.rec UInt8 (fun _ => List UInt8 → Bool) (fun y => @List.rec UInt8 (fun _ => Bool) true (fun _ _ _ => false) y)
    (fun a _ ih y => @List.rec UInt8 (fun _ => Bool) false (fun b r _ => ifK (Nat.beq a.toNat b.toNat) (ih r) false) y) x
noncomputable def ltBytes (x : List UInt8) : List UInt8 → Bool :=
  @List.rec UInt8 (fun _ => List UInt8 → Bool) (fun y => @List.rec UInt8 (fun _ => Bool) false (fun _ _ _ => true) y)
    (fun a _ ih y => @List.rec UInt8 (fun _ => Bool) false (fun b r _ => ifK (Nat.ble (Nat.succ a.toNat) b.toNat) true (ifK (Nat.beq a.toNat b.toNat) (ih r) false)) y) x
noncomputable def strBin (op : BinOp) (a b : List UInt8) (s : St) (K : VK) : Bool :=
  @BinOp.rec (fun _ => Bool) (lenK a 0 fun n => lenK b 0 fun m => ifK (Nat.ble (Nat.add n m) 9223372036854775807) (appK a b fun l => K (.str l) s) (fail 5)) (fail 6) (fail 6) (fail 6) (fail 6) (fail 6) (fail 6) (fail 6) (fail 6) (fail 6) (fail 6)
    (boolV (eqBytes a b) s K) (boolV (notB (eqBytes a b)) s K) (boolV (ltBytes a b) s K) (boolV (notB (ltBytes b a)) s K) (boolV (ltBytes b a) s K) (boolV (notB (ltBytes a b)) s K) op
/-- `==` and `!=` where one side's answer is known. -/
noncomputable def eqBin (op : BinOp) (e : Bool) (s : St) (K : VK) : Bool :=
  @BinOp.rec (fun _ => Bool) (fail 7) (fail 7) (fail 7) (fail 7) (fail 7) (fail 7) (fail 7) (fail 7) (fail 7) (fail 7) (fail 7) (boolV e s K) (boolV (notB e) s K) (fail 7) (fail 7) (fail 7) (fail 7) op
noncomputable def eqBool (a b : Bool) : Bool := @Bool.rec (fun _ => Bool) (notB b) b a

/-! Equality of keys and of structs: cell by cell. -/
/-- The cells of a type whose values are compared cell by cell. -/
def flatFields (P : Program) (fl : TypeId → Option (List SK)) : List Field → Nat → Option (List SK)
  | [], _ => some []
  | f :: r, off =>
    match fl f.type with
    | none => none
    | some l =>
      if f.name ≠ "_" ∧ f.offset = off ∧ tySize P f.type = some l.length then
        match flatFields P fl r (off + l.length) with
        | some m => some (l ++ m)
        | none => none
      else none
def flat (P : Program) : Nat → TypeId → Option (List SK)
  | 0, _ => none
  | d + 1, t =>
    match P.underlying t with
    | some .bool => some [.bool]
    | some (.int _) => some [.int]
    | some .string => some [.str]
    | some (.struct fs) => if P.stoodInHeld t then none else flatFields P (flat P d) fs.toList 0
    | some (.array n e) =>
      match flat P d e with
      | some l => if tySize P e = some l.length then some (List.replicate n l).flatten else none
      | none => none
    | _ => none
def aggT (P : Program) (t : TypeId) : Bool :=
  match P.underlying t with
  | some d => isAggT d
  | none => false
/-- A key's cells, and whether it is an aggregate. -/
def keyShape (P : Program) (t : TypeId) : Option (Bool × List SK) :=
  match flat P 20 t with
  | some l => some (aggT P t, l)
  | none => none
def eqShape (P : Program) (t : TypeId) : Option (List SK) :=
  match flat P 20 t with
  | some l => if P.eqGuardType P.depth t = false ∧ aggT P t = true then some l else none
  | none => none
/-- Are two cells equal? None where they are not of one kind. -/
noncomputable def eqCell (k : SK) (a b : AVal) (K : Bool → Bool) : Bool :=
  @SK.rec (fun _ => Bool) (a.boolK fun x => b.boolK fun y => K (eqBool x y))
    (a.intK fun j x => b.intK fun k y => ifK (Nat.beq (kindCode j) (kindCode k)) (K (eqI x y)) (fail 8)) (a.strK fun x => b.strK fun y => K (eqBytes x y)) k
noncomputable def eqCells (ks : List SK) : List AVal → List AVal → (Bool → Bool) → Bool :=
  @List.rec SK (fun _ => List AVal → List AVal → (Bool → Bool) → Bool) (fun _ _ K => K true)
    (fun k _ ih x y K => @List.rec AVal (fun _ => Bool) (fail 9) (fun a x _ => @List.rec AVal (fun _ => Bool) (fail 9) (fun b y _ => eqCell k a b fun e => ifK e (ih x y K) (K false)) y) x) ks
noncomputable def keyCells (agg : Bool) (ks : List SK) (v : AVal) (K : List AVal → Bool) : Bool :=
  @Bool.rec (fun _ => Bool) (K [v]) (v.aggK fun l => lenK l 0 fun n => lenK ks 0 fun m => ifK (Nat.beq n m) (K l) (fail 54)) agg
/-- The first entry that bears a key: what it holds, and its place. -/
noncomputable def findK (agg : Bool) (ks : List SK) (key : List AVal) (es : List MapE) : Nat → (Option (Nat × AVal) → Bool) → Bool :=
  @List.rec MapE (fun _ => Nat → (Option (Nat × AVal) → Bool) → Bool) (fun _ K => K none)
    (fun e _ ih i K => keyCells agg ks e.key fun c => eqCells ks key c fun b => ifK b (K (some (i, e.val))) (ih (Nat.succ i) K)) es
noncomputable def setValK (v : AVal) (key : AVal) (es : List MapE) : Nat → (List MapE → Bool) → Bool :=
  @List.rec MapE (fun _ => Nat → (List MapE → Bool) → Bool) (fun _ _ => false)
    (fun e r ih i K => @Nat.rec (fun _ => Bool) (K ({ key := key, val := v, born := e.born } :: r)) (fun j _ => ih j fun r => K (e :: r)) i) es
def mapInfo (P : Program) (t : TypeId) : Option (Bool × List SK × AVal) :=
  match P.underlying t with
  | some (.map k e) =>
    match keyShape P k, zeroV P e with
    | some (a, l), some z => some (a, l, z)
    | _, _ => none
  | _ => none
noncomputable def opLookup (P : Program) (t : TypeId) (ok : Bool) (m i : Option AVal) (s : St) (K : VK) : Bool :=
  optK (mapInfo P t) fun info => optK m fun m => optK i fun i =>
    keyCells info.1 info.2.1 i fun key => m.mapK fun b => mapK b s fun es _ => findK info.1 info.2.1 key es 0 fun r =>
      @Option.rec (Nat × AVal) (fun _ => Bool) (ifK ok (K (.tup [info.2.2, .bool false]) s) (K info.2.2 s)) (fun x => ifK ok (K (.tup [x.2, .bool true]) s) (K x.2 s)) r
noncomputable def opMapSet (P : Program) (t : TypeId) (m i x : Option AVal) (s : St) (K : VK) : Bool :=
  optK (mapInfo P t) fun info => optK m fun m => optK i fun i => optK x fun x =>
    keyCells info.1 info.2.1 i fun key => m.mapK fun b => mapK b s fun es clock => findK info.1 info.2.1 key es 0 fun r =>
      @Option.rec (Nat × AVal) (fun _ => Bool)
        (appK es [{ key := i, val := x, born := clock }] fun es => natK (Nat.succ clock) fun c => putK b (.map es c) s fun s => K (.tup []) s)
        (fun p => setValK x i es p.1 fun es => putK b (.map es clock) s fun s => K (.tup []) s) r

def eqKind (P : Program) (t : TypeId) : EK :=
  match P.underlying t with
  | some .bool => .bool
  | some (.pointer _) => .ptr
  | some (.slice _) => .slc
  | some (.map _ _) => .map
  | some (.func _ _ _) => .func
  | some (.struct _) => .agg
  | some (.array _ _) => .agg
  | _ => .other
def isEK (P : Program) (t : TypeId) : EK → Bool
  | .bool => match eqKind P t with | .bool => true | _ => false
  | .ptr => match eqKind P t with | .ptr => true | _ => false
  | .slc => match eqKind P t with | .slc => true | _ => false
  | .map => match eqKind P t with | .map => true | _ => false
  | .func => match eqKind P t with | .func => true | _ => false
  | .agg => match eqKind P t with | .agg => true | _ => false
  | .other => false
/-- Is the value the nil of its kind (or not)? -/
noncomputable def nilOf (v : AVal) (ptr slc mp fn : Bool → Bool) : Bool :=
  @AVal.rec (fun _ => Bool) (fun _ => Bool) (fun _ => false) (fun _ _ => false) (fun _ => false) (fun _ _ => ptr false) (ptr true) (fun _ _ _ _ => slc false) (slc true) (fun _ => mp false) (mp true)
    (fun _ _ _ _ _ => fn false) (fun _ => false) (fn true) (fun _ _ _ => false) false (fun _ _ => false) (fun _ _ => false) false (fun _ _ _ _ => false) v
/-- Two values of one kind, of which one at least is nil. -/
noncomputable def bothNil (a b : Bool) (K : Bool → Bool) : Bool := ifK a (K b) (ifK b (K false) (fail 10))
noncomputable def eqRest (P : Program) (op : BinOp) (t : TypeId) (x y : AVal) (s : St) (K : VK) : Bool :=
  nilOf x
    (fun a => ifK (isEK P t .ptr) (nilOf y (fun b => bothNil a b fun e => eqBin op e s K) (fun _ => false) (fun _ => false) (fun _ => false)) (fail 11))
    (fun a => ifK (isEK P t .slc) (nilOf y (fun _ => false) (fun b => bothNil a b fun e => eqBin op e s K) (fun _ => false) (fun _ => false)) (fail 11))
    (fun a => ifK (isEK P t .map) (nilOf y (fun _ => false) (fun _ => false) (fun b => bothNil a b fun e => eqBin op e s K) (fun _ => false)) (fail 11))
    (fun a => ifK (isEK P t .func) (nilOf y (fun _ => false) (fun _ => false) (fun _ => false) (fun b => bothNil a b fun e => eqBin op e s K)) (fail 11))
noncomputable def eqAgg (P : Program) (op : BinOp) (t : TypeId) (x : List AVal) (y : AVal) (s : St) (K : VK) : Bool :=
  optK (eqShape P t) fun ks => y.aggK fun y => lenK ks 0 fun n => lenK x 0 fun a => lenK y 0 fun b => ifK (Nat.beq a n) (ifK (Nat.beq b n) (eqCells ks x y fun e => eqBin op e s K) (fail 55)) (fail 55)
noncomputable def opBin (P : Program) (op : BinOp) (t : TypeId) (x y : Option AVal) (s : St) (K : VK) : Bool :=
  optK x fun x => optK y fun y =>
    @AVal.rec (fun _ => Bool) (fun _ => Bool)
      (fun a => y.boolK fun b => ifK (isEK P t .bool) (eqBin op (eqBool a b) s K) (fail 12))
      (fun k a => y.intK fun j b => ifK (isShift op) (intBin op k a b s K) (ifK (Nat.beq (kindCode k) (kindCode j)) (intBin op k a b s K) (fail 13)))
      (fun a => y.strK fun b => strBin op a b s K)
      (fun b o => eqRest P op t (.ptr b o) y s K) (eqRest P op t .nilPtr y s K) (fun b o n c => eqRest P op t (.slice b o n c) y s K) (eqRest P op t .nilSlice y s K)
      (fun b => eqRest P op t (.map b) y s K) (eqRest P op t .nilMap y s K) (fun f a c _ _ => eqRest P op t (.fn f a c) y s K) (fun _ => false) (eqRest P op t .nilFn y s K)
      (fun _ _ _ => false) false (fun l _ => eqAgg P op t l y s K) (fun _ _ => false) false (fun _ _ _ _ => false) x
noncomputable def opUn (op : UnOp) (x : Option AVal) (s : St) (K : VK) : Bool :=
  optK x fun x => @UnOp.rec (fun _ => Bool) (x.intK fun k n => intV k (wrapF k (Int.sub 0 n)) s K)
    (x.intK fun k n => intV k (k.wrap (BitVec.ofInt k.bits (if k.signed then -1 else k.max) ^^^ BitVec.ofInt k.bits n).toNat) s K) (x.boolK fun b => boolV (notB b) s K) (fail 14) op
noncomputable def opExtract (x : Option AVal) (i : Nat) (s : St) (K : VK) : Bool := optK x fun x => x.tupK fun l => nthK l i fun v => K v s
noncomputable def opFieldAddr (P : Program) (t : TypeId) (x : Option AVal) (i : Nat) (s : St) (K : VK) : Bool :=
  optK (fieldOff P t i) fun fo => optK x fun x => x.ptrK fun b off => natK (Nat.add off fo) fun o => K (.ptr b o) s
noncomputable def opField (P : Program) (t : TypeId) (x : Option AVal) (i : Nat) (s : St) (K : VK) : Bool :=
  optK (fieldVal P t i) fun f => optK x fun x => x.aggK fun l => partK f.2 l f.1 fun v => K v s
noncomputable def opIndexAddr (P : Program) (t : TypeId) (x i : Option AVal) (s : St) (K : VK) : Bool :=
  optK x fun x => optK i fun i => i.intK fun _ i => idxK i fun i =>
    @TK.rec (fun _ => Bool) (fail 15)
      (optK (slcInfo P t) fun e => x.sliceK fun b off n _ => ifK (Nat.ble (Nat.succ i) n) (natK (Nat.add off (Nat.mul i e.1)) fun o => K (.ptr b o) s) (fail 16))
      (optK (arrInfo P t) fun e => x.ptrK fun b off => ifK (Nat.ble (Nat.succ i) e.1) (natK (Nat.add off (Nat.mul i e.2)) fun o => K (.ptr b o) s) (fail 17))
      (fail 15) (fail 15) (tyKind P t)
noncomputable def opIndex (P : Program) (t : TypeId) (x i : Option AVal) (s : St) (K : VK) : Bool :=
  optK x fun x => optK i fun i => i.intK fun _ i => idxK i fun i =>
    @TK.rec (fun _ => Bool) (x.strK fun l => nthK l i fun c => natK c.toNat fun n => K (.int .u8 (.ofNat n)) s)
      (fail 18)
      (optK (arrVal P t) fun e => x.aggK fun l => ifK (Nat.ble (Nat.succ i) e.1) (partK e.2.2 l (Nat.mul i e.2.1) fun v => K v s) (fail 19))
      (fail 18) (fail 18) (tyKind P t)

/-- A bound of a slice expression. -/
noncomputable def boundK (x : Option (Option AVal)) (d : Nat) (K : Nat → Bool) : Bool :=
  @Option.rec (Option AVal) (fun _ => Bool) (K d) (fun v => optK v fun v => v.intK fun _ n => idxK n K) x
noncomputable def le3K (a b c : Nat) (x : Bool) : Bool := ifK (Nat.ble a b) (ifK (Nat.ble b c) x (fail 20)) (fail 20)
noncomputable def cutK (es : Nat) (b : Pos) (off len : Nat) (cap : Cap) (lo hi mx : Option (Option AVal)) (s : St) (K : VK) : Bool :=
  boundK lo 0 fun l => boundK hi len fun h =>
    @Cap.rec (fun _ => Bool)
      (fun c => boundK mx c fun m => ifK (Nat.ble m c) (le3K l h m (ifK (Nat.beq m l) (K (.slice b off 0 (.lim 0)) s)
        (natK (Nat.add off (Nat.mul l es)) fun o => natK (Nat.sub h l) fun n => natK (Nat.sub m l) fun c => K (.slice b o n (.lim c)) s))) (fail 22))
      (fun e => ifK (Nat.beq e es) (@Option.rec (Option AVal) (fun _ => Bool) (le3K l h len (natK (Nat.add off (Nat.mul l es)) fun o => natK (Nat.sub h l) fun n => K (.slice b o n (.opn e)) s)) (fun _ => fail 21) mx) (fail 21)) cap
/-- A slice expression with a third bound names its second one. -/
noncomputable def maxHigh (hi mx : Option (Option AVal)) (x : Bool) : Bool :=
  @Option.rec (Option AVal) (fun _ => Bool) x (fun _ => @Option.rec (Option AVal) (fun _ => Bool) (fail 23) (fun _ => x) hi) mx
noncomputable def opSlice (P : Program) (t : TypeId) (x : Option AVal) (lo hi mx : Option (Option AVal)) (s : St) (K : VK) : Bool :=
  optK x fun x => maxHigh hi mx
    (@TK.rec (fun _ => Bool)
      (x.strK fun l => lenK l 0 fun n => boundK lo 0 fun a => boundK hi n fun b => @Option.rec (Option AVal) (fun _ => Bool) (le3K a b n (segK l a (Nat.sub b a) fun l => K (.str l) s)) (fun _ => fail 24) mx)
      (optK (slcInfo P t) fun e =>
        @AVal.rec (fun _ => Bool) (fun _ => Bool) (fun _ => false) (fun _ _ => false) (fun _ => false) (fun _ _ => false) false (fun b off n c => cutK e.1 b off n c lo hi mx s K)
          (boundK lo 0 fun l => boundK hi 0 fun h => boundK mx 0 fun m => ifK (Nat.beq l 0) (ifK (Nat.beq h 0) (ifK (Nat.beq m 0) (K .nilSlice s) (fail 25)) (fail 25)) (fail 25))
          (fun _ => false) false (fun _ _ _ _ _ => false) (fun _ => false) false (fun _ _ _ => false) false (fun _ _ => false) (fun _ _ => false) false (fun _ _ _ _ => false) x)
      (optK (arrInfo P t) fun e => x.ptrK fun b off => cutK e.2 b off e.1 (.lim e.1) lo hi mx s K)
      (fail 26) (fail 26) (tyKind P t))

noncomputable def repK (n : Nat) (zs : List AVal) : List AVal → (List AVal → Bool) → Bool :=
  @Nat.rec (fun _ => List AVal → (List AVal → Bool) → Bool) (fun acc K => K acc) (fun _ ih acc K => appK zs acc fun acc => ih acc K) n
def smallB : Nat := 1099511627776
noncomputable def opMakeSlice (P : Program) (t : TypeId) (l c : Option AVal) (s : St) (K : VK) : Bool :=
  optK (slcInfo P t) fun e => optK ((slcElem P t).bind (zeroCells P)) fun zs => lenK zs 0 fun zn => ifK (Nat.beq zn e.1)
    (optK l fun l => optK c fun c => l.intK fun _ l => c.intK fun _ c => idxK l fun l => idxK c fun c =>
      ifK (Nat.ble l c) (ifK (Nat.ble (Nat.mul c e.2) smallB) (ifK (Nat.ble c smallB) (repK c zs [] fun cs => allocK (.cells cs false) s fun b s => K (.slice b 0 l (.lim c)) s) (fail 27)) (fail 27)) (fail 28)) (fail 28)

/-- The values of operands. -/
noncomputable def valsK (ρ : Operand → Option AVal) (l : List Operand) : (List AVal → Bool) → Bool :=
  @List.rec Operand (fun _ => (List AVal → Bool) → Bool) (fun K => K []) (fun x _ ih K => optK (ρ x) fun v => ih fun r => K (v :: r)) l
/-- The parts of an aggregate, each with its place and its cells. -/
noncomputable def fillK (ρ : Operand → Option AVal) (l : List (Nat × Nat × Operand)) : List AVal → (List AVal → Bool) → Bool :=
  @List.rec (Nat × Nat × Operand) (fun _ => List AVal → (List AVal → Bool) → Bool) (fun cs K => K cs)
    (fun x _ ih cs K => optK (ρ x.2.2) fun v => noTup v (v.cellsK fun vs => lenK vs 0 fun n => ifK (Nat.beq n x.2.1) (putAtK vs cs x.1 fun cs => ih cs K) (fail 29))) l
def placesS (P : Program) (fs : Array Field) : List (Nat × Operand) → Option (List (Nat × Nat × Operand))
  | [] => some []
  | (i, x) :: r => match fs[i]? with
    | some f => match tySize P f.type, placesS P fs r with
      | some n, some l => some ((f.offset, n, x) :: l)
      | _, _ => none
    | none => none
def placesA (es : Nat) : List (Nat × Operand) → List (Nat × Nat × Operand)
  | [] => []
  | (i, x) :: r => (i * es, es, x) :: placesA es r
def sizesOk (P : Program) (fs : Array Field) : Bool := fs.toList.all fun f => (tySize P f.type).isSome
def buildPlan (P : Program) (t : TypeId) (parts : Array (Nat × Operand)) : Option (List (Nat × Nat × Operand)) :=
  match P.underlying t with
  | some (.struct fs) => if sizesOk P fs then placesS P fs parts.toList else none
  | some (.array _ e) => match tySize P e with
    | some n => some (placesA n parts.toList)
    | none => none
  | _ => none
noncomputable def opBuild (P : Program) (t : TypeId) (parts : Array (Nat × Operand)) (ρ : Operand → Option AVal) (s : St) (K : VK) : Bool :=
  optK (buildPlan P t parts) fun pl => optK (zeroCells P t) fun zs => fillK ρ pl zs fun cs => K (.agg cs) s
noncomputable def opBuildSlice (P : Program) (t : TypeId) (len : Nat) (parts : Array (Nat × Operand)) (ρ : Operand → Option AVal) (s : St) (K : VK) : Bool :=
  optK (slcInfo P t) fun e => optK ((slcElem P t).bind (zeroCells P)) fun zs => lenK zs 0 fun zn => ifK (Nat.beq zn e.1)
    (ifK (Nat.ble (Nat.mul len e.1) 16777216) (repK len zs [] fun cs => fillK ρ (placesA e.1 parts.toList) cs fun cs => allocK (.cells cs false) s fun b s => K (.slice b 0 len (.lim len)) s) (fail 30)) (fail 30)

def appendInfo (P : Program) (ts : Array TypeId) : Option (Nat × Nat) :=
  match ts[0]? with
  | some t =>
    match slcInfo P t with
    | some (es, eb) =>
      if 0 < es ∧ 0 < eb ∧ eb ≤ 1048576 ∧ ((slcElem P t).bind (zeroCells P)).map List.length = some es then
        match ts[1]? with
        | some u => match P.underlying u with
          | some (.int _) => none
          | some _ => some (es, eb)
          | none => none
        | none => some (es, eb)
      else none
    | none => none
  | none => none
noncomputable def bytesK (l : List UInt8) (K : List AVal → Bool) : Bool :=
  @List.rec UInt8 (fun _ => (List AVal → Bool) → Bool) (fun K => K []) (fun c _ ih K => natK c.toNat fun n => ih fun r => K (.int .u8 (.ofNat n) :: r)) l K
/-- The cells that an append or a copy takes, so many elements. -/
noncomputable def srcK (es : Nat) (x : AVal) (s : St) (K : List AVal → Nat → Bool) : Bool :=
  @AVal.rec (fun _ => Bool) (fun _ => Bool) (fun _ => false) (fun _ _ => false) (fun l => ifK (Nat.beq es 1) (lenK l 0 fun n => bytesK l fun cs => K cs n) (fail 31)) (fun _ _ => false) false
    (fun b off n _ => ifK (Nat.beq n 0) (K [] 0) (cellsK b s fun cs _ => segK cs off (Nat.mul n es) fun l => K l n)) (K [] 0)
    (fun _ => false) false (fun _ _ _ _ _ => false) (fun _ => false) false (fun _ _ _ => false) false (fun _ _ => false) (fun _ _ => false) false (fun _ _ _ _ => false) x
noncomputable def smallK (need eb : Nat) (x : Bool) : Bool := ifK (Nat.ble (Nat.mul need eb) smallB) x (fail 32)
noncomputable def growK (es : Nat) (cs : List AVal) (need : Nat) (s : St) (K : VK) : Bool := allocK (.cells cs false) s fun b s => K (.slice b 0 need (.opn es)) s
/-- An append whose capacity is not known: within what is known of the row it stays there; else the old row is given up. -/
noncomputable def appOpen (es eb : Nat) (b : Pos) (off len need : Nat) (new : List AVal) (s : St) (K : VK) : Bool :=
  cellsK b s fun cs ro => ifK ro (fail 33) (lenK cs 0 fun L =>
    ifK (Nat.ble 1 len) (ifK (Nat.ble (Nat.add off (Nat.mul need es)) L)
        (putAtK new cs (Nat.add off (Nat.mul len es)) fun cs => putK b (.cells cs false) s fun s => K (.slice b off need (.opn es)) s)
        (smallK need eb (segK cs off (Nat.mul len es) fun old => appK old new fun cs => putK b .dead s fun s => growK es cs need s K)))
      (smallK need eb (putK b .dead s fun s => growK es new need s K)))
noncomputable def appExact (es eb : Nat) (b : Pos) (off len c need : Nat) (new : List AVal) (s : St) (K : VK) : Bool :=
  ifK (Nat.ble need c) (writeK b (Nat.add off (Nat.mul len es)) new s fun s => K (.slice b off need (.lim c)) s)
    (smallK need eb (ifK (Nat.beq len 0) (growK es new need s K) (cellsK b s fun cs _ => segK cs off (Nat.mul len es) fun old => appK old new fun cs => growK es cs need s K)))
noncomputable def opAppend (P : Program) (ts : Array TypeId) (x y : Option AVal) (s : St) (K : VK) : Bool :=
  optK (appendInfo P ts) fun e => optK x fun x => optK y fun y => srcK e.1 y s fun new n =>
    @AVal.rec (fun _ => Bool) (fun _ => Bool) (fun _ => false) (fun _ _ => false) (fun _ => false) (fun _ _ => false) false
      (fun b off len cap => natK (Nat.add len n) fun need =>
        @Cap.rec (fun _ => Bool) (fun c => ifK (Nat.beq n 0) (ifK (Nat.ble len c) (K (.slice b off len (.lim c)) s) (fail 34)) (appExact e.1 e.2 b off len c need new s K))
          (fun es => ifK (Nat.beq n 0) (K (.slice b off len (.opn es)) s) (ifK (Nat.beq es e.1) (appOpen e.1 e.2 b off len need new s K) (fail 34))) cap)
      (ifK (Nat.beq n 0) (K .nilSlice s) (smallK n e.2 (growK e.1 new n s K)))
      (fun _ => false) false (fun _ _ _ _ _ => false) (fun _ => false) false (fun _ _ _ => false) false (fun _ _ => false) (fun _ _ => false) false (fun _ _ _ _ => false) x
noncomputable def dstLen (x : AVal) (K : Nat → Bool) : Bool :=
  @AVal.rec (fun _ => Bool) (fun _ => Bool) (fun _ => false) (fun _ _ => false) (fun l => lenK l 0 K) (fun _ _ => false) false (fun _ _ n _ => K n) (K 0)
    (fun _ => false) false (fun _ _ _ _ _ => false) (fun _ => false) false (fun _ _ _ => false) false (fun _ _ => false) (fun _ _ => false) false (fun _ _ _ _ => false) x
noncomputable def slLen (x : AVal) (K : Nat → Bool) : Bool :=
  @AVal.rec (fun _ => Bool) (fun _ => Bool) (fun _ => false) (fun _ _ => false) (fun _ => false) (fun _ _ => false) false (fun _ _ n _ => K n) (K 0)
    (fun _ => false) false (fun _ _ _ _ _ => false) (fun _ => false) false (fun _ _ _ => false) false (fun _ _ => false) (fun _ _ => false) false (fun _ _ _ _ => false) x
def copyInfo (P : Program) (ts : Array TypeId) : Option Nat :=
  match ts[0]? with
  | some t => (slcInfo P t).map (·.1)
  | none => none
noncomputable def opCopy (P : Program) (ts : Array TypeId) (x y : Option AVal) (s : St) (K : VK) : Bool :=
  optK (copyInfo P ts) fun es => optK x fun x => optK y fun y => slLen x fun m => dstLen y fun n =>
    natK (Nat.min n m) fun k => ifK (Nat.beq k 0) (K (.int .i64 (.ofNat 0)) s)
      (srcK es y s fun cs _ => takeK cs (Nat.mul k es) fun cs => x.sliceK fun b off _ _ => writeK b off cs s fun s => K (.int .i64 (.ofNat k)) s)
def lenInfo (P : Program) (ts : Array TypeId) : Option (TK × Nat) :=
  match ts[0]? with
  | some t => match P.underlying t with
    | some .string => some (.str, 0)
    | some (.slice _) => some (.slc, 0)
    | some (.map _ _) => some (.map, 0)
    | some (.array n _) => some (.arr, n)
    | some (.pointer a) => match P.underlying a with
      | some (.array n _) => some (.arr, n)
      | _ => none
    | _ => none
  | none => none
noncomputable def natV (n : Nat) (s : St) (K : VK) : Bool := natK n fun n => K (.int .i64 (.ofNat n)) s
noncomputable def opLen (P : Program) (ts : Array TypeId) (x : Option AVal) (s : St) (K : VK) : Bool :=
  optK (lenInfo P ts) fun e => optK x fun x =>
    @TK.rec (fun _ => Bool) (x.strK fun l => lenK l 0 fun n => K (.int .i64 (.ofNat n)) s)
      (@AVal.rec (fun _ => Bool) (fun _ => Bool) (fun _ => false) (fun _ _ => false) (fun _ => false) (fun _ _ => false) false (fun _ _ n _ => K (.int .i64 (.ofNat n)) s) (K (.int .i64 (.ofNat 0)) s)
        (fun _ => false) false (fun _ _ _ _ _ => false) (fun _ => false) false (fun _ _ _ => false) false (fun _ _ => false) (fun _ _ => false) false (fun _ _ _ _ => false) x)
      (natV e.2 s K)
      (@AVal.rec (fun _ => Bool) (fun _ => Bool) (fun _ => false) (fun _ _ => false) (fun _ => false) (fun _ _ => false) false (fun _ _ _ _ => false) false
        (fun b => mapK b s fun es _ => lenK es 0 fun n => K (.int .i64 (.ofNat n)) s) (K (.int .i64 (.ofNat 0)) s)
        (fun _ _ _ _ _ => false) (fun _ => false) false (fun _ _ _ => false) false (fun _ _ => false) (fun _ _ => false) false (fun _ _ _ _ => false) x)
      (fail 35) e.1
def capInfo (P : Program) (ts : Array TypeId) : Bool :=
  match ts[0]? with
  | some t => (slcElem P t).isSome
  | none => false
/-- The least or greatest of integers. -/
noncomputable def mnmxK (mx : Bool) (l : List AVal) : AVal → (AVal → Bool) → Bool :=
  @List.rec AVal (fun _ => AVal → (AVal → Bool) → Bool) (fun v K => v.intK fun k n => K (.int k n))
    (fun y _ ih x K => x.intK fun k a => y.intK fun _ b => ifK mx (ifK (ltI a b) (ih (.int k b) K) (ih (.int k a) K)) (ifK (ltI b a) (ih (.int k b) K) (ih (.int k a) K))) l
noncomputable def opMnmx (mx : Bool) (l : List AVal) (s : St) (K : VK) : Bool :=
  @List.rec AVal (fun _ => Bool) (fail 36) (fun x r _ => mnmxK mx r x fun v => K v s) l
def clearInfo (P : Program) (ts : Array TypeId) : Option (Option (Nat × List AVal)) :=
  match ts[0]? with
  | some t => match P.underlying t with
    | some (.slice e) => match tySize P e, zeroCells P e with
      | some n, some zs => if n = zs.length then some (some (n, zs)) else none
      | _, _ => none
    | some (.map _ _) => some none
    | _ => none
  | none => none
noncomputable def opClear (P : Program) (ts : Array TypeId) (x : Option AVal) (s : St) (K : VK) : Bool :=
  optK (clearInfo P ts) fun e => optK x fun x => @Option.rec (Nat × List AVal) (fun _ => Bool)
    (x.mapK fun b => mapK b s fun _ c => putK b (.map [] c) s fun s => K (.tup []) s)
    (fun e => @AVal.rec (fun _ => Bool) (fun _ => Bool) (fun _ => false) (fun _ _ => false) (fun _ => false) (fun _ _ => false) false
      (fun b off n _ => ifK (Nat.beq n 0) (K (.tup []) s) (repK n e.2 [] fun vs => writeK b off vs s fun s => K (.tup []) s)) (K (.tup []) s)
      (fun _ => false) false (fun _ _ _ _ _ => false) (fun _ => false) false (fun _ _ _ => false) false (fun _ _ => false) (fun _ _ => false) false (fun _ _ _ _ => false) x) e
def convKind (P : Program) (a b : TypeId) : CK :=
  match P.underlying a, P.underlying b with
  | some (.int _), some (.int k) => .int k
  | some .string, some .string => .same
  | some .string, some (.slice e) => match P.underlying e with
    | some (.int .u8) => .toBytes
    | _ => .bad
  | some (.slice e), some .string => match P.underlying e with
    | some (.int .u8) => .ofBytes
    | _ => .bad
  | _, _ => .bad
/-- The bytes of cells. -/
noncomputable def ofBytesK (l : List AVal) : (List UInt8 → Bool) → Bool :=
  @List.rec AVal (fun _ => (List UInt8 → Bool) → Bool) (fun K => K []) (fun v _ ih K => v.intK fun k n => ifK (Nat.beq (kindCode k) 4) (ih fun r => K (UInt8.ofNat n.toNat :: r)) (fail 37)) l
noncomputable def opConvert (P : Program) (a b : TypeId) (x : Option AVal) (s : St) (K : VK) : Bool :=
  optK x fun x => @CK.rec (fun _ => Bool) (fun k => x.intK fun _ n => intV k (wrapF k n) s K) (x.strK fun l => K (.str l) s)
    (x.strK fun l => lenK l 0 fun n => bytesK l fun cs => ifK (Nat.ble n smallB) (growK 1 cs n s K) (fail 38))
    (srcK 1 x s fun cs _ => ofBytesK cs fun l => K (.str l) s) (fail 39) (convKind P a b)

/-! Where a piece of code finds its operands: among what the region has computed, or among what is kept between regions. -/
def idxOf (t : Tmp) : List (Option Tmp) → Nat → Option Nat
  | [], _ => none
  | x :: r, i => if x = some t then some i else idxOf t r (i + 1)
def resolveO (prev : List (Option Tmp)) : Operand → RO
  | .tmp t => match idxOf t prev 0 with
    | some d => .loc d
    | none => .per (posOf t)
  | .const v => match conv v with
    | some a => .cst a
    | none => .bad
  | .global _ => .bad
  | .func f => .cst (.fn f [] [])
noncomputable def nthO (l : List AVal) : Nat → Option AVal :=
  @List.rec AVal (fun _ => Nat → Option AVal) (fun _ => none) (fun a _ ih i => @Nat.rec (fun _ => Option AVal) (some a) (fun j _ => ih j) i) l
noncomputable def getO (tree : PT AVal) (locals : List AVal) (r : RO) : Option AVal :=
  @RO.rec (fun _ => Option AVal) (fun d => nthO locals d) (fun p => PT.get p tree) (fun v => some v) none r

/-- The temporaries that a region reads and has not written itself, and those that stand outside regions. -/
def opTmps : Operand → List Tmp
  | .tmp t => [t]
  | _ => []
def guardTmp (all : Array Oper) (o : Oper) : Option (Tmp × Bool) :=
  match o.guard with
  | some (j, want) => match (all[j]?).bind (·.dst) with
    | some d => some (d, want)
    | none => none
  | none => none
def operReads (all : Array Oper) (o : Oper) : List Tmp :=
  o.op.operands.toList.flatMap opTmps ++ (match guardTmp all o with | some (t, _) => [t] | none => [])
def addAll : List Tmp → List Tmp → List Tmp
  | [], acc => acc
  | t :: r, acc => addAll r (if acc.contains t then acc else t :: acc)
def regionReads (all : Array Oper) (draw : Bool) : List Oper → List Tmp → List Tmp → List Tmp
  | [], _, acc => acc
  | o :: r, written, acc =>
    regionReads all draw r (o.dst.toList ++ written) (addAll ((operReads all o).filter fun t => draw || !written.contains t) acc)
def codeReads : Code → List Tmp → List Tmp
  | .region _ ops draw, acc => regionReads ops false ops.toList [] (if draw then regionReads ops false ops.toList.reverse [] acc else acc)
  | .seq a b, acc => codeReads b (codeReads a acc)
  | .cond c a b, acc => codeReads b (codeReads a (addAll (opTmps c) acc))
  | .block _ c, acc => codeReads c acc
  | .loop c, acc => codeReads c acc
  | .rangeFunc f _ a b, acc => codeReads b (codeReads a (addAll (opTmps f) acc))
  | .scope c, acc => codeReads c acc
  | _, acc => acc
def resTmps : List ResultVar → List Tmp
  | [] => []
  | .tmp t :: r => t :: resTmps r
  | .cell a _ :: r => a :: resTmps r
structure FI where
  fn : FuncId
  ntmps : Nat
  ps : List Tmp
  round : Option Pos

/-! The order in which a region is run, and what must be looked at again. -/
inductive DItem where
  | run (o : Oper)
  | chk (o : Oper)
  | fresh
/-- 0: it computes; 1: it reads memory; 2: it makes memory; 3: anything. -/
def opClass (P : Program) : Op → Nat
  | .move _ => 0 | .assign _ => 0 | .pick _ _ _ => 0 | .build _ _ => 0 | .nilCheck _ => 0 | .binOp _ _ _ _ _ => 0 | .unOp _ _ _ => 0
  | .convert a b _ => match convKind P a b with
    | .int _ => 0
    | .same => 0
    | _ => 3
  | .makeFunc _ _ _ => 0 | .slice _ _ _ _ _ => 0 | .fieldAddr _ _ _ => 0 | .field _ _ _ => 0 | .indexAddr _ _ _ => 0 | .index _ _ _ => 0 | .extract _ _ => 0
  | .load _ _ => 1
  | .alloc _ => 2 | .box _ _ => 2 | .buildSlice _ _ _ => 2 | .makeSlice _ _ _ => 2 | .makeMap _ _ => 2
  | .call c => match c.callee with
    | .builtin .len => match lenInfo P c.argTypes with
      | some (.map, _) => 3
      | some _ => 0
      | none => 3
    | .builtin .min => 0
    | .builtin .max => 0
    | _ => 3
  | _ => 3
/-- For each operation the operations that must stand ahead of it, as bits. -/
def ancOf (masks : List Nat) (o : Oper) : Option Nat :=
  o.after.toList.foldl (fun acc e => match acc with
    | none => none
    | some m => if Region.binds .any e then (match masks[e.on]? with | some a => some (m ||| a ||| (1 <<< e.on)) | none => none) else some m) (some 0)
def ancs : List Oper → List Nat → Option (List Nat)
  | [], acc => some acc
  | o :: r, acc => match ancOf acc o with
    | some m => ancs r (acc ++ [m])
    | none => none
def allRows (ops : List Oper) (masks : List Nat) : List (Nat × Oper × Nat) := ops.zipIdx.zip masks |>.map fun x => (x.1.2, x.1.1, x.2)
def nextRow (P : Program) (rows : List (Nat × Oper × Nat)) (done : Nat) : Option (Nat × Oper × Nat) :=
  let ready := rows.filter fun x => !done.testBit x.1 && (x.2.2 &&& done == x.2.2)
  match ready.find? fun x => opClass P x.2.1.op != 3 with
  | some x => some x
  | none => ready.head?
/-- Are the temporaries of two operations apart, or is one of both ahead of the other? -/
def tmpsOk (all : Array Oper) (rows : List (Nat × Oper × Nat)) : Bool :=
  rows.all fun x => rows.all fun y => x.1 == y.1 ||
    ((match x.2.1.dst with | some d => y.2.1.dst != some d && (!(operReads all y.2.1).contains d || y.2.2.testBit x.1 || x.2.2.testBit y.1) | none => true) &&
     (match y.2.1.guard with | some (j, _) => y.2.2.testBit j | none => true))
def opAt (ops : Array Oper) (i : Nat) : Oper := ops.getD i default
def maskAt (masks : List Nat) (i : Nat) : Nat := masks.getD i 0
/-- A step of a plan: an operation that computes or reads; one that makes memory; one that may do anything, and the loads that are looked at again behind it. -/
inductive PItem where
  | calm (i : Nat)
  | make (i : Nat)
  | eff (i : Nat) (cs : List Nat)
def loadsLeft (P : Program) (ops : Array Oper) (masks : List Nat) (i : Nat) (done : Nat) : List Nat :=
  (List.range ops.size).filter fun j => done.testBit j && opClass P (opAt ops j).op == 1 && !(maskAt masks i).testBit j
def planGo (P : Program) (ops : Array Oper) (masks : List Nat) (rows : List (Nat × Oper × Nat)) : Nat → (done : Nat) → List PItem
  | 0, _ => []
  | f + 1, done =>
    match nextRow P rows done with
    | none => []
    | some (i, o, _) =>
      (match opClass P o.op with
      | 0 => .calm i
      | 1 => .calm i
      | 2 => .make i
      | _ => .eff i (loadsLeft P ops masks i done)) :: planGo P ops masks rows f (done ||| (1 <<< i))
/-- The operations that have been run write no temporary that an operation reads, but for those that stand ahead of it. -/
def readsOk (ops : Array Oper) (masks : List Nat) (i : Nat) (done : Nat) : Bool :=
  (List.range ops.size).all fun j => !done.testBit j || (maskAt masks i).testBit j || (match (opAt ops j).dst with | some d => !(operReads ops (opAt ops i)).contains d | none => true)
def stepOk (ops : Array Oper) (masks : List Nat) (i : Nat) (done : Nat) : Bool :=
  decide (i < ops.size) && !done.testBit i && (maskAt masks i &&& done == maskAt masks i) && readsOk ops masks i done
def effOk (P : Program) (ops : Array Oper) (masks : List Nat) (i : Nat) (cs : List Nat) (done : Nat) : Bool :=
  (List.range ops.size).all fun j => (done.testBit j || j == i || (maskAt masks j).testBit i) &&
    (!done.testBit j || opClass P (opAt ops j).op != 2 || (maskAt masks i).testBit j) &&
    (!done.testBit j || opClass P (opAt ops j).op != 1 || (maskAt masks i).testBit j || cs.contains j)
def chkOk (P : Program) (ops : Array Oper) (masks : List Nat) (j : Nat) (done : Nat) : Bool :=
  done.testBit j && opClass P (opAt ops j).op == 1 && readsOk ops masks j done && (opAt ops j).dst.isSome
def planOk (P : Program) (ops : Array Oper) (masks : List Nat) : List PItem → Nat → Bool
  | [], done => (List.range ops.size).all fun j => done.testBit j
  | .calm i :: r, done => stepOk ops masks i done && decide (opClass P (opAt ops i).op ≤ 1) && planOk P ops masks r (done ||| (1 <<< i))
  | .make i :: r, done => stepOk ops masks i done && opClass P (opAt ops i).op == 2 && planOk P ops masks r (done ||| (1 <<< i))
  | .eff i cs :: r, done => stepOk ops masks i done && effOk P ops masks i cs done && cs.all (fun j => chkOk P ops masks j (done ||| (1 <<< i))) && planOk P ops masks r (done ||| (1 <<< i))
def PItem.items (ops : Array Oper) : PItem → List DItem
  | .calm i => [.run (opAt ops i)]
  | .make i => [.fresh, .run (opAt ops i)]
  | .eff i cs => .run (opAt ops i) :: cs.map fun j => .chk (opAt ops j)
def planItems (ops : Array Oper) : List PItem → List DItem
  | [] => []
  | p :: r => p.items ops ++ planItems ops r
/-- Edges lead back. -/
def drawPlan (P : Program) (ops : Array Oper) : Option (List DItem) :=
  match ancs ops.toList [] with
  | some masks =>
    let rows := allRows ops.toList masks
    let pl := planGo P ops masks rows ops.size 0
    if tmpsOk ops rows && planOk P ops masks pl 0 then some (planItems ops pl) else none
  | none => none
def itemsOf (P : Program) (ops : Array Oper) (draw : Bool) : Option (List DItem) :=
  if draw then drawPlan P ops else some (ops.toList.map .run)
/-- Every temporary that a region writes lies in the frame. -/
def dstsOk (n : Nat) (ops : Array Oper) : Bool := ops.toList.all fun o => match o.dst with | some d => d < n | none => true
/-- What is kept behind a region: the last value of each temporary that another piece of code reads. -/
def commitPlan (ps : List Tmp) : List (Option Tmp) → List Tmp → List (Option Pos)
  | [], _ => []
  | none :: r, seen => none :: commitPlan ps r seen
  | some t :: r, seen => (if ps.contains t && !seen.contains t then some (posOf t) else none) :: commitPlan ps r (t :: seen)
noncomputable def commitK (pl : List (Option Pos)) : List AVal → PT AVal → (PT AVal → Bool) → Bool :=
  @List.rec (Option Pos) (fun _ => List AVal → PT AVal → (PT AVal → Bool) → Bool) (fun _ t K => K t)
    (fun p _ ih l t K => @List.rec AVal (fun _ => Bool) false (fun v r _ => @Option.rec Pos (fun _ => Bool) (ih r t K) (fun p => PT.setK p v t fun t => ih r t K) p) l) pl

/-! Compiling. -/
def mparts (prev : List (Option Tmp)) (l : List (Nat × Nat × Operand)) : List (Nat × Nat × RO) := l.map fun x => (x.1, x.2.1, resolveO prev x.2.2)
def plainFn : Fn → Option FuncId
  | .func f => some f
  | _ => none
def mcall (P : Program) (prev : List (Option Tmp)) (c : Call) : MOp :=
  match c.callee with
  | .value f => .call (resolveO prev f) (c.args.toList.map (resolveO prev))
  | .invoke _ _ => .bad
  | .builtin b => match b with
    | .append => match c.args.toList with
      | [x, y] => .append (appendInfo P c.argTypes) (resolveO prev x) (resolveO prev y)
      | _ => .bad
    | .len => match c.args.toList with
      | [x] => .len (lenInfo P c.argTypes) (resolveO prev x)
      | _ => .bad
    | .copy => match c.args.toList with
      | [x, y] => .copy (copyInfo P c.argTypes) (resolveO prev x) (resolveO prev y)
      | _ => .bad
    | .min => .mnmx false (c.args.toList.map (resolveO prev))
    | .max => .mnmx true (c.args.toList.map (resolveO prev))
    | .clear => match c.args.toList with
      | [x] => .clear (clearInfo P c.argTypes) (resolveO prev x)
      | _ => .bad
    | _ => .bad
def mop (P : Program) (prev : List (Option Tmp)) : Op → MOp
  | .move x => .move (resolveO prev x)
  | .assign x => .move (resolveO prev x)
  | .pick c a b => .pick (resolveO prev c) (resolveO prev a) (resolveO prev b)
  | .alloc t => .alloc (zeroCells P t)
  | .box _ x => .box (resolveO prev x)
  | .build t ps => .build ((buildPlan P t ps).map (mparts prev)) (zeroCells P t)
  | .buildSlice t n ps => .buildSlice (slcInfo P t) ((slcElem P t).bind (zeroCells P)) n (ps.toList.map fun x => (x.1, resolveO prev x.2))
  | .insert t m k x => .mapSet (mapInfo P t) (resolveO prev m) (resolveO prev k) (resolveO prev x)
  | .load t a => .load (loadSz P t) (resolveO prev a)
  | .store t a x => .store (tySize P t) (resolveO prev a) (resolveO prev x)
  | .nilCheck x => .nilck (resolveO prev x)
  | .binOp op t x y _ => .bin op (eqKind P t) (eqShape P t) (resolveO prev x) (resolveO prev y)
  | .unOp op _ x => .un op (resolveO prev x)
  | .convert a b x => .conv (convKind P a b) (resolveO prev x)
  | .makeFunc f a c => .func (plainFn f) (a.toList.map (resolveO prev)) (c.toList.map (resolveO prev))
  | .makeMap t r => .makeMap (r.isNone && isEK P t .map)
  | .makeSlice t l c => .makeSlice (slcInfo P t) ((slcElem P t).bind (zeroCells P)) (resolveO prev l) (resolveO prev c)
  | .slice t x lo hi mx => .slice (tyKind P t) (slcInfo P t) (arrInfo P t) (resolveO prev x) (lo.map (resolveO prev)) (hi.map (resolveO prev)) (mx.map (resolveO prev))
  | .fieldAddr t x f => .fieldAddr (fieldOff P t f) (resolveO prev x)
  | .field t x f => .field (fieldVal P t f) (resolveO prev x)
  | .indexAddr t x i => .indexAddr (tyKind P t) (slcInfo P t) (arrInfo P t) (resolveO prev x) (resolveO prev i)
  | .index t x i => .index (tyKind P t) (arrVal P t) (resolveO prev x) (resolveO prev i)
  | .lookup t m i ok => .lookup (mapInfo P t) ok (resolveO prev m) (resolveO prev i)
  | .mapUpdate t m k x => .mapSet (mapInfo P t) (resolveO prev m) (resolveO prev k) (resolveO prev x)
  | .extract x i => .extract (resolveO prev x) i
  | .call c => mcall P prev c
  | _ => .bad
def mguard (all : Array Oper) (prev : List (Option Tmp)) (o : Oper) : Option (Option (RO × Bool)) := o.guard.map fun _ => (guardTmp all o).map fun g => (resolveO prev (.tmp g.1), g.2)
def mitems (P : Program) (ps : List Tmp) (all : Array Oper) : List DItem → List (Option Tmp) → List MItem × List (Option Pos)
  | [], prev => ([], commitPlan ps prev [])
  | .run o :: r, prev => let x := mitems P ps all r (o.dst :: prev); (.run (mguard all prev o) (mop P prev o.op) :: x.1, x.2)
  | .chk o :: r, prev => let x := mitems P ps all r prev; (.chk (mguard all prev o) (mop P prev o.op) (o.dst.map fun d => resolveO prev (.tmp d)) :: x.1, x.2)
  | .fresh :: r, prev => let x := mitems P ps all r prev; (.fresh :: x.1, x.2)
def compile (P : Program) (ps : List Tmp) (n : Nat) : Code → MCode
  | .skip => .skip
  | .region _ ops draw => match itemsOf P ops draw with
    | some l => if dstsOk n ops then .region (mitems P ps ops l []).1 (mitems P ps ops l []).2 else .bad
    | none => .bad
  | .seq a b => .seq (compile P ps n a) (compile P ps n b)
  | .cond c a b => .cond (resolveO [] c) (compile P ps n a) (compile P ps n b)
  | .block id c => .block id (compile P ps n c)
  | .loop c => .loop (compile P ps n c)
  | .rangeFunc f params a b => .range (resolveO [] f) params.toList (compile P ps n a) (compile P ps n b)
  | .label _ => .skip
  | .scope c => .scope (compile P ps n c)
  | .exit id => .exit id
  | .ret => .ret
  | _ => .bad
structure FInfo where
  code : MCode
  ntmps : Nat
  nargs : Nat
  ps : List Tmp
  res : List ResultVar
def funInfo (P : Program) (f : FuncId) : Option FInfo :=
  match P.funcs[f]? with
  | some fn => match fn.body with
    | some c => if fn.name = "runtime.NumGoroutine" then none
        else some { code := compile P (codeReads c (resTmps fn.results.toList)) fn.ntmps c, ntmps := fn.ntmps, nargs := fn.params.size + fn.nfree, ps := codeReads c (resTmps fn.results.toList), res := fn.results.toList }
    | none => none
  | none => none
abbrev CodeK := Ex → PT AVal → St → Bool
abbrev RecT := MCode → FI → PT AVal → St → CodeK → Bool

def eqCap : Cap → Cap → Bool
  | .lim a, .lim b => a == b
  | .opn a, .opn b => a == b
  | _, _ => false
/-- Are two values that memory can hold the same? -/
def eqVal : Nat → AVal → AVal → Bool
  | 0, _, _ => false
  | _ + 1, .bool a, .bool b => a == b
  | _ + 1, .int j a, .int k b => j == k && a == b
  | _ + 1, .str a, .str b => a == b
  | _ + 1, .ptr a i, .ptr b j => a.toNat == b.toNat && i == j
  | _ + 1, .nilPtr, .nilPtr => true
  | _ + 1, .slice a i n c, .slice b j m d => a.toNat == b.toNat && i == j && n == m && eqCap c d
  | _ + 1, .nilSlice, .nilSlice => true
  | _ + 1, .map a, .map b => a.toNat == b.toNat
  | _ + 1, .nilMap, .nilMap => true
  | _ + 1, .nilFn, .nilFn => true
  | _ + 1, .nilIface, .nilIface => true
  | d + 1, .fn f a c, .fn g b e => f == g && a.length == b.length && c.length == e.length && (a.zip b).all (fun x => eqVal d x.1 x.2) && (c.zip e).all (fun x => eqVal d x.1 x.2)
  | d + 1, .agg a, .agg b => a.length == b.length && (a.zip b).all fun x => eqVal d x.1 x.2
  | _ + 1, _, _ => false

noncomputable def resK (P : Program) (tree : PT AVal) (s : St) (l : List ResultVar) : (List AVal → Bool) → Bool :=
  @List.rec ResultVar (fun _ => (List AVal → Bool) → Bool) (fun K => K [])
    (fun x _ ih K => @ResultVar.rec (fun _ => Bool) (fun t => optK (PT.get (posOf t) tree) fun v => ih fun r => K (v :: r))
      (fun a t => opLoad P t (PT.get (posOf a) tree) s fun v _ => ih fun r => K (v :: r)) x) l
noncomputable def retK (l : List AVal) (s : St) (K : VK) : Bool :=
  @List.rec AVal (fun _ => Bool) (K (.tup []) s) (fun v r _ => @List.rec AVal (fun _ => Bool) (K v s) (fun _ _ _ => K (.tup l) s) r) l
noncomputable def outK (e : Ex) (x : Bool) : Bool := @Ex.rec (fun _ => Bool) x (fun _ => fail 40) x e
def argPlan (ps : List Tmp) : Nat → Nat → List (Option Pos)
  | 0, _ => []
  | n + 1, i => (if ps.contains i then some (posOf i) else none) :: argPlan ps n (i + 1)
/-- Calls whose answers are known. -/
class Orc where
  get : Program → FuncId → List AVal → Option AVal
variable [Orc]
noncomputable def orcK (P : Program) (f : FuncId) (args : List AVal) (s : St) (K : VK) (x : Bool) : Bool :=
  @Option.rec AVal (fun _ => Bool) x (fun v => K v s) (Orc.get P f args)
noncomputable def callF (P : Program) (rec : RecT) (f : FuncId) (args : List AVal) (s : St) (K : VK) : Bool :=
  orcK P f args s K (optK (funInfo P f) fun fi => lenK args 0 fun n => ifK (Nat.beq n fi.nargs) (ifK (Nat.ble n fi.ntmps)
    (commitK (argPlan fi.ps fi.nargs 0) args .leaf fun tree =>
      rec fi.code { fn := f, ntmps := fi.ntmps, ps := fi.ps, round := none } tree s fun e tree s => outK e (resK P tree s fi.res fun l => retK l s K)) (fail 41)) (fail 41))
def isReady : LoopState → Bool
  | .ready => true
  | _ => false
def isBusy : LoopState → Bool
  | .busy => true
  | _ => false
def paramPlan (ps : List Tmp) (n : Nat) : List Tmp → Option (List (Option Pos))
  | [] => some []
  | t :: r => if t < n then (match paramPlan ps n r with
    | some l => some ((if ps.contains t then some (posOf t) else none) :: l)
    | none => none) else none
noncomputable def normK (e : Ex) (x : Bool) : Bool := @Ex.rec (fun _ => Bool) x (fun _ => fail 42) (fail 42) e
noncomputable def endK (l : Pos) (e : Ex) (s : St) (K : VK) : Bool :=
  loopK l s fun L => @Ex.rec (fun _ => Bool) (putK l (.loop { L with state := .ready, pending := none }) s fun s => K (.bool true) s)
    (fun id => putK l (.loop { L with state := .done, pending := some (.exit id) }) s fun s => K (.bool false) s)
    (putK l (.loop { L with state := .done, pending := some .ret }) s fun s => K (.bool false) s) e
noncomputable def yieldK (P : Program) (rec : RecT) (l : Pos) (args : List AVal) (s : St) (K : VK) : Bool :=
  loopK l s fun L => optK (funInfo P L.fn) fun fi => optK (paramPlan fi.ps fi.ntmps L.params) fun pl => lenK args 0 fun n => lenK L.params 0 fun m => ifK (Nat.beq n m)
    (commitK pl args L.tm fun tree => rec L.assign { fn := L.fn, ntmps := fi.ntmps, ps := fi.ps, round := some l } tree s fun e tree s => normK e
      (loopK l s fun L2 => ifK (isReady L2.state) (putK l (.loop { L2 with state := .busy }) s fun s =>
        rec L.body { fn := L.fn, ntmps := fi.ntmps, ps := fi.ps, round := some l } tree s fun e _ s => endK l e s K) (fail 43))) (fail 43)
noncomputable def callV (P : Program) (rec : RecT) (fv : AVal) (args : List AVal) (s : St) (K : VK) : Bool :=
  @AVal.rec (fun _ => Bool) (fun _ => Bool) (fun _ => false) (fun _ _ => false) (fun _ => false) (fun _ _ => false) false (fun _ _ _ _ => false) false (fun _ => false) false
    (fun f a c _ _ => appK args c fun r => appK a r fun args => callF P rec f args s K) (fun l => yieldK P rec l args s K) (fail 44) (fun _ _ _ => false) false (fun _ _ => false) (fun _ _ => false) false (fun _ _ _ _ => false) fv
noncomputable def callOp (P : Program) (rec : RecT) (c : Call) (ρ : Operand → Option AVal) (s : St) (K : VK) : Bool :=
  @Callee.rec (fun _ => Bool) (fun f => optK (ρ f) fun fv => valsK ρ c.args.toList fun args => callV P rec fv args s K) (fun _ _ => fail 45)
    (fun b => match b with
      | .append => match c.args.toList with
        | [x, y] => opAppend P c.argTypes (ρ x) (ρ y) s K
        | _ => fail 46
      | .len => match c.args.toList with
        | [x] => opLen P c.argTypes (ρ x) s K
        | _ => fail 46
      | .copy => match c.args.toList with
        | [x, y] => opCopy P c.argTypes (ρ x) (ρ y) s K
        | _ => fail 46
      | .min => valsK ρ c.args.toList fun l => opMnmx false l s K
      | .max => valsK ρ c.args.toList fun l => opMnmx true l s K
      | .clear => match c.args.toList with
        | [x] => opClear P c.argTypes (ρ x) s K
        | _ => fail 46
      | _ => fail 46) c.callee
noncomputable def opK (P : Program) (rec : RecT) (o : Op) (ρ : Operand → Option AVal) (s : St) (K : VK) : Bool :=
  match o with
  | .move x => opMove (ρ x) s K
  | .assign x => opMove (ρ x) s K
  | .pick c a b => opPick (ρ c) (ρ a) (ρ b) s K
  | .alloc t => opAlloc P t s K
  | .box _ x => opBox (ρ x) s K
  | .build t ps => opBuild P t ps ρ s K
  | .buildSlice t n ps => opBuildSlice P t n ps ρ s K
  | .insert t m k x => opMapSet P t (ρ m) (ρ k) (ρ x) s K
  | .load t a => opLoad P t (ρ a) s K
  | .store t a x => opStore P t (ρ a) (ρ x) s K
  | .nilCheck x => opNil (ρ x) s K
  | .binOp op t x y _ => opBin P op t (ρ x) (ρ y) s K
  | .unOp op _ x => opUn op (ρ x) s K
  | .convert a b x => opConvert P a b (ρ x) s K
  | .makeFunc f a c => optK (plainFn f) fun f => valsK ρ a.toList fun a => valsK ρ c.toList fun c => K (.fn f a c) s
  | .makeMap t r => ifK r.isNone (ifK (isEK P t .map) (allocK (.map [] 0) s fun b s => K (.map b) s) (fail 47)) (fail 47)
  | .makeSlice t l c => opMakeSlice P t (ρ l) (ρ c) s K
  | .slice t x lo hi mx => opSlice P t (ρ x) (lo.map ρ) (hi.map ρ) (mx.map ρ) s K
  | .fieldAddr t x f => opFieldAddr P t (ρ x) f s K
  | .field t x f => opField P t (ρ x) f s K
  | .indexAddr t x i => opIndexAddr P t (ρ x) (ρ i) s K
  | .index t x i => opIndex P t (ρ x) (ρ i) s K
  | .lookup t m i ok => opLookup P t ok (ρ m) (ρ i) s K
  | .mapUpdate t m k x => opMapSet P t (ρ m) (ρ k) (ρ x) s K
  | .extract x i => opExtract (ρ x) i s K
  | .call c => callOp P rec c ρ s K
  | _ => fail 48

/-- Is an operation asked for? Where its guard's value is no bool it is not. -/
noncomputable def guardK (all : Array Oper) (o : Oper) (ρ : Operand → Option AVal) (x y : Bool) : Bool :=
  @Option.rec (Nat × Bool) (fun _ => Bool) x
    (fun _ => optK (guardTmp all o) fun g => optK (ρ (.tmp g.1)) fun v =>
      @AVal.rec (fun _ => Bool) (fun _ => Bool) (fun b => ifK (eqBool b g.2) x y) (fun _ _ => y) (fun _ => y) (fun _ _ => y) y (fun _ _ _ _ => y) y (fun _ => y) y (fun _ _ _ _ _ => y) (fun _ => y) y
        (fun _ _ _ => y) y (fun _ _ => y) (fun _ _ => y) false (fun _ _ _ _ => false) v) o.guard
noncomputable def itemsK (P : Program) (rec : RecT) (fi : FI) (all : Array Oper) (l : List DItem) :
    List (Option Tmp) → List AVal → PT AVal → St → (PT AVal → St → Bool) → Bool :=
  @List.rec DItem (fun _ => List (Option Tmp) → List AVal → PT AVal → St → (PT AVal → St → Bool) → Bool)
    (fun prev locals tree s K => commitK (commitPlan fi.ps prev []) locals tree fun tree => K tree s)
    (fun it _ ih prev locals tree s K => @DItem.rec (fun _ => Bool)
      (fun o => guardK all o (fun x => getO tree locals (resolveO prev x))
        (opK P rec o.op (fun x => getO tree locals (resolveO prev x)) s fun v s => ih (o.dst :: prev) (v :: locals) tree s K)
        (ih (o.dst :: prev) (.tup [] :: locals) tree s K))
      (fun o => guardK all o (fun x => getO tree locals (resolveO prev x))
        (opK P rec o.op (fun x => getO tree locals (resolveO prev x)) s fun v _ => optK o.dst fun d => optK (getO tree locals (resolveO prev (.tmp d))) fun u =>
          ifK (eqVal 8 v u) (ih prev locals tree s K) (fail 49))
        (ih prev locals tree s K))
      (@Option.rec AObj (fun _ => Bool) (ih prev locals tree s K) (fun _ => fail 56) (PT.get s.next s.heap)) it) l
noncomputable def regionK (P : Program) (rec : RecT) (fi : FI) (ops : Array Oper) (draw : Bool) (tree : PT AVal) (s : St) (K : PT AVal → St → Bool) : Bool :=
  optK (itemsOf P ops draw) fun l => ifK (dstsOk fi.ntmps ops) (itemsK P rec fi ops l [] [] tree s K) (fail 50)
noncomputable def thenK (e : Ex) (tree : PT AVal) (s : St) (x : Bool) (K : CodeK) : Bool := @Ex.rec (fun _ => Bool) x (fun id => K (.exit id) tree s) (K .ret tree s) e
noncomputable def blockK (id : Nat) (e : Ex) (tree : PT AVal) (s : St) (K : CodeK) : Bool :=
  @Ex.rec (fun _ => Bool) (K .normal tree s) (fun i => ifK (Nat.beq i id) (K .normal tree s) (K (.exit i) tree s)) (K .ret tree s) e
noncomputable def pendK (c : Option Code) (tree : PT AVal) (s : St) (K : CodeK) : Bool :=
  @Option.rec Code (fun _ => Bool) (K .normal tree s) (fun c => match c with
    | .exit id => K (.exit id) tree s
    | .ret => K .ret tree s
    | _ => fail 51) c
/-! The operations of the compiled code. -/
noncomputable def mvalsK (γ : RO → Option AVal) (l : List RO) : (List AVal → Bool) → Bool :=
  @List.rec RO (fun _ => (List AVal → Bool) → Bool) (fun K => K []) (fun x _ ih K => optK (γ x) fun v => ih fun r => K (v :: r)) l
noncomputable def mfillK (γ : RO → Option AVal) (l : List (Nat × Nat × RO)) : List AVal → (List AVal → Bool) → Bool :=
  @List.rec (Nat × Nat × RO) (fun _ => List AVal → (List AVal → Bool) → Bool) (fun cs K => K cs)
    (fun x _ ih cs K => optK (γ x.2.2) fun v => noTup v (v.cellsK fun vs => lenK vs 0 fun n => ifK (Nat.beq n x.2.1) (putAtK vs cs x.1 fun cs => ih cs K) (fail 29))) l
def mplacesA (es : Nat) : List (Nat × RO) → List (Nat × Nat × RO)
  | [] => []
  | (i, x) :: r => (i * es, es, x) :: mplacesA es r
def isEKT (e : EK) : EK → Bool
  | .bool => match e with | .bool => true | _ => false
  | .ptr => match e with | .ptr => true | _ => false
  | .slc => match e with | .slc => true | _ => false
  | .map => match e with | .map => true | _ => false
  | .func => match e with | .func => true | _ => false
  | .agg => match e with | .agg => true | _ => false
  | .other => false
noncomputable def meqRest (k : EK) (op : BinOp) (x y : AVal) (s : St) (K : VK) : Bool :=
  nilOf x
    (fun a => ifK (isEKT k .ptr) (nilOf y (fun b => bothNil a b fun e => eqBin op e s K) (fun _ => false) (fun _ => false) (fun _ => false)) (fail 11))
    (fun a => ifK (isEKT k .slc) (nilOf y (fun _ => false) (fun b => bothNil a b fun e => eqBin op e s K) (fun _ => false) (fun _ => false)) (fail 11))
    (fun a => ifK (isEKT k .map) (nilOf y (fun _ => false) (fun _ => false) (fun b => bothNil a b fun e => eqBin op e s K) (fun _ => false)) (fail 11))
    (fun a => ifK (isEKT k .func) (nilOf y (fun _ => false) (fun _ => false) (fun _ => false) (fun b => bothNil a b fun e => eqBin op e s K)) (fail 11))
noncomputable def meqAgg (sh : Option (List SK)) (op : BinOp) (x : List AVal) (y : AVal) (s : St) (K : VK) : Bool :=
  optK sh fun ks => y.aggK fun y => lenK ks 0 fun n => lenK x 0 fun a => lenK y 0 fun b => ifK (Nat.beq a n) (ifK (Nat.beq b n) (eqCells ks x y fun e => eqBin op e s K) (fail 55)) (fail 55)
noncomputable def mbinK (op : BinOp) (k : EK) (sh : Option (List SK)) (x y : Option AVal) (s : St) (K : VK) : Bool :=
  optK x fun x => optK y fun y =>
    @AVal.rec (fun _ => Bool) (fun _ => Bool)
      (fun a => y.boolK fun b => ifK (isEKT k .bool) (eqBin op (eqBool a b) s K) (fail 12))
      (fun j a => y.intK fun i b => ifK (isShift op) (intBin op j a b s K) (ifK (Nat.beq (kindCode j) (kindCode i)) (intBin op j a b s K) (fail 13)))
      (fun a => y.strK fun b => strBin op a b s K)
      (fun b o => meqRest k op (.ptr b o) y s K) (meqRest k op .nilPtr y s K) (fun b o n c => meqRest k op (.slice b o n c) y s K) (meqRest k op .nilSlice y s K)
      (fun b => meqRest k op (.map b) y s K) (meqRest k op .nilMap y s K) (fun f a c _ _ => meqRest k op (.fn f a c) y s K) (fun _ => false) (meqRest k op .nilFn y s K)
      (fun _ _ _ => false) false (fun l _ => meqAgg sh op l y s K) (fun _ _ => false) false (fun _ _ _ _ => false) x
noncomputable def mopK (P : Program) (rec : RecT) (o : MOp) (γ : RO → Option AVal) (s : St) (K : VK) : Bool :=
  match o with
  | .move x => opMove (γ x) s K
  | .pick c a b => opPick (γ c) (γ a) (γ b) s K
  | .alloc z => optK z fun cs => newCellsK cs s K
  | .box x => opBox (γ x) s K
  | .build pl z => optK pl fun pl => optK z fun zs => mfillK γ pl zs fun cs => K (.agg cs) s
  | .buildSlice e z len ps => optK e fun e => optK z fun zs => lenK zs 0 fun zn => ifK (Nat.beq zn e.1)
      (ifK (Nat.ble (Nat.mul len e.1) 16777216) (repK len zs [] fun cs => mfillK γ (mplacesA e.1 ps) cs fun cs => allocK (.cells cs false) s fun b s => K (.slice b 0 len (.lim len)) s) (fail 30)) (fail 30)
  | .mapSet i m k x => optK i fun info => optK (γ m) fun m => optK (γ k) fun i => optK (γ x) fun x =>
      keyCells info.1 info.2.1 i fun key => m.mapK fun b => mapK b s fun es clock => findK info.1 info.2.1 key es 0 fun r =>
        @Option.rec (Nat × AVal) (fun _ => Bool)
          (appK es [{ key := i, val := x, born := clock }] fun es => natK (Nat.succ clock) fun c => putK b (.map es c) s fun s => K (.tup []) s)
          (fun p => setValK x i es p.1 fun es => putK b (.map es clock) s fun s => K (.tup []) s) r
  | .load n a => optK n fun n => optK (γ a) fun a => a.ptrK fun b off => cellsK b s fun cs _ => partK n cs off fun v => K v s
  | .store n a x => optK n fun n => optK (γ x) fun v => noTup v (v.cellsK fun vs => lenK vs 0 fun m => ifK (Nat.beq m n) (optK (γ a) fun a => a.ptrK fun b off => writeK b off vs s fun s => K (.tup []) s) (fail 2))
  | .nilck x => opNil (γ x) s K
  | .bin op k sh x y => mbinK op k sh (γ x) (γ y) s K
  | .un op x => opUn op (γ x) s K
  | .conv k x => optK (γ x) fun x => @CK.rec (fun _ => Bool) (fun k => x.intK fun _ n => intV k (wrapF k n) s K) (x.strK fun l => K (.str l) s)
      (x.strK fun l => lenK l 0 fun n => bytesK l fun cs => ifK (Nat.ble n smallB) (growK 1 cs n s K) (fail 38))
      (srcK 1 x s fun cs _ => ofBytesK cs fun l => K (.str l) s) (fail 39) k
  | .func f a c => optK f fun f => mvalsK γ a fun a => mvalsK γ c fun c => K (.fn f a c) s
  | .makeMap ok => ifK ok (allocK (.map [] 0) s fun b s => K (.map b) s) (fail 47)
  | .makeSlice e z l c => optK e fun e => optK z fun zs => lenK zs 0 fun zn => ifK (Nat.beq zn e.1)
      (optK (γ l) fun l => optK (γ c) fun c => l.intK fun _ l => c.intK fun _ c => idxK l fun l => idxK c fun c =>
        ifK (Nat.ble l c) (ifK (Nat.ble (Nat.mul c e.2) smallB) (ifK (Nat.ble c smallB) (repK c zs [] fun cs => allocK (.cells cs false) s fun b s => K (.slice b 0 l (.lim c)) s) (fail 27)) (fail 27)) (fail 28)) (fail 28)
  | .slice k e a x lo hi mx => optK (γ x) fun x => maxHigh (hi.map γ) (mx.map γ)
      (@TK.rec (fun _ => Bool)
        (x.strK fun l => lenK l 0 fun n => boundK (lo.map γ) 0 fun a => boundK (hi.map γ) n fun b => @Option.rec (Option AVal) (fun _ => Bool) (le3K a b n (segK l a (Nat.sub b a) fun l => K (.str l) s)) (fun _ => fail 24) (mx.map γ))
        (optK e fun e =>
          @AVal.rec (fun _ => Bool) (fun _ => Bool) (fun _ => false) (fun _ _ => false) (fun _ => false) (fun _ _ => false) false (fun b off n c => cutK e.1 b off n c (lo.map γ) (hi.map γ) (mx.map γ) s K)
            (boundK (lo.map γ) 0 fun l => boundK (hi.map γ) 0 fun h => boundK (mx.map γ) 0 fun m => ifK (Nat.beq l 0) (ifK (Nat.beq h 0) (ifK (Nat.beq m 0) (K .nilSlice s) (fail 25)) (fail 25)) (fail 25))
            (fun _ => false) false (fun _ _ _ _ _ => false) (fun _ => false) false (fun _ _ _ => false) false (fun _ _ => false) (fun _ _ => false) false (fun _ _ _ _ => false) x)
        (optK a fun e => x.ptrK fun b off => cutK e.2 b off e.1 (.lim e.1) (lo.map γ) (hi.map γ) (mx.map γ) s K)
        (fail 26) (fail 26) k)
  | .fieldAddr o x => optK o fun fo => optK (γ x) fun x => x.ptrK fun b off => natK (Nat.add off fo) fun o => K (.ptr b o) s
  | .field f x => optK f fun f => optK (γ x) fun x => x.aggK fun l => partK f.2 l f.1 fun v => K v s
  | .indexAddr k e a x i => optK (γ x) fun x => optK (γ i) fun i => i.intK fun _ i => idxK i fun i =>
      @TK.rec (fun _ => Bool) (fail 15)
        (optK e fun e => x.sliceK fun b off n _ => ifK (Nat.ble (Nat.succ i) n) (natK (Nat.add off (Nat.mul i e.1)) fun o => K (.ptr b o) s) (fail 16))
        (optK a fun e => x.ptrK fun b off => ifK (Nat.ble (Nat.succ i) e.1) (natK (Nat.add off (Nat.mul i e.2)) fun o => K (.ptr b o) s) (fail 17))
        (fail 15) (fail 15) k
  | .index k e x i => optK (γ x) fun x => optK (γ i) fun i => i.intK fun _ i => idxK i fun i =>
      @TK.rec (fun _ => Bool) (x.strK fun l => nthK l i fun c => natK c.toNat fun n => K (.int .u8 (.ofNat n)) s)
        (fail 18)
        (optK e fun e => x.aggK fun l => ifK (Nat.ble (Nat.succ i) e.1) (partK e.2.2 l (Nat.mul i e.2.1) fun v => K v s) (fail 19))
        (fail 18) (fail 18) k
  | .lookup i ok m k => optK i fun info => optK (γ m) fun m => optK (γ k) fun i =>
      keyCells info.1 info.2.1 i fun key => m.mapK fun b => mapK b s fun es _ => findK info.1 info.2.1 key es 0 fun r =>
        @Option.rec (Nat × AVal) (fun _ => Bool) (ifK ok (K (.tup [info.2.2, .bool false]) s) (K info.2.2 s)) (fun x => ifK ok (K (.tup [x.2, .bool true]) s) (K x.2 s)) r
  | .extract x i => opExtract (γ x) i s K
  | .call f l => optK (γ f) fun fv => mvalsK γ l fun args => callV P rec fv args s K
  | .append e x y => optK e fun e => optK (γ x) fun x => optK (γ y) fun y => srcK e.1 y s fun new n =>
      @AVal.rec (fun _ => Bool) (fun _ => Bool) (fun _ => false) (fun _ _ => false) (fun _ => false) (fun _ _ => false) false
        (fun b off len cap => natK (Nat.add len n) fun need =>
          @Cap.rec (fun _ => Bool) (fun c => ifK (Nat.beq n 0) (ifK (Nat.ble len c) (K (.slice b off len (.lim c)) s) (fail 34)) (appExact e.1 e.2 b off len c need new s K))
            (fun es => ifK (Nat.beq n 0) (K (.slice b off len (.opn es)) s) (ifK (Nat.beq es e.1) (appOpen e.1 e.2 b off len need new s K) (fail 34))) cap)
        (ifK (Nat.beq n 0) (K .nilSlice s) (smallK n e.2 (growK e.1 new n s K)))
        (fun _ => false) false (fun _ _ _ _ _ => false) (fun _ => false) false (fun _ _ _ => false) false (fun _ _ => false) (fun _ _ => false) false (fun _ _ _ _ => false) x
  | .len e x => optK e fun e => optK (γ x) fun x =>
      @TK.rec (fun _ => Bool) (x.strK fun l => lenK l 0 fun n => K (.int .i64 (.ofNat n)) s)
        (@AVal.rec (fun _ => Bool) (fun _ => Bool) (fun _ => false) (fun _ _ => false) (fun _ => false) (fun _ _ => false) false (fun _ _ n _ => K (.int .i64 (.ofNat n)) s) (K (.int .i64 (.ofNat 0)) s)
          (fun _ => false) false (fun _ _ _ _ _ => false) (fun _ => false) false (fun _ _ _ => false) false (fun _ _ => false) (fun _ _ => false) false (fun _ _ _ _ => false) x)
        (natV e.2 s K)
        (@AVal.rec (fun _ => Bool) (fun _ => Bool) (fun _ => false) (fun _ _ => false) (fun _ => false) (fun _ _ => false) false (fun _ _ _ _ => false) false
          (fun b => mapK b s fun es _ => lenK es 0 fun n => K (.int .i64 (.ofNat n)) s) (K (.int .i64 (.ofNat 0)) s)
          (fun _ _ _ _ _ => false) (fun _ => false) false (fun _ _ _ => false) false (fun _ _ => false) (fun _ _ => false) false (fun _ _ _ _ => false) x)
        (fail 35) e.1
  | .copy e x y => optK e fun es => optK (γ x) fun x => optK (γ y) fun y => slLen x fun m => dstLen y fun n =>
      natK (Nat.min n m) fun k => ifK (Nat.beq k 0) (K (.int .i64 (.ofNat 0)) s)
        (srcK es y s fun cs _ => takeK cs (Nat.mul k es) fun cs => x.sliceK fun b off _ _ => writeK b off cs s fun s => K (.int .i64 (.ofNat k)) s)
  | .mnmx mx l => mvalsK γ l fun l => opMnmx mx l s K
  | .clear e x => optK e fun e => optK (γ x) fun x => @Option.rec (Nat × List AVal) (fun _ => Bool)
      (x.mapK fun b => mapK b s fun _ c => putK b (.map [] c) s fun s => K (.tup []) s)
      (fun e => @AVal.rec (fun _ => Bool) (fun _ => Bool) (fun _ => false) (fun _ _ => false) (fun _ => false) (fun _ _ => false) false
        (fun b off n _ => ifK (Nat.beq n 0) (K (.tup []) s) (repK n e.2 [] fun vs => writeK b off vs s fun s => K (.tup []) s)) (K (.tup []) s)
        (fun _ => false) false (fun _ _ _ _ _ => false) (fun _ => false) false (fun _ _ _ => false) false (fun _ _ => false) (fun _ _ => false) false (fun _ _ _ _ => false) x) e
  | .bad => fail 48
noncomputable def mguardK (g : Option (Option (RO × Bool))) (γ : RO → Option AVal) (x y : Bool) : Bool :=
  @Option.rec (Option (RO × Bool)) (fun _ => Bool) x
    (fun g => optK g fun g => optK (γ g.1) fun v =>
      @AVal.rec (fun _ => Bool) (fun _ => Bool) (fun b => ifK (eqBool b g.2) x y) (fun _ _ => y) (fun _ => y) (fun _ _ => y) y (fun _ _ _ _ => y) y (fun _ => y) y (fun _ _ _ _ _ => y) (fun _ => y) y
        (fun _ _ _ => y) y (fun _ _ => y) (fun _ _ => y) false (fun _ _ _ _ => false) v) g
noncomputable def mitemsK (P : Program) (rec : RecT) (cm : List (Option Pos)) (l : List MItem) : List AVal → PT AVal → St → (PT AVal → St → Bool) → Bool :=
  @List.rec MItem (fun _ => List AVal → PT AVal → St → (PT AVal → St → Bool) → Bool)
    (fun locals tree s K => commitK cm locals tree fun tree => K tree s)
    (fun it _ ih locals tree s K => @MItem.rec (fun _ => Bool)
      (fun g o => mguardK g (fun x => getO tree locals x) (mopK P rec o (fun x => getO tree locals x) s fun v s => ih (v :: locals) tree s K) (ih (.tup [] :: locals) tree s K))
      (fun g o u => mguardK g (fun x => getO tree locals x)
        (mopK P rec o (fun x => getO tree locals x) s fun v _ => optK u fun x => optK (getO tree locals x) fun u => ifK (eqVal 8 v u) (ih locals tree s K) (fail 49))
        (ih locals tree s K))
      (@Option.rec AObj (fun _ => Bool) (ih locals tree s K) (fun _ => fail 56) (PT.get s.next s.heap)) it) l
/-- In a round the record of the loop around must stand. -/
noncomputable def roundK (r : Option Pos) (s : St) (x : Bool) : Bool := @Option.rec Pos (fun _ => Bool) x (fun l => loopK l s fun _ => x) r
noncomputable def rangeK (P : Program) (rec : RecT) (fi : FI) (f : RO) (params : List Tmp) (a b : MCode) (tree : PT AVal) (s : St) (K : CodeK) : Bool :=
  optK (getO tree [] f) fun fv => roundK fi.round s
    (allocK (.loop { state := .ready, pending := none, fn := fi.fn, tm := tree, params := params, assign := a, body := b }) s fun l s =>
      fv.fnK fun f a c => appK [.yld l] c fun r => appK a r fun args => callF P rec f args s fun _ s => loopK l s fun L => ifK (isBusy L.state) (fail 52)
        (putK l (.loop { L with state := .exhausted }) s fun s => pendK L.pending tree s K))
noncomputable def execF (P : Program) (rec : RecT) (c : MCode) (fi : FI) (tree : PT AVal) (s : St) (K : CodeK) : Bool :=
  match c with
  | .skip => K .normal tree s
  | .region l cm => mitemsK P rec cm l [] tree s fun tree s => K .normal tree s
  | .seq a b => rec a fi tree s fun e tree s => thenK e tree s (rec b fi tree s K) K
  | .cond c a b => optK (getO tree [] c) fun v => v.boolK fun t => ifK t (rec a fi tree s K) (rec b fi tree s K)
  | .block id c => rec c fi tree s fun e tree s => blockK id e tree s K
  | .loop c => rec c fi tree s fun e tree s => thenK e tree s (rec (.loop c) fi tree s K) K
  | .range f ps a b => rangeK P rec fi f ps a b tree s K
  | .scope c => rec c fi tree s K
  | .exit id => K (.exit id) tree s
  | .ret => K .ret tree s
  | .bad => fail 53
noncomputable def exec (P : Program) (n : Nat) : RecT := @Nat.rec (fun _ => RecT) (fun _ _ _ _ _ => false) (fun _ ih => execF P ih) n
/-- A call of a function, from a state. -/
noncomputable def run (P : Program) (n : Nat) (f : FuncId) (args : List AVal) (s : St) (K : VK) : Bool := callF P (exec P n) f args s K
end Go.AM
end
section
/- The abstract machine's compiled code does what the code does. -/
namespace Go.AM
variable [Orc]
section
variable {P : Program} {rec : RecT} {prev : List (Option Tmp)} {γ : RO → Option AVal} {s : St} {K : VK}
theorem mvalsK_eq : ∀ (l : List Operand) (k : List AVal → Bool), mvalsK γ (l.map (resolveO prev)) k = valsK (fun x => γ (resolveO prev x)) l k
  | [], k => rfl
  | x :: l, k => by
    show (optK (γ (resolveO prev x)) fun v => mvalsK γ (l.map (resolveO prev)) fun r => k (v :: r)) = optK (γ (resolveO prev x)) fun v => valsK _ l fun r => k (v :: r)
    congr 1
    funext v
    exact mvalsK_eq l _
theorem mfillK_eq : ∀ (l : List (Nat × Nat × Operand)) (cs : List AVal) (k : List AVal → Bool), mfillK γ (mparts prev l) cs k = fillK (fun x => γ (resolveO prev x)) l cs k
  | [], cs, k => rfl
  | x :: l, cs, k => by
    show (optK (γ (resolveO prev x.2.2)) fun v => noTup v (v.cellsK fun vs => lenK vs 0 fun m => ifK (Nat.beq m x.2.1) (putAtK vs cs x.1 fun cs => mfillK γ (mparts prev l) cs k) (fail 29))) =
      (optK (γ (resolveO prev x.2.2)) fun v => noTup v (v.cellsK fun vs => lenK vs 0 fun m => ifK (Nat.beq m x.2.1) (putAtK vs cs x.1 fun cs => fillK (fun x => γ (resolveO prev x)) l cs k) (fail 29)))
    have : (fun cs => mfillK γ (mparts prev l) cs k) = (fun cs => fillK (fun x => γ (resolveO prev x)) l cs k) := funext fun cs => mfillK_eq l cs k
    rw [this]
theorem mplacesA_eq {es : Nat} : ∀ (l : List (Nat × Operand)), mplacesA es (l.map fun x => (x.1, resolveO prev x.2)) = mparts prev (placesA es l)
  | [] => rfl
  | (i, x) :: l => by
    show (i * es, es, resolveO prev x) :: mplacesA es (l.map fun x => (x.1, resolveO prev x.2)) = (i * es, es, resolveO prev x) :: mparts prev (placesA es l)
    rw [mplacesA_eq l]
theorem omap_eq (x : Option Operand) : (x.map (resolveO prev)).map γ = x.map fun x => γ (resolveO prev x) := by cases x <;> rfl
theorem mop_eq (o : Op) : mopK P rec (mop P prev o) γ s K = opK P rec o (fun x => γ (resolveO prev x)) s K := by
  cases o with
  | build t ps =>
    show (optK ((buildPlan P t ps).map (mparts prev)) fun pl => optK (zeroCells P t) fun zs => mfillK γ pl zs fun cs => K (.agg cs) s) = optK (buildPlan P t ps) fun pl => optK (zeroCells P t) fun zs => fillK _ pl zs fun cs => K (.agg cs) s
    cases buildPlan P t ps with
    | none => rfl
    | some pl =>
      show (optK (zeroCells P t) fun zs => mfillK γ (mparts prev pl) zs fun cs => K (.agg cs) s) = optK (zeroCells P t) fun zs => fillK _ pl zs fun cs => K (.agg cs) s
      simp only [mfillK_eq]
  | buildSlice t n ps =>
    simp only [mop, mopK, opK, opBuildSlice, mplacesA_eq, mfillK_eq]
  | makeFunc f a c => simp only [mop, mopK, opK, mvalsK_eq]
  | makeMap t r =>
    show ifK (r.isNone && isEK P t .map) _ _ = ifK r.isNone _ _
    cases r with
    | none => cases h : isEK P t .map <;> rfl
    | some r => rfl
  | slice t x lo hi mx =>
    simp only [mop, mopK, opK, opSlice, omap_eq]
  | call c =>
    obtain ⟨callee, args, ats⟩ := c
    cases callee with
    | value f => simp only [mop, mcall, mopK, opK, callOp, mvalsK_eq]
    | invoke r n => rfl
    | builtin b =>
      cases b with
      | append =>
        simp only [mop, mcall, opK, callOp]
        split <;> rfl
      | len =>
        simp only [mop, mcall, opK, callOp]
        split <;> rfl
      | copy =>
        simp only [mop, mcall, opK, callOp]
        split <;> rfl
      | min => simp only [mop, mcall, mopK, opK, callOp, mvalsK_eq]
      | max => simp only [mop, mcall, mopK, opK, callOp, mvalsK_eq]
      | clear =>
        simp only [mop, mcall, opK, callOp]
        split <;> rfl
      | _ => rfl
  | _ => rfl
theorem mguard_eq {all : Array Oper} {o : Oper} {x y : Bool} : mguardK (mguard all prev o) γ x y = guardK all o (fun x => γ (resolveO prev x)) x y := by
  unfold mguard guardK mguardK
  cases o.guard with
  | none => rfl
  | some g =>
    show (optK ((guardTmp all o).map fun g => (resolveO prev (.tmp g.1), g.2)) _) = optK (guardTmp all o) _
    cases guardTmp all o <;> rfl
end
theorem mitems_eq {P : Program} {rec : RecT} {fi : FI} {all : Array Oper} : ∀ (l : List DItem) (prev : List (Option Tmp)) (locals : List AVal) (tree : PT AVal) (s : St) (k : PT AVal → St → Bool),
    mitemsK P rec (mitems P fi.ps all l prev).2 (mitems P fi.ps all l prev).1 locals tree s k = itemsK P rec fi all l prev locals tree s k
  | [], prev, locals, tree, s, k => rfl
  | .run o :: r, prev, locals, tree, s, k => by
    show mguardK (mguard all prev o) (fun x => getO tree locals x) (mopK P rec (mop P prev o.op) (fun x => getO tree locals x) s fun v s => mitemsK P rec (mitems P fi.ps all r (o.dst :: prev)).2 (mitems P fi.ps all r (o.dst :: prev)).1 (v :: locals) tree s k)
        (mitemsK P rec (mitems P fi.ps all r (o.dst :: prev)).2 (mitems P fi.ps all r (o.dst :: prev)).1 (.tup [] :: locals) tree s k) =
      guardK all o (fun x => getO tree locals (resolveO prev x)) (opK P rec o.op (fun x => getO tree locals (resolveO prev x)) s fun v s => itemsK P rec fi all r (o.dst :: prev) (v :: locals) tree s k)
        (itemsK P rec fi all r (o.dst :: prev) (.tup [] :: locals) tree s k)
    rw [mguard_eq, mop_eq, mitems_eq r]
    simp only [mitems_eq r]
  | .chk o :: r, prev, locals, tree, s, k => by
    show mguardK (mguard all prev o) (fun x => getO tree locals x)
        (mopK P rec (mop P prev o.op) (fun x => getO tree locals x) s fun v _ => optK (o.dst.map fun d => resolveO prev (.tmp d)) fun x => optK (getO tree locals x) fun u => ifK (eqVal 8 v u) (mitemsK P rec (mitems P fi.ps all r prev).2 (mitems P fi.ps all r prev).1 locals tree s k) (fail 49))
        (mitemsK P rec (mitems P fi.ps all r prev).2 (mitems P fi.ps all r prev).1 locals tree s k) =
      guardK all o (fun x => getO tree locals (resolveO prev x))
        (opK P rec o.op (fun x => getO tree locals (resolveO prev x)) s fun v _ => optK o.dst fun d => optK (getO tree locals (resolveO prev (.tmp d))) fun u => ifK (eqVal 8 v u) (itemsK P rec fi all r prev locals tree s k) (fail 49))
        (itemsK P rec fi all r prev locals tree s k)
    rw [mguard_eq, mop_eq, mitems_eq r]
    cases o.dst <;> rfl
  | .fresh :: r, prev, locals, tree, s, k => by
    show @Option.rec AObj (fun _ => Bool) (mitemsK P rec (mitems P fi.ps all r prev).2 (mitems P fi.ps all r prev).1 locals tree s k) (fun _ => fail 56) (PT.get s.next s.heap) =
      @Option.rec AObj (fun _ => Bool) (itemsK P rec fi all r prev locals tree s k) (fun _ => fail 56) (PT.get s.next s.heap)
    rw [mitems_eq r]
/-- A compiled region. -/
theorem region_eq {P : Program} {rec : RecT} {fi : FI} {id : Nat} {ops : Array Oper} {draw : Bool} {tree : PT AVal} {s : St} {K : CodeK} (h : execF P rec (compile P fi.ps fi.ntmps (.region id ops draw)) fi tree s K = true) :
    regionK P rec fi ops draw tree s (fun tree s => K .normal tree s) = true := by
  unfold compile at h
  unfold regionK
  cases hl : itemsOf P ops draw with
  | none => rw [hl] at h; cases h
  | some l =>
    rw [hl] at h
    show ifK (dstsOk fi.ntmps ops) _ _ = true
    cases hd : dstsOk fi.ntmps ops with
    | false => simp only [hd] at h; cases h
    | true =>
      simp only [hd, if_true] at h
      have h : mitemsK P rec (mitems P fi.ps ops l []).2 (mitems P fi.ps ops l []).1 [] tree s (fun tree s => K .normal tree s) = true := h
      rw [mitems_eq] at h
      exact h
end Go.AM
end
section
/- The abstract machine's states against the model's worlds: positions and maps, renamings of blocks, values, objects, frames; and what a step leaves alone. -/
namespace Go.AM

/-! ### Positions -/
theorem Pos.toNat_pos (p : Pos) : 0 < p.toNat := by
  induction p <;> simp [Pos.toNat] <;> omega
theorem Pos.toNat_inj : ∀ {p q : Pos}, p.toNat = q.toNat → p = q
  | .h, .h, _ => rfl
  | .h, .o q, e => by simp [Pos.toNat] at e; omega
  | .h, .i q, e => by have := q.toNat_pos; simp [Pos.toNat] at e; omega
  | .o p, .h, e => by simp [Pos.toNat] at e; omega
  | .o p, .o q, e => by simp [Pos.toNat] at e; exact congrArg Pos.o (Pos.toNat_inj (by omega))
  | .o p, .i q, e => by simp [Pos.toNat] at e; omega
  | .i p, .h, e => by have := p.toNat_pos; simp [Pos.toNat] at e; omega
  | .i p, .o q, e => by simp [Pos.toNat] at e; omega
  | .i p, .i q, e => by simp [Pos.toNat] at e; exact congrArg Pos.i (Pos.toNat_inj (by omega))
theorem Pos.succ_toNat (p : Pos) : p.succ.toNat = p.toNat + 1 := by
  induction p <;> simp [Pos.succ, Pos.toNat] <;> omega
theorem succK_eq (p : Pos) : ∀ K, succK p K = K p.succ := by
  induction p with
  | h => intro K; rfl
  | o p _ => intro K; rfl
  | i p ih => intro K; exact ih _
theorem posF_toNat : ∀ f m, 1 ≤ m → m ≤ f → (posF f m).toNat = m
  | 0, m, h1, h2 => by omega
  | f + 1, m, h1, h2 => by
    unfold posF
    split
    · simp [Pos.toNat]; omega
    · split
      · simp only [Pos.toNat]; rw [posF_toNat f (m / 2) (by omega) (by omega)]; omega
      · simp only [Pos.toNat]; rw [posF_toNat f (m / 2) (by omega) (by omega)]; omega
theorem posOf_toNat (n : Nat) : (posOf n).toNat = n + 1 := posF_toNat _ _ (by omega) (by omega)
theorem posOf_inj {m n : Nat} (h : posOf m = posOf n) : m = n := by
  have := congrArg Pos.toNat h
  rw [posOf_toNat, posOf_toNat] at this
  omega

/-! ### Maps -/
theorem PT.get_leaf {α : Type} (k : Pos) : PT.get k (.leaf : PT α) = none := by cases k <;> rfl
theorem PT.setK_eq {α : Type} (k : Pos) (x : α) : ∀ (t : PT α) K, PT.setK k x t K = K (PT.set k x t) := by
  induction k with
  | h => intro t K; cases t <;> rfl
  | o k ih => intro t K; cases t with
    | leaf => exact ih .leaf _
    | node l v r => exact ih l _
  | i k ih => intro t K; cases t with
    | leaf => exact ih .leaf _
    | node l v r => exact ih r _
theorem PT.get_set_same {α : Type} (k : Pos) (x : α) : ∀ t : PT α, PT.get k (PT.set k x t) = some x := by
  induction k with
  | h => intro t; cases t <;> rfl
  | o k ih => intro t; cases t with
    | leaf => exact ih .leaf
    | node l v r => exact ih l
  | i k ih => intro t; cases t with
    | leaf => exact ih .leaf
    | node l v r => exact ih r
theorem PT.get_set_ne {α : Type} (k : Pos) (x : α) : ∀ (j : Pos) (t : PT α), j ≠ k → PT.get j (PT.set k x t) = PT.get j t := by
  induction k with
  | h => intro j t hj; cases j with
    | h => exact absurd rfl hj
    | o j => cases t <;> first | rfl | exact PT.get_leaf j
    | i j => cases t <;> first | rfl | exact PT.get_leaf j
  | o k ih => intro j t hj; cases j with
    | h => cases t <;> rfl
    | o j => cases t with
      | leaf => exact (ih j .leaf (fun e => hj (e ▸ rfl))).trans (PT.get_leaf j)
      | node l v r => exact ih j l (fun e => hj (e ▸ rfl))
    | i j => cases t <;> first | rfl | exact PT.get_leaf j
  | i k ih => intro j t hj; cases j with
    | h => cases t <;> rfl
    | o j => cases t <;> first | rfl | exact PT.get_leaf j
    | i j => cases t with
      | leaf => exact (ih j .leaf (fun e => hj (e ▸ rfl))).trans (PT.get_leaf j)
      | node l v r => exact ih j r (fun e => hj (e ▸ rfl))

/-! ### Renamings and values -/
/-- Where a block of the abstract machine lies: the model's block, from which cell on; how many cells that block has; may it be read alone? -/
structure Place where
  blk : Nat
  off : Nat
  size : Nat
  ro : Bool
abbrev Ren := Pos → Option Place

mutual
/-- A value of the abstract machine and the model's. -/
inductive VRel (ι : Ren) : AVal → Value → Prop where
  | bool (b : Bool) : VRel ι (.bool b) (.bool b)
  | int (k : IntKind) (n : Int) : VRel ι (.int k n) (.int k n)
  | str (l : List UInt8) : VRel ι (.str l) (.string ⟨l.toArray⟩)
  | ptr {b : Pos} {p : Place} {off : Nat} (h : ι b = some p) : VRel ι (.ptr b off) (.pointer (some ⟨p.blk, p.off + off, none⟩))
  | nilPtr : VRel ι .nilPtr (.pointer none)
  | slice {b : Pos} {p : Place} {off len c : Nat} (h : ι b = some p) : VRel ι (.slice b off len (.lim c)) (.slice (some ⟨p.blk, p.off + off, none⟩) len c)
  | opn {b : Pos} {p : Place} {off len c o es : Nat} (h : ι b = some p) (he : 0 < es) (hc : len ≤ c) (hb : c = 0 ∨ o + c * es = p.size) (ha : 0 < len → o = p.off + off) :
      VRel ι (.slice b off len (.opn es)) (.slice (some ⟨p.blk, o, none⟩) len c)
  | empty {b : Pos} {off : Nat} {a : Addr} : VRel ι (.slice b off 0 (.lim 0)) (.slice (some a) 0 0)
  | nilSlice : VRel ι .nilSlice (.slice none 0 0)
  | map {b : Pos} {p : Place} (h : ι b = some p) : VRel ι (.map b) (.map (some p.blk))
  | nilMap : VRel ι .nilMap (.map none)
  | fn {f : Nat} {a c : List AVal} {a' c' : Array Value} (ha : VRels ι a a'.toList) (hc : VRels ι c c'.toList) : VRel ι (.fn f a c) (.func (.func f) a' c')
  | yld {l : Pos} {p : Place} (h : ι l = some p) : VRel ι (.yld l) (.func (.yield p.blk) #[] #[])
  | nilFn : VRel ι .nilFn .nilFunc
  | iface {t : Nat} {v : AVal} {v' : Value} (h : VRel ι v v') : VRel ι (.iface t v) (.iface t v')
  | nilIface : VRel ι .nilIface .nilIface
  | agg {l : List AVal} {c : Array Value} (h : VRels ι l c.toList) (hs : ∀ x ∈ l, x.scalar = true) : VRel ι (.agg l) (.agg c)
  | tup {l : List AVal} {c : Array Value} (h : VRels ι l c.toList) : VRel ι (.tup l) (.tuple c)
inductive VRels (ι : Ren) : List AVal → List Value → Prop where
  | nil : VRels ι [] []
  | cons {a : AVal} {v : Value} {l : List AVal} {m : List Value} (h : VRel ι a v) (t : VRels ι l m) : VRels ι (a :: l) (v :: m)
end

/-- A renaming that knows more. -/
def Ren.le (ι ι' : Ren) : Prop := ∀ b p, ι b = some p → ι' b = some p
theorem Ren.le_refl (ι : Ren) : Ren.le ι ι := fun _ _ h => h
theorem Ren.le_trans {ι ι' ι'' : Ren} (h : Ren.le ι ι') (h' : Ren.le ι' ι'') : Ren.le ι ι'' := fun b p e => h' b p (h b p e)

mutual
theorem VRel.mono {ι ι' : Ren} (hl : Ren.le ι ι') {a : AVal} {v : Value} (h : VRel ι a v) : VRel ι' a v := by
  cases h with
  | bool b => exact .bool b
  | int k n => exact .int k n
  | str l => exact .str l
  | ptr h => exact .ptr (hl _ _ h)
  | nilPtr => exact .nilPtr
  | slice h => exact .slice (hl _ _ h)
  | opn h he hc hb ha => exact .opn (hl _ _ h) he hc hb ha
  | nilSlice => exact .nilSlice
  | empty => exact .empty
  | map h => exact .map (hl _ _ h)
  | nilMap => exact .nilMap
  | fn ha hc => exact .fn (VRels.mono hl ha) (VRels.mono hl hc)
  | yld h => exact .yld (hl _ _ h)
  | nilFn => exact .nilFn
  | iface h => exact .iface (VRel.mono hl h)
  | nilIface => exact .nilIface
  | agg h hs => exact .agg (VRels.mono hl h) hs
  | tup h => exact .tup (VRels.mono hl h)
theorem VRels.mono {ι ι' : Ren} (hl : Ren.le ι ι') {l : List AVal} {m : List Value} (h : VRels ι l m) : VRels ι' l m := by
  cases h with
  | nil => exact .nil
  | cons h t => exact .cons (VRel.mono hl h) (VRels.mono hl t)
end

theorem VRels.length {ι : Ren} {l : List AVal} {m : List Value} (h : VRels ι l m) : l.length = m.length := by
  induction l generalizing m with
  | nil => cases h; rfl
  | cons a l ih => cases h with | cons h t => simp [ih t]
theorem VRels.get {ι : Ren} : ∀ {l : List AVal} {m : List Value}, VRels ι l m → ∀ {i : Nat} {a : AVal}, l[i]? = some a → ∃ v, m[i]? = some v ∧ VRel ι a v
  | _, _, .cons h t, 0, a, e => by simp at e; exact ⟨_, rfl, e ▸ h⟩
  | _, _, .cons h t, i + 1, a, e => by simp at e; obtain ⟨v, hv, hr⟩ := VRels.get t e; exact ⟨v, by simpa using hv, hr⟩
theorem VRels.of_get {ι : Ren} : ∀ {l : List AVal} {m : List Value}, l.length = m.length → (∀ (i : Nat) (a : AVal), l[i]? = some a → ∃ v, m[i]? = some v ∧ VRel ι a v) → VRels ι l m
  | [], [], _, _ => .nil
  | a :: l, v :: m, hl, h => by
    obtain ⟨w, hw, hr⟩ := h 0 a rfl
    simp at hw
    refine .cons (hw ▸ hr) (VRels.of_get (by simpa using hl) fun i b e => ?_)
    obtain ⟨u, hu, hr'⟩ := h (i + 1) b (by simpa using e)
    exact ⟨u, by simpa using hu, hr'⟩
theorem VRels.append {ι : Ren} {l l' : List AVal} {m m' : List Value} (h : VRels ι l m) (h' : VRels ι l' m') : VRels ι (l ++ l') (m ++ m') := by
  induction l generalizing m with
  | nil => cases h; exact h'
  | cons a l ih => cases h with | cons h t => exact .cons h (ih t)
theorem VRels.drop {ι : Ren} {l : List AVal} {m : List Value} (h : VRels ι l m) (n : Nat) : VRels ι (l.drop n) (m.drop n) := by
  induction n generalizing l m with
  | zero => simpa using h
  | succ n ih => cases h with
    | nil => simpa using VRels.nil
    | cons h t => simpa using ih t
theorem VRels.take {ι : Ren} {l : List AVal} {m : List Value} (h : VRels ι l m) (n : Nat) : VRels ι (l.take n) (m.take n) := by
  induction n generalizing l m with
  | zero => simpa using VRels.nil
  | succ n ih => cases h with
    | nil => simpa using VRels.nil
    | cons h t => simpa using VRels.cons h (ih t)

/-- A scalar's value is no aggregate and no tuple. -/
theorem VRel.oneCell {ι : Ren} {a : AVal} {v : Value} (h : VRel ι a v) (hs : a.scalar = true) : v.oneCell' = true := by
  cases h <;> simp [AVal.scalar] at hs <;> rfl
theorem VRels.oneCell {ι : Ren} {l : List AVal} {m : List Value} (h : VRels ι l m) (hs : ∀ x ∈ l, x.scalar = true) : ∀ v ∈ m, v.oneCell' = true := by
  induction l generalizing m with
  | nil => cases h; simp
  | cons a l ih => cases h with
    | cons h t =>
      intro v hv
      rcases List.mem_cons.1 hv with rfl | hv
      · exact h.oneCell (hs _ (by simp))
      · exact ih t (fun x hx => hs x (by simp [hx])) v hv
/-- A value's cells. -/
theorem VRel.cells {ι : Ren} {a : AVal} {v : Value} (h : VRel ι a v) : VRels ι a.cells v.cells.toList := by
  cases h with
  | agg h hs => exact h
  | bool b => exact .cons (.bool b) .nil
  | int k n => exact .cons (.int k n) .nil
  | str l => exact .cons (.str l) .nil
  | ptr h => exact .cons (.ptr h) .nil
  | nilPtr => exact .cons .nilPtr .nil
  | slice h => exact .cons (.slice h) .nil
  | opn h he hc hb ha => exact .cons (.opn h he hc hb ha) .nil
  | nilSlice => exact .cons .nilSlice .nil
  | empty => exact .cons .empty .nil
  | map h => exact .cons (.map h) .nil
  | nilMap => exact .cons .nilMap .nil
  | fn ha hc => exact .cons (.fn ha hc) .nil
  | yld h => exact .cons (.yld h) .nil
  | nilFn => exact .cons .nilFn .nil
  | iface h => exact .cons (.iface h) .nil
  | nilIface => exact .cons .nilIface .nil
  | tup h => exact .cons (.tup h) .nil

/-! ### Objects, states and worlds -/
/-- The cells of a row, from one on. -/
def CellsAt (ι : Ren) (cs : List AVal) (off : Nat) (c : Array Value) : Prop := ∀ (i : Nat) (a : AVal), cs[i]? = some a → ∃ v, c[off + i]? = some v ∧ VRel ι a v
inductive ERel (ι : Ren) : MapE → MapEntry → Prop where
  | mk {e : MapE} {e' : MapEntry} (hk : VRel ι e.key e'.key) (hv : VRel ι e.val e'.val) (hb : e.born = e'.born) : ERel ι e e'
/-- A frame's temporaries, as far as they are known. -/
structure TRel (ι : Ren) (n : Nat) (ps : List Tmp) (tm : PT AVal) (tmps : Array Value) : Prop where
  size : n ≤ tmps.size
  get : ∀ t a, PT.get (posOf t) tm = some a → t ∈ ps ∧ ∃ v, tmps[t]? = some v ∧ VRel ι a v
structure LRel (P : Program) (ι : Ren) (l : LoopR) (L : Loop) : Prop where
  state : L.state = l.state
  pending : L.pending = l.pending
  params : L.params = l.params.toArray
  tm : ∃ fi, funInfo P l.fn = some fi ∧ TRel ι fi.ntmps fi.ps l.tm L.tmps ∧ l.assign = compile P fi.ps fi.ntmps L.assign ∧ l.body = compile P fi.ps fi.ntmps L.body
inductive ORel (P : Program) (ι : Ren) (w : World) (p : Place) : AObj → Prop where
  | cells {cs : List AVal} {c : Array Value} {t : TypeId} {fr : Nat × Nat} (h : w.heap[p.blk]? = some (.cells c t fr)) (hs : c.size = p.size) (hl : p.off + cs.length ≤ c.size)
      (hc : CellsAt ι cs p.off c) (hn : ∀ x ∈ cs, x.scalar = true) (hf : p.ro = false → ∀ i, i < c.size → ¬ (fr.1 ≤ i ∧ i < fr.2)) : ORel P ι w p (.cells cs p.ro)
  | map {es : List MapE} {es' : Array MapEntry} {clock : Nat} (h : w.heap[p.blk]? = some (.map es' clock)) (hl : es.length = es'.size) (he : ∀ (i : Nat) (e : MapE), es[i]? = some e → ∃ e', es'[i]? = some e' ∧ ERel ι e e')
      (hr : p.ro = false) : ORel P ι w p (.map es clock)
  | loop {l : LoopR} {L : Loop} (h : w.heap[p.blk]? = some (.loop L)) (hL : LRel P ι l L) (hr : p.ro = false) : ORel P ι w p (.loop l)
  | dead : ORel P ι w p .dead

def AObj.live : AObj → Bool
  | .dead => false
  | _ => true
structure WRel (P : Program) (ι : Ren) (s : St) (w : World) : Prop where
  objs : ∀ b p, ι b = some p → ∃ o, PT.get b s.heap = some o ∧ ORel P ι w p o
  apart : ∀ b b' p p' o o', ι b = some p → ι b' = some p' → PT.get b s.heap = some o → PT.get b' s.heap = some o' → o.live = true → o'.live = true → p.blk = p'.blk → b = b' ∨ (p.ro = true ∧ p'.ro = true)
  fresh : ∀ b p, ι b = some p → b.toNat < s.next.toNat
  bound : ∀ b p, ι b = some p → p.blk < w.heap.size

/-- What a step leaves alone: all blocks that no name of the abstract machine's leads to, or that may be read alone. -/
structure Ext (ι : Ren) (w : World) (ι' : Ren) (w' : World) : Prop where
  le : Ren.le ι ι'
  size : w.heap.size ≤ w'.heap.size
  new : ∀ b p, ι' b = some p → ι b = some p ∨ w.heap.size ≤ p.blk ∨ (p.ro = false ∧ ∃ b0 p0, ι b0 = some p0 ∧ p0.ro = false ∧ p0.blk = p.blk)
  keep : ∀ i, i < w.heap.size → (∀ b p, ι b = some p → p.ro = false → p.blk ≠ i) → w'.heap[i]? = w.heap[i]?
  os : w'.os = w.os
  out : w'.output = w.output
theorem Ext.refl (ι : Ren) (w : World) : Ext ι w ι w := ⟨Ren.le_refl ι, Nat.le_refl _, fun _ _ h => .inl h, fun _ _ _ => rfl, rfl, rfl⟩
theorem Ext.trans {ι ι' ι'' : Ren} {w w' w'' : World} (h : Ext ι w ι' w') (h' : Ext ι' w' ι'' w'') : Ext ι w ι'' w'' where
  le := Ren.le_trans h.le h'.le
  size := Nat.le_trans h.size h'.size
  new := by
    intro b p e
    rcases h'.new b p e with e' | e' | ⟨hr, b0, p0, e0, hr0, hb0⟩
    · exact h.new b p e'
    · exact .inr (.inl (Nat.le_trans h.size e'))
    · rcases h.new b0 p0 e0 with e1 | e1 | ⟨_, b1, p1, e1, hr1, hb1⟩
      · exact .inr (.inr ⟨hr, b0, p0, e1, hr0, hb0⟩)
      · exact .inr (.inl (hb0 ▸ e1))
      · exact .inr (.inr ⟨hr, b1, p1, e1, hr1, hb1.trans hb0⟩)
  keep := by
    intro i hi hn
    rw [h'.keep i (Nat.lt_of_lt_of_le hi h.size) ?_, h.keep i hi hn]
    intro b p e hr
    rcases h.new b p e with e' | e' | ⟨_, b0, p0, e0, hr0, hb0⟩
    · exact hn b p e' hr
    · omega
    · exact hb0 ▸ hn b0 p0 e0 hr0
  os := h'.os.trans h.os
  out := h'.out.trans h.out
/-- Only the count of draws has turned. -/
theorem Ext.drawn (ι : Ren) (w : World) (n : Nat) : Ext ι w ι { w with drawn := n } := ⟨Ren.le_refl ι, Nat.le_refl _, fun _ _ h => .inl h, fun _ _ _ => rfl, rfl, rfl⟩

theorem CellsAt.mono {ι ι' : Ren} (hl : Ren.le ι ι') {cs : List AVal} {off : Nat} {c : Array Value} (h : CellsAt ι cs off c) : CellsAt ι' cs off c :=
  fun i a e => let ⟨v, hv, hr⟩ := h i a e; ⟨v, hv, hr.mono hl⟩
theorem TRel.mono {ι ι' : Ren} (hl : Ren.le ι ι') {n : Nat} {ps : List Tmp} {tm : PT AVal} {tmps : Array Value} (h : TRel ι n ps tm tmps) : TRel ι' n ps tm tmps :=
  ⟨h.size, fun t a e => let ⟨hm, v, hv, hr⟩ := h.get t a e; ⟨hm, v, hv, hr.mono hl⟩⟩
theorem LRel.mono {P : Program} {ι ι' : Ren} (hl : Ren.le ι ι') {l : LoopR} {L : Loop} (h : LRel P ι l L) : LRel P ι' l L :=
  ⟨h.state, h.pending, h.params, let ⟨fi, hf, ht, ha, hb⟩ := h.tm; ⟨fi, hf, ht.mono hl, ha, hb⟩⟩
theorem ERel.mono {ι ι' : Ren} (hl : Ren.le ι ι') {e : MapE} {e' : MapEntry} (h : ERel ι e e') : ERel ι' e e' := by
  cases h with | mk hk hv hb => exact .mk (hk.mono hl) (hv.mono hl) hb
/-- An object stands where its block stands and more names are known. -/
theorem ORel.mono {P : Program} {ι ι' : Ren} {w w' : World} {p : Place} {o : AObj} (hl : Ren.le ι ι') (hw : o.live = true → w'.heap[p.blk]? = w.heap[p.blk]?) (h : ORel P ι w p o) : ORel P ι' w' p o := by
  cases h with
  | cells h hs hlen hc hn hf => exact .cells ((hw rfl).trans h) hs hlen (hc.mono hl) hn hf
  | map h hlen he hr => exact .map ((hw rfl).trans h) hlen (fun i e hi => let ⟨e', h1, h2⟩ := he i e hi; ⟨e', h1, h2.mono hl⟩) hr
  | loop h hL hr => exact .loop ((hw rfl).trans h) (hL.mono hl) hr
  | dead => exact .dead
theorem WRel.drawn {P : Program} {ι : Ren} {s : St} {w : World} (h : WRel P ι s w) (n : Nat) : WRel P ι s { w with drawn := n } :=
  ⟨fun b p e => let ⟨o, ho, hr⟩ := h.objs b p e; ⟨o, ho, ORel.mono (w := w) (w' := { w with drawn := n }) (Ren.le_refl ι) (fun _ => rfl) hr⟩, h.apart, h.fresh, h.bound⟩
end Go.AM
end
section
/- The abstract machine's memory against the model's: a new block; a block that is turned; a row that is given up for a longer one; cells read and written. -/
namespace Go.AM

theorem allocK_eq (x : AObj) (s : St) (K : Pos → St → Bool) : allocK x s K = K s.next { heap := PT.set s.next x s.heap, next := s.next.succ } := by
  simp only [allocK, PT.setK_eq, succK_eq]
theorem putK_eq (b : Pos) (x : AObj) (s : St) (K : St → Bool) : putK b x s K = K { heap := PT.set b x s.heap, next := s.next } := by
  simp only [putK, PT.setK_eq]
theorem cellsK_true {b : Pos} {s : St} {K : List AVal → Bool → Bool} : cellsK b s K = true ↔ ∃ cs ro, PT.get b s.heap = some (.cells cs ro) ∧ K cs ro = true := by
  unfold cellsK
  rw [optK_true]
  constructor
  · rintro ⟨o, h, hk⟩; cases o <;> simp at hk; exact ⟨_, _, h, hk⟩
  · rintro ⟨cs, ro, h, hk⟩; exact ⟨_, h, hk⟩
theorem mapK_true {b : Pos} {s : St} {K : List MapE → Nat → Bool} : mapK b s K = true ↔ ∃ es c, PT.get b s.heap = some (.map es c) ∧ K es c = true := by
  unfold mapK
  rw [optK_true]
  constructor
  · rintro ⟨o, h, hk⟩; cases o <;> simp at hk; exact ⟨_, _, h, hk⟩
  · rintro ⟨cs, ro, h, hk⟩; exact ⟨_, h, hk⟩
theorem loopK_true {b : Pos} {s : St} {K : LoopR → Bool} : loopK b s K = true ↔ ∃ l, PT.get b s.heap = some (.loop l) ∧ K l = true := by
  unfold loopK
  rw [optK_true]
  constructor
  · rintro ⟨o, h, hk⟩; cases o <;> simp at hk; exact ⟨_, h, hk⟩
  · rintro ⟨l, h, hk⟩; exact ⟨_, h, hk⟩

/-- One name more. -/
def Ren.set (ι : Ren) (b : Pos) (p : Place) : Ren := fun x => if x.toNat = b.toNat then some p else ι x
theorem Ren.set_same (ι : Ren) (b : Pos) (p : Place) : Ren.set ι b p b = some p := by simp [Ren.set]
theorem Ren.set_ne {ι : Ren} {b x : Pos} {p : Place} (h : x ≠ b) : Ren.set ι b p x = ι x := by
  unfold Ren.set
  rw [if_neg fun e => h (Pos.toNat_inj e)]
theorem Ren.set_some {ι : Ren} {b x : Pos} {p q : Place} (h : Ren.set ι b p x = some q) : (x = b ∧ q = p) ∨ (x ≠ b ∧ ι x = some q) := by
  by_cases e : x = b
  · subst e; rw [Ren.set_same] at h; cases h; exact .inl ⟨rfl, rfl⟩
  · rw [Ren.set_ne e] at h; exact .inr ⟨e, h⟩
theorem Ren.le_set {ι : Ren} {b : Pos} {p : Place} (h : ι b = none) : Ren.le ι (Ren.set ι b p) := by
  intro x q e
  rw [Ren.set_ne ?_]
  · exact e
  · rintro rfl; rw [h] at e; cases e

theorem push_old {w : World} {o : Obj} {i : Nat} (h : i < w.heap.size) : (w.heap.push o)[i]? = w.heap[i]? := by
  rw [Array.getElem?_push]
  have : i ≠ w.heap.size := by omega
  simp [this]
theorem push_new (w : World) (o : Obj) : (w.heap.push o)[w.heap.size]? = some o := by simp

theorem WRel.next_none {P : Program} {ι : Ren} {s : St} {w : World} (h : WRel P ι s w) : ι s.next = none := by
  cases e : ι s.next with
  | none => rfl
  | some p => exact absurd (h.fresh _ _ e) (Nat.lt_irrefl _)

/-- A NEW BLOCK. -/
theorem WRel.alloc {P : Program} {ι : Ren} {s : St} {w : World} (h : WRel P ι s w) (x : AObj) (o : Obj) (p : Place) (hp : p.blk = w.heap.size) (hr : p.ro = false)
    (hx : ORel P (Ren.set ι s.next p) { w with heap := w.heap.push o } p x) :
    WRel P (Ren.set ι s.next p) { heap := PT.set s.next x s.heap, next := s.next.succ } { w with heap := w.heap.push o } ∧ Ext ι w (Ren.set ι s.next p) { w with heap := w.heap.push o } := by
  have hn := h.next_none
  have hle : Ren.le ι (Ren.set ι s.next p) := Ren.le_set hn
  refine ⟨⟨?_, ?_, ?_, ?_⟩, ⟨hle, by simp, ?_, ?_, rfl, rfl⟩⟩
  · intro b q e
    rcases Ren.set_some e with ⟨rfl, rfl⟩ | ⟨hne, e'⟩
    · exact ⟨x, PT.get_set_same _ _ _, hx⟩
    · obtain ⟨y, hy, hr'⟩ := h.objs b q e'
      exact ⟨y, by rw [PT.get_set_ne _ _ _ _ hne]; exact hy, ORel.mono (w := w) hle (fun _ => push_old (h.bound b q e')) hr'⟩
  · intro b b' q q' y y' e e' hy hy' hl hl' hblk
    rcases Ren.set_some e with ⟨rfl, rfl⟩ | ⟨hne, e1⟩ <;> rcases Ren.set_some e' with ⟨rfl, rfl⟩ | ⟨hne', e1'⟩
    · exact .inl rfl
    · have := h.bound _ _ e1'; omega
    · have := h.bound _ _ e1; omega
    · simp only [PT.get_set_ne _ _ _ _ hne] at hy
      simp only [PT.get_set_ne _ _ _ _ hne'] at hy'
      exact h.apart b b' q q' y y' e1 e1' hy hy' hl hl' hblk
  · intro b q e
    simp only [Pos.succ_toNat]
    rcases Ren.set_some e with ⟨rfl, _⟩ | ⟨_, e'⟩
    · omega
    · have := h.fresh b q e'; omega
  · intro b q e
    simp only [Array.size_push]
    rcases Ren.set_some e with ⟨_, rfl⟩ | ⟨_, e'⟩
    · omega
    · have := h.bound b q e'; omega
  · intro b q e
    rcases Ren.set_some e with ⟨_, rfl⟩ | ⟨_, e'⟩
    · exact .inr (.inl (by omega))
    · exact .inl e'
  · intro i hi _
    exact push_old hi

/-- A BLOCK IS TURNED. -/
theorem WRel.update {P : Program} {ι : Ren} {s : St} {w w' : World} (h : WRel P ι s w) {b : Pos} {p : Place} {y : AObj} (x : AObj) (e : ι b = some p) (hy : PT.get b s.heap = some y) (hly : y.live = true)
    (hr : p.ro = false) (hsz : w'.heap.size = w.heap.size) (hk : ∀ i, i ≠ p.blk → w'.heap[i]? = w.heap[i]?) (hos : w'.os = w.os) (hout : w'.output = w.output) (hx : ORel P ι w' p x) :
    WRel P ι { heap := PT.set b x s.heap, next := s.next } w' ∧ Ext ι w ι w' := by
  refine ⟨⟨?_, ?_, h.fresh, fun c q e' => hsz ▸ h.bound c q e'⟩, ⟨Ren.le_refl ι, by omega, fun _ _ h => .inl h, ?_, hos, hout⟩⟩
  · intro c q e'
    by_cases hc : c = b
    · subst hc
      rw [e] at e'; cases e'
      exact ⟨x, PT.get_set_same _ _ _, hx⟩
    · obtain ⟨z, hz, hr'⟩ := h.objs c q e'
      refine ⟨z, by rw [PT.get_set_ne _ _ _ _ hc]; exact hz, ORel.mono (w := w) (Ren.le_refl ι) (fun hlz => hk _ fun hb => ?_) hr'⟩
      rcases h.apart c b q p z y e' e hz hy hlz hly hb with h1 | ⟨_, h2⟩
      · exact hc h1
      · rw [hr] at h2; cases h2
  · intro c c' q q' z z' e1 e2 hz hz' hl hl' hb
    by_cases hc : c = b <;> by_cases hc' : c' = b
    · exact .inl (hc.trans hc'.symm)
    · subst hc
      simp only [PT.get_set_ne _ _ _ _ hc'] at hz'
      exact h.apart c c' q q' y z' e1 e2 hy hz' hly hl' hb
    · subst hc'
      simp only [PT.get_set_ne _ _ _ _ hc] at hz
      exact h.apart c c' q q' z y e1 e2 hz hy hl hly hb
    · simp only [PT.get_set_ne _ _ _ _ hc] at hz
      simp only [PT.get_set_ne _ _ _ _ hc'] at hz'
      exact h.apart c c' q q' z z' e1 e2 hz hz' hl hl' hb
  · intro i _ hn
    exact hk i fun hb => hn b p e hr hb.symm

/-- A row is given up. -/
theorem WRel.kill {P : Program} {ι : Ren} {s : St} {w : World} (h : WRel P ι s w) (b : Pos) : WRel P ι { heap := PT.set b .dead s.heap, next := s.next } w := by
  refine ⟨?_, ?_, h.fresh, h.bound⟩
  · intro c q e
    by_cases hc : c = b
    · subst hc; exact ⟨.dead, PT.get_set_same _ _ _, .dead⟩
    · obtain ⟨z, hz, hr⟩ := h.objs c q e
      exact ⟨z, by rw [PT.get_set_ne _ _ _ _ hc]; exact hz, hr⟩
  · intro c c' q q' z z' e1 e2 hz hz' hl hl' hb
    by_cases hc : c = b
    · subst hc; simp only [PT.get_set_same, Option.some.injEq] at hz; subst hz; simp [AObj.live] at hl
    by_cases hc' : c' = b
    · subst hc'; simp only [PT.get_set_same, Option.some.injEq] at hz'; subst hz'; simp [AObj.live] at hl'
    simp only [PT.get_set_ne _ _ _ _ hc] at hz
    simp only [PT.get_set_ne _ _ _ _ hc'] at hz'
    exact h.apart c c' q q' z z' e1 e2 hz hz' hl hl' hb

/-- A ROW IS GIVEN UP, AND ITS BLOCK, TURNED, HAS A NEW NAME. -/
theorem WRel.regrow {P : Program} {ι : Ren} {s : St} {w w' : World} (h : WRel P ι s w) {b : Pos} {p q : Place} {y : AObj} (x : AObj) (e : ι b = some p) (hy : PT.get b s.heap = some y) (hly : y.live = true)
    (hr : p.ro = false) (hq : q.blk = p.blk) (hqr : q.ro = false) (hsz : w'.heap.size = w.heap.size) (hk : ∀ i, i ≠ p.blk → w'.heap[i]? = w.heap[i]?) (hos : w'.os = w.os) (hout : w'.output = w.output)
    (hx : ORel P (Ren.set ι s.next q) w' q x) :
    WRel P (Ren.set ι s.next q) { heap := PT.set s.next x (PT.set b .dead s.heap), next := s.next.succ } w' ∧ Ext ι w (Ren.set ι s.next q) w' := by
  have hn := h.next_none
  have hle : Ren.le ι (Ren.set ι s.next q) := Ren.le_set hn
  have hbn : b ≠ s.next := by rintro rfl; rw [hn] at e; cases e
  refine ⟨⟨?_, ?_, ?_, ?_⟩, ⟨hle, by omega, ?_, ?_, hos, hout⟩⟩
  · intro c r e'
    rcases Ren.set_some e' with ⟨rfl, rfl⟩ | ⟨hne, e1⟩
    · exact ⟨x, PT.get_set_same _ _ _, hx⟩
    · by_cases hc : c = b
      · subst hc
        exact ⟨.dead, by rw [PT.get_set_ne _ _ _ _ hne, PT.get_set_same], .dead⟩
      · obtain ⟨z, hz, hr'⟩ := h.objs c r e1
        refine ⟨z, by rw [PT.get_set_ne _ _ _ _ hne, PT.get_set_ne _ _ _ _ hc]; exact hz, ORel.mono (w := w) hle (fun hlz => hk _ fun hb => ?_) hr'⟩
        rcases h.apart c b r p z y e1 e hz hy hlz hly hb with h1 | ⟨_, h2⟩
        · exact hc h1
        · rw [hr] at h2; cases h2
  · intro c c' r r' z z' f1 f2 hz hz' hl hl' hb
    rcases Ren.set_some f1 with ⟨rfl, rfl⟩ | ⟨hne, e1⟩ <;> rcases Ren.set_some f2 with ⟨rfl, rfl⟩ | ⟨hne', e2⟩
    · exact .inl rfl
    · rw [PT.get_set_ne _ _ _ _ hne'] at hz'
      by_cases hc : c' = b
      · subst hc; rw [PT.get_set_same] at hz'; cases hz'; simp [AObj.live] at hl'
      · rw [PT.get_set_ne _ _ _ _ hc] at hz'
        rcases h.apart b c' p r' y z' e e2 hy hz' hly hl' (hq ▸ hb) with h1 | ⟨h2, _⟩
        · exact absurd h1.symm hc
        · rw [hr] at h2; cases h2
    · rw [PT.get_set_ne _ _ _ _ hne] at hz
      by_cases hc : c = b
      · subst hc; rw [PT.get_set_same] at hz; cases hz; simp [AObj.live] at hl
      · rw [PT.get_set_ne _ _ _ _ hc] at hz
        rcases h.apart b c p r y z e e1 hy hz hly hl (hq ▸ hb.symm) with h1 | ⟨h2, _⟩
        · exact absurd h1.symm hc
        · rw [hr] at h2; cases h2
    · rw [PT.get_set_ne _ _ _ _ hne] at hz
      rw [PT.get_set_ne _ _ _ _ hne'] at hz'
      exact (h.kill b).apart c c' r r' z z' e1 e2 hz hz' hl hl' hb
  · intro c r e'
    simp only [Pos.succ_toNat]
    rcases Ren.set_some e' with ⟨rfl, _⟩ | ⟨_, e1⟩
    · omega
    · have := h.fresh c r e1; omega
  · intro c r e'
    rw [hsz]
    rcases Ren.set_some e' with ⟨_, rfl⟩ | ⟨_, e1⟩
    · rw [hq]; exact h.bound b p e
    · exact h.bound c r e1
  · intro c r e'
    rcases Ren.set_some e' with ⟨_, rfl⟩ | ⟨_, e1⟩
    · exact .inr (.inr ⟨hqr, b, p, e, hr, hq.symm⟩)
    · exact .inl e1
  · intro i _ hn'
    exact hk i fun hb => hn' b p e hr hb.symm

/-! ### Forced lists are lists -/
section
variable {α : Type}
theorem nthK_nil (i : Nat) (K : α → Bool) : nthK [] i K = false := rfl
theorem nthK_zero (a : α) (l : List α) (K : α → Bool) : nthK (a :: l) 0 K = K a := rfl
theorem nthK_succ (a : α) (l : List α) (i : Nat) (K : α → Bool) : nthK (a :: l) (i + 1) K = nthK l i K := rfl
theorem dropK_nil0 (K : List α → Bool) : dropK [] 0 K = K [] := rfl
theorem dropK_nil1 (i : Nat) (K : List α → Bool) : dropK [] (i + 1) K = false := rfl
theorem dropK_zero (a : α) (l : List α) (K : List α → Bool) : dropK (a :: l) 0 K = K (a :: l) := rfl
theorem dropK_succ (a : α) (l : List α) (i : Nat) (K : List α → Bool) : dropK (a :: l) (i + 1) K = dropK l i K := rfl
theorem takeK_nil0 (K : List α → Bool) : takeK [] 0 K = K [] := rfl
theorem takeK_nil1 (i : Nat) (K : List α → Bool) : takeK [] (i + 1) K = false := rfl
theorem takeK_zero (a : α) (l : List α) (K : List α → Bool) : takeK (a :: l) 0 K = K [] := rfl
theorem takeK_succ (a : α) (l : List α) (i : Nat) (K : List α → Bool) : takeK (a :: l) (i + 1) K = takeK l i fun r => K (a :: r) := rfl
theorem overK_nil (m : List α) (K : List α → Bool) : overK [] m K = K m := rfl
theorem overK_cons0 (v : α) (vs : List α) (K : List α → Bool) : overK (v :: vs) [] K = false := rfl
theorem overK_cons (v a : α) (vs m : List α) (K : List α → Bool) : overK (v :: vs) (a :: m) K = overK vs m fun r => K (v :: r) := rfl
theorem putAtK_nil0 (vs : List α) (K : List α → Bool) : putAtK vs [] 0 K = overK vs [] K := rfl
theorem putAtK_nil1 (vs : List α) (i : Nat) (K : List α → Bool) : putAtK vs [] (i + 1) K = false := rfl
theorem putAtK_zero (vs : List α) (a : α) (l : List α) (K : List α → Bool) : putAtK vs (a :: l) 0 K = overK vs (a :: l) K := rfl
theorem putAtK_succ (vs : List α) (a : α) (l : List α) (i : Nat) (K : List α → Bool) : putAtK vs (a :: l) (i + 1) K = putAtK vs l i fun r => K (a :: r) := rfl
end
theorem nthK_true {α : Type} {l : List α} {i : Nat} {K : α → Bool} : nthK l i K = true ↔ ∃ a, l[i]? = some a ∧ K a = true := by
  induction l generalizing i with
  | nil => simp [nthK_nil]
  | cons a l ih => cases i with
    | zero => simp [nthK_zero]
    | succ i => rw [nthK_succ, ih]; simp
theorem dropK_true {α : Type} {l : List α} {i : Nat} {K : List α → Bool} : dropK l i K = true ↔ i ≤ l.length ∧ K (l.drop i) = true := by
  induction l generalizing i with
  | nil => cases i with
    | zero => simp [dropK_nil0]
    | succ i => simp [dropK_nil1]
  | cons a l ih => cases i with
    | zero => simp [dropK_zero]
    | succ i => rw [dropK_succ, ih]; simp
theorem takeK_true {α : Type} {l : List α} {i : Nat} {K : List α → Bool} : takeK l i K = true ↔ i ≤ l.length ∧ K (l.take i) = true := by
  induction l generalizing i K with
  | nil => cases i with
    | zero => simp [takeK_nil0]
    | succ i => simp [takeK_nil1]
  | cons a l ih => cases i with
    | zero => simp [takeK_zero]
    | succ i => rw [takeK_succ, ih]; simp
theorem appK_eq {α : Type} (l m : List α) (K : List α → Bool) : appK l m K = K (l ++ m) := by
  induction l generalizing K with
  | nil => rfl
  | cons a l ih => exact ih _
theorem overK_true {α : Type} {vs m : List α} {K : List α → Bool} : overK vs m K = true ↔ vs.length ≤ m.length ∧ K (vs ++ m.drop vs.length) = true := by
  induction vs generalizing m K with
  | nil => simp [overK_nil]
  | cons v vs ih => cases m with
    | nil => simp [overK_cons0]
    | cons a m => rw [overK_cons, ih]; simp
theorem putAtK_true {α : Type} {vs l : List α} {i : Nat} {K : List α → Bool} :
    putAtK vs l i K = true ↔ i + vs.length ≤ l.length ∧ K (l.take i ++ vs ++ l.drop (i + vs.length)) = true := by
  induction l generalizing i K with
  | nil => cases i with
    | zero => rw [putAtK_nil0, overK_true]; simp
    | succ i => rw [putAtK_nil1]; simp
  | cons a l ih => cases i with
    | zero => rw [putAtK_zero, overK_true]; simp
    | succ i =>
      rw [putAtK_succ, ih]
      have e : i + 1 + vs.length = (i + vs.length) + 1 := by omega
      simp [e]
theorem lenK_eq {α : Type} (l : List α) (n : Nat) (K : Nat → Bool) : lenK l n K = K (n + l.length) := by
  induction l generalizing n with
  | nil => simp [lenK, natK_eq]
  | cons a l ih =>
    have := ih (n := n + 1)
    simp only [lenK] at this ⊢
    rw [this]
    simp
    congr 1; omega
theorem segK_true {α : Type} {l : List α} {i n : Nat} {K : List α → Bool} : segK l i n K = true ↔ i + n ≤ l.length ∧ K ((l.drop i).take n) = true := by
  unfold segK
  rw [dropK_true, takeK_true]
  simp
  constructor
  · rintro ⟨h, h1, h2⟩; exact ⟨by omega, h2⟩
  · rintro ⟨h, h2⟩; exact ⟨by omega, by omega, h2⟩
theorem cellsK_val {v : AVal} {K : List AVal → Bool} : v.cellsK K = K v.cells := by cases v <;> rfl

/-! ### Cells read -/
theorem ORel.cell {P : Program} {ι : Ren} {w : World} {p : Place} {cs : List AVal} {ro : Bool} (h : ORel P ι w p (.cells cs ro)) {i : Nat} {a : AVal} (e : cs[i]? = some a) :
    ∃ v, w.cell? ⟨p.blk, p.off + i, none⟩ = some v ∧ VRel ι a v := by
  cases h with
  | cells h hs hl hc hn hf =>
    obtain ⟨v, hv, hr⟩ := hc i a e
    exact ⟨v, by simp [World.cell?, h, hv], hr⟩
theorem ORel.scalars {P : Program} {ι : Ren} {w : World} {p : Place} {cs : List AVal} {ro : Bool} (h : ORel P ι w p (.cells cs ro)) : ∀ x ∈ cs, x.scalar = true := by
  cases h with | cells h hs hl hc hn hf => exact hn
theorem add_eq (b o n : Nat) : (Addr.add ⟨b, o, none⟩ n) = ⟨b, o + n, none⟩ := by
  unfold Addr.add
  split <;> simp [*]
/-- The values that a list of cells is. -/
theorem seg_vals {P : Program} {ι : Ren} {w : World} {p : Place} {cs : List AVal} {ro : Bool} (h : ORel P ι w p (.cells cs ro)) (off n : Nat) (hn : off + n ≤ cs.length) :
    ∃ vs : List Value, VRels ι ((cs.drop off).take n) vs ∧ vs.length = n ∧ ∀ (j : Nat) (v : Value), vs[j]? = some v → w.cell? ⟨p.blk, p.off + off + j, none⟩ = some v := by
  induction n with
  | zero => exact ⟨[], by simpa using VRels.nil, rfl, by simp⟩
  | succ n ih =>
    obtain ⟨vs, hr, hl, hc⟩ := ih (by omega)
    have hlt : off + n < cs.length := by omega
    obtain ⟨v, hv, hrv⟩ := h.cell (i := off + n) (a := cs[off + n]) (by simp [hlt])
    refine ⟨vs ++ [v], ?_, by simp [hl], ?_⟩
    · rw [List.take_add_one]
      refine hr.append ?_
      have : (cs.drop off)[n]? = some cs[off + n] := by simp [hlt]
      rw [this]
      exact .cons hrv .nil
    · intro j u hj
      rw [List.getElem?_append] at hj
      split at hj
      · exact hc j u hj
      · have hj' : j = n := by
          rcases Nat.lt_trichotomy (j - vs.length) 0 with h0 | h0 | h0
          · omega
          · omega
          · have : ([v] : List Value)[j - vs.length]? = none := by simp; omega
            rw [this] at hj; cases hj
        subst hj'
        rw [hl] at hj
        simp at hj
        subst hj
        rw [show p.off + off + j = p.off + (off + j) by omega]
        exact hv
theorem run_loadCells_seg {P : Program} {w : World} {b o : Nat} {vs : List Value} (hc : ∀ (j : Nat) (v : Value), vs[j]? = some v → w.cell? ⟨b, o + j, none⟩ = some v) :
    (loadCells ⟨b, o, none⟩ vs.length).run P w = .ok vs.toArray w := by
  have := run_loadCells_list (P := P) (w := w) ⟨b, o, none⟩ vs (fun j v h => by rw [add_eq]; exact hc j v h)
  simpa using this
end Go.AM
end
