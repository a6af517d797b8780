/- The abstract machine's runs, said of what they come to: the operations as conditions on what follows. -/
import Derived.Test.YtoipnedbpjfeiaaDoorAmDraw7
set_option linter.all false
set_option linter.unusedSectionVars false
set_option linter.unusedSimpArgs false
set_option linter.unusedVariables false
namespace Go.AM
variable [Orc] [OrcOk]
/-! ### States -/
noncomputable def St.obj (s : St) (b : Pos) : Option AObj := PT.get b s.heap
noncomputable def St.cells (s : St) (b : Pos) : Option (List AVal) := match s.obj b with
  | some (.cells cs _) => some cs
  | _ => none
noncomputable def St.own (s : St) (b : Pos) : Option (List AVal) := match s.obj b with
  | some (.cells cs false) => some cs
  | _ => none
def St.alloc (s : St) (x : AObj) : St := { heap := PT.set s.next x s.heap, next := s.next.succ }
def St.put (s : St) (b : Pos) (x : AObj) : St := { heap := PT.set b x s.heap, next := s.next }
theorem St.cells_of_own {s : St} {b : Pos} {cs : List AVal} (h : s.own b = some cs) : s.cells b = some cs := by
  unfold St.own at h
  unfold St.cells
  split at h
  · rename_i h'; rw [h']; exact h
  · cases h
theorem St.obj_of_own {s : St} {b : Pos} {cs : List AVal} (h : s.own b = some cs) : s.obj b = some (.cells cs false) := by
  unfold St.own at h
  split at h
  · rename_i h'; rw [h']; cases h; rfl
  · cases h
theorem St.obj_of_cells {s : St} {b : Pos} {cs : List AVal} (h : s.cells b = some cs) : ∃ ro, s.obj b = some (.cells cs ro) := by
  unfold St.cells at h
  split at h
  · rename_i ro h'; cases h; exact ⟨ro, h'⟩
  · cases h

/-! ### Operations -/
def withV (x : Option AVal) (F : AVal → Prop) : Prop := match x with
  | some v => F v
  | none => False
theorem withV_some (v : AVal) (F : AVal → Prop) : withV (some v) F = F v := rfl
def withInt (x : Option AVal) (F : IntKind → Int → Prop) : Prop := match x with
  | some (.int k n) => F k n
  | _ => False
theorem withInt_int (k : IntKind) (n : Int) (F : IntKind → Int → Prop) : withInt (some (.int k n)) F = F k n := rfl
def withBool (x : Option AVal) (F : Bool → Prop) : Prop := match x with
  | some (.bool b) => F b
  | _ => False
theorem withBool_bool (b : Bool) (F : Bool → Prop) : withBool (some (.bool b)) F = F b := rfl
def withStr (x : Option AVal) (F : List UInt8 → Prop) : Prop := match x with
  | some (.str b) => F b
  | _ => False
theorem withStr_str (b : List UInt8) (F : List UInt8 → Prop) : withStr (some (.str b)) F = F b := rfl
def withPtr (x : Option AVal) (F : Pos → Nat → Prop) : Prop := match x with
  | some (.ptr b o) => F b o
  | _ => False
theorem withPtr_ptr (b : Pos) (o : Nat) (F : Pos → Nat → Prop) : withPtr (some (.ptr b o)) F = F b o := rfl
def withSlc (x : Option AVal) (F : Pos → Nat → Nat → Cap → Prop) : Prop := match x with
  | some (.slice b o n c) => F b o n c
  | _ => False
theorem withSlc_slice (b : Pos) (o n : Nat) (c : Cap) (F : Pos → Nat → Nat → Cap → Prop) : withSlc (some (.slice b o n c)) F = F b o n c := rfl
def withAgg (x : Option AVal) (F : List AVal → Prop) : Prop := match x with
  | some (.agg l) => F l
  | _ => False
theorem withAgg_agg (l : List AVal) (F : List AVal → Prop) : withAgg (some (.agg l)) F = F l := rfl
def withTup (x : Option AVal) (F : List AVal → Prop) : Prop := match x with
  | some (.tup l) => F l
  | _ => False
theorem withTup_tup (l : List AVal) (F : List AVal → Prop) : withTup (some (.tup l)) F = F l := rfl
def withO {α : Type} (x : Option α) (F : α → Prop) : Prop := match x with
  | some v => F v
  | none => False
theorem withO_some {α : Type} (v : α) (F : α → Prop) : withO (some v) F = F v := rfl
/-- How long a slice is. -/
def slcLen : AVal → Option Nat
  | .slice _ _ n _ => some n
  | .nilSlice => some 0
  | _ => none
@[simp] theorem slcLen_slice (b : Pos) (o n : Nat) (c : Cap) : slcLen (.slice b o n c) = some n := rfl
@[simp] theorem slcLen_nil : slcLen .nilSlice = some 0 := rfl
def isTup : AVal → Bool
  | .tup _ => true
  | .iface _ _ => true
  | .nilIface => true
  | _ => false
def valsP (γ : RO → Option AVal) : List RO → (List AVal → Prop) → Prop
  | [], F => F []
  | x :: l, F => withV (γ x) fun v => valsP γ l fun r => F (v :: r)
/-- Cells laid over cells. -/
def lay (cs : List AVal) (o : Nat) (vs : List AVal) : List AVal := cs.take o ++ vs ++ cs.drop (o + vs.length)
def fillP (γ : RO → Option AVal) : List (Nat × Nat × RO) → List AVal → (List AVal → Prop) → Prop
  | [], cs, F => F cs
  | (o, n, x) :: l, cs, F => withV (γ x) fun v => (∀ t, v ≠ .tup t) ∧ v.cells.length = n ∧ o + n ≤ cs.length ∧ fillP γ l (lay cs o v.cells) F
def partP (n : Option Nat) (cs : List AVal) (o : Nat) (F : AVal → Prop) : Prop := match n with
  | none => withO cs[o]? F
  | some n => o + n ≤ cs.length ∧ F (.agg ((cs.drop o).take n))
def intP (op : BinOp) (k : IntKind) (a b : Int) (Q : AVal → Prop) : Prop := match op with
  | .add => Q (.int k (k.wrap (a + b)))
  | .sub => Q (.int k (k.wrap (a - b)))
  | .mul => Q (.int k (k.wrap (a * b)))
  | .quo => b ≠ 0 ∧ Q (.int k (k.wrap (a.tdiv b)))
  | .rem => b ≠ 0 ∧ Q (.int k (a.tmod b))
  | .and => Q (.int k (k.wrap (BitVec.ofInt k.bits a &&& BitVec.ofInt k.bits b).toNat))
  | .or => Q (.int k (k.wrap (BitVec.ofInt k.bits a ||| BitVec.ofInt k.bits b).toNat))
  | .xor => Q (.int k (k.wrap (BitVec.ofInt k.bits a ^^^ BitVec.ofInt k.bits b).toNat))
  | .shl => 0 ≤ b ∧ Q (.int k (k.wrap (a * 2 ^ min b.toNat k.bits)))
  | .shr => 0 ≤ b ∧ Q (.int k (a.fdiv (2 ^ min b.toNat k.bits)))
  | .eql => Q (.bool (decide (a = b)))
  | .neq => Q (.bool (!decide (a = b)))
  | .lss => Q (.bool (decide (a < b)))
  | .leq => Q (.bool (!decide (b < a)))
  | .gtr => Q (.bool (decide (b < a)))
  | .geq => Q (.bool (!decide (a < b)))
  | _ => False
def eqP (op : BinOp) (e : Bool) (Q : AVal → Prop) : Prop := match op with
  | .eql => Q (.bool e)
  | .neq => Q (.bool (!e))
  | _ => False
/-- Is the value the nil of its kind? -/
def nilB : AVal → Option (EK × Bool)
  | .ptr _ _ => some (.ptr, false)
  | .nilPtr => some (.ptr, true)
  | .slice _ _ _ _ => some (.slc, false)
  | .nilSlice => some (.slc, true)
  | .map _ => some (.map, false)
  | .nilMap => some (.map, true)
  | .fn _ _ _ => some (.func, false)
  | .nilFn => some (.func, true)
  | _ => none
def binP (op : BinOp) (k : EK) (sh : Option (List SK)) (x y : AVal) (Q : AVal → Prop) : Prop := match x, y with
  | .int j a, .int i b => kindCode j = kindCode i ∧ intP op j a b Q
  | .bool a, .bool b => isEKT k .bool = true ∧ eqP op (a == b) Q
  | .str a, .str b => match op with
    | .eql => Q (.bool (a == b))
    | .neq => Q (.bool (!(a == b)))
    | _ => False
  | .nilPtr, .nilPtr => isEKT k .ptr = true ∧ eqP op true Q
  | .ptr _ _, .nilPtr => isEKT k .ptr = true ∧ eqP op false Q
  | .nilSlice, .nilSlice => isEKT k .slc = true ∧ eqP op true Q
  | .slice _ _ _ _, .nilSlice => isEKT k .slc = true ∧ eqP op false Q
  | .agg a, y => withO sh fun ks => withAgg (some y) fun b => a.length = ks.length ∧ b.length = ks.length ∧ eqCells ks a b (fun _ => true) = true ∧ eqP op (eqCells ks a b fun e => e) Q
  | _, _ => False
/-- The place of a key in a map. -/
def findP (i : Bool × List SK × AVal) (key : AVal) (es : List MapE) (F : Option (Nat × AVal) → Prop) : Prop :=
  ∃ r, (keyCells i.1 i.2.1 key fun c => findK i.1 i.2.1 c es 0 fun x => hold (x = r)) = true ∧ F r
section
variable (P : Program)
def CallR (f : FuncId) (args : List AVal) (s : St) (v : AVal) (s' : St) : Prop := ∃ n0, ∀ n, n0 ≤ n → ∀ K : VK, K v s' = true → callF P (exec P n) f args s K = true
def wpCall (f : FuncId) (args : List AVal) (s : St) (Q : AVal → St → Prop) : Prop := ∃ v s', CallR P f args s v s' ∧ Q v s'
def wpCallV (fv : AVal) (args : List AVal) (s : St) (Q : AVal → St → Prop) : Prop := ∃ v s', (∃ n0, ∀ n, n0 ≤ n → ∀ K : VK, K v s' = true → callV P (exec P n) fv args s K = true) ∧ Q v s'
def opP (o : MOp) (γ : RO → Option AVal) (s : St) (Q : AVal → St → Prop) : Prop := match o with
  | .move x => withV (γ x) fun v => Q v s
  | .pick c a b => withBool (γ c) fun t => if t = true then withV (γ a) fun v => Q v s else withV (γ b) fun v => Q v s
  | .alloc z => withO z fun cs => Q (.ptr s.next 0) (s.alloc (.cells cs false))
  | .box x => withV (γ x) fun v => (∀ t, v ≠ .tup t) ∧ Q (.ptr s.next 0) (s.alloc (.cells v.cells false))
  | .build pl z => withO pl fun pl => withO z fun zs => fillP γ pl zs fun cs => Q (.agg cs) s
  | .buildSlice e z len ps => withO e fun e => withO z fun zs => zs.length = e.1 ∧ len * e.1 ≤ 16777216 ∧ fillP γ (mplacesA e.1 ps) (List.replicate len zs).flatten fun cs => Q (.slice s.next 0 len (.lim len)) (s.alloc (.cells cs false))
  | .load n a => withO n fun n => withPtr (γ a) fun b off => withO (s.cells b) fun cs => partP n cs off fun v => Q v s
  | .store n a x => withO n fun n => withV (γ x) fun v => (∀ t, v ≠ .tup t) ∧ v.cells.length = n ∧ withPtr (γ a) fun b off => withO (s.own b) fun cs => off + n ≤ cs.length ∧ Q (.tup []) (s.put b (.cells (lay cs off v.cells) false))
  | .nilck x => withPtr (γ x) fun b o => Q (.ptr b o) s
  | .bin op k sh x y => withV (γ x) fun x => withV (γ y) fun y => binP op k sh x y fun v => Q v s
  | .un op x => match op with
    | .not => withBool (γ x) fun b => Q (.bool (!b)) s
    | .neg => withInt (γ x) fun k n => Q (.int k (k.wrap (0 - n))) s
    | _ => False
  | .conv k x => match k with
    | .int k => withInt (γ x) fun _ n => Q (.int k (k.wrap n)) s
    | .same => withStr (γ x) fun l => Q (.str l) s
    | _ => False
  | .func f a c => withO f fun f => valsP γ a fun a => valsP γ c fun c => Q (.fn f a c) s
  | .makeMap ok => ok = true ∧ Q (.map s.next) (s.alloc (.map [] 0))
  | .makeSlice e z l c => withO e fun e => withO z fun zs => zs.length = e.1 ∧ withInt (γ l) fun _ l => withInt (γ c) fun _ c => 0 ≤ l ∧ l ≤ c ∧ c.toNat * e.2 ≤ smallB ∧ c.toNat ≤ smallB ∧
      Q (.slice s.next 0 l.toNat (.lim c.toNat)) (s.alloc (.cells (List.replicate c.toNat zs).flatten false))
  | .fieldAddr o x => withO o fun fo => withPtr (γ x) fun b off => Q (.ptr b (off + fo)) s
  | .field f x => withO f fun f => withAgg (γ x) fun l => partP f.2 l f.1 fun v => Q v s
  | .indexAddr k e a x i => withInt (γ i) fun _ i => 0 ≤ i ∧ match k with
    | .slc => withO e fun e => withSlc (γ x) fun b off n _ => i < n ∧ Q (.ptr b (off + i.toNat * e.1)) s
    | .arr => withO a fun e => withPtr (γ x) fun b off => i < e.1 ∧ Q (.ptr b (off + i.toNat * e.2)) s
    | _ => False
  | .index k e x i => withInt (γ i) fun _ i => 0 ≤ i ∧ match k with
    | .str => withStr (γ x) fun l => withO l[i.toNat]? fun c => Q (.int .u8 c.toNat) s
    | .arr => withO e fun e => withAgg (γ x) fun l => i < e.1 ∧ partP e.2.2 l (i.toNat * e.2.1) fun v => Q v s
    | _ => False
  | .lookup i ok m k => withO i fun info => withV (γ k) fun key => match γ m with
    | some (.map b) => match s.obj b with
      | some (.map es _) => findP info key es fun r => match r with
        | none => if ok = true then Q (.tup [info.2.2, .bool false]) s else Q info.2.2 s
        | some x => if ok = true then Q (.tup [x.2, .bool true]) s else Q x.2 s
      | _ => False
    | _ => False
  | .mapSet i m k x => withO i fun info => withV (γ k) fun key => withV (γ x) fun x => match γ m with
    | some (.map b) => match s.obj b with
      | some (.map es clock) => findP info key es fun r => match r with
        | none => Q (.tup []) (s.put b (.map (es ++ [{ key := key, val := x, born := clock }]) (clock + 1)))
        | some p => ∃ es', setValK x key es p.1 (fun e => hold (e = es')) = true ∧ Q (.tup []) (s.put b (.map es' clock))
      | _ => False
    | _ => False
  | .extract x i => withTup (γ x) fun l => withO l[i]? fun v => Q v s
  | .call f l => withV (γ f) fun fv => valsP γ l fun args => wpCallV P fv args s Q
  | .len e x => withO e fun e => match e.1 with
    | .str => withStr (γ x) fun l => Q (.int .i64 l.length) s
    | .slc => withV (γ x) fun v => withO (slcLen v) fun n => Q (.int .i64 n) s
    | .arr => withV (γ x) fun _ => Q (.int .i64 e.2) s
    | .map => match γ x with
      | some (.map b) => match s.obj b with
        | some (.map es _) => Q (.int .i64 es.length) s
        | _ => False
      | _ => False
    | _ => False
  | _ => False
/-- A guard. -/
def guardP (g : Option (Option (RO × Bool))) (γ : RO → Option AVal) (A B : Prop) : Prop := match g with
  | none => A
  | some g => withO g fun g => withV (γ g.1) fun v => match v with
    | .bool b => if b = g.2 then A else B
    | .iface _ _ => False
    | _ => B
def commitP : List (Option Pos) → List AVal → PT AVal → Option (PT AVal)
  | [], _, t => some t
  | _ :: _, [], _ => none
  | none :: r, _ :: l, t => commitP r l t
  | some p :: r, v :: l, t => commitP r l (PT.set p v t)
def itemsP (cm : List (Option Pos)) : List MItem → List AVal → PT AVal → St → (PT AVal → St → Prop) → Prop
  | [], locals, tree, s, Q => withO (commitP cm locals tree) fun t => Q t s
  | .run g o :: r, locals, tree, s, Q => guardP g (getO tree locals) (opP P o (getO tree locals) s fun v s => itemsP cm r (v :: locals) tree s Q) (itemsP cm r (.tup [] :: locals) tree s Q)
  | .chk g o u :: r, locals, tree, s, Q => guardP g (getO tree locals) (opP P o (getO tree locals) s fun v _ => withO u fun x => withV (getO tree locals x) fun u => v = u ∧ eqVal 8 v v = true ∧ itemsP cm r locals tree s Q) (itemsP cm r locals tree s Q)
  | .fresh :: r, locals, tree, s, Q => s.obj s.next = none ∧ itemsP cm r locals tree s Q
end
/-! ### They hold -/
theorem holds_withV {x : Option AVal} {F : AVal → Prop} (h : withV x F) : ∃ v, x = some v ∧ F v := by cases x with
  | none => exact h.elim
  | some v => exact ⟨v, rfl, h⟩
theorem holds_withO {α : Type} {x : Option α} {F : α → Prop} (h : withO x F) : ∃ v, x = some v ∧ F v := by cases x with
  | none => exact h.elim
  | some v => exact ⟨v, rfl, h⟩
theorem holds_withInt {x : Option AVal} {F : IntKind → Int → Prop} (h : withInt x F) : ∃ k n, x = some (.int k n) ∧ F k n := by
  unfold withInt at h; split at h
  · exact ⟨_, _, rfl, h⟩
  · exact h.elim
theorem holds_withBool {x : Option AVal} {F : Bool → Prop} (h : withBool x F) : ∃ b, x = some (.bool b) ∧ F b := by
  unfold withBool at h; split at h
  · exact ⟨_, rfl, h⟩
  · exact h.elim
theorem holds_withStr {x : Option AVal} {F : List UInt8 → Prop} (h : withStr x F) : ∃ b, x = some (.str b) ∧ F b := by
  unfold withStr at h; split at h
  · exact ⟨_, rfl, h⟩
  · exact h.elim
theorem holds_withPtr {x : Option AVal} {F : Pos → Nat → Prop} (h : withPtr x F) : ∃ b o, x = some (.ptr b o) ∧ F b o := by
  unfold withPtr at h; split at h
  · exact ⟨_, _, rfl, h⟩
  · exact h.elim
theorem holds_withSlc {x : Option AVal} {F : Pos → Nat → Nat → Cap → Prop} (h : withSlc x F) : ∃ b o n c, x = some (.slice b o n c) ∧ F b o n c := by
  unfold withSlc at h; split at h
  · exact ⟨_, _, _, _, rfl, h⟩
  · exact h.elim
theorem holds_withAgg {x : Option AVal} {F : List AVal → Prop} (h : withAgg x F) : ∃ b, x = some (.agg b) ∧ F b := by
  unfold withAgg at h; split at h
  · exact ⟨_, rfl, h⟩
  · exact h.elim
theorem holds_withTup {x : Option AVal} {F : List AVal → Prop} (h : withTup x F) : ∃ b, x = some (.tup b) ∧ F b := by
  unfold withTup at h; split at h
  · exact ⟨_, rfl, h⟩
  · exact h.elim
theorem holds_part {n : Option Nat} {cs : List AVal} {o : Nat} {F : AVal → Prop} (h : partP n cs o F) : ∃ v, F v ∧ ∀ k : AVal → Bool, k v = true → partK n cs o k = true := by
  cases n with
  | none =>
    obtain ⟨v, e, h⟩ := holds_withO h
    exact ⟨v, h, fun k hk => nthK_true.2 ⟨v, e, hk⟩⟩
  | some n => exact ⟨_, h.2, fun k hk => segK_true.2 ⟨h.1, hk⟩⟩
theorem holds_vals {γ : RO → Option AVal} : ∀ {l : List RO} {F : List AVal → Prop}, valsP γ l F → ∃ vs, F vs ∧ ∀ k : List AVal → Bool, k vs = true → mvalsK γ l k = true
  | [], F, h => ⟨[], h, fun k hk => hk⟩
  | x :: l, F, h => by
    obtain ⟨v, e, h⟩ := holds_withV h
    obtain ⟨vs, h1, h2⟩ := holds_vals h
    exact ⟨v :: vs, h1, fun k hk => optK_true.2 ⟨v, e, h2 (fun r => k (v :: r)) hk⟩⟩
theorem holds_fill {γ : RO → Option AVal} : ∀ {l : List (Nat × Nat × RO)} {cs : List AVal} {F : List AVal → Prop}, fillP γ l cs F → ∃ vs, F vs ∧ ∀ k : List AVal → Bool, k vs = true → mfillK γ l cs k = true
  | [], cs, F, h => ⟨cs, h, fun k hk => hk⟩
  | (o, n, x) :: l, cs, F, h => by
    obtain ⟨v, e, h0, h1, h2, h3⟩ := holds_withV h
    obtain ⟨vs, h4, h5⟩ := holds_fill h3
    refine ⟨vs, h4, fun k hk => ?_⟩
    show (optK (γ x) fun v => noTup v (v.cellsK fun vs => lenK vs 0 fun m => ifK (Nat.beq m n) (putAtK vs cs o fun cs => mfillK γ l cs k) (fail 29))) = true
    refine optK_true.2 ⟨v, e, noTup_true.2 ⟨h0, ?_⟩⟩
    rw [cellsK_val, lenK_eq]
    refine ifK_true.2 (.inl ⟨by simp [h1], putAtK_true.2 ⟨by omega, h5 k hk⟩⟩)
theorem intV_of {k : IntKind} {n : Int} {s : St} {K : VK} (h : K (.int k n) s = true) : AM.intV k n s K = true := by
  unfold AM.intV
  rw [intK_eq]
  exact h
theorem boolV_of {b : Bool} {s : St} {K : VK} (h : K (.bool b) s = true) : AM.boolV b s K = true := by
  cases b <;> exact h
theorem holds_int {op : BinOp} {k : IntKind} {a b : Int} {Q : AVal → Prop} (h : intP op k a b Q) (s : St) : ∃ v, Q v ∧ ∀ K : VK, K v s = true → intBin op k a b s K = true := by
  cases op with
  | add => exact ⟨_, h, fun K hK => intV_of (by rw [wrapF_eq]; exact hK)⟩
  | sub => exact ⟨_, h, fun K hK => intV_of (by rw [wrapF_eq]; exact hK)⟩
  | mul => exact ⟨_, h, fun K hK => intV_of (by rw [wrapF_eq]; exact hK)⟩
  | quo => exact ⟨_, h.2, fun K hK => ifK_true.2 (.inr ⟨by rw [eqI_eq]; simpa using h.1, intV_of hK⟩)⟩
  | rem => exact ⟨_, h.2, fun K hK => ifK_true.2 (.inr ⟨by rw [eqI_eq]; simpa using h.1, intV_of hK⟩)⟩
  | and => exact ⟨_, h, fun K hK => intV_of hK⟩
  | or => exact ⟨_, h, fun K hK => intV_of hK⟩
  | xor => exact ⟨_, h, fun K hK => intV_of hK⟩
  | shl => exact ⟨_, h.2, fun K hK => ifK_true.2 (.inr ⟨by rw [ltI_eq]; simpa using h.1, intV_of hK⟩)⟩
  | shr => exact ⟨_, h.2, fun K hK => ifK_true.2 (.inr ⟨by rw [ltI_eq]; simpa using h.1, intV_of hK⟩)⟩
  | eql => exact ⟨_, h, fun K hK => boolV_of (by rw [eqI_eq]; exact hK)⟩
  | neq => exact ⟨_, h, fun K hK => boolV_of (by rw [notB_eq, eqI_eq]; exact hK)⟩
  | lss => exact ⟨_, h, fun K hK => boolV_of (by rw [ltI_eq]; exact hK)⟩
  | leq => exact ⟨_, h, fun K hK => boolV_of (by rw [notB_eq, ltI_eq]; exact hK)⟩
  | gtr => exact ⟨_, h, fun K hK => boolV_of (by rw [ltI_eq]; exact hK)⟩
  | geq => exact ⟨_, h, fun K hK => boolV_of (by rw [notB_eq, ltI_eq]; exact hK)⟩
  | _ => exact h.elim
theorem holds_eq {op : BinOp} {e : Bool} {Q : AVal → Prop} (h : eqP op e Q) (s : St) : ∃ v, Q v ∧ ∀ K : VK, K v s = true → eqBin op e s K = true := by
  cases op with
  | eql => exact ⟨_, h, fun K hK => boolV_of hK⟩
  | neq => exact ⟨_, h, fun K hK => boolV_of (by rw [notB_eq]; exact hK)⟩
  | _ => exact h.elim
theorem eqCell_form {k : SK} {a b : AVal} {K : Bool → Bool} (h : AM.eqCell k a b K = true) : ∃ e, ∀ K' : Bool → Bool, AM.eqCell k a b K' = K' e := by
  cases k with
  | bool =>
    obtain ⟨x, rfl, h1⟩ := AVal.boolK_true.1 h
    obtain ⟨y, rfl, h2⟩ := AVal.boolK_true.1 h1
    exact ⟨_, fun K' => rfl⟩
  | int =>
    obtain ⟨j, x, rfl, h1⟩ := AVal.intK_true.1 h
    obtain ⟨i, y, rfl, h2⟩ := AVal.intK_true.1 h1
    rcases ifK_true.1 h2 with ⟨h3, _⟩ | ⟨_, h3⟩
    · refine ⟨eqI x y, fun K' => ?_⟩
      show ifK (Nat.beq (kindCode j) (kindCode i)) (K' (eqI x y)) (fail 8) = _
      rw [h3]; rfl
    · cases h3
  | str =>
    obtain ⟨x, rfl, h1⟩ := AVal.strK_true.1 h
    obtain ⟨y, rfl, h2⟩ := AVal.strK_true.1 h1
    exact ⟨_, fun K' => rfl⟩
theorem eqCells_form : ∀ {ks : List SK} {a b : List AVal} {K : Bool → Bool}, AM.eqCells ks a b K = true → ∃ e, ∀ K' : Bool → Bool, AM.eqCells ks a b K' = K' e
  | [], a, b, K, h => ⟨true, fun K' => rfl⟩
  | k :: ks, [], b, K, h => by cases h
  | k :: ks, x :: a, [], K, h => by cases h
  | k :: ks, x :: a, y :: b, K, h => by
    have h : AM.eqCell k x y (fun e => ifK e (AM.eqCells ks a b K) (K false)) = true := h
    obtain ⟨e, he⟩ := eqCell_form h
    rw [he] at h
    have hr : ∀ K' : Bool → Bool, AM.eqCells (k :: ks) (x :: a) (y :: b) K' = ifK e (AM.eqCells ks a b K') (K' false) := fun K' => he _
    cases e with
    | true =>
      obtain ⟨e', he'⟩ := eqCells_form (show AM.eqCells ks a b K = true from h)
      exact ⟨e', fun K' => (hr K').trans (he' K')⟩
    | false => exact ⟨false, hr⟩
theorem eqCells_det {ks : List SK} {a b : List AVal} (h : AM.eqCells ks a b (fun _ => true) = true) (k : Bool → Bool) (hk : k (AM.eqCells ks a b fun e => e) = true) : AM.eqCells ks a b k = true := by
  obtain ⟨e, he⟩ := eqCells_form h
  rw [he] at hk
  rw [he]; exact hk
theorem holds_bin {op : BinOp} {k : EK} {sh : Option (List SK)} {x y : AVal} {Q : AVal → Prop} (h : binP op k sh x y Q) (s : St) : ∃ v, Q v ∧ ∀ K : VK, K v s = true → mbinK op k sh (some x) (some y) s K = true := by
  unfold binP at h
  split at h
  · obtain ⟨h1, h2⟩ := h
    obtain ⟨v, h3, h4⟩ := holds_int h2 s
    refine ⟨v, h3, fun K hK => ?_⟩
    show ifK (isShift op) _ (ifK (Nat.beq (kindCode _) (kindCode _)) _ _) = true
    cases isShift op with
    | true => exact h4 K hK
    | false => exact (show ifK (Nat.beq (kindCode _) (kindCode _)) _ _ = true from ifK_true.2 (.inl ⟨by rw [h1]; exact Nat.beq_refl _, h4 K hK⟩))
  · obtain ⟨h1, h2⟩ := h
    obtain ⟨v, h3, h4⟩ := holds_eq h2 s
    refine ⟨v, h3, fun K hK => ifK_true.2 (.inl ⟨h1, ?_⟩)⟩
    rw [eqBool_eq]
    exact h4 K hK
  · rename_i a b
    cases op with
    | eql => exact ⟨_, h, fun K hK => boolV_of (by rw [eqBytes_eq]; exact hK)⟩
    | neq => exact ⟨_, h, fun K hK => boolV_of (by rw [notB_eq, eqBytes_eq]; exact hK)⟩
    | _ => exact h.elim
  · obtain ⟨h1, h2⟩ := h
    obtain ⟨v, h3, h4⟩ := holds_eq h2 s
    refine ⟨v, h3, fun K hK => ?_⟩
    show ifK (isEKT k .ptr) _ _ = true
    exact ifK_true.2 (.inl ⟨h1, h4 K hK⟩)
  · obtain ⟨h1, h2⟩ := h
    obtain ⟨v, h3, h4⟩ := holds_eq h2 s
    refine ⟨v, h3, fun K hK => ?_⟩
    show ifK (isEKT k .ptr) _ _ = true
    exact ifK_true.2 (.inl ⟨h1, h4 K hK⟩)
  · obtain ⟨h1, h2⟩ := h
    obtain ⟨v, h3, h4⟩ := holds_eq h2 s
    refine ⟨v, h3, fun K hK => ?_⟩
    show ifK (isEKT k .slc) _ _ = true
    exact ifK_true.2 (.inl ⟨h1, h4 K hK⟩)
  · obtain ⟨h1, h2⟩ := h
    obtain ⟨v, h3, h4⟩ := holds_eq h2 s
    refine ⟨v, h3, fun K hK => ?_⟩
    show ifK (isEKT k .slc) _ _ = true
    exact ifK_true.2 (.inl ⟨h1, h4 K hK⟩)
  · rename_i a
    obtain ⟨ks, hks, h⟩ := holds_withO h
    obtain ⟨b, hb, h0, h1, h2, h3⟩ := holds_withAgg h
    cases hb
    obtain ⟨v, h4, h5⟩ := holds_eq h3 s
    refine ⟨v, h4, fun K hK => ?_⟩
    show meqAgg sh op a (.agg b) s K = true
    refine optK_true.2 ⟨ks, hks, AVal.aggK_true.2 ⟨b, rfl, ?_⟩⟩
    rw [lenK_eq, lenK_eq, lenK_eq]
    refine ifK_true.2 (.inl ⟨by simp [h0], ifK_true.2 (.inl ⟨by simp [h1], eqCells_det h2 (fun e => eqBin op e s K) (h5 K hK)⟩)⟩)
  · exact h.elim
theorem keyCells_form {ag : Bool} {ks : List SK} {v : AVal} {K : List AVal → Bool} (h : keyCells ag ks v K = true) : ∃ c, ∀ K' : List AVal → Bool, keyCells ag ks v K' = K' c := by
  cases ag with
  | false => exact ⟨[v], fun K' => rfl⟩
  | true =>
    obtain ⟨l, rfl, h1⟩ := AVal.aggK_true.1 (show v.aggK _ = true from h)
    rw [lenK_eq, lenK_eq] at h1
    rcases ifK_true.1 h1 with ⟨h2, _⟩ | ⟨_, h2⟩
    · refine ⟨l, fun K' => ?_⟩
      show lenK l 0 (fun n => lenK ks 0 fun m => ifK (Nat.beq n m) (K' l) (fail 54)) = K' l
      rw [lenK_eq, lenK_eq, h2]; rfl
    · cases h2
theorem findK_form {ag : Bool} {ks : List SK} {key : List AVal} : ∀ {es : List MapE} {i : Nat} {K : Option (Nat × AVal) → Bool}, findK ag ks key es i K = true → ∃ r, ∀ K' : Option (Nat × AVal) → Bool, findK ag ks key es i K' = K' r
  | [], i, K, h => ⟨none, fun K' => rfl⟩
  | e :: es, i, K, h => by
    have h : keyCells ag ks e.key (fun c => eqCells ks key c fun b => ifK b (K (some (i, e.val))) (findK ag ks key es (Nat.succ i) K)) = true := h
    obtain ⟨c, hc⟩ := keyCells_form h
    rw [hc] at h
    obtain ⟨b, hb⟩ := eqCells_form h
    rw [hb] at h
    have hr : ∀ K' : Option (Nat × AVal) → Bool, findK ag ks key (e :: es) i K' = ifK b (K' (some (i, e.val))) (findK ag ks key es (Nat.succ i) K') := fun K' => by
      show (keyCells ag ks e.key fun c => eqCells ks key c fun b => ifK b (K' (some (i, e.val))) (findK ag ks key es (Nat.succ i) K')) = _
      rw [hc, hb]
    cases b with
    | true => exact ⟨some (i, e.val), hr⟩
    | false =>
      obtain ⟨r, h2⟩ := findK_form (show findK ag ks key es (Nat.succ i) K = true from h)
      exact ⟨r, fun K' => (hr K').trans (h2 K')⟩
theorem keyFind_mono {ag : Bool} {ks : List SK} {v : AVal} {es : List MapE} {K K' : Option (Nat × AVal) → Bool} (h : (keyCells ag ks v fun c => findK ag ks c es 0 K) = true) (hK : ∀ x, K x = true → K' x = true) :
    (keyCells ag ks v fun c => findK ag ks c es 0 K') = true := by
  obtain ⟨c, hc⟩ := keyCells_form h
  rw [hc] at h ⊢
  obtain ⟨r, hr⟩ := findK_form h
  rw [hr] at h ⊢
  exact hK r h
theorem setValK_mono {v key : AVal} : ∀ {es : List MapE} {i : Nat} {K K' : List MapE → Bool}, setValK v key es i K = true → (∀ x, K x = true → K' x = true) → setValK v key es i K' = true
  | [], i, K, K', h, _ => by cases h
  | e :: es, 0, K, K', h, hK => hK _ h
  | e :: es, i + 1, K, K', h, hK => setValK_mono (es := es) (i := i) (K := fun r => K (e :: r)) (K' := fun r => K' (e :: r)) h fun x hx => hK _ hx
theorem lookup_go {ag : Bool} {ks : List SK} {key : AVal} {es : List MapE} {cl : Nat} {b : Pos} {s : St} {F : Option (Nat × AVal) → Bool} (ho : s.obj b = some (.map es cl)) (h : (keyCells ag ks key fun c => findK ag ks c es 0 F) = true) :
    (keyCells ag ks key fun c => (AVal.map b).mapK fun b => mapK b s fun es _ => findK ag ks c es 0 F) = true := by
  obtain ⟨c, hc⟩ := keyCells_form h
  obtain ⟨c', hc'⟩ : ∃ c', ∀ K' : List AVal → Bool, keyCells ag ks key K' = K' c' := ⟨c, hc⟩
  rw [hc] at h
  rw [hc]
  exact mapK_true.2 ⟨es, cl, ho, h⟩
theorem mapSet_go {ag : Bool} {ks : List SK} {key : AVal} {es : List MapE} {cl : Nat} {b : Pos} {s : St} {F : Pos → List MapE → Nat → Option (Nat × AVal) → Bool} (ho : s.obj b = some (.map es cl)) (h : (keyCells ag ks key fun c => findK ag ks c es 0 (F b es cl)) = true) :
    (keyCells ag ks key fun c => (AVal.map b).mapK fun b => mapK b s fun es clock => findK ag ks c es 0 (F b es clock)) = true := by
  obtain ⟨c, hc⟩ := keyCells_form h
  rw [hc] at h
  rw [hc]
  exact mapK_true.2 ⟨es, cl, ho, h⟩
/-- An operation. -/
theorem opP_holds {P : Program} {o : MOp} {γ : RO → Option AVal} {s : St} {Q : AVal → St → Prop} (h : opP P o γ s Q) : ∃ v s', Q v s' ∧ ∃ n0, ∀ n, n0 ≤ n → ∀ K : VK, K v s' = true → mopK P (exec P n) o γ s K = true := by
  have plain : ∀ v s', Q v s' → (∀ rec (K : VK), K v s' = true → mopK P rec o γ s K = true) → ∃ v s', Q v s' ∧ ∃ n0, ∀ n, n0 ≤ n → ∀ K : VK, K v s' = true → mopK P (exec P n) o γ s K = true :=
    fun v s' h1 h2 => ⟨v, s', h1, 0, fun n _ K hK => h2 _ K hK⟩
  cases o with
  | move x =>
    obtain ⟨v, e, h⟩ := holds_withV h
    exact plain v s h fun rec K hK => optK_true.2 ⟨v, e, hK⟩
  | pick c a b =>
    obtain ⟨t, e, h⟩ := holds_withBool h
    split at h
    · rename_i ht
      subst ht
      obtain ⟨v, e1, h⟩ := holds_withV h
      exact plain v s h fun rec K hK => optK_true.2 ⟨_, e, AVal.boolK_true.2 ⟨true, rfl, optK_true.2 ⟨v, e1, hK⟩⟩⟩
    · rename_i ht
      have ht : t = false := by simpa using ht
      subst ht
      obtain ⟨v, e1, h⟩ := holds_withV h
      exact plain v s h fun rec K hK => optK_true.2 ⟨_, e, AVal.boolK_true.2 ⟨false, rfl, optK_true.2 ⟨v, e1, hK⟩⟩⟩
  | alloc z =>
    obtain ⟨cs, e, h⟩ := holds_withO h
    exact plain _ _ h fun rec K hK => optK_true.2 ⟨cs, e, by unfold newCellsK; rw [allocK_eq]; exact hK⟩
  | box x =>
    obtain ⟨v, e, h0, h⟩ := holds_withV h
    exact plain _ _ h fun rec K hK => optK_true.2 ⟨v, e, noTup_true.2 ⟨h0, by rw [cellsK_val]; unfold newCellsK; rw [allocK_eq]; exact hK⟩⟩
  | build pl z =>
    obtain ⟨pl', e, h⟩ := holds_withO h
    obtain ⟨zs, e1, h⟩ := holds_withO h
    obtain ⟨cs, h1, h2⟩ := holds_fill h
    exact plain _ _ h1 fun rec K hK => optK_true.2 ⟨pl', e, optK_true.2 ⟨zs, e1, h2 (fun cs => K (.agg cs) s) hK⟩⟩
  | buildSlice e z len ps =>
    obtain ⟨e', he, h⟩ := holds_withO h
    obtain ⟨zs, hz, h0, h1, h⟩ := holds_withO h
    obtain ⟨cs, h2, h3⟩ := holds_fill h
    refine plain _ _ h2 fun rec K hK => optK_true.2 ⟨e', he, optK_true.2 ⟨zs, hz, ?_⟩⟩
    rw [lenK_eq]
    refine ifK_true.2 (.inl ⟨by simp [h0], ifK_true.2 (.inl ⟨Nat.ble_eq_true_of_le h1, ?_⟩)⟩)
    rw [repK_eq, List.append_nil]
    exact h3 (fun cs => allocK (.cells cs false) s fun b s => K (.slice b 0 len (.lim len)) s) (by rw [allocK_eq]; exact hK)
  | load n a =>
    obtain ⟨n', hn, h⟩ := holds_withO h
    obtain ⟨b, off, ha, h⟩ := holds_withPtr h
    obtain ⟨cs, hc, h⟩ := holds_withO h
    obtain ⟨v, h1, h2⟩ := holds_part h
    obtain ⟨ro, ho⟩ := St.obj_of_cells hc
    exact plain v s h1 fun rec K hK => optK_true.2 ⟨n', hn, optK_true.2 ⟨_, ha, AVal.ptrK_true.2 ⟨b, off, rfl, cellsK_true.2 ⟨cs, ro, ho, h2 (fun v => K v s) hK⟩⟩⟩⟩
  | store n a x =>
    obtain ⟨n', hn, h⟩ := holds_withO h
    obtain ⟨v, hv, h0, h1, h⟩ := holds_withV h
    obtain ⟨b, off, ha, h⟩ := holds_withPtr h
    obtain ⟨cs, hc, h2, h⟩ := holds_withO h
    refine plain _ _ h fun rec K hK => optK_true.2 ⟨n', hn, optK_true.2 ⟨v, hv, noTup_true.2 ⟨h0, ?_⟩⟩⟩
    rw [cellsK_val, lenK_eq]
    refine ifK_true.2 (.inl ⟨by simp [h1], optK_true.2 ⟨_, ha, AVal.ptrK_true.2 ⟨b, off, rfl, cellsK_true.2 ⟨cs, false, St.obj_of_own hc, ?_⟩⟩⟩⟩)
    refine ifK_true.2 (.inr ⟨rfl, putAtK_true.2 ⟨by omega, ?_⟩⟩)
    rw [putK_eq]
    exact hK
  | nilck x =>
    obtain ⟨b, o, e, h⟩ := holds_withPtr h
    exact plain _ s h fun rec K hK => optK_true.2 ⟨_, e, AVal.ptrK_true.2 ⟨b, o, rfl, hK⟩⟩
  | bin op k sh x y =>
    obtain ⟨v, e, h⟩ := holds_withV h
    obtain ⟨u, e1, h⟩ := holds_withV h
    obtain ⟨r, h1, h2⟩ := holds_bin h s
    refine plain r s h1 fun rec K hK => ?_
    show mbinK op k sh (γ x) (γ y) s K = true
    rw [e, e1]
    exact h2 K hK
  | un op x =>
    cases op with
    | not =>
      obtain ⟨b, e, h⟩ := holds_withBool h
      exact plain _ s h fun rec K hK => optK_true.2 ⟨_, e, AVal.boolK_true.2 ⟨b, rfl, boolV_of (by rw [notB_eq]; exact hK)⟩⟩
    | neg =>
      obtain ⟨k, n, e, h⟩ := holds_withInt h
      exact plain _ s h fun rec K hK => optK_true.2 ⟨_, e, AVal.intK_true.2 ⟨k, n, rfl, intV_of (by rw [wrapF_eq]; exact hK)⟩⟩
    | _ => exact h.elim
  | conv k x =>
    cases k with
    | int k =>
      obtain ⟨j, n, e, h⟩ := holds_withInt h
      exact plain _ s h fun rec K hK => optK_true.2 ⟨_, e, AVal.intK_true.2 ⟨j, n, rfl, intV_of (by rw [wrapF_eq]; exact hK)⟩⟩
    | same =>
      obtain ⟨l, e, h⟩ := holds_withStr h
      exact plain _ s h fun rec K hK => optK_true.2 ⟨_, e, AVal.strK_true.2 ⟨l, rfl, hK⟩⟩
    | _ => exact h.elim
  | func f a c =>
    obtain ⟨f', e, h⟩ := holds_withO h
    obtain ⟨as, h1, h2⟩ := holds_vals h
    obtain ⟨cs, h3, h4⟩ := holds_vals h1
    exact plain _ s h3 fun rec K hK => optK_true.2 ⟨f', e, h2 (fun a => mvalsK γ c fun c => K (.fn f' a c) s) (h4 (fun c => K (.fn f' as c) s) hK)⟩
  | makeMap ok =>
    obtain ⟨h0, h⟩ := h
    exact plain _ _ h fun rec K hK => ifK_true.2 (.inl ⟨h0, by rw [allocK_eq]; exact hK⟩)
  | makeSlice e z l c =>
    obtain ⟨e', he, h⟩ := holds_withO h
    obtain ⟨zs, hz, h0, h⟩ := holds_withO h
    obtain ⟨j, l', hl, h⟩ := holds_withInt h
    obtain ⟨i, c', hc, h1, h2, h3, h4, h⟩ := holds_withInt h
    refine plain _ _ h fun rec K hK => optK_true.2 ⟨e', he, optK_true.2 ⟨zs, hz, ?_⟩⟩
    rw [lenK_eq]
    refine ifK_true.2 (.inl ⟨by simp [h0], optK_true.2 ⟨_, hl, optK_true.2 ⟨_, hc, AVal.intK_true.2 ⟨j, l', rfl, AVal.intK_true.2 ⟨i, c', rfl, idxK_true.2 ⟨l'.toNat, by omega, idxK_true.2 ⟨c'.toNat, by omega, ?_⟩⟩⟩⟩⟩⟩⟩)
    refine ifK_true.2 (.inl ⟨Nat.ble_eq_true_of_le (by omega), ifK_true.2 (.inl ⟨Nat.ble_eq_true_of_le h3, ifK_true.2 (.inl ⟨Nat.ble_eq_true_of_le h4, ?_⟩)⟩)⟩)
    rw [repK_eq, List.append_nil, allocK_eq]
    exact hK
  | fieldAddr o x =>
    obtain ⟨fo, e, h⟩ := holds_withO h
    obtain ⟨b, off, e1, h⟩ := holds_withPtr h
    refine plain _ s h fun rec K hK => optK_true.2 ⟨fo, e, optK_true.2 ⟨_, e1, AVal.ptrK_true.2 ⟨b, off, rfl, ?_⟩⟩⟩
    rw [natK_eq]; exact hK
  | field f x =>
    obtain ⟨f', e, h⟩ := holds_withO h
    obtain ⟨l, e1, h⟩ := holds_withAgg h
    obtain ⟨v, h1, h2⟩ := holds_part h
    exact plain v s h1 fun rec K hK => optK_true.2 ⟨f', e, optK_true.2 ⟨_, e1, AVal.aggK_true.2 ⟨l, rfl, h2 (fun v => K v s) hK⟩⟩⟩
  | indexAddr k e a x i =>
    obtain ⟨j, n, hi, h0, h⟩ := holds_withInt h
    cases k with
    | slc =>
      obtain ⟨e', he, h⟩ := holds_withO h
      obtain ⟨b, off, m, c, hx, h1, h⟩ := holds_withSlc h
      refine plain _ s h fun rec K hK => optK_true.2 ⟨_, hx, optK_true.2 ⟨_, hi, AVal.intK_true.2 ⟨j, n, rfl, idxK_true.2 ⟨n.toNat, by omega, ?_⟩⟩⟩⟩
      refine optK_true.2 ⟨e', he, AVal.sliceK_true.2 ⟨b, off, m, c, rfl, ifK_true.2 (.inl ⟨Nat.ble_eq_true_of_le (by omega), ?_⟩)⟩⟩
      rw [natK_eq]; exact hK
    | arr =>
      obtain ⟨e', he, h⟩ := holds_withO h
      obtain ⟨b, off, hx, h1, h⟩ := holds_withPtr h
      refine plain _ s h fun rec K hK => optK_true.2 ⟨_, hx, optK_true.2 ⟨_, hi, AVal.intK_true.2 ⟨j, n, rfl, idxK_true.2 ⟨n.toNat, by omega, ?_⟩⟩⟩⟩
      refine optK_true.2 ⟨e', he, AVal.ptrK_true.2 ⟨b, off, rfl, ifK_true.2 (.inl ⟨Nat.ble_eq_true_of_le (by omega), ?_⟩)⟩⟩
      rw [natK_eq]; exact hK
    | _ => exact h.elim
  | index k e x i =>
    obtain ⟨j, n, hi, h0, h⟩ := holds_withInt h
    cases k with
    | str =>
      obtain ⟨l, hx, h⟩ := holds_withStr h
      obtain ⟨c, hc, h⟩ := holds_withO h
      refine plain _ s h fun rec K hK => optK_true.2 ⟨_, hx, optK_true.2 ⟨_, hi, AVal.intK_true.2 ⟨j, n, rfl, idxK_true.2 ⟨n.toNat, by omega, ?_⟩⟩⟩⟩
      refine AVal.strK_true.2 ⟨l, rfl, nthK_true.2 ⟨c, hc, ?_⟩⟩
      rw [natK_eq]; exact hK
    | arr =>
      obtain ⟨e', he, h⟩ := holds_withO h
      obtain ⟨l, hx, h1, h⟩ := holds_withAgg h
      obtain ⟨v, h2, h3⟩ := holds_part h
      refine plain _ s h2 fun rec K hK => optK_true.2 ⟨_, hx, optK_true.2 ⟨_, hi, AVal.intK_true.2 ⟨j, n, rfl, idxK_true.2 ⟨n.toNat, by omega, ?_⟩⟩⟩⟩
      exact optK_true.2 ⟨e', he, AVal.aggK_true.2 ⟨l, rfl, ifK_true.2 (.inl ⟨Nat.ble_eq_true_of_le (by omega), h3 (fun v => K v s) hK⟩)⟩⟩
    | _ => exact h.elim
  | extract x i =>
    obtain ⟨l, e, h⟩ := holds_withTup h
    obtain ⟨v, e1, h⟩ := holds_withO h
    exact plain v s h fun rec K hK => optK_true.2 ⟨_, e, AVal.tupK_true.2 ⟨l, rfl, nthK_true.2 ⟨v, e1, hK⟩⟩⟩
  | lookup i ok m k =>
    obtain ⟨info, hi, h⟩ := holds_withO h
    obtain ⟨key, hk, h⟩ := holds_withV h
    split at h
    · rename_i b hm
      split at h
      · rename_i es cl ho
        obtain ⟨r, hr, h⟩ := h
        have hdet : ∀ K' : Option (Nat × AVal) → Bool, K' r = true → (keyCells info.1 info.2.1 key fun c => findK info.1 info.2.1 c es 0 K') = true := fun K' hK' => keyFind_mono hr (fun x hx => (hold_true.1 hx) ▸ hK')
        cases r with
        | none =>
          cases ok with
          | true =>
            refine plain _ s h fun rec K hK => optK_true.2 ⟨info, hi, optK_true.2 ⟨_, hm, optK_true.2 ⟨key, hk, ?_⟩⟩⟩
            exact lookup_go ho (hdet (fun r => @Option.rec (Nat × AVal) (fun _ => Bool) (ifK true (K (.tup [info.2.2, .bool false]) s) (K info.2.2 s)) (fun x => ifK true (K (.tup [x.2, .bool true]) s) (K x.2 s)) r) hK)
          | false =>
            refine plain _ s h fun rec K hK => optK_true.2 ⟨info, hi, optK_true.2 ⟨_, hm, optK_true.2 ⟨key, hk, ?_⟩⟩⟩
            exact lookup_go ho (hdet (fun r => @Option.rec (Nat × AVal) (fun _ => Bool) (ifK false (K (.tup [info.2.2, .bool false]) s) (K info.2.2 s)) (fun x => ifK false (K (.tup [x.2, .bool true]) s) (K x.2 s)) r) hK)
        | some x =>
          cases ok with
          | true =>
            refine plain _ s h fun rec K hK => optK_true.2 ⟨info, hi, optK_true.2 ⟨_, hm, optK_true.2 ⟨key, hk, ?_⟩⟩⟩
            exact lookup_go ho (hdet (fun r => @Option.rec (Nat × AVal) (fun _ => Bool) (ifK true (K (.tup [info.2.2, .bool false]) s) (K info.2.2 s)) (fun x => ifK true (K (.tup [x.2, .bool true]) s) (K x.2 s)) r) hK)
          | false =>
            refine plain _ s h fun rec K hK => optK_true.2 ⟨info, hi, optK_true.2 ⟨_, hm, optK_true.2 ⟨key, hk, ?_⟩⟩⟩
            exact lookup_go ho (hdet (fun r => @Option.rec (Nat × AVal) (fun _ => Bool) (ifK false (K (.tup [info.2.2, .bool false]) s) (K info.2.2 s)) (fun x => ifK false (K (.tup [x.2, .bool true]) s) (K x.2 s)) r) hK)
      · exact h.elim
    · exact h.elim
  | mapSet i m k x =>
    obtain ⟨info, hi, h⟩ := holds_withO h
    obtain ⟨key, hk, h⟩ := holds_withV h
    obtain ⟨xv, hx, h⟩ := holds_withV h
    split at h
    · rename_i b hm
      split at h
      · rename_i es cl ho
        obtain ⟨r, hr, h⟩ := h
        have hdet : ∀ K' : Option (Nat × AVal) → Bool, K' r = true → (keyCells info.1 info.2.1 key fun c => findK info.1 info.2.1 c es 0 K') = true := fun K' hK' => keyFind_mono hr (fun x hx => (hold_true.1 hx) ▸ hK')
        cases r with
        | none =>
          refine plain _ _ h fun rec K hK => optK_true.2 ⟨info, hi, optK_true.2 ⟨_, hm, optK_true.2 ⟨key, hk, optK_true.2 ⟨xv, hx, ?_⟩⟩⟩⟩
          refine mapSet_go ho (hdet (fun r => @Option.rec (Nat × AVal) (fun _ => Bool)
            (appK es [{ key := key, val := xv, born := cl }] fun es => natK (Nat.succ cl) fun c => putK b (.map es c) s fun s => K (.tup []) s)
            (fun p => setValK xv key es p.1 fun es => putK b (.map es cl) s fun s => K (.tup []) s) r) ?_)
          show appK es [{ key := key, val := xv, born := cl }] (fun es => natK (Nat.succ cl) fun c => putK b (.map es c) s fun s => K (.tup []) s) = true
          rw [appK_eq, natK_eq, putK_eq]
          exact hK
        | some p =>
          obtain ⟨es', h1, h⟩ := h
          refine plain _ _ h fun rec K hK => optK_true.2 ⟨info, hi, optK_true.2 ⟨_, hm, optK_true.2 ⟨key, hk, optK_true.2 ⟨xv, hx, ?_⟩⟩⟩⟩
          refine mapSet_go ho (hdet (fun r => @Option.rec (Nat × AVal) (fun _ => Bool)
            (appK es [{ key := key, val := xv, born := cl }] fun es => natK (Nat.succ cl) fun c => putK b (.map es c) s fun s => K (.tup []) s)
            (fun p => setValK xv key es p.1 fun es => putK b (.map es cl) s fun s => K (.tup []) s) r) ?_)
          show setValK xv key es p.1 (fun es => putK b (.map es cl) s fun s => K (.tup []) s) = true
          refine setValK_mono h1 (fun e he => ?_)
          rw [hold_true.1 he, putK_eq]
          exact hK
      · exact h.elim
    · exact h.elim
  | call f l =>
    obtain ⟨fv, e, h⟩ := holds_withV h
    obtain ⟨args, h1, h2⟩ := holds_vals h
    obtain ⟨v, s', ⟨n0, hn⟩, hq⟩ := h1
    exact ⟨v, s', hq, n0, fun n hle K hK => optK_true.2 ⟨fv, e, h2 (fun args => callV P (exec P n) fv args s K) (hn n hle K hK)⟩⟩
  | len e x =>
    obtain ⟨e', he, h⟩ := holds_withO h
    obtain ⟨tk, m⟩ := e'
    cases tk with
    | str =>
      obtain ⟨l, hx, h⟩ := holds_withStr h
      refine plain _ s h fun rec K hK => optK_true.2 ⟨_, he, optK_true.2 ⟨_, hx, AVal.strK_true.2 ⟨l, rfl, ?_⟩⟩⟩
      rw [lenK_eq, Nat.zero_add]; exact hK
    | slc =>
      obtain ⟨v, hx, h⟩ := holds_withV h
      obtain ⟨n, hn, h⟩ := holds_withO h
      refine plain _ s h fun rec K hK => optK_true.2 ⟨_, he, optK_true.2 ⟨_, hx, ?_⟩⟩
      cases v <;> simp [slcLen] at hn
      · subst hn; exact hK
      · subst hn; exact hK
    | arr =>
      obtain ⟨v, hx, h⟩ := holds_withV h
      refine plain _ s h fun rec K hK => optK_true.2 ⟨_, he, optK_true.2 ⟨_, hx, ?_⟩⟩
      show natK m _ = true
      rw [natK_eq]; exact hK
    | map =>
      simp only at h
      split at h
      · rename_i b hm
        split at h
        · rename_i es cl ho
          refine plain _ s h fun rec K hK => optK_true.2 ⟨_, he, optK_true.2 ⟨_, hm, ?_⟩⟩
          refine mapK_true.2 ⟨es, cl, ho, ?_⟩
          rw [lenK_eq, Nat.zero_add]; exact hK
        · exact h.elim
      · exact h.elim
    | other => exact h.elim
  | _ => exact h.elim
end Go.AM
