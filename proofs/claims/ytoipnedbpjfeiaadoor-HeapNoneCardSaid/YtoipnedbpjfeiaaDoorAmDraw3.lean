/- The abstract machine's drawn regions, part 3: what only computes comes to one value. -/
import Derived.Test.YtoipnedbpjfeiaaDoorAmDraw2
set_option linter.all false
set_option linter.unusedSectionVars false
set_option linter.unusedSimpArgs false
set_option linter.unusedVariables false
namespace Go.AM
variable [Orc]
/-- It comes to one value, or fails. -/
def Det {α : Type} (f : (α → Bool) → Bool) : Prop := ∀ K, f K = true → ∃ v, K v = true ∧ ∀ K' : α → Bool, K' v = true → f K' = true
theorem Det.ret {α : Type} (v : α) : Det fun K => K v := fun K h => ⟨v, h, fun _ h => h⟩
theorem Det.no {α : Type} : Det (α := α) fun _ => false := fun K h => by cases h
theorem Det.opt {α β : Type} {x : Option β} {g : β → (α → Bool) → Bool} (h : ∀ v, Det (g v)) : Det fun K => optK x fun v => g v K := by
  intro K hk
  obtain ⟨v, rfl, h1⟩ := optK_true.1 hk
  obtain ⟨a, h2, h3⟩ := h v K h1
  exact ⟨a, h2, fun K' h' => optK_true.2 ⟨v, rfl, h3 K' h'⟩⟩
theorem Det.ite {α : Type} {b : Bool} {g g' : (α → Bool) → Bool} (h : Det g) (h' : Det g') : Det fun K => ifK b (g K) (g' K) := by
  intro K hk
  cases b with
  | true => exact h K hk
  | false => exact h' K hk
/-- Out of one another. -/
theorem Det.bind {α β : Type} {f : (β → Bool) → Bool} {g : β → (α → Bool) → Bool} (hf : Det f) (hg : ∀ v, Det (g v)) : Det fun K => f fun v => g v K := by
  intro K hk
  obtain ⟨b, h1, h2⟩ := hf _ hk
  obtain ⟨a, h3, h4⟩ := hg b K h1
  exact ⟨a, h3, fun K' h' => h2 _ (h4 K' h')⟩
theorem Det.nat (n : Nat) : Det fun K => natK n K := by
  simp only [natK_eq]; exact Det.ret n
theorem Det.int (n : Int) : Det fun K => AM.intK n K := by
  simp only [intK_eq]; exact Det.ret n
theorem Det.idx (n : Int) : Det fun K => idxK n K := by
  intro K hk
  obtain ⟨m, e, h⟩ := idxK_true.1 hk
  exact ⟨m, h, fun K' h' => idxK_true.2 ⟨m, e, h'⟩⟩
theorem Det.len {α : Type} (l : List α) (n : Nat) : Det fun K => lenK l n K := by
  simp only [lenK_eq]; exact Det.ret _
theorem Det.app {α : Type} (l m : List α) : Det fun K => appK l m K := by
  simp only [appK_eq]; exact Det.ret _
theorem Det.nth {α : Type} (l : List α) (i : Nat) : Det fun K => nthK l i K := by
  intro K hk
  obtain ⟨a, e, h⟩ := nthK_true.1 hk
  exact ⟨a, h, fun K' h' => nthK_true.2 ⟨a, e, h'⟩⟩
theorem Det.seg {α : Type} (l : List α) (i n : Nat) : Det fun K => segK l i n K := by
  intro K hk
  obtain ⟨e, h⟩ := segK_true.1 hk
  exact ⟨_, h, fun K' h' => segK_true.2 ⟨e, h'⟩⟩
theorem Det.part (n : Option Nat) (cs : List AVal) (off : Nat) : Det fun K => partK n cs off K := fun _ h => partK_det h
theorem Det.bool (v : AVal) : Det fun K => v.boolK K := by
  intro K hk
  obtain ⟨b, rfl, h⟩ := AVal.boolK_true.1 hk
  exact ⟨b, h, fun K' h' => h'⟩
theorem Det.valInt (v : AVal) : Det fun (K : IntKind × Int → Bool) => v.intK fun k n => K (k, n) := by
  intro K hk
  obtain ⟨k, n, rfl, h⟩ := AVal.intK_true.1 hk
  exact ⟨(k, n), h, fun K' h' => h'⟩
theorem Det.valIntU {α : Type} {v : AVal} {g : Int → (α → Bool) → Bool} (h : ∀ n, Det (g n)) : Det fun K => v.intK fun _ n => g n K :=
  Det.bind (g := fun p K => g p.2 K) (Det.valInt v) fun p => h p.2
theorem Det.str (v : AVal) : Det fun K => v.strK K := by
  intro K hk
  obtain ⟨b, rfl, h⟩ := AVal.strK_true.1 hk
  exact ⟨b, h, fun K' h' => h'⟩
theorem Det.agg (v : AVal) : Det fun K => v.aggK K := by
  intro K hk
  obtain ⟨b, rfl, h⟩ := AVal.aggK_true.1 hk
  exact ⟨b, h, fun K' h' => h'⟩
theorem Det.tup (v : AVal) : Det fun K => v.tupK K := by
  intro K hk
  obtain ⟨b, rfl, h⟩ := AVal.tupK_true.1 hk
  exact ⟨b, h, fun K' h' => h'⟩
theorem Det.ptr (v : AVal) : Det fun (K : Pos × Nat → Bool) => v.ptrK fun b o => K (b, o) := by
  intro K hk
  obtain ⟨b, o, rfl, h⟩ := AVal.ptrK_true.1 hk
  exact ⟨(b, o), h, fun K' h' => h'⟩
theorem Det.slc (v : AVal) : Det fun (K : Pos × Nat × Nat × Cap → Bool) => v.sliceK fun b o n c => K (b, o, n, c) := by
  intro K hk
  obtain ⟨b, o, n, c, rfl, h⟩ := AVal.sliceK_true.1 hk
  exact ⟨(b, o, n, c), h, fun K' h' => h'⟩
theorem Det.vals (ρ : Operand → Option AVal) : ∀ l, Det fun K => valsK ρ l K
  | [] => Det.ret []
  | x :: l => by
    show Det fun K => optK (ρ x) fun v => valsK ρ l fun r => K (v :: r)
    exact Det.opt fun v => Det.bind (Det.vals ρ l) fun r => Det.ret (v :: r)
theorem Det.fill (ρ : Operand → Option AVal) (pl : List (Nat × Nat × Operand)) (cs : List AVal) : Det fun K => fillK ρ pl cs K := fun K h => fillK_det pl cs K h
theorem Det.mnmx (mx : Bool) : ∀ (l : List AVal) (v : AVal), Det fun K => mnmxK mx l v K
  | [], v => by
    show Det fun (K : AVal → Bool) => v.intK fun k n => K (AVal.int k n)
    exact Det.bind (g := fun p K => K (AVal.int p.1 p.2)) (Det.valInt v) fun p => Det.ret _
  | y :: l, x => by
    show Det fun K => x.intK fun k a => y.intK fun _ b => ifK mx (ifK (ltI a b) (mnmxK mx l (.int k b) K) (mnmxK mx l (.int k a) K)) (ifK (ltI b a) (mnmxK mx l (.int k b) K) (mnmxK mx l (.int k a) K))
    exact Det.bind (g := fun p K => y.intK fun _ b => ifK mx (ifK (ltI p.2 b) (mnmxK mx l (.int p.1 b) K) (mnmxK mx l (.int p.1 p.2) K)) (ifK (ltI b p.2) (mnmxK mx l (.int p.1 b) K) (mnmxK mx l (.int p.1 p.2) K)))
      (Det.valInt x) fun p => Det.bind (g := fun q K => ifK mx (ifK (ltI p.2 q.2) (mnmxK mx l (.int p.1 q.2) K) (mnmxK mx l (.int p.1 p.2) K)) (ifK (ltI q.2 p.2) (mnmxK mx l (.int p.1 q.2) K) (mnmxK mx l (.int p.1 p.2) K)))
        (Det.valInt y) fun q => Det.ite (Det.ite (Det.mnmx mx l _) (Det.mnmx mx l _)) (Det.ite (Det.mnmx mx l _) (Det.mnmx mx l _))
theorem Det.eqCell (k : SK) (a b : AVal) : Det fun K => AM.eqCell k a b K := by
  cases k with
  | bool =>
    show Det fun K => a.boolK fun x => b.boolK fun y => K (eqBool x y)
    exact Det.bind (Det.bool a) fun x => Det.bind (Det.bool b) fun y => Det.ret _
  | int =>
    show Det fun K => a.intK fun j x => b.intK fun k y => ifK (Nat.beq (kindCode j) (kindCode k)) (K (eqI x y)) (fail 8)
    exact Det.bind (g := fun p K => b.intK fun k y => ifK (Nat.beq (kindCode p.1) (kindCode k)) (K (eqI p.2 y)) (fail 8)) (Det.valInt a) fun p =>
      Det.bind (g := fun q K => ifK (Nat.beq (kindCode p.1) (kindCode q.1)) (K (eqI p.2 q.2)) (fail 8)) (Det.valInt b) fun q => Det.ite (Det.ret _) Det.no
  | str =>
    show Det fun K => a.strK fun x => b.strK fun y => K (eqBytes x y)
    exact Det.bind (Det.str a) fun x => Det.bind (Det.str b) fun y => Det.ret _
theorem Det.eqCells : ∀ (ks : List SK) (x y : List AVal), Det fun K => AM.eqCells ks x y K
  | [], x, y => Det.ret true
  | k :: ks, [], y => Det.no
  | k :: ks, a :: x, [] => Det.no
  | k :: ks, a :: x, b :: y => by
    show Det fun K => AM.eqCell k a b fun e => ifK e (AM.eqCells ks x y K) (K false)
    exact Det.bind (Det.eqCell k a b) fun e => Det.ite (Det.eqCells ks x y) (Det.ret false)
theorem Det.bound (x : Option (Option AVal)) (d : Nat) : Det fun K => boundK x d K := by
  cases x with
  | none => exact Det.ret d
  | some v =>
    show Det fun K => optK v fun v => v.intK fun _ n => idxK n K
    exact Det.opt fun v => Det.bind (g := fun p K => idxK p.2 K) (Det.valInt v) fun p => Det.idx _
theorem Det.le3 {α : Type} {a b c : Nat} {g : (α → Bool) → Bool} (h : Det g) : Det fun K => le3K a b c (g K) := Det.ite (Det.ite h Det.no) Det.no
section
variable {P : Program} {rec : RecT} {s : St}
theorem Det.boolV (b : Bool) : Det fun (K : AVal → Bool) => AM.boolV b s fun v _ => K v := by
  cases b <;> exact Det.ret _
theorem Det.intV (k : IntKind) (n : Int) : Det fun (K : AVal → Bool) => AM.intV k n s fun v _ => K v := Det.bind (Det.int n) fun n => Det.ret _
theorem Det.eqBin (op : BinOp) (e : Bool) : Det fun (K : AVal → Bool) => AM.eqBin op e s fun v _ => K v := by
  cases op <;> first | exact Det.no | exact Det.boolV (s := s) _
theorem Det.intBin (op : BinOp) (k : IntKind) (a b : Int) : Det fun (K : AVal → Bool) => AM.intBin op k a b s fun v _ => K v := by
  cases op <;> first | exact Det.intV (s := s) _ _ | exact Det.boolV (s := s) _ | exact Det.ite Det.no (Det.intV (s := s) _ _)
theorem Det.strBin (op : BinOp) (a b : List UInt8) : Det fun (K : AVal → Bool) => AM.strBin op a b s fun v _ => K v := by
  cases op <;> first | exact Det.no | exact Det.boolV (s := s) _ | exact Det.bind (Det.len a 0) fun n => Det.bind (Det.len b 0) fun m => Det.ite (Det.bind (Det.app a b) fun l => Det.ret _) Det.no
theorem Det.bothNil (a b : Bool) : Det fun K => AM.bothNil a b K := Det.ite (Det.ret _) (Det.ite (Det.ret _) Det.no)
theorem Det.nilOf {α : Type} (v : AVal) {p s m f : Bool → (α → Bool) → Bool} (h1 : ∀ b, Det (p b)) (h2 : ∀ b, Det (s b)) (h3 : ∀ b, Det (m b)) (h4 : ∀ b, Det (f b)) :
    Det fun K => AM.nilOf v (fun b => p b K) (fun b => s b K) (fun b => m b K) (fun b => f b K) := by
  cases v <;> first | exact Det.no | exact h1 _ | exact h2 _ | exact h3 _ | exact h4 _
theorem Det.eqRest (op : BinOp) (t : TypeId) (x y : AVal) : Det fun (K : AVal → Bool) => AM.eqRest P op t x y s fun v _ => K v := by
  refine Det.nilOf x (fun a => Det.ite (Det.nilOf y (fun b => Det.bind (Det.bothNil a b) fun e => Det.eqBin (s := s) op e) (fun _ => Det.no) (fun _ => Det.no) (fun _ => Det.no)) Det.no)
    (fun a => Det.ite (Det.nilOf y (fun _ => Det.no) (fun b => Det.bind (Det.bothNil a b) fun e => Det.eqBin (s := s) op e) (fun _ => Det.no) (fun _ => Det.no)) Det.no)
    (fun a => Det.ite (Det.nilOf y (fun _ => Det.no) (fun _ => Det.no) (fun b => Det.bind (Det.bothNil a b) fun e => Det.eqBin (s := s) op e) (fun _ => Det.no)) Det.no)
    (fun a => Det.ite (Det.nilOf y (fun _ => Det.no) (fun _ => Det.no) (fun _ => Det.no) (fun b => Det.bind (Det.bothNil a b) fun e => Det.eqBin (s := s) op e)) Det.no)
theorem Det.eqAgg (op : BinOp) (t : TypeId) (x : List AVal) (y : AVal) : Det fun (K : AVal → Bool) => AM.eqAgg P op t x y s fun v _ => K v :=
  Det.opt fun ks => Det.bind (Det.agg y) fun y => Det.bind (Det.len ks 0) fun n => Det.bind (Det.len x 0) fun a => Det.bind (Det.len y 0) fun b => Det.ite (Det.ite (Det.bind (Det.eqCells ks x y) fun e => Det.eqBin (s := s) op e) Det.no) Det.no
theorem Det.opBin (op : BinOp) (t : TypeId) (x y : Option AVal) : Det fun (K : AVal → Bool) => AM.opBin P op t x y s fun v _ => K v := by
  refine Det.opt fun x => Det.opt fun y => ?_
  cases x with
  | bool a => exact Det.bind (Det.bool y) fun b => Det.ite (Det.eqBin (s := s) _ _) Det.no
  | int k a =>
    exact Det.bind (g := fun p (K : AVal → Bool) => ifK (isShift op) (AM.intBin op k a p.2 s fun v _ => K v) (ifK (Nat.beq (kindCode k) (kindCode p.1)) (AM.intBin op k a p.2 s fun v _ => K v) (fail 13))) (Det.valInt y) fun p =>
      Det.ite (Det.intBin (s := s) _ _ _ _) (Det.ite (Det.intBin (s := s) _ _ _ _) Det.no)
  | str a => exact Det.bind (Det.str y) fun b => Det.strBin (s := s) _ _ _
  | agg l => exact Det.eqAgg (P := P) (s := s) _ _ _ _
  | yld l => exact Det.no
  | iface t v => exact Det.no
  | nilIface => exact Det.no
  | tup l => exact Det.no
  | _ => exact Det.eqRest (P := P) (s := s) _ _ _ _
theorem Det.cut (es : Nat) (b : Pos) (off len : Nat) (cap : Cap) (lo hi mx : Option (Option AVal)) : Det fun (K : AVal → Bool) => AM.cutK es b off len cap lo hi mx s fun v _ => K v := by
  refine Det.bind (Det.bound lo 0) fun l => Det.bind (Det.bound hi len) fun h => ?_
  cases cap with
  | lim c =>
    exact Det.bind (Det.bound mx c) fun m => Det.ite (Det.le3 (Det.ite (Det.ret _) (Det.bind (Det.nat _) fun o => Det.bind (Det.nat _) fun n => Det.bind (Det.nat _) fun c => Det.ret _))) Det.no
  | opn e =>
    refine Det.ite ?_ Det.no
    cases mx with
    | none => exact Det.le3 (Det.bind (Det.nat _) fun o => Det.bind (Det.nat _) fun n => Det.ret _)
    | some x => exact Det.no
theorem Det.maxHigh {α : Type} (hi mx : Option (Option AVal)) {g : (α → Bool) → Bool} (h : Det g) : Det fun K => AM.maxHigh hi mx (g K) := by
  cases mx with
  | none => exact h
  | some m => cases hi with
    | none => exact Det.no
    | some _ => exact h
theorem Det.opSlice (t : TypeId) (x : Option AVal) (lo hi mx : Option (Option AVal)) : Det fun (K : AVal → Bool) => AM.opSlice P t x lo hi mx s fun v _ => K v := by
  refine Det.opt fun x => ?_
  unfold AM.maxHigh
  refine Det.maxHigh hi mx ?_
  cases tyKind P t with
  | str =>
    refine Det.bind (Det.str x) fun l => Det.bind (Det.len l 0) fun n => Det.bind (Det.bound lo 0) fun a => Det.bind (Det.bound hi n) fun b => ?_
    cases mx with
    | none => exact Det.le3 (Det.bind (Det.seg _ _ _) fun l => Det.ret _)
    | some m => exact Det.no
  | slc =>
    refine Det.opt fun e => ?_
    cases x with
    | slice b off n c => exact Det.cut (s := s) _ _ _ _ _ _ _ _
    | nilSlice => exact Det.bind (Det.bound lo 0) fun l => Det.bind (Det.bound hi 0) fun h => Det.bind (Det.bound mx 0) fun m => Det.ite (Det.ite (Det.ite (Det.ret _) Det.no) Det.no) Det.no
    | _ => exact Det.no
  | arr =>
    refine Det.opt fun e => ?_
    exact Det.bind (g := fun p (K : AVal → Bool) => AM.cutK e.2 p.1 p.2 e.1 (.lim e.1) lo hi mx s fun v _ => K v) (Det.ptr x) fun p => Det.cut (s := s) _ _ _ _ _ _ _ _
  | _ => exact Det.no
theorem Det.opIndexAddr (t : TypeId) (x i : Option AVal) : Det fun (K : AVal → Bool) => AM.opIndexAddr P t x i s fun v _ => K v := by
  refine Det.opt fun x => Det.opt fun i => ?_
  refine Det.valIntU fun p => Det.bind (Det.idx _) fun i => ?_
  cases tyKind P t with
  | slc =>
    refine Det.opt fun e => ?_
    exact Det.bind (g := fun q (K : AVal → Bool) => ifK (Nat.ble (Nat.succ i) q.2.2.1) (natK (Nat.add q.2.1 (Nat.mul i e.1)) fun o => K (.ptr q.1 o)) (fail 16)) (Det.slc x) fun q => Det.ite (Det.bind (Det.nat _) fun o => Det.ret _) Det.no
  | arr =>
    refine Det.opt fun e => ?_
    exact Det.bind (g := fun q (K : AVal → Bool) => ifK (Nat.ble (Nat.succ i) e.1) (natK (Nat.add q.2 (Nat.mul i e.2)) fun o => K (.ptr q.1 o)) (fail 17)) (Det.ptr x) fun q => Det.ite (Det.bind (Det.nat _) fun o => Det.ret _) Det.no
  | _ => exact Det.no
theorem Det.opIndex (t : TypeId) (x i : Option AVal) : Det fun (K : AVal → Bool) => AM.opIndex P t x i s fun v _ => K v := by
  refine Det.opt fun x => Det.opt fun i => ?_
  refine Det.valIntU fun p => Det.bind (Det.idx _) fun i => ?_
  cases tyKind P t with
  | str => exact Det.bind (Det.str x) fun l => Det.bind (Det.nth l i) fun c => Det.bind (Det.nat _) fun n => Det.ret _
  | arr => exact Det.opt fun e => Det.bind (Det.agg x) fun l => Det.ite (Det.bind (Det.part _ _ _) fun v => Det.ret _) Det.no
  | _ => exact Det.no
theorem Det.opMnmx (mx : Bool) (l : List AVal) : Det fun (K : AVal → Bool) => AM.opMnmx mx l s fun v _ => K v := by
  cases l with
  | nil => exact Det.no
  | cons x r => exact Det.mnmx mx r x
theorem Det.opLen (ts : Array TypeId) (x : Option AVal) (hm : ∀ e, lenInfo P ts = some e → (match e.1 with | .map => false | _ => true) = true) : Det fun (K : AVal → Bool) => AM.opLen P ts x s fun v _ => K v := by
  unfold AM.opLen
  cases hl : lenInfo P ts with
  | none => exact Det.no
  | some e =>
    have := hm e hl
    obtain ⟨tk, n⟩ := e
    refine Det.bind (f := fun K => optK x K) (Det.opt (x := x) (g := fun v K => K v) fun v => Det.ret v) fun v => ?_
    cases tk with
    | str => exact Det.bind (Det.str v) fun l => Det.bind (Det.len l 0) fun n => Det.ret _
    | slc => cases v <;> first | exact Det.no | exact Det.ret _
    | arr => exact Det.bind (Det.nat _) fun n => Det.ret _
    | map => simp at this
    | other => exact Det.no
theorem opK_det {o : Op} {ρ : Operand → Option AVal} (hc : opClass P o = 0) : Det fun (K : AVal → Bool) => opK P rec o ρ s fun v _ => K v := by
  cases o with
  | move x => exact Det.opt fun v => Det.ret v
  | assign x => exact Det.opt fun v => Det.ret v
  | pick c a b => exact Det.opt fun c => Det.bind (Det.bool c) fun t => Det.ite (Det.opt fun v => Det.ret v) (Det.opt fun v => Det.ret v)
  | build t ps => exact Det.opt fun pl => Det.opt fun zs => Det.bind (Det.fill ρ pl zs) fun cs => Det.ret _
  | nilCheck x => exact Det.opt fun v => Det.bind (g := fun p (K : AVal → Bool) => K (.ptr p.1 p.2)) (Det.ptr v) fun p => Det.ret _
  | binOp op t x y e => exact Det.opBin (P := P) (s := s) op t (ρ x) (ρ y)
  | unOp op t x =>
    refine Det.opt fun x => ?_
    cases op with
    | neg => exact Det.bind (g := fun p (K : AVal → Bool) => AM.intV p.1 (wrapF p.1 (Int.sub 0 p.2)) s fun v _ => K v) (Det.valInt x) fun p => Det.intV (s := s) _ _
    | xor => exact Det.bind (g := fun p (K : AVal → Bool) => AM.intV p.1 (p.1.wrap (BitVec.ofInt p.1.bits (if p.1.signed then -1 else p.1.max) ^^^ BitVec.ofInt p.1.bits p.2).toNat) s fun v _ => K v) (Det.valInt x) fun p => Det.intV (s := s) _ _
    | not => exact Det.bind (Det.bool x) fun b => Det.boolV (s := s) _
    | plus => exact Det.no
  | makeFunc f a c => exact Det.opt fun f => Det.bind (Det.vals ρ _) fun a => Det.bind (Det.vals ρ _) fun c => Det.ret _
  | slice t x lo hi mx => exact Det.opSlice (P := P) (s := s) t (ρ x) _ _ _
  | fieldAddr t x f => exact Det.opt fun fo => Det.opt fun x => Det.bind (g := fun p (K : AVal → Bool) => natK (Nat.add p.2 fo) fun o => K (.ptr p.1 o)) (Det.ptr x) fun p => Det.bind (Det.nat _) fun o => Det.ret _
  | field t x f => exact Det.opt fun f => Det.opt fun x => Det.bind (Det.agg x) fun l => Det.bind (Det.part _ _ _) fun v => Det.ret _
  | indexAddr t x i => exact Det.opIndexAddr (P := P) (s := s) t (ρ x) (ρ i)
  | index t x i => exact Det.opIndex (P := P) (s := s) t (ρ x) (ρ i)
  | extract x i => exact Det.opt fun x => Det.bind (Det.tup x) fun l => Det.bind (Det.nth l i) fun v => Det.ret _
  | convert a b x =>
    show Det fun (K : AVal → Bool) => AM.opConvert P a b (ρ x) s fun v _ => K v
    refine Det.opt fun x => ?_
    have hc : (match convKind P a b with | .int _ => 0 | .same => 0 | _ => 3) = 0 := hc
    generalize convKind P a b = ck at hc
    cases ck with
    | int k => exact Det.bind (g := fun p (K : AVal → Bool) => AM.intV k (wrapF k p.2) s fun v _ => K v) (Det.valInt x) fun p => Det.intV (s := s) _ _
    | same => exact Det.bind (Det.str x) fun l => Det.ret _
    | _ => simp at hc
  | call c =>
    obtain ⟨callee, args, ats⟩ := c
    cases callee with
    | value f => simp [opClass] at hc
    | invoke r n => simp [opClass] at hc
    | builtin b =>
      cases b with
      | len =>
        have hc : (match lenInfo P ats with | some (.map, _) => 3 | some _ => 0 | none => 3) = 0 := hc
        show Det fun (K : AVal → Bool) => (match args.toList with | [x] => AM.opLen P ats (ρ x) s fun v _ => K v | _ => fail 46)
        split
        · refine Det.opLen (P := P) (s := s) _ _ fun e he => ?_
          rw [he] at hc
          obtain ⟨tk, n⟩ := e
          cases tk <;> first | rfl | simp at hc
        · exact Det.no
      | min => exact Det.bind (Det.vals ρ _) fun l => Det.opMnmx (s := s) false l
      | max => exact Det.bind (Det.vals ρ _) fun l => Det.opMnmx (s := s) true l
      | _ => simp [opClass] at hc
  | _ => simp [opClass] at hc
end
end Go.AM
