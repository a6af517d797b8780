/- Parts of the proof: Core, Comp, Rel, Mem, Ops1. -/
import GoSem.Step
import Derived.KernelRfl
import Derived.Laws.Sem
import Derived.Laws.World
import Derived.WalkKit
import Derived.Laws.CopyRow
import Derived.Laws.IdiomCopy
set_option linter.all false
set_option linter.unusedSectionVars false
set_option linter.unusedSimpArgs false
set_option linter.unusedVariables false
section
namespace Go.AM
def fail (_:Nat):Bool:=false
inductive Pos where
  | h | o (p:Pos) | i (p:Pos)
def Pos.toNat:Pos→Nat
  | .h => 1
  | .o p => 2 * p.toNat
  | .i p => 2 * p.toNat + 1
def posF:Nat→Nat→Pos
  | 0,_ => .h
  | f + 1,m => if m ≤ 1 then .h else if m % 2 = 0 then .o (posF f (m / 2)) else .i (posF f (m / 2))
def posOf (n:Nat):Pos:=posF (n + 1) (n + 1)
noncomputable def succK (p:Pos):(Pos→Bool)→Bool :=
  @Pos.rec (fun _ => (Pos→Bool)→Bool) (fun K => K (.o .h)) (fun p _ K => K (.i p)) (fun _ ih K => ih fun q => K (.o q)) p
def Pos.succ:Pos→Pos
  | .h => .o .h
  | .o p => .i p
  | .i p => .o p.succ
inductive PT (α:Type) where
  | leaf
  | node (l:PT α) (v:Option α) (r:PT α)
noncomputable def PT.get {α:Type} (k:Pos):PT α→Option α :=
  @Pos.rec (fun _ => PT α→Option α) (fun t => @PT.rec α (fun _ => Option α) none (fun _ v _ _ _ => v) t)
    (fun _ ih t => @PT.rec α (fun _ => Option α) none (fun l _ _ _ _ => ih l) t)
    (fun _ ih t => @PT.rec α (fun _ => Option α) none (fun _ _ r _ _ => ih r) t) k
noncomputable def PT.setK {α:Type} (k:Pos) (x:α):PT α→(PT α→Bool)→Bool :=
  @Pos.rec (fun _ => PT α→(PT α→Bool)→Bool)
    (fun t K => @PT.rec α (fun _ => Bool) (K (.node .leaf (some x) .leaf)) (fun l _ r _ _ => K (.node l (some x) r)) t)
    (fun _ ih t K => @PT.rec α (fun _ => Bool) (ih .leaf fun l => K (.node l none .leaf)) (fun l v r _ _ => ih l fun l => K (.node l v r)) t)
    (fun _ ih t K => @PT.rec α (fun _ => Bool) (ih .leaf fun r => K (.node .leaf none r)) (fun l v r _ _ => ih r fun r => K (.node l v r)) t) k
def PT.set {α:Type}:Pos→α→PT α→PT α
  | .h,x,.leaf => .node .leaf (some x) .leaf
  | .h,x,.node l _ r => .node l (some x) r
  | .o k,x,.leaf => .node (PT.set k x .leaf) none .leaf
  | .o k,x,.node l v r => .node (PT.set k x l) v r
  | .i k,x,.leaf => .node .leaf none (PT.set k x .leaf)
  | .i k,x,.node l v r => .node l v (PT.set k x r)
noncomputable def optK {α:Type} (x:Option α) (K:α→Bool):Bool:=@Option.rec α (fun _ => Bool) false K x
theorem Z01 {α:Type} {x:Option α} {K:α→Bool}:optK x K = true ↔ ∃ v,x = some v∧K v = true:=by
  cases x <;> simp [optK]
noncomputable def ifK (b:Bool) (x y:Bool):Bool:=@Bool.rec (fun _ => Bool) y x b
theorem Z02 {b x y:Bool}:ifK b x y = true ↔ (b = true∧x = true) ∨ (b = false∧y = true):=by
  cases b <;> simp [ifK]
noncomputable def natK (n:Nat) (K:Nat→Bool):Bool:=@Nat.rec (fun _ => Bool) (K 0) (fun m _ => K (Nat.succ m)) n
theorem Z18 {n:Nat} {K:Nat→Bool}:natK n K = K n:=by cases n <;> rfl
noncomputable def intK (n:Int) (K:Int→Bool):Bool:=@Int.rec (fun _ => Bool) (fun n => natK n fun n => K (.ofNat n)) (fun n => natK n fun n => K (.negSucc n)) n
theorem Zk9 {n:Int} {K:Int→Bool}:intK n K = K n:=by cases n <;> simp [intK,Z18]
noncomputable def idxK (n:Int) (K:Nat→Bool):Bool:=@Int.rec (fun _ => Bool) (fun n => K n) (fun _ => false) n
theorem Z2r {n:Int} {K:Nat→Bool}:idxK n K = true ↔ ∃ m:Nat,n = (m:Int)∧K m = true:=by
  cases n with
  | ofNat a => exact ⟨fun h => ⟨a,rfl,h⟩,fun ⟨m,e,h⟩ => by cases e; exact h⟩
  | negSucc a => exact ⟨fun h => by simp [idxK] at h,fun ⟨m,e,h⟩ => by cases e⟩
inductive Cap where
  | lim (c:Nat)
  | opn (es:Nat)
inductive AVal where
  | bool (x0:Bool)
  | int (x0:IntKind) (x1:Int)
  | str (x0:List UInt8)
  | ptr (x0:Pos) (x1:Nat)
  | nilPtr
  | slice (x0:Pos) (x1:Nat) (x2:Nat) (x3:Cap)
  | nilSlice
  | map (x0:Pos)
  | nilMap
  | fn (x0:Nat) (x1:List AVal) (x2:List AVal)
  | yld (x0:Pos)
  | nilFn
  | iface (x0:Nat) (x1:AVal)
  | nilIface
  | agg (x0:List AVal)
  | tup (x0:List AVal)
noncomputable def AVal.Z72 (v:AVal) (K:Bool→Bool):Bool :=
  @AVal.rec (fun _ => Bool) (fun _ => Bool) (fun x0 => K x0) (fun _ _ => false) (fun _ => false) (fun _ _ => false) false (fun _ _ _ _ => false) false (fun _ => false) false (fun _ _ _ _ _ => false) (fun _ => false) false (fun _ _ _ => false) false (fun _ _ => false) (fun _ _ => false) false (fun _ _ _ _ => false) v
theorem AVal.Z1p {v:AVal} {K:Bool→Bool}:v.Z72 K = true ↔ ∃ x0,v = (.bool x0)∧K x0 = true:=by
  cases v <;> simp [AVal.Z72]
noncomputable def AVal.intK (v:AVal) (K:IntKind→Int→Bool):Bool :=
  @AVal.rec (fun _ => Bool) (fun _ => Bool) (fun _ => false) (fun x0 x1 => K x0 x1) (fun _ => false) (fun _ _ => false) false (fun _ _ _ _ => false) false (fun _ => false) false (fun _ _ _ _ _ => false) (fun _ => false) false (fun _ _ _ => false) false (fun _ _ => false) (fun _ _ => false) false (fun _ _ _ _ => false) v
theorem AVal.Z0s {v:AVal} {K:IntKind→Int→Bool}:v.intK K = true ↔ ∃ x0 x1,v = (.int x0 x1)∧K x0 x1 = true:=by
  cases v with
  | int a0 a1 => exact ⟨fun h => ⟨a0,a1,rfl,h⟩,fun ⟨_,_,e,h⟩ => by cases e; exact h⟩
  | _ => simp [AVal.intK]
noncomputable def AVal.strK (v:AVal) (K:List UInt8→Bool):Bool :=
  @AVal.rec (fun _ => Bool) (fun _ => Bool) (fun _ => false) (fun _ _ => false) (fun x0 => K x0) (fun _ _ => false) false (fun _ _ _ _ => false) false (fun _ => false) false (fun _ _ _ _ _ => false) (fun _ => false) false (fun _ _ _ => false) false (fun _ _ => false) (fun _ _ => false) false (fun _ _ _ _ => false) v
theorem AVal.Z20 {v:AVal} {K:List UInt8→Bool}:v.strK K = true ↔ ∃ x0,v = (.str x0)∧K x0 = true:=by
  cases v <;> simp [AVal.strK]
noncomputable def AVal.ptrK (v:AVal) (K:Pos→Nat→Bool):Bool :=
  @AVal.rec (fun _ => Bool) (fun _ => Bool) (fun _ => false) (fun _ _ => false) (fun _ => false) (fun x0 x1 => K x0 x1) false (fun _ _ _ _ => false) false (fun _ => false) false (fun _ _ _ _ _ => false) (fun _ => false) false (fun _ _ _ => false) false (fun _ _ => false) (fun _ _ => false) false (fun _ _ _ _ => false) v
theorem AVal.Z24 {v:AVal} {K:Pos→Nat→Bool}:v.ptrK K = true ↔ ∃ x0 x1,v = (.ptr x0 x1)∧K x0 x1 = true:=by
  cases v with
  | ptr a0 a1 => exact ⟨fun h => ⟨a0,a1,rfl,h⟩,fun ⟨_,_,e,h⟩ => by cases e; exact h⟩
  | _ => simp [AVal.ptrK]
noncomputable def AVal.Zaq (v:AVal) (K:Pos→Nat→Nat→Cap→Bool):Bool :=
  @AVal.rec (fun _ => Bool) (fun _ => Bool) (fun _ => false) (fun _ _ => false) (fun _ => false) (fun _ _ => false) false (fun x0 x1 x2 x3 => K x0 x1 x2 x3) false (fun _ => false) false (fun _ _ _ _ _ => false) (fun _ => false) false (fun _ _ _ => false) false (fun _ _ => false) (fun _ _ => false) false (fun _ _ _ _ => false) v
theorem AVal.Za5 {v:AVal} {K:Pos→Nat→Nat→Cap→Bool}:v.Zaq K = true ↔ ∃ x0 x1 x2 x3,v = (.slice x0 x1 x2 x3)∧K x0 x1 x2 x3 = true:=by
  cases v with
  | slice a0 a1 a2 a3 => exact ⟨fun h => ⟨a0,a1,a2,a3,rfl,h⟩,fun ⟨_,_,_,_,e,h⟩ => by cases e; exact h⟩
  | _ => simp [AVal.Zaq]
noncomputable def AVal.mapK (v:AVal) (K:Pos→Bool):Bool :=
  @AVal.rec (fun _ => Bool) (fun _ => Bool) (fun _ => false) (fun _ _ => false) (fun _ => false) (fun _ _ => false) false (fun _ _ _ _ => false) false (fun x0 => K x0) false (fun _ _ _ _ _ => false) (fun _ => false) false (fun _ _ _ => false) false (fun _ _ => false) (fun _ _ => false) false (fun _ _ _ _ => false) v
theorem AVal.Z46 {v:AVal} {K:Pos→Bool}:v.mapK K = true ↔ ∃ x0,v = (.map x0)∧K x0 = true:=by
  cases v <;> simp [AVal.mapK]
noncomputable def AVal.fnK (v:AVal) (K:Nat→List AVal→List AVal→Bool):Bool :=
  @AVal.rec (fun _ => Bool) (fun _ => Bool) (fun _ => false) (fun _ _ => false) (fun _ => false) (fun _ _ => false) false (fun _ _ _ _ => false) false (fun _ => false) false (fun x0 x1 x2 _ _ => K x0 x1 x2) (fun _ => false) false (fun _ _ _ => false) false (fun _ _ => false) (fun _ _ => false) false (fun _ _ _ _ => false) v
theorem AVal.Znc {v:AVal} {K:Nat→List AVal→List AVal→Bool}:v.fnK K = true ↔ ∃ x0 x1 x2,v = (.fn x0 x1 x2)∧K x0 x1 x2 = true:=by
  cases v with
  | fn a0 a1 a2 => exact ⟨fun h => ⟨a0,a1,a2,rfl,h⟩,fun ⟨_,_,_,e,h⟩ => by cases e; exact h⟩
  | _ => simp [AVal.fnK]
noncomputable def AVal.aggK (v:AVal) (K:List AVal→Bool):Bool :=
  @AVal.rec (fun _ => Bool) (fun _ => Bool) (fun _ => false) (fun _ _ => false) (fun _ => false) (fun _ _ => false) false (fun _ _ _ _ => false) false (fun _ => false) false (fun _ _ _ _ _ => false) (fun _ => false) false (fun _ _ _ => false) false (fun x0 _ => K x0) (fun _ _ => false) false (fun _ _ _ _ => false) v
theorem AVal.Z5d {v:AVal} {K:List AVal→Bool}:v.aggK K = true ↔ ∃ x0,v = (.agg x0)∧K x0 = true:=by
  cases v <;> simp [AVal.aggK]
noncomputable def AVal.tupK (v:AVal) (K:List AVal→Bool):Bool :=
  @AVal.rec (fun _ => Bool) (fun _ => Bool) (fun _ => false) (fun _ _ => false) (fun _ => false) (fun _ _ => false) false (fun _ _ _ _ => false) false (fun _ => false) false (fun _ _ _ _ _ => false) (fun _ => false) false (fun _ _ _ => false) false (fun _ _ => false) (fun x0 _ => K x0) false (fun _ _ _ _ => false) v
theorem AVal.Zck {v:AVal} {K:List AVal→Bool}:v.tupK K = true ↔ ∃ x0,v = (.tup x0)∧K x0 = true:=by
  cases v <;> simp [AVal.tupK]
inductive TK where
  | str | slc | arr | map | other
inductive SK where
  | bool | int | str
inductive EK where
  | bool | ptr | slc | map | func | agg | other
inductive CK where
  | int (k:IntKind)
  | same | toBytes | ofBytes | bad
inductive RO where
  | loc (d:Nat)
  | per (p:Pos)
  | cst (v:AVal)
  | bad
inductive MOp where
  | move (x:RO)
  | pick (c a b:RO)
  | alloc (z:Option (List AVal))
  | box (x:RO)
  | build (pl:Option (List (Nat × Nat × RO))) (z:Option (List AVal))
  | buildSlice (e:Option (Nat × Nat)) (z:Option (List AVal)) (len:Nat) (ps:List (Nat × RO))
  | mapSet (i:Option (Bool × List SK × AVal)) (m k x:RO)
  | load (n:Option (Option Nat)) (a:RO)
  | store (n:Option Nat) (a x:RO)
  | nilck (x:RO)
  | bin (op:BinOp) (k:EK) (sh:Option (List SK)) (x y:RO)
  | un (op:UnOp) (x:RO)
  | conv (k:CK) (x:RO)
  | func (f:Option FuncId) (a c:List RO)
  | makeMap (ok:Bool)
  | makeSlice (e:Option (Nat × Nat)) (z:Option (List AVal)) (l c:RO)
  | slice (k:TK) (e a:Option (Nat × Nat)) (x:RO) (lo hi mx:Option RO)
  | fieldAddr (o:Option Nat) (x:RO)
  | field (f:Option (Nat × Option Nat)) (x:RO)
  | indexAddr (k:TK) (e a:Option (Nat × Nat)) (x i:RO)
  | index (k:TK) (e:Option (Nat × Nat × Option Nat)) (x i:RO)
  | lookup (i:Option (Bool × List SK × AVal)) (ok:Bool) (m k:RO)
  | extract (x:RO) (i:Nat)
  | call (f:RO) (l:List RO)
  | append (e:Option (Nat × Nat)) (x y:RO)
  | len (e:Option (TK × Nat)) (x:RO)
  | copy (e:Option Nat) (x y:RO)
  | mnmx (mx:Bool) (l:List RO)
  | clear (e:Option (Option (Nat × List AVal))) (x:RO)
  | bad
inductive MItem where
  | run (g:Option (Option (RO × Bool))) (o:MOp)
  | chk (g:Option (Option (RO × Bool))) (o:MOp) (u:Option RO)
  | fresh
  | peek (o:MOp)
inductive MCode where
  | skip
  | region (l:List MItem) (cm:List (Option Pos))
  | seq (a b:MCode)
  | cond (c:RO) (a b:MCode)
  | block (id:Nat) (c:MCode)
  | loop (c:MCode)
  | range (f:RO) (ps:List Tmp) (a b:MCode)
  | scope (c:MCode)
  | exit (id:Nat)
  | ret
  | bad
structure MapE where
  key:AVal
  val:AVal
  born:Nat
structure LoopR where
  state:LoopState
  pending:Option Code
  fn:FuncId
  tm:PT AVal
  params:List Tmp
  assign:MCode
  body:MCode
inductive AObj where
  | cells (cs:List AVal) (ro:Bool)
  | map (es:List MapE) (clock:Nat)
  | loop (l:LoopR)
  | dead
structure St where
  heap:PT AObj
  next:Pos
inductive Ex where
  | normal
  | exit (id:Nat)
  | ret
noncomputable def Z4w (x:AObj) (s:St) (K:Pos→St→Bool):Bool :=
  PT.setK s.next x s.heap fun hp => succK s.next fun n => K s.next { heap:=hp,next:=n }
noncomputable def putK (b:Pos) (x:AObj) (s:St) (K:St→Bool):Bool :=
  PT.setK b x s.heap fun hp => K { heap:=hp,next:=s.next }
noncomputable def Z28 (b:Pos) (s:St) (K:List AVal→Bool→Bool):Bool :=
  optK (PT.get b s.heap) fun x => @AObj.rec (fun _ => Bool) (fun cs ro => K cs ro) (fun _ _ => false) (fun _ => false) false x
noncomputable def mapK (b:Pos) (s:St) (K:List MapE→Nat→Bool):Bool :=
  optK (PT.get b s.heap) fun x => @AObj.rec (fun _ => Bool) (fun _ _ => false) (fun es c => K es c) (fun _ => false) false x
noncomputable def Z7u (b:Pos) (s:St) (K:LoopR→Bool):Bool :=
  optK (PT.get b s.heap) fun x => @AObj.rec (fun _ => Bool) (fun _ _ => false) (fun _ _ => false) (fun l => K l) false x
noncomputable def nthK {α:Type} (l:List α):Nat→(α→Bool)→Bool :=
  @List.rec α (fun _ => Nat→(α→Bool)→Bool) (fun _ _ => false) (fun a _ ih i K => @Nat.rec (fun _ => Bool) (K a) (fun j _ => ih j K) i) l
noncomputable def Zdp {α:Type} (l:List α):Nat→(List α→Bool)→Bool :=
  @List.rec α (fun _ => Nat→(List α→Bool)→Bool) (fun i K => @Nat.rec (fun _ => Bool) (K []) (fun _ _ => false) i) (fun a r ih i K => @Nat.rec (fun _ => Bool) (K (a :: r)) (fun j _ => ih j K) i) l
noncomputable def Za6 {α:Type} (l:List α):Nat→(List α→Bool)→Bool :=
  @List.rec α (fun _ => Nat→(List α→Bool)→Bool) (fun i K => @Nat.rec (fun _ => Bool) (K []) (fun _ _ => false) i) (fun a _ ih i K => @Nat.rec (fun _ => Bool) (K []) (fun j _ => ih j fun r => K (a :: r)) i) l
noncomputable def appK {α:Type} (l:List α):List α→(List α→Bool)→Bool :=
  @List.rec α (fun _ => List α→(List α→Bool)→Bool) (fun m K => K m) (fun a _ ih m K => ih m fun r => K (a :: r)) l
noncomputable def Zb8 {α:Type} (vs:List α):List α→(List α→Bool)→Bool :=
  @List.rec α (fun _ => List α→(List α→Bool)→Bool) (fun m K => K m) (fun v _ ih m K => @List.rec α (fun _ => Bool) false (fun _ r _ => ih r fun r => K (v :: r)) m) vs
noncomputable def Z3l {α:Type} (vs:List α) (l:List α):Nat→(List α→Bool)→Bool :=
  @List.rec α (fun _ => Nat→(List α→Bool)→Bool) (fun i K => @Nat.rec (fun _ => Bool) (Zb8 vs [] K) (fun _ _ => false) i)
    (fun a r ih i K => @Nat.rec (fun _ => Bool) (Zb8 vs (a :: r) K) (fun j _ => ih j fun r => K (a :: r)) i) l
noncomputable def lenK {α:Type} (l:List α):Nat→(Nat→Bool)→Bool :=
  @List.rec α (fun _ => Nat→(Nat→Bool)→Bool) (fun n K => natK n K) (fun _ _ ih n K => ih (Nat.succ n) K) l
noncomputable def segK {α:Type} (l:List α) (off n:Nat) (K:List α→Bool):Bool:=Zdp l off fun r => Za6 r n K
noncomputable def AVal.Z28 (v:AVal) (K:List AVal→Bool):Bool :=
  @AVal.rec (fun _ => Bool) (fun _ => Bool) (fun b => K [.bool b]) (fun k n => K [.int k n]) (fun s => K [.str s]) (fun b o => K [.ptr b o]) (K [.nilPtr])
    (fun b o n c => K [.slice b o n c]) (K [.nilSlice]) (fun b => K [.map b]) (K [.nilMap]) (fun f a c _ _ => K [.fn f a c]) (fun l => K [.yld l]) (K [.nilFn])
    (fun t v _ => K [.iface t v]) (K [.nilIface]) (fun l _ => K l) (fun l _ => K [.tup l]) false (fun _ _ _ _ => false) v
def AVal.scalar:AVal→Bool
  | .agg _ => false
  | .tup _ => false
  | _ => true
def AVal.cells:AVal→List AVal
  | .agg l => l
  | v => [v]
def Zdo:Value→Option AVal
  | .bool b => some (.bool b)
  | .int k n => some (.int k n)
  | .string s => some (.str s.data.toList)
  | .pointer none => some .nilPtr
  | .slice none 0 0 => some .nilSlice
  | .map none => some .nilMap
  | .nilFunc => some .nilFn
  | .nilIface => some .nilIface
  | _ => none
def Zg4:List Value→Option (List AVal)
  | [] => some []
  | v :: r => match Zdo v,Zg4 r with
    | some a,some l => some (a :: l)
    | _,_ => none
def conv:Value→Option AVal
  | .agg cs => (Zg4 cs.toList).map .agg
  | v => Zdo v
def Z2y:TypeDesc→Bool
  | .struct _ => true
  | .array _ _ => true
  | _ => false
def Z2c (P:Program) (t:TypeId):Option Nat:=(P.info? t).map (·.size)
def Z45 (P:Program) (t:TypeId):Option (Option Nat) :=
  match P.underlying t,Z2c P t with
  | some d,some n => some (if Z2y d then some n else none)
  | _,_ => none
def zeroV (P:Program) (t:TypeId):Option AVal:=((P.info? t).bind (·.zero)).bind conv
def zeroCells (P:Program) (t:TypeId):Option (List AVal):=(zeroV P t).map AVal.cells
def Zhq (P:Program) (t:TypeId) (i:Nat):Option Nat :=
  match P.underlying t with
  | some (.struct fs) => match fs[i]? with
    | some f => match Z2c P f.type with
      | some (_ + 1) => some f.offset
      | _ => none
    | none => none
  | _ => none
def Zhr (P:Program) (t:TypeId) (i:Nat):Option (Nat × Option Nat) :=
  match P.underlying t with
  | some (.struct fs) => match fs[i]? with
    | some f => (Z45 P f.type).map fun n => (f.offset,n)
    | none => none
  | _ => none
def Zbf (P:Program) (t:TypeId):Option (Nat × Nat) :=
  match P.underlying t with
  | some (.array n e) => (Z2c P e).map fun s => (n,s)
  | _ => none
def Z80 (P:Program) (t:TypeId):Option TypeId :=
  match P.underlying t with
  | some (.slice e) => some e
  | _ => none
def Z5c (P:Program) (t:TypeId):Option (Nat × Nat) :=
  (Z80 P t).bind fun e => (P.info? e).map fun i => (i.size,i.bytes)
def Zmt (P:Program) (t:TypeId):Option (Nat × Nat × Option Nat) :=
  match P.underlying t with
  | some (.array n e) => (Z45 P e).bind fun l => (Z2c P e).map fun s => (n,s,l)
  | _ => none
def Z4j (P:Program) (t:TypeId):TK :=
  match P.underlying t with
  | some .string => .str
  | some (.slice _) => .slc
  | some (.array _ _) => .arr
  | some (.map _ _) => .map
  | _ => .other
noncomputable def Z7x (n:Option Nat) (cs:List AVal) (off:Nat) (K:AVal→Bool):Bool :=
  @Option.rec Nat (fun _ => Bool) (nthK cs off K) (fun n => segK cs off n fun l => K (.agg l)) n
abbrev VK:=AVal→St→Bool
noncomputable def Znz (c a b:Option AVal) (s:St) (K:VK):Bool :=
  optK c fun c => c.Z72 fun t => ifK t (optK a fun v => K v s) (optK b fun v => K v s)
noncomputable def Zjj (x:Option AVal) (s:St) (K:VK):Bool:=optK x fun v => K v s
noncomputable def Z4q (cs:List AVal) (s:St) (K:VK):Bool:=Z4w (.cells cs false) s fun b s => K (.ptr b 0) s
noncomputable def Zq3 (P:Program) (t:TypeId) (s:St) (K:VK):Bool:=optK (zeroCells P t) fun cs => Z4q cs s K
noncomputable def Z6j (v:AVal) (x:Bool):Bool :=
  @AVal.rec (fun _ => Bool) (fun _ => Bool) (fun _ => x) (fun _ _ => x) (fun _ => x) (fun _ _ => x) x (fun _ _ _ _ => x) x (fun _ => x) x (fun _ _ _ _ _ => x) (fun _ => x) x (fun _ _ _ => x) x (fun _ _ => x) (fun _ _ => false) false (fun _ _ _ _ => false) v
noncomputable def Zrn (x:Option AVal) (s:St) (K:VK):Bool:=optK x fun v => Z6j v (v.Z28 fun cs => Z4q cs s K)
noncomputable def Z6s (P:Program) (t:TypeId) (a:Option AVal) (s:St) (K:VK):Bool :=
  optK (Z45 P t) fun n => optK a fun a => a.ptrK fun b off => Z28 b s fun cs _ => Z7x n cs off fun v => K v s
noncomputable def Z5n (b:Pos) (off:Nat) (vs:List AVal) (s:St) (K:St→Bool):Bool :=
  Z28 b s fun cs ro => ifK ro (fail 1) (Z3l vs cs off fun cs => putK b (.cells cs false) s K)
noncomputable def Zq6 (P:Program) (t:TypeId) (a x:Option AVal) (s:St) (K:VK):Bool :=
  optK (Z2c P t) fun n => optK x fun v => Z6j v (v.Z28 fun vs => lenK vs 0 fun m => ifK (Nat.beq m n) (optK a fun a => a.ptrK fun b off => Z5n b off vs s fun s => K (.tup []) s) (fail 2))
noncomputable def Zrt (x:Option AVal) (s:St) (K:VK):Bool :=
  optK x fun v => v.ptrK fun b o => K (.ptr b o) s
def Z12:IntKind→Nat
  | .i8 => 0 | .i16 => 1 | .i32 => 2 | .i64 => 3 | .u8 => 4 | .u16 => 5 | .u32 => 6 | .u64 => 7
noncomputable def Zmn (n:Int):Bool:=@Int.rec (fun _ => Bool) (fun n => Nat.ble n 9223372036854775807) (fun n => Nat.ble n 9223372036854775807) n
noncomputable def Z83 (k:IntKind) (n:Int):Int :=
  @IntKind.rec (fun _ => Int) (k.wrap n) (k.wrap n) (k.wrap n) (@Bool.rec (fun _ => Int) (IntKind.wrap .i64 n) n (Zmn n)) (k.wrap n) (k.wrap n) (k.wrap n) (k.wrap n) k
noncomputable def ltI (x y:Int):Bool :=
  @Int.rec (fun _ => Bool) (fun a => @Int.rec (fun _ => Bool) (fun b => Nat.ble (Nat.succ a) b) (fun _ => false) y) (fun a => @Int.rec (fun _ => Bool) (fun _ => true) (fun b => Nat.ble (Nat.succ b) a) y) x
noncomputable def eqI (x y:Int):Bool :=
  @Int.rec (fun _ => Bool) (fun a => @Int.rec (fun _ => Bool) (fun b => Nat.beq a b) (fun _ => false) y) (fun a => @Int.rec (fun _ => Bool) (fun _ => false) (fun b => Nat.beq a b) y) x
noncomputable def notB (b:Bool):Bool:=@Bool.rec (fun _ => Bool) true false b
noncomputable def Z1u (b:Bool) (s:St) (K:VK):Bool:=@Bool.rec (fun _ => Bool) (K (.bool false) s) (K (.bool true) s) b
noncomputable def intV (k:IntKind) (n:Int) (s:St) (K:VK):Bool:=intK n fun n => K (.int k n) s
noncomputable def Z6r (op:BinOp) (k:IntKind) (a b:Int) (s:St) (K:VK):Bool :=
  @BinOp.rec (fun _ => Bool) (intV k (Z83 k (Int.add a b)) s K) (intV k (Z83 k (Int.sub a b)) s K) (intV k (Z83 k (Int.mul a b)) s K)
    (ifK (eqI b 0) (fail 3) (intV k (k.wrap (a.tdiv b)) s K)) (ifK (eqI b 0) (fail 3) (intV k (a.tmod b) s K))
    (intV k (k.wrap (BitVec.ofInt k.bits a &&& BitVec.ofInt k.bits b).toNat) s K) (intV k (k.wrap (BitVec.ofInt k.bits a ||| BitVec.ofInt k.bits b).toNat) s K)
    (intV k (k.wrap (BitVec.ofInt k.bits a ^^^ BitVec.ofInt k.bits b).toNat) s K)
    (ifK (ltI b 0) (fail 4) (intV k (k.wrap (a * 2 ^ min b.toNat k.bits)) s K)) (ifK (ltI b 0) (fail 4) (intV k (a.fdiv (2 ^ min b.toNat k.bits)) s K))
    (intV k (k.wrap (BitVec.ofInt k.bits a &&& ~~~BitVec.ofInt k.bits b).toNat) s K)
    (Z1u (eqI a b) s K) (Z1u (notB (eqI a b)) s K) (Z1u (ltI a b) s K) (Z1u (notB (ltI b a)) s K) (Z1u (ltI b a) s K) (Z1u (notB (ltI a b)) s K) op
def Zbh:BinOp→Bool
  | .shl => true
  | .shr => true
  | _ => false
noncomputable def Z7o (x:List UInt8):List UInt8→Bool :=
  @List.rec UInt8 (fun _ => List UInt8→Bool) (fun y => @List.rec UInt8 (fun _ => Bool) true (fun _ _ _ => false) y)
    (fun a _ ih y => @List.rec UInt8 (fun _ => Bool) false (fun b r _ => ifK (Nat.beq a.toNat b.toNat) (ih r) false) y) x
noncomputable def Z6v (x:List UInt8):List UInt8→Bool :=
  @List.rec UInt8 (fun _ => List UInt8→Bool) (fun y => @List.rec UInt8 (fun _ => Bool) false (fun _ _ _ => true) y)
    (fun a _ ih y => @List.rec UInt8 (fun _ => Bool) false (fun b r _ => ifK (Nat.ble (Nat.succ a.toNat) b.toNat) true (ifK (Nat.beq a.toNat b.toNat) (ih r) false)) y) x
noncomputable def Zdf (op:BinOp) (a b:List UInt8) (s:St) (K:VK):Bool :=
  @BinOp.rec (fun _ => Bool) (lenK a 0 fun n => lenK b 0 fun m => ifK (Nat.ble (Nat.add n m) 9223372036854775807) (appK a b fun l => K (.str l) s) (fail 5)) (fail 6) (fail 6) (fail 6) (fail 6) (fail 6) (fail 6) (fail 6) (fail 6) (fail 6) (fail 6)
    (Z1u (Z7o a b) s K) (Z1u (notB (Z7o a b)) s K) (Z1u (Z6v a b) s K) (Z1u (notB (Z6v b a)) s K) (Z1u (Z6v b a) s K) (Z1u (notB (Z6v a b)) s K) op
noncomputable def Z3g (op:BinOp) (e:Bool) (s:St) (K:VK):Bool :=
  @BinOp.rec (fun _ => Bool) (fail 7) (fail 7) (fail 7) (fail 7) (fail 7) (fail 7) (fail 7) (fail 7) (fail 7) (fail 7) (fail 7) (Z1u e s K) (Z1u (notB e) s K) (fail 7) (fail 7) (fail 7) (fail 7) op
noncomputable def Z5f (a b:Bool):Bool:=@Bool.rec (fun _ => Bool) (notB b) b a
def Z7p (P:Program) (fl:TypeId→Option (List SK)):List Field→Nat→Option (List SK)
  | [],_ => some []
  | f :: r,off =>
    match fl f.type with
    | none => none
    | some l =>
      if f.name ≠ "_" ∧ f.offset = off ∧ Z2c P f.type = some l.length then
        match Z7p P fl r (off + l.length) with
        | some m => some (l ++ m)
        | none => none
      else none
def flat (P:Program):Nat→TypeId→Option (List SK)
  | 0,_ => none
  | d + 1,t =>
    match P.underlying t with
    | some .bool => some [.bool]
    | some (.int _) => some [.int]
    | some .string => some [.str]
    | some (.struct fs) => if P.stoodInHeld t then none else Z7p P (flat P d) fs.toList 0
    | some (.array n e) =>
      match flat P d e with
      | some l => if Z2c P e = some l.length then some (List.replicate n l).flatten else none
      | none => none
    | _ => none
def aggT (P:Program) (t:TypeId):Bool :=
  match P.underlying t with
  | some d => Z2y d
  | none => false
def Zni (P:Program) (t:TypeId):Option (Bool × List SK) :=
  match flat P 20 t with
  | some l => some (aggT P t,l)
  | none => none
def Zg6 (P:Program) (t:TypeId):Option (List SK) :=
  match flat P 20 t with
  | some l => if P.eqGuardType P.depth t = false∧aggT P t = true then some l else none
  | none => none
noncomputable def Z6p (k:SK) (a b:AVal) (K:Bool→Bool):Bool :=
  @SK.rec (fun _ => Bool) (a.Z72 fun x => b.Z72 fun y => K (Z5f x y))
    (a.intK fun j x => b.intK fun k y => ifK (Nat.beq (Z12 j) (Z12 k)) (K (eqI x y)) (fail 8)) (a.strK fun x => b.strK fun y => K (Z7o x y)) k
noncomputable def Z0u (ks:List SK):List AVal→List AVal→(Bool→Bool)→Bool :=
  @List.rec SK (fun _ => List AVal→List AVal→(Bool→Bool)→Bool) (fun _ _ K => K true)
    (fun k _ ih x y K => @List.rec AVal (fun _ => Bool) (fail 9) (fun a x _ => @List.rec AVal (fun _ => Bool) (fail 9) (fun b y _ => Z6p k a b fun e => ifK e (ih x y K) (K false)) y) x) ks
noncomputable def Z1c (agg:Bool) (ks:List SK) (v:AVal) (K:List AVal→Bool):Bool :=
  @Bool.rec (fun _ => Bool) (K [v]) (v.aggK fun l => lenK l 0 fun n => lenK ks 0 fun m => ifK (Nat.beq n m) (K l) (fail 54)) agg
noncomputable def Z25 (agg:Bool) (ks:List SK) (key:List AVal) (es:List MapE):Nat→(Option (Nat × AVal)→Bool)→Bool :=
  @List.rec MapE (fun _ => Nat→(Option (Nat × AVal)→Bool)→Bool) (fun _ K => K none)
    (fun e _ ih i K => Z1c agg ks e.key fun c => Z0u ks key c fun b => ifK b (K (some (i,e.val))) (ih (Nat.succ i) K)) es
noncomputable def Z3x (v:AVal) (key:AVal) (es:List MapE):Nat→(List MapE→Bool)→Bool :=
  @List.rec MapE (fun _ => Nat→(List MapE→Bool)→Bool) (fun _ _ => false)
    (fun e r ih i K => @Nat.rec (fun _ => Bool) (K ({ key:=key,val:=v,born:=e.born } :: r)) (fun j _ => ih j fun r => K (e :: r)) i) es
def Z9l (P:Program) (t:TypeId):Option (Bool × List SK × AVal) :=
  match P.underlying t with
  | some (.map k e) =>
    match Zni P k,zeroV P e with
    | some (a,l),some z => some (a,l,z)
    | _,_ => none
  | _ => none
noncomputable def Znx (P:Program) (t:TypeId) (ok:Bool) (m i:Option AVal) (s:St) (K:VK):Bool :=
  optK (Z9l P t) fun info => optK m fun m => optK i fun i =>
    Z1c info.1 info.2.1 i fun key => m.mapK fun b => mapK b s fun es _ => Z25 info.1 info.2.1 key es 0 fun r =>
      @Option.rec (Nat × AVal) (fun _ => Bool) (ifK ok (K (.tup [info.2.2,.bool false]) s) (K info.2.2 s)) (fun x => ifK ok (K (.tup [x.2,.bool true]) s) (K x.2 s)) r
noncomputable def Zi3 (P:Program) (t:TypeId) (m i x:Option AVal) (s:St) (K:VK):Bool :=
  optK (Z9l P t) fun info => optK m fun m => optK i fun i => optK x fun x =>
    Z1c info.1 info.2.1 i fun key => m.mapK fun b => mapK b s fun es clock => Z25 info.1 info.2.1 key es 0 fun r =>
      @Option.rec (Nat × AVal) (fun _ => Bool)
        (appK es [{ key:=i,val:=x,born:=clock }] fun es => natK (Nat.succ clock) fun c => putK b (.map es c) s fun s => K (.tup []) s)
        (fun p => Z3x x i es p.1 fun es => putK b (.map es clock) s fun s => K (.tup []) s) r
def Z60 (P:Program) (t:TypeId):EK :=
  match P.underlying t with
  | some .bool => .bool
  | some (.pointer _) => .ptr
  | some (.slice _) => .slc
  | some (.map _ _) => .map
  | some (.func _ _ _) => .func
  | some (.struct _) => .agg
  | some (.array _ _) => .agg
  | _ => .other
def isEK (P:Program) (t:TypeId):EK→Bool
  | .bool => match Z60 P t with | .bool => true | _ => false
  | .ptr => match Z60 P t with | .ptr => true | _ => false
  | .slc => match Z60 P t with | .slc => true | _ => false
  | .map => match Z60 P t with | .map => true | _ => false
  | .func => match Z60 P t with | .func => true | _ => false
  | .agg => match Z60 P t with | .agg => true | _ => false
  | .other => false
noncomputable def Z52 (v:AVal) (ptr slc mp fn:Bool→Bool):Bool :=
  @AVal.rec (fun _ => Bool) (fun _ => Bool) (fun _ => false) (fun _ _ => false) (fun _ => false) (fun _ _ => ptr false) (ptr true) (fun _ _ _ _ => slc false) (slc true) (fun _ => mp false) (mp true)
    (fun _ _ _ _ _ => fn false) (fun _ => false) (fn true) (fun _ _ _ => false) false (fun _ _ => false) (fun _ _ => false) false (fun _ _ _ _ => false) v
noncomputable def Z3p (a b:Bool) (K:Bool→Bool):Bool:=ifK a (K b) (ifK b (K false) (fail 10))
noncomputable def Z61 (P:Program) (op:BinOp) (t:TypeId) (x y:AVal) (s:St) (K:VK):Bool :=
  Z52 x
    (fun a => ifK (isEK P t .ptr) (Z52 y (fun b => Z3p a b fun e => Z3g op e s K) (fun _ => false) (fun _ => false) (fun _ => false)) (fail 11))
    (fun a => ifK (isEK P t .slc) (Z52 y (fun _ => false) (fun b => Z3p a b fun e => Z3g op e s K) (fun _ => false) (fun _ => false)) (fail 11))
    (fun a => ifK (isEK P t .map) (Z52 y (fun _ => false) (fun _ => false) (fun b => Z3p a b fun e => Z3g op e s K) (fun _ => false)) (fail 11))
    (fun a => ifK (isEK P t .func) (Z52 y (fun _ => false) (fun _ => false) (fun _ => false) (fun b => Z3p a b fun e => Z3g op e s K)) (fail 11))
noncomputable def Zml (P:Program) (op:BinOp) (t:TypeId) (x:List AVal) (y:AVal) (s:St) (K:VK):Bool :=
  optK (Zg6 P t) fun ks => y.aggK fun y => lenK ks 0 fun n => lenK x 0 fun a => lenK y 0 fun b => ifK (Nat.beq a n) (ifK (Nat.beq b n) (Z0u ks x y fun e => Z3g op e s K) (fail 55)) (fail 55)
noncomputable def Ze3 (P:Program) (op:BinOp) (t:TypeId) (x y:Option AVal) (s:St) (K:VK):Bool :=
  optK x fun x => optK y fun y =>
    @AVal.rec (fun _ => Bool) (fun _ => Bool)
      (fun a => y.Z72 fun b => ifK (isEK P t .bool) (Z3g op (Z5f a b) s K) (fail 12))
      (fun k a => y.intK fun j b => ifK (Zbh op) (Z6r op k a b s K) (ifK (Nat.beq (Z12 k) (Z12 j)) (Z6r op k a b s K) (fail 13)))
      (fun a => y.strK fun b => Zdf op a b s K)
      (fun b o => Z61 P op t (.ptr b o) y s K) (Z61 P op t .nilPtr y s K) (fun b o n c => Z61 P op t (.slice b o n c) y s K) (Z61 P op t .nilSlice y s K)
      (fun b => Z61 P op t (.map b) y s K) (Z61 P op t .nilMap y s K) (fun f a c _ _ => Z61 P op t (.fn f a c) y s K) (fun _ => false) (Z61 P op t .nilFn y s K)
      (fun _ _ _ => false) false (fun l _ => Zml P op t l y s K) (fun _ _ => false) false (fun _ _ _ _ => false) x
noncomputable def opUn (op:UnOp) (x:Option AVal) (s:St) (K:VK):Bool :=
  optK x fun x => @UnOp.rec (fun _ => Bool) (x.intK fun k n => intV k (Z83 k (Int.sub 0 n)) s K)
    (x.intK fun k n => intV k (k.wrap (BitVec.ofInt k.bits (if k.signed then -1 else k.max) ^^^ BitVec.ofInt k.bits n).toNat) s K) (x.Z72 fun b => Z1u (notB b) s K) (fail 14) op
noncomputable def Zfo (x:Option AVal) (i:Nat) (s:St) (K:VK):Bool:=optK x fun x => x.tupK fun l => nthK l i fun v => K v s
noncomputable def Zha (P:Program) (t:TypeId) (x:Option AVal) (i:Nat) (s:St) (K:VK):Bool :=
  optK (Zhq P t i) fun fo => optK x fun x => x.ptrK fun b off => natK (Nat.add off fo) fun o => K (.ptr b o) s
noncomputable def Zq5 (P:Program) (t:TypeId) (x:Option AVal) (i:Nat) (s:St) (K:VK):Bool :=
  optK (Zhr P t i) fun f => optK x fun x => x.aggK fun l => Z7x f.2 l f.1 fun v => K v s
noncomputable def Z87 (P:Program) (t:TypeId) (x i:Option AVal) (s:St) (K:VK):Bool :=
  optK x fun x => optK i fun i => i.intK fun _ i => idxK i fun i =>
    @TK.rec (fun _ => Bool) (fail 15)
      (optK (Z5c P t) fun e => x.Zaq fun b off n _ => ifK (Nat.ble (Nat.succ i) n) (natK (Nat.add off (Nat.mul i e.1)) fun o => K (.ptr b o) s) (fail 16))
      (optK (Zbf P t) fun e => x.ptrK fun b off => ifK (Nat.ble (Nat.succ i) e.1) (natK (Nat.add off (Nat.mul i e.2)) fun o => K (.ptr b o) s) (fail 17))
      (fail 15) (fail 15) (Z4j P t)
noncomputable def Zd8 (P:Program) (t:TypeId) (x i:Option AVal) (s:St) (K:VK):Bool :=
  optK x fun x => optK i fun i => i.intK fun _ i => idxK i fun i =>
    @TK.rec (fun _ => Bool) (x.strK fun l => nthK l i fun c => natK c.toNat fun n => K (.int .u8 (.ofNat n)) s)
      (fail 18)
      (optK (Zmt P t) fun e => x.aggK fun l => ifK (Nat.ble (Nat.succ i) e.1) (Z7x e.2.2 l (Nat.mul i e.2.1) fun v => K v s) (fail 19))
      (fail 18) (fail 18) (Z4j P t)
noncomputable def Z2x (x:Option (Option AVal)) (d:Nat) (K:Nat→Bool):Bool :=
  @Option.rec (Option AVal) (fun _ => Bool) (K d) (fun v => optK v fun v => v.intK fun _ n => idxK n K) x
noncomputable def le3K (a b c:Nat) (x:Bool):Bool:=ifK (Nat.ble a b) (ifK (Nat.ble b c) x (fail 20)) (fail 20)
noncomputable def cutK (es:Nat) (b:Pos) (off len:Nat) (cap:Cap) (lo hi mx:Option (Option AVal)) (s:St) (K:VK):Bool :=
  Z2x lo 0 fun l => Z2x hi len fun h =>
    @Cap.rec (fun _ => Bool)
      (fun c => Z2x mx c fun m => ifK (Nat.ble m c) (le3K l h m (ifK (Nat.beq m l) (K (.slice b off 0 (.lim 0)) s)
        (natK (Nat.add off (Nat.mul l es)) fun o => natK (Nat.sub h l) fun n => natK (Nat.sub m l) fun c => K (.slice b o n (.lim c)) s))) (fail 22))
      (fun e => ifK (Nat.beq e es) (@Option.rec (Option AVal) (fun _ => Bool) (le3K l h len (natK (Nat.add off (Nat.mul l es)) fun o => natK (Nat.sub h l) fun n => K (.slice b o n (.opn e)) s)) (fun _ => fail 21) mx) (fail 21)) cap
noncomputable def Z9m (hi mx:Option (Option AVal)) (x:Bool):Bool :=
  @Option.rec (Option AVal) (fun _ => Bool) x (fun _ => @Option.rec (Option AVal) (fun _ => Bool) (fail 23) (fun _ => x) hi) mx
noncomputable def Zbi (P:Program) (t:TypeId) (x:Option AVal) (lo hi mx:Option (Option AVal)) (s:St) (K:VK):Bool :=
  optK x fun x => Z9m hi mx
    (@TK.rec (fun _ => Bool)
      (x.strK fun l => lenK l 0 fun n => Z2x lo 0 fun a => Z2x hi n fun b => @Option.rec (Option AVal) (fun _ => Bool) (le3K a b n (segK l a (Nat.sub b a) fun l => K (.str l) s)) (fun _ => fail 24) mx)
      (optK (Z5c P t) fun e =>
        @AVal.rec (fun _ => Bool) (fun _ => Bool) (fun _ => false) (fun _ _ => false) (fun _ => false) (fun _ _ => false) false (fun b off n c => cutK e.1 b off n c lo hi mx s K)
          (Z2x lo 0 fun l => Z2x hi 0 fun h => Z2x mx 0 fun m => ifK (Nat.beq l 0) (ifK (Nat.beq h 0) (ifK (Nat.beq m 0) (K .nilSlice s) (fail 25)) (fail 25)) (fail 25))
          (fun _ => false) false (fun _ _ _ _ _ => false) (fun _ => false) false (fun _ _ _ => false) false (fun _ _ => false) (fun _ _ => false) false (fun _ _ _ _ => false) x)
      (optK (Zbf P t) fun e => x.ptrK fun b off => cutK e.2 b off e.1 (.lim e.1) lo hi mx s K)
      (fail 26) (fail 26) (Z4j P t))
noncomputable def repK (n:Nat) (zs:List AVal):List AVal→(List AVal→Bool)→Bool :=
  @Nat.rec (fun _ => List AVal→(List AVal→Bool)→Bool) (fun acc K => K acc) (fun _ ih acc K => appK zs acc fun acc => ih acc K) n
def Z0j:Nat:=1099511627776
noncomputable def Zcq (P:Program) (t:TypeId) (l c:Option AVal) (s:St) (K:VK):Bool :=
  optK (Z5c P t) fun e => optK ((Z80 P t).bind (zeroCells P)) fun zs => lenK zs 0 fun zn => ifK (Nat.beq zn e.1)
    (optK l fun l => optK c fun c => l.intK fun _ l => c.intK fun _ c => idxK l fun l => idxK c fun c =>
      ifK (Nat.ble l c) (ifK (Nat.ble (Nat.mul c e.2) Z0j) (ifK (Nat.ble c Z0j) (repK c zs [] fun cs => Z4w (.cells cs false) s fun b s => K (.slice b 0 l (.lim c)) s) (fail 27)) (fail 27)) (fail 28)) (fail 28)
noncomputable def Z4c (ρ:Operand→Option AVal) (l:List Operand):(List AVal→Bool)→Bool :=
  @List.rec Operand (fun _ => (List AVal→Bool)→Bool) (fun K => K []) (fun x _ ih K => optK (ρ x) fun v => ih fun r => K (v :: r)) l
noncomputable def Z3t (ρ:Operand→Option AVal) (l:List (Nat × Nat × Operand)):List AVal→(List AVal→Bool)→Bool :=
  @List.rec (Nat × Nat × Operand) (fun _ => List AVal→(List AVal→Bool)→Bool) (fun cs K => K cs)
    (fun x _ ih cs K => optK (ρ x.2.2) fun v => Z6j v (v.Z28 fun vs => lenK vs 0 fun n => ifK (Nat.beq n x.2.1) (Z3l vs cs x.1 fun cs => ih cs K) (fail 29))) l
def Zbj (P:Program) (fs:Array Field):List (Nat × Operand)→Option (List (Nat × Nat × Operand))
  | [] => some []
  | (i,x) :: r => match fs[i]? with
    | some f => match Z2c P f.type,Zbj P fs r with
      | some n,some l => some ((f.offset,n,x) :: l)
      | _,_ => none
    | none => none
def Z4v (es:Nat):List (Nat × Operand)→List (Nat × Nat × Operand)
  | [] => []
  | (i,x) :: r => (i * es,es,x) :: Z4v es r
def Zqd (P:Program) (fs:Array Field):Bool:=fs.toList.all fun f => (Z2c P f.type).isSome
def Z69 (P:Program) (t:TypeId) (parts:Array (Nat × Operand)):Option (List (Nat × Nat × Operand)) :=
  match P.underlying t with
  | some (.struct fs) => if Zqd P fs then Zbj P fs parts.toList else none
  | some (.array _ e) => match Z2c P e with
    | some n => some (Z4v n parts.toList)
    | none => none
  | _ => none
noncomputable def Zd7 (P:Program) (t:TypeId) (parts:Array (Nat × Operand)) (ρ:Operand→Option AVal) (s:St) (K:VK):Bool :=
  optK (Z69 P t parts) fun pl => optK (zeroCells P t) fun zs => Z3t ρ pl zs fun cs => K (.agg cs) s
noncomputable def Z50 (P:Program) (t:TypeId) (len:Nat) (parts:Array (Nat × Operand)) (ρ:Operand→Option AVal) (s:St) (K:VK):Bool :=
  optK (Z5c P t) fun e => optK ((Z80 P t).bind (zeroCells P)) fun zs => lenK zs 0 fun zn => ifK (Nat.beq zn e.1)
    (ifK (Nat.ble (Nat.mul len e.1) 16777216) (repK len zs [] fun cs => Z3t ρ (Z4v e.1 parts.toList) cs fun cs => Z4w (.cells cs false) s fun b s => K (.slice b 0 len (.lim len)) s) (fail 30)) (fail 30)
def Zaz (P:Program) (ts:Array TypeId):Option (Nat × Nat) :=
  match ts[0]? with
  | some t =>
    match Z5c P t with
    | some (es,eb) =>
      if 0 < es∧0 < eb∧eb ≤ 1048576∧((Z80 P t).bind (zeroCells P)).map List.length = some es then
        match ts[1]? with
        | some u => match P.underlying u with
          | some (.int _) => none
          | some _ => some (es,eb)
          | none => none
        | none => some (es,eb)
      else none
    | none => none
  | none => none
noncomputable def Zae (l:List UInt8) (K:List AVal→Bool):Bool :=
  @List.rec UInt8 (fun _ => (List AVal→Bool)→Bool) (fun K => K []) (fun c _ ih K => natK c.toNat fun n => ih fun r => K (.int .u8 (.ofNat n) :: r)) l K
noncomputable def srcK (es:Nat) (x:AVal) (s:St) (K:List AVal→Nat→Bool):Bool :=
  @AVal.rec (fun _ => Bool) (fun _ => Bool) (fun _ => false) (fun _ _ => false) (fun l => ifK (Nat.beq es 1) (lenK l 0 fun n => Zae l fun cs => K cs n) (fail 31)) (fun _ _ => false) false
    (fun b off n _ => ifK (Nat.beq n 0) (K [] 0) (Z28 b s fun cs _ => segK cs off (Nat.mul n es) fun l => K l n)) (K [] 0)
    (fun _ => false) false (fun _ _ _ _ _ => false) (fun _ => false) false (fun _ _ _ => false) false (fun _ _ => false) (fun _ _ => false) false (fun _ _ _ _ => false) x
noncomputable def Z51 (need eb:Nat) (x:Bool):Bool:=ifK (Nat.ble (Nat.mul need eb) Z0j) x (fail 32)
noncomputable def Z49 (es:Nat) (cs:List AVal) (need:Nat) (s:St) (K:VK):Bool:=Z4w (.cells cs false) s fun b s => K (.slice b 0 need (.opn es)) s
noncomputable def Z9d (es eb : Nat) (b : Pos) (off len need : Nat) (new : List AVal) (s : St) (K : VK) : Bool :=
  Z28 b s fun cs ro => ifK ro (fail 33) (lenK cs 0 fun L =>
    ifK (Nat.ble 1 len) (ifK (Nat.ble (Nat.add off (Nat.mul need es)) L)
        (Z3l new cs (Nat.add off (Nat.mul len es)) fun cs => putK b (.cells cs false) s fun s => K (.slice b off need (.opn es)) s)
        (Z51 need eb (segK cs off (Nat.mul len es) fun old => appK old new fun cs => putK b .dead s fun s => Z49 es cs need s K)))
      (Z51 need eb (putK b .dead s fun s => Z49 es new need s K)))
noncomputable def Z5o (es eb:Nat) (b:Pos) (off len c need:Nat) (new:List AVal) (s:St) (K:VK):Bool :=
  ifK (Nat.ble need c) (Z5n b (Nat.add off (Nat.mul len es)) new s fun s => K (.slice b off need (.lim c)) s)
    (Z51 need eb (ifK (Nat.beq len 0) (Z49 es new need s K) (Z28 b s fun cs _ => segK cs off (Nat.mul len es) fun old => appK old new fun cs => Z49 es cs need s K)))
noncomputable def Zns (P:Program) (ts:Array TypeId) (x y:Option AVal) (s:St) (K:VK):Bool :=
  optK (Zaz P ts) fun e => optK x fun x => optK y fun y => srcK e.1 y s fun new n =>
    @AVal.rec (fun _ => Bool) (fun _ => Bool) (fun _ => false) (fun _ _ => false) (fun _ => false) (fun _ _ => false) false
      (fun b off len cap => natK (Nat.add len n) fun need =>
        @Cap.rec (fun _ => Bool) (fun c => ifK (Nat.beq n 0) (ifK (Nat.ble len c) (K (.slice b off len (.lim c)) s) (fail 34)) (Z5o e.1 e.2 b off len c need new s K))
          (fun es => ifK (Nat.beq n 0) (K (.slice b off len (.opn es)) s) (ifK (Nat.beq es e.1) (Z9d e.1 e.2 b off len need new s K) (fail 34))) cap)
      (ifK (Nat.beq n 0) (K .nilSlice s) (Z51 n e.2 (Z49 e.1 new n s K)))
      (fun _ => false) false (fun _ _ _ _ _ => false) (fun _ => false) false (fun _ _ _ => false) false (fun _ _ => false) (fun _ _ => false) false (fun _ _ _ _ => false) x
noncomputable def Zn8 (x:AVal) (K:Nat→Bool):Bool :=
  @AVal.rec (fun _ => Bool) (fun _ => Bool) (fun _ => false) (fun _ _ => false) (fun l => lenK l 0 K) (fun _ _ => false) false (fun _ _ n _ => K n) (K 0)
    (fun _ => false) false (fun _ _ _ _ _ => false) (fun _ => false) false (fun _ _ _ => false) false (fun _ _ => false) (fun _ _ => false) false (fun _ _ _ _ => false) x
noncomputable def Zs3 (x:AVal) (K:Nat→Bool):Bool :=
  @AVal.rec (fun _ => Bool) (fun _ => Bool) (fun _ => false) (fun _ _ => false) (fun _ => false) (fun _ _ => false) false (fun _ _ n _ => K n) (K 0)
    (fun _ => false) false (fun _ _ _ _ _ => false) (fun _ => false) false (fun _ _ _ => false) false (fun _ _ => false) (fun _ _ => false) false (fun _ _ _ _ => false) x
def Zhm (P:Program) (ts:Array TypeId):Option Nat :=
  match ts[0]? with
  | some t => (Z5c P t).map (·.1)
  | none => none
noncomputable def Zu8 (P:Program) (ts:Array TypeId) (x y:Option AVal) (s:St) (K:VK):Bool :=
  optK (Zhm P ts) fun es => optK x fun x => optK y fun y => Zs3 x fun m => Zn8 y fun n =>
    natK (Nat.min n m) fun k => ifK (Nat.beq k 0) (K (.int .i64 (.ofNat 0)) s)
      (srcK es y s fun cs _ => Za6 cs (Nat.mul k es) fun cs => x.Zaq fun b off _ _ => Z5n b off cs s fun s => K (.int .i64 (.ofNat k)) s)
def Z59 (P:Program) (ts:Array TypeId):Option (TK × Nat) :=
  match ts[0]? with
  | some t => match P.underlying t with
    | some .string => some (.str,0)
    | some (.slice _) => some (.slc,0)
    | some (.map _ _) => some (.map,0)
    | some (.array n _) => some (.arr,n)
    | some (.pointer a) => match P.underlying a with
      | some (.array n _) => some (.arr,n)
      | _ => none
    | _ => none
  | none => none
noncomputable def natV (n:Nat) (s:St) (K:VK):Bool:=natK n fun n => K (.int .i64 (.ofNat n)) s
noncomputable def Za3 (P:Program) (ts:Array TypeId) (x:Option AVal) (s:St) (K:VK):Bool :=
  optK (Z59 P ts) fun e => optK x fun x =>
    @TK.rec (fun _ => Bool) (x.strK fun l => lenK l 0 fun n => K (.int .i64 (.ofNat n)) s)
      (@AVal.rec (fun _ => Bool) (fun _ => Bool) (fun _ => false) (fun _ _ => false) (fun _ => false) (fun _ _ => false) false (fun _ _ n _ => K (.int .i64 (.ofNat n)) s) (K (.int .i64 (.ofNat 0)) s)
        (fun _ => false) false (fun _ _ _ _ _ => false) (fun _ => false) false (fun _ _ _ => false) false (fun _ _ => false) (fun _ _ => false) false (fun _ _ _ _ => false) x)
      (natV e.2 s K)
      (@AVal.rec (fun _ => Bool) (fun _ => Bool) (fun _ => false) (fun _ _ => false) (fun _ => false) (fun _ _ => false) false (fun _ _ _ _ => false) false
        (fun b => mapK b s fun es _ => lenK es 0 fun n => K (.int .i64 (.ofNat n)) s) (K (.int .i64 (.ofNat 0)) s)
        (fun _ _ _ _ _ => false) (fun _ => false) false (fun _ _ _ => false) false (fun _ _ => false) (fun _ _ => false) false (fun _ _ _ _ => false) x)
      (fail 35) e.1
noncomputable def Z6i (mx:Bool) (l:List AVal):AVal→(AVal→Bool)→Bool :=
  @List.rec AVal (fun _ => AVal→(AVal→Bool)→Bool) (fun v K => v.intK fun k n => K (.int k n))
    (fun y _ ih x K => x.intK fun k a => y.intK fun _ b => ifK mx (ifK (ltI a b) (ih (.int k b) K) (ih (.int k a) K)) (ifK (ltI b a) (ih (.int k b) K) (ih (.int k a) K))) l
noncomputable def Z88 (mx:Bool) (l:List AVal) (s:St) (K:VK):Bool :=
  @List.rec AVal (fun _ => Bool) (fail 36) (fun x r _ => Z6i mx r x fun v => K v s) l
def Zev (P:Program) (ts:Array TypeId):Option (Option (Nat × List AVal)) :=
  match ts[0]? with
  | some t => match P.underlying t with
    | some (.slice e) => match Z2c P e,zeroCells P e with
      | some n,some zs => if n = zs.length then some (some (n,zs)) else none
      | _,_ => none
    | some (.map _ _) => some none
    | _ => none
  | none => none
noncomputable def Zq4 (P:Program) (ts:Array TypeId) (x:Option AVal) (s:St) (K:VK):Bool :=
  optK (Zev P ts) fun e => optK x fun x => @Option.rec (Nat × List AVal) (fun _ => Bool)
    (x.mapK fun b => mapK b s fun _ c => putK b (.map [] c) s fun s => K (.tup []) s)
    (fun e => @AVal.rec (fun _ => Bool) (fun _ => Bool) (fun _ => false) (fun _ _ => false) (fun _ => false) (fun _ _ => false) false
      (fun b off n _ => ifK (Nat.beq n 0) (K (.tup []) s) (repK n e.2 [] fun vs => Z5n b off vs s fun s => K (.tup []) s)) (K (.tup []) s)
      (fun _ => false) false (fun _ _ _ _ _ => false) (fun _ => false) false (fun _ _ _ => false) false (fun _ _ => false) (fun _ _ => false) false (fun _ _ _ _ => false) x) e
def Z5p (P:Program) (a b:TypeId):CK :=
  match P.underlying a,P.underlying b with
  | some (.int _),some (.int k) => .int k
  | some .string,some .string => .same
  | some .string,some (.slice e) => match P.underlying e with
    | some (.int .u8) => .toBytes
    | _ => .bad
  | some (.slice e),some .string => match P.underlying e with
    | some (.int .u8) => .ofBytes
    | _ => .bad
  | _,_ => .bad
noncomputable def Zhy (l:List AVal):(List UInt8→Bool)→Bool :=
  @List.rec AVal (fun _ => (List UInt8→Bool)→Bool) (fun K => K []) (fun v _ ih K => v.intK fun k n => ifK (Nat.beq (Z12 k) 4) (ih fun r => K (UInt8.ofNat n.toNat :: r)) (fail 37)) l
noncomputable def Z8t (P:Program) (a b:TypeId) (x:Option AVal) (s:St) (K:VK):Bool :=
  optK x fun x => @CK.rec (fun _ => Bool) (fun k => x.intK fun _ n => intV k (Z83 k n) s K) (x.strK fun l => K (.str l) s)
    (x.strK fun l => lenK l 0 fun n => Zae l fun cs => ifK (Nat.ble n Z0j) (Z49 1 cs n s K) (fail 38))
    (srcK 1 x s fun cs _ => Zhy cs fun l => K (.str l) s) (fail 39) (Z5p P a b)
def idxOf (t:Tmp):List (Option Tmp)→Nat→Option Nat
  | [],_ => none
  | x :: r,i => if x = some t then some i else idxOf t r (i + 1)
def Z07 (prev:List (Option Tmp)):Operand→RO
  | .tmp t => match idxOf t prev 0 with
    | some d => .loc d
    | none => .per (posOf t)
  | .const v => match conv v with
    | some a => .cst a
    | none => .bad
  | .global _ => .bad
  | .func f => .cst (.fn f [] [])
noncomputable def nthO (l:List AVal):Nat→Option AVal :=
  @List.rec AVal (fun _ => Nat→Option AVal) (fun _ => none) (fun a _ ih i => @Nat.rec (fun _ => Option AVal) (some a) (fun j _ => ih j) i) l
noncomputable def getO (tree:PT AVal) (locals:List AVal) (r:RO):Option AVal :=
  @RO.rec (fun _ => Option AVal) (fun d => nthO locals d) (fun p => PT.get p tree) (fun v => some v) none r
def Zjk:Operand→List Tmp
  | .tmp t => [t]
  | _ => []
def Z4z (all:Array Oper) (o:Oper):Option (Tmp × Bool) :=
  match o.guard with
  | some (j,want) => match (all[j]?).bind (·.dst) with
    | some d => some (d,want)
    | none => none
  | none => none
def Z6d (all:Array Oper) (o:Oper):List Tmp :=
  o.op.operands.toList.flatMap Zjk ++ (match Z4z all o with | some (t,_) => [t] | none => [])
def Z0a:List Tmp→List Tmp→List Tmp
  | [],acc => acc
  | t :: r,acc => Z0a r (if acc.contains t then acc else t :: acc)
def Zcs (all:Array Oper) (draw:Bool):List Oper→List Tmp→List Tmp→List Tmp
  | [],_,acc => acc
  | o :: r,written,acc =>
    Zcs all draw r (o.dst.toList ++ written) (Z0a ((Z6d all o).filter fun t => draw || !written.contains t) acc)
def Z42:Code→List Tmp→List Tmp
  | .region _ ops draw,acc => Zcs ops false ops.toList [] (if draw then Zcs ops false ops.toList.reverse [] acc else acc)
  | .seq a b,acc => Z42 b (Z42 a acc)
  | .cond c a b,acc => Z42 b (Z42 a (Z0a (Zjk c) acc))
  | .block _ c,acc => Z42 c acc
  | .loop c,acc => Z42 c acc
  | .rangeFunc f _ a b,acc => Z42 b (Z42 a (Z0a (Zjk f) acc))
  | .scope c,acc => Z42 c acc
  | _,acc => acc
def Zgl:List ResultVar→List Tmp
  | [] => []
  | .tmp t :: r => t :: Zgl r
  | .cell a _ :: r => a :: Zgl r
structure FI where
  fn:FuncId
  ntmps:Nat
  ps:List Tmp
  round:Option Pos
inductive DItem where
  | run (o:Oper)
  | chk (o:Oper)
  | fresh
  | peek (o:Oper)
def Z0t (P:Program):Op→Nat
  | .move _ => 0 | .assign _ => 0 | .pick _ _ _ => 0 | .build _ _ => 0 | .nilCheck _ => 0 | .binOp _ _ _ _ _ => 0 | .unOp _ _ _ => 0
  | .convert a b _ => match Z5p P a b with
    | .int _ => 0
    | .same => 0
    | _ => 3
  | .makeFunc _ _ _ => 0 | .slice _ _ _ _ _ => 0 | .fieldAddr _ _ _ => 0 | .field _ _ _ => 0 | .indexAddr _ _ _ => 0 | .index _ _ _ => 0 | .extract _ _ => 0
  | .load _ _ => 1
  | .alloc _ => 2 | .box _ _ => 2 | .buildSlice _ _ _ => 2 | .makeSlice _ _ _ => 2 | .makeMap _ _ => 2
  | .call c => match c.callee with
    | .builtin .len => match Z59 P c.argTypes with
      | some (.map,_) => 3
      | some _ => 0
      | none => 3
    | .builtin .min => 0
    | .builtin .max => 0
    | _ => 3
  | _ => 3
def ancOf (masks:List Nat) (o:Oper):Option Nat :=
  o.after.toList.foldl (fun acc e => match acc with
    | none => none
    | some m => if Region.binds .any e then (match masks[e.on]? with | some a => some (m ||| a ||| (1 <<< e.on)) | none => none) else some m) (some 0)
def ancs:List Oper→List Nat→Option (List Nat)
  | [],acc => some acc
  | o :: r,acc => match ancOf acc o with
    | some m => ancs r (acc ++ [m])
    | none => none
def allRows (ops:List Oper) (masks:List Nat):List (Nat × Oper × Nat):=ops.zipIdx.zip masks |>.map fun x => (x.1.2,x.1.1,x.2)
def Zz7 (P:Program) (rows:List (Nat × Oper × Nat)) (done:Nat):Option (Nat × Oper × Nat) :=
  let ready:=rows.filter fun x => !done.testBit x.1 && (x.2.2 &&& done == x.2.2)
  match ready.find? fun x => Z0t P x.2.1.op != 3 with
  | some x => some x
  | none => ready.head?
def Zk0 (all:Array Oper) (rows:List (Nat × Oper × Nat)):Bool :=
  rows.all fun x => rows.all fun y => x.1 == y.1 ||
    ((match x.2.1.dst with | some d => y.2.1.dst != some d && (!(Z6d all y.2.1).contains d || y.2.2.testBit x.1 || x.2.2.testBit y.1) | none => true) &&
     (match y.2.1.guard with | some (j,_) => y.2.2.testBit j | none => true))
def opAt (ops:Array Oper) (i:Nat):Oper:=ops.getD i default
def maskAt (masks:List Nat) (i:Nat):Nat:=masks.getD i 0
inductive PItem where
  | calm (i:Nat)
  | make (i:Nat)
  | eff (i:Nat) (cs ps:List Nat)
def Zlh (P:Program) (ops:Array Oper) (masks:List Nat) (i:Nat) (done:Nat):List Nat :=
  (List.range ops.size).filter fun j => done.testBit j && Z0t P (opAt ops j).op == 1 && !(maskAt masks i).testBit j
def Zug (P:Program) (ops:Array Oper) (masks:List Nat) (rows:List (Nat × Oper × Nat)):Nat→(done:Nat)→List PItem
  | 0,_ => []
  | f + 1,done =>
    match Zz7 P rows done with
    | none => []
    | some (i,o,_) =>
      (match Z0t P o.op with
      | 0 => .calm i
      | 1 => .calm i
      | 2 => .make i
      | _ => .eff i (Zlh P ops masks i done) []) :: Zug P ops masks rows f (done ||| (1 <<< i))
def Zvs (P:Program) (rows:List (Nat × Oper × Nat)) (done:Nat):Option (Nat × Oper × Nat) :=
  let ready:=rows.filter fun x => !done.testBit x.1 && (x.2.2 &&& done == x.2.2)
  match ready.find? fun x => decide (Z0t P x.2.1.op ≤ 1) with
  | some x => some x
  | none => match rows.find? fun x => !done.testBit x.1 && Z0t P x.2.1.op == 3 with
    | some e => match ready.find? fun x => x.1 == e.1 with
      | some x => some x
      | none => match ready.find? fun x => e.2.2.testBit x.1 with
        | some x => some x
        | none => ready.head?
    | none => ready.head?
def Zu0 (P:Program) (rows:List (Nat × Oper × Nat)) (i:Nat) (done:Nat):List Nat :=
  (rows.filter fun x => !done.testBit x.1 && (x.2.2 &&& done == x.2.2) && Z0t P x.2.1.op == 2 && x.1 != i).map (·.1)
def Zo7 (P:Program) (ops:Array Oper) (masks:List Nat) (rows:List (Nat × Oper × Nat)):Nat→(done:Nat)→List PItem
  | 0,_ => []
  | f + 1,done =>
    match Zvs P rows done with
    | none => []
    | some (i,o,_) =>
      (match Z0t P o.op with
      | 0 => .calm i
      | 1 => .calm i
      | 2 => .make i
      | _ => .eff i (Zlh P ops masks i done) (Zu0 P rows i done)) :: Zo7 P ops masks rows f (done ||| (1 <<< i))
def Zkk (ops:Array Oper) (masks:List Nat) (i:Nat) (done:Nat):Bool :=
  (List.range ops.size).all fun j => !done.testBit j || (maskAt masks i).testBit j || (match (opAt ops j).dst with | some d => !(Z6d ops (opAt ops i)).contains d | none => true)
def Zde (ops:Array Oper) (masks:List Nat) (i:Nat) (done:Nat):Bool :=
  decide (i < ops.size) && !done.testBit i && (maskAt masks i &&& done == maskAt masks i) && Zkk ops masks i done
def effOk (P:Program) (ops:Array Oper) (masks:List Nat) (i:Nat) (cs ps:List Nat) (done:Nat):Bool :=
  (List.range ops.size).all fun j => (done.testBit j || j == i || (maskAt masks j).testBit i || ps.contains j) &&
    (!done.testBit j || Z0t P (opAt ops j).op != 2 || (maskAt masks i).testBit j) &&
    (!done.testBit j || Z0t P (opAt ops j).op != 1 || (maskAt masks i).testBit j || cs.contains j)
def chkOk (P:Program) (ops:Array Oper) (masks:List Nat) (j:Nat) (done:Nat):Bool :=
  done.testBit j && Z0t P (opAt ops j).op == 1 && Zkk ops masks j done && (opAt ops j).dst.isSome
def Zo5 (P:Program) (ops:Array Oper) (masks:List Nat) (j:Nat) (done:Nat):Bool :=
  Zde ops masks j done && Z0t P (opAt ops j).op == 2 && (opAt ops j).guard.isNone
def Z47 (P:Program) (ops:Array Oper) (masks:List Nat):List PItem→Nat→Bool
  | [],done => (List.range ops.size).all fun j => done.testBit j
  | .calm i :: r,done => Zde ops masks i done && decide (Z0t P (opAt ops i).op ≤ 1) && Z47 P ops masks r (done ||| (1 <<< i))
  | .make i :: r,done => Zde ops masks i done && Z0t P (opAt ops i).op == 2 && Z47 P ops masks r (done ||| (1 <<< i))
  | .eff i cs ps :: r,done => Zde ops masks i done && effOk P ops masks i cs ps done && cs.all (fun j => chkOk P ops masks j (done ||| (1 <<< i))) && (Z0t P (opAt ops i).op != 2 && ps.all (fun j => Zo5 P ops masks j done)) && Z47 P ops masks r (done ||| (1 <<< i))
def PItem.items (ops:Array Oper):PItem→List DItem
  | .calm i => [.run (opAt ops i)]
  | .make i => [.fresh,.run (opAt ops i)]
  | .eff i cs ps => (ps.map fun j => .peek (opAt ops j)) ++ (.run (opAt ops i) :: cs.map fun j => .chk (opAt ops j))
def Z1w (ops:Array Oper):List PItem→List DItem
  | [] => []
  | p :: r => p.items ops ++ Z1w ops r
def Zho (P:Program) (ops:Array Oper):Option (List DItem) :=
  match ancs ops.toList [] with
  | some masks =>
    let rows:=allRows ops.toList masks
    let pl:=Zug P ops masks rows ops.size 0
    if Zk0 ops rows && Z47 P ops masks pl 0 then some (Z1w ops pl) else
      let pl:=Zo7 P ops masks rows ops.size 0
      if Zk0 ops rows && Z47 P ops masks pl 0 then some (Z1w ops pl) else none
  | none => none
def Zga (P:Program) (ops:Array Oper) (draw:Bool):Option (List DItem) :=
  if draw then Zho P ops else some (ops.toList.map .run)
def Zf0 (n:Nat) (ops:Array Oper):Bool:=ops.toList.all fun o => match o.dst with | some d => d < n | none => true
def Z3h (ps:List Tmp):List (Option Tmp)→List Tmp→List (Option Pos)
  | [],_ => []
  | none :: r,seen => none :: Z3h ps r seen
  | some t :: r,seen => (if ps.contains t && !seen.contains t then some (posOf t) else none) :: Z3h ps r (t :: seen)
noncomputable def Z3q (pl:List (Option Pos)):List AVal→PT AVal→(PT AVal→Bool)→Bool :=
  @List.rec (Option Pos) (fun _ => List AVal→PT AVal→(PT AVal→Bool)→Bool) (fun _ t K => K t)
    (fun p _ ih l t K => @List.rec AVal (fun _ => Bool) false (fun v r _ => @Option.rec Pos (fun _ => Bool) (ih r t K) (fun p => PT.setK p v t fun t => ih r t K) p) l) pl
def Zak (prev:List (Option Tmp)) (l:List (Nat × Nat × Operand)):List (Nat × Nat × RO):=l.map fun x => (x.1,x.2.1,Z07 prev x.2.2)
def Zq7:Fn→Option FuncId
  | .func f => some f
  | _ => none
def Zcc (P:Program) (prev:List (Option Tmp)) (c:Call):MOp :=
  match c.callee with
  | .value f => .call (Z07 prev f) (c.args.toList.map (Z07 prev))
  | .invoke _ _ => .bad
  | .builtin b => match b with
    | .append => match c.args.toList with
      | [x,y] => .append (Zaz P c.argTypes) (Z07 prev x) (Z07 prev y)
      | _ => .bad
    | .len => match c.args.toList with
      | [x] => .len (Z59 P c.argTypes) (Z07 prev x)
      | _ => .bad
    | .copy => match c.args.toList with
      | [x,y] => .copy (Zhm P c.argTypes) (Z07 prev x) (Z07 prev y)
      | _ => .bad
    | .min => .mnmx false (c.args.toList.map (Z07 prev))
    | .max => .mnmx true (c.args.toList.map (Z07 prev))
    | .clear => match c.args.toList with
      | [x] => .clear (Zev P c.argTypes) (Z07 prev x)
      | _ => .bad
    | _ => .bad
def mop (P:Program) (prev:List (Option Tmp)):Op→MOp
  | .move x => .move (Z07 prev x)
  | .assign x => .move (Z07 prev x)
  | .pick c a b => .pick (Z07 prev c) (Z07 prev a) (Z07 prev b)
  | .alloc t => .alloc (zeroCells P t)
  | .box _ x => .box (Z07 prev x)
  | .build t ps => .build ((Z69 P t ps).map (Zak prev)) (zeroCells P t)
  | .buildSlice t n ps => .buildSlice (Z5c P t) ((Z80 P t).bind (zeroCells P)) n (ps.toList.map fun x => (x.1,Z07 prev x.2))
  | .insert t m k x => .mapSet (Z9l P t) (Z07 prev m) (Z07 prev k) (Z07 prev x)
  | .load t a => .load (Z45 P t) (Z07 prev a)
  | .store t a x => .store (Z2c P t) (Z07 prev a) (Z07 prev x)
  | .nilCheck x => .nilck (Z07 prev x)
  | .binOp op t x y _ => .bin op (Z60 P t) (Zg6 P t) (Z07 prev x) (Z07 prev y)
  | .unOp op _ x => .un op (Z07 prev x)
  | .convert a b x => .conv (Z5p P a b) (Z07 prev x)
  | .makeFunc f a c => .func (Zq7 f) (a.toList.map (Z07 prev)) (c.toList.map (Z07 prev))
  | .makeMap t r => .makeMap (r.isNone && isEK P t .map)
  | .makeSlice t l c => .makeSlice (Z5c P t) ((Z80 P t).bind (zeroCells P)) (Z07 prev l) (Z07 prev c)
  | .slice t x lo hi mx => .slice (Z4j P t) (Z5c P t) (Zbf P t) (Z07 prev x) (lo.map (Z07 prev)) (hi.map (Z07 prev)) (mx.map (Z07 prev))
  | .fieldAddr t x f => .fieldAddr (Zhq P t f) (Z07 prev x)
  | .field t x f => .field (Zhr P t f) (Z07 prev x)
  | .indexAddr t x i => .indexAddr (Z4j P t) (Z5c P t) (Zbf P t) (Z07 prev x) (Z07 prev i)
  | .index t x i => .index (Z4j P t) (Zmt P t) (Z07 prev x) (Z07 prev i)
  | .lookup t m i ok => .lookup (Z9l P t) ok (Z07 prev m) (Z07 prev i)
  | .mapUpdate t m k x => .mapSet (Z9l P t) (Z07 prev m) (Z07 prev k) (Z07 prev x)
  | .extract x i => .extract (Z07 prev x) i
  | .call c => Zcc P prev c
  | _ => .bad
def Zd4 (all:Array Oper) (prev:List (Option Tmp)) (o:Oper):Option (Option (RO × Bool)):=o.guard.map fun _ => (Z4z all o).map fun g => (Z07 prev (.tmp g.1),g.2)
def Z2z (P:Program) (ps:List Tmp) (all:Array Oper):List DItem→List (Option Tmp)→List MItem × List (Option Pos)
  | [],prev => ([],Z3h ps prev [])
  | .run o :: r,prev => let x:=Z2z P ps all r (o.dst :: prev); (.run (Zd4 all prev o) (mop P prev o.op) :: x.1,x.2)
  | .chk o :: r,prev => let x:=Z2z P ps all r prev; (.chk (Zd4 all prev o) (mop P prev o.op) (o.dst.map fun d => Z07 prev (.tmp d)) :: x.1,x.2)
  | .fresh :: r,prev => let x:=Z2z P ps all r prev; (.fresh :: x.1,x.2)
  | .peek o :: r,prev => let x:=Z2z P ps all r prev; (.peek (mop P prev o.op) :: x.1,x.2)
def compile (P:Program) (ps:List Tmp) (n:Nat):Code→MCode
  | .skip => .skip
  | .region _ ops draw => match Zga P ops draw with
    | some l => if Zf0 n ops then .region (Z2z P ps ops l []).1 (Z2z P ps ops l []).2 else .bad
    | none => .bad
  | .seq a b => .seq (compile P ps n a) (compile P ps n b)
  | .cond c a b => .cond (Z07 [] c) (compile P ps n a) (compile P ps n b)
  | .block id c => .block id (compile P ps n c)
  | .loop c => .loop (compile P ps n c)
  | .rangeFunc f params a b => .range (Z07 [] f) params.toList (compile P ps n a) (compile P ps n b)
  | .label _ => .skip
  | .scope c => .scope (compile P ps n c)
  | .exit id => .exit id
  | .ret => .ret
  | _ => .bad
structure FInfo where
  code:MCode
  ntmps:Nat
  nargs:Nat
  ps:List Tmp
  res:List ResultVar
def funInfo (P : Program) (f : FuncId) : Option FInfo :=
  match P.funcs[f]? with
  | some fn => match fn.body with
    | some c => if fn.name = "runtime.NumGoroutine" then none
        else some { code := compile P (Z42 c (Zgl fn.results.toList)) fn.ntmps c, ntmps := fn.ntmps, nargs := fn.params.size + fn.nfree, ps := Z42 c (Zgl fn.results.toList), res := fn.results.toList }
    | none => none
  | none => none
abbrev Z71:=Ex→PT AVal→St→Bool
abbrev RecT:=MCode→FI→PT AVal→St→Z71→Bool
def Za0:Cap→Cap→Bool
  | .lim a,.lim b => a == b
  | .opn a,.opn b => a == b
  | _,_ => false
def Z27:Nat→AVal→AVal→Bool
  | 0,_,_ => false
  | _ + 1,.bool a,.bool b => a == b
  | _ + 1,.int j a,.int k b => j == k && a == b
  | _ + 1,.str a,.str b => a == b
  | _ + 1,.ptr a i,.ptr b j => a.toNat == b.toNat && i == j
  | _ + 1,.nilPtr,.nilPtr => true
  | _ + 1,.slice a i n c,.slice b j m d => a.toNat == b.toNat && i == j && n == m && Za0 c d
  | _ + 1,.nilSlice,.nilSlice => true
  | _ + 1,.map a,.map b => a.toNat == b.toNat
  | _ + 1,.nilMap,.nilMap => true
  | _ + 1,.nilFn,.nilFn => true
  | _ + 1,.nilIface,.nilIface => true
  | d + 1,.fn f a c,.fn g b e => f == g && a.length == b.length && c.length == e.length && (a.zip b).all (fun x => Z27 d x.1 x.2) && (c.zip e).all (fun x => Z27 d x.1 x.2)
  | d + 1,.agg a,.agg b => a.length == b.length && (a.zip b).all fun x => Z27 d x.1 x.2
  | _ + 1,_,_ => false
noncomputable def resK (P:Program) (tree:PT AVal) (s:St) (l:List ResultVar):(List AVal→Bool)→Bool :=
  @List.rec ResultVar (fun _ => (List AVal→Bool)→Bool) (fun K => K [])
    (fun x _ ih K => @ResultVar.rec (fun _ => Bool) (fun t => optK (PT.get (posOf t) tree) fun v => ih fun r => K (v :: r))
      (fun a t => Z6s P t (PT.get (posOf a) tree) s fun v _ => ih fun r => K (v :: r)) x) l
noncomputable def retK (l:List AVal) (s:St) (K:VK):Bool :=
  @List.rec AVal (fun _ => Bool) (K (.tup []) s) (fun v r _ => @List.rec AVal (fun _ => Bool) (K v s) (fun _ _ _ => K (.tup l) s) r) l
noncomputable def outK (e:Ex) (x:Bool):Bool:=@Ex.rec (fun _ => Bool) x (fun _ => fail 40) x e
def Z9e (ps:List Tmp):Nat→Nat→List (Option Pos)
  | 0,_ => []
  | n + 1,i => (if ps.contains i then some (posOf i) else none) :: Z9e ps n (i + 1)
class Orc where
  get:Program→FuncId→List AVal→Option AVal
variable [Orc]
noncomputable def orcK (P:Program) (f:FuncId) (args:List AVal) (s:St) (K:VK) (x:Bool):Bool :=
  @Option.rec AVal (fun _ => Bool) x (fun v => K v s) (Orc.get P f args)
noncomputable def Z6g (P:Program) (rec:RecT) (f:FuncId) (args:List AVal) (s:St) (K:VK):Bool :=
  orcK P f args s K (optK (funInfo P f) fun fi => lenK args 0 fun n => ifK (Nat.beq n fi.nargs) (ifK (Nat.ble n fi.ntmps)
    (Z3q (Z9e fi.ps fi.nargs 0) args .leaf fun tree =>
      rec fi.code { fn:=f,ntmps:=fi.ntmps,ps:=fi.ps,round:=none } tree s fun e tree s => outK e (resK P tree s fi.res fun l => retK l s K)) (fail 41)) (fail 41))
def isReady:LoopState→Bool
  | .ready => true
  | _ => false
def Zd3:LoopState→Bool
  | .busy => true
  | _ => false
def Z7i (ps:List Tmp) (n:Nat):List Tmp→Option (List (Option Pos))
  | [] => some []
  | t :: r => if t < n then (match Z7i ps n r with
    | some l => some ((if ps.contains t then some (posOf t) else none) :: l)
    | none => none) else none
noncomputable def normK (e:Ex) (x:Bool):Bool:=@Ex.rec (fun _ => Bool) x (fun _ => fail 42) (fail 42) e
noncomputable def endK (l:Pos) (e:Ex) (s:St) (K:VK):Bool :=
  Z7u l s fun L => @Ex.rec (fun _ => Bool) (putK l (.loop { L with state:=.ready,pending:=none }) s fun s => K (.bool true) s)
    (fun id => putK l (.loop { L with state:=.done,pending:=some (.exit id) }) s fun s => K (.bool false) s)
    (putK l (.loop { L with state:=.done,pending:=some .ret }) s fun s => K (.bool false) s) e
noncomputable def Zos (P:Program) (rec:RecT) (l:Pos) (args:List AVal) (s:St) (K:VK):Bool :=
  Z7u l s fun L => optK (funInfo P L.fn) fun fi => optK (Z7i fi.ps fi.ntmps L.params) fun pl => lenK args 0 fun n => lenK L.params 0 fun m => ifK (Nat.beq n m)
    (Z3q pl args L.tm fun tree => rec L.assign { fn:=L.fn,ntmps:=fi.ntmps,ps:=fi.ps,round:=some l } tree s fun e tree s => normK e
      (Z7u l s fun L2 => ifK (isReady L2.state) (putK l (.loop { L2 with state:=.busy }) s fun s =>
        rec L.body { fn:=L.fn,ntmps:=fi.ntmps,ps:=fi.ps,round:=some l } tree s fun e _ s => endK l e s K) (fail 43))) (fail 43)
noncomputable def Zin (P:Program) (rec:RecT) (fv:AVal) (args:List AVal) (s:St) (K:VK):Bool :=
  @AVal.rec (fun _ => Bool) (fun _ => Bool) (fun _ => false) (fun _ _ => false) (fun _ => false) (fun _ _ => false) false (fun _ _ _ _ => false) false (fun _ => false) false
    (fun f a c _ _ => appK args c fun r => appK a r fun args => Z6g P rec f args s K) (fun l => Zos P rec l args s K) (fail 44) (fun _ _ _ => false) false (fun _ _ => false) (fun _ _ => false) false (fun _ _ _ _ => false) fv
noncomputable def Z3u (P:Program) (rec:RecT) (c:Call) (ρ:Operand→Option AVal) (s:St) (K:VK):Bool :=
  @Callee.rec (fun _ => Bool) (fun f => optK (ρ f) fun fv => Z4c ρ c.args.toList fun args => Zin P rec fv args s K) (fun _ _ => fail 45)
    (fun b => match b with
      | .append => match c.args.toList with
        | [x,y] => Zns P c.argTypes (ρ x) (ρ y) s K
        | _ => fail 46
      | .len => match c.args.toList with
        | [x] => Za3 P c.argTypes (ρ x) s K
        | _ => fail 46
      | .copy => match c.args.toList with
        | [x,y] => Zu8 P c.argTypes (ρ x) (ρ y) s K
        | _ => fail 46
      | .min => Z4c ρ c.args.toList fun l => Z88 false l s K
      | .max => Z4c ρ c.args.toList fun l => Z88 true l s K
      | .clear => match c.args.toList with
        | [x] => Zq4 P c.argTypes (ρ x) s K
        | _ => fail 46
      | _ => fail 46) c.callee
noncomputable def opK (P:Program) (rec:RecT) (o:Op) (ρ:Operand→Option AVal) (s:St) (K:VK):Bool :=
  match o with
  | .move x => Zjj (ρ x) s K
  | .assign x => Zjj (ρ x) s K
  | .pick c a b => Znz (ρ c) (ρ a) (ρ b) s K
  | .alloc t => Zq3 P t s K
  | .box _ x => Zrn (ρ x) s K
  | .build t ps => Zd7 P t ps ρ s K
  | .buildSlice t n ps => Z50 P t n ps ρ s K
  | .insert t m k x => Zi3 P t (ρ m) (ρ k) (ρ x) s K
  | .load t a => Z6s P t (ρ a) s K
  | .store t a x => Zq6 P t (ρ a) (ρ x) s K
  | .nilCheck x => Zrt (ρ x) s K
  | .binOp op t x y _ => Ze3 P op t (ρ x) (ρ y) s K
  | .unOp op _ x => opUn op (ρ x) s K
  | .convert a b x => Z8t P a b (ρ x) s K
  | .makeFunc f a c => optK (Zq7 f) fun f => Z4c ρ a.toList fun a => Z4c ρ c.toList fun c => K (.fn f a c) s
  | .makeMap t r => ifK r.isNone (ifK (isEK P t .map) (Z4w (.map [] 0) s fun b s => K (.map b) s) (fail 47)) (fail 47)
  | .makeSlice t l c => Zcq P t (ρ l) (ρ c) s K
  | .slice t x lo hi mx => Zbi P t (ρ x) (lo.map ρ) (hi.map ρ) (mx.map ρ) s K
  | .fieldAddr t x f => Zha P t (ρ x) f s K
  | .field t x f => Zq5 P t (ρ x) f s K
  | .indexAddr t x i => Z87 P t (ρ x) (ρ i) s K
  | .index t x i => Zd8 P t (ρ x) (ρ i) s K
  | .lookup t m i ok => Znx P t ok (ρ m) (ρ i) s K
  | .mapUpdate t m k x => Zi3 P t (ρ m) (ρ k) (ρ x) s K
  | .extract x i => Zfo (ρ x) i s K
  | .call c => Z3u P rec c ρ s K
  | _ => fail 48
noncomputable def Z26 (all:Array Oper) (o:Oper) (ρ:Operand→Option AVal) (x y:Bool):Bool :=
  @Option.rec (Nat × Bool) (fun _ => Bool) x
    (fun _ => optK (Z4z all o) fun g => optK (ρ (.tmp g.1)) fun v =>
      @AVal.rec (fun _ => Bool) (fun _ => Bool) (fun b => ifK (Z5f b g.2) x y) (fun _ _ => y) (fun _ => y) (fun _ _ => y) y (fun _ _ _ _ => y) y (fun _ => y) y (fun _ _ _ _ _ => y) (fun _ => y) y
        (fun _ _ _ => y) y (fun _ _ => y) (fun _ _ => y) false (fun _ _ _ _ => false) v) o.guard
noncomputable def Z1r (P:Program) (rec:RecT) (fi:FI) (all:Array Oper) (l:List DItem) :
    List (Option Tmp)→List AVal→PT AVal→St→(PT AVal→St→Bool)→Bool :=
  @List.rec DItem (fun _ => List (Option Tmp)→List AVal→PT AVal→St→(PT AVal→St→Bool)→Bool)
    (fun prev locals tree s K => Z3q (Z3h fi.ps prev []) locals tree fun tree => K tree s)
    (fun it _ ih prev locals tree s K => @DItem.rec (fun _ => Bool)
      (fun o => Z26 all o (fun x => getO tree locals (Z07 prev x))
        (opK P rec o.op (fun x => getO tree locals (Z07 prev x)) s fun v s => ih (o.dst :: prev) (v :: locals) tree s K)
        (ih (o.dst :: prev) (.tup [] :: locals) tree s K))
      (fun o => Z26 all o (fun x => getO tree locals (Z07 prev x))
        (opK P rec o.op (fun x => getO tree locals (Z07 prev x)) s fun v _ => optK o.dst fun d => optK (getO tree locals (Z07 prev (.tmp d))) fun u =>
          ifK (Z27 8 v u) (ih prev locals tree s K) (fail 49))
        (ih prev locals tree s K))
      (@Option.rec AObj (fun _ => Bool) (ih prev locals tree s K) (fun _ => fail 56) (PT.get s.next s.heap))
      (fun o => ifK (opK P rec o.op (fun x => getO tree locals (Z07 prev x)) s fun _ _ => true) (ih prev locals tree s K) (fail 57)) it) l
noncomputable def Zgk (P:Program) (rec:RecT) (fi:FI) (ops:Array Oper) (draw:Bool) (tree:PT AVal) (s:St) (K:PT AVal→St→Bool):Bool :=
  optK (Zga P ops draw) fun l => ifK (Zf0 fi.ntmps ops) (Z1r P rec fi ops l [] [] tree s K) (fail 50)
noncomputable def thenK (e:Ex) (tree:PT AVal) (s:St) (x:Bool) (K:Z71):Bool:=@Ex.rec (fun _ => Bool) x (fun id => K (.exit id) tree s) (K .ret tree s) e
noncomputable def blockK (id:Nat) (e:Ex) (tree:PT AVal) (s:St) (K:Z71):Bool :=
  @Ex.rec (fun _ => Bool) (K .normal tree s) (fun i => ifK (Nat.beq i id) (K .normal tree s) (K (.exit i) tree s)) (K .ret tree s) e
noncomputable def Zjn (c:Option Code) (tree:PT AVal) (s:St) (K:Z71):Bool :=
  @Option.rec Code (fun _ => Bool) (K .normal tree s) (fun c => match c with
    | .exit id => K (.exit id) tree s
    | .ret => K .ret tree s
    | _ => fail 51) c
noncomputable def Zal (γ:RO→Option AVal) (l:List RO):(List AVal→Bool)→Bool :=
  @List.rec RO (fun _ => (List AVal→Bool)→Bool) (fun K => K []) (fun x _ ih K => optK (γ x) fun v => ih fun r => K (v :: r)) l
noncomputable def Z94 (γ:RO→Option AVal) (l:List (Nat × Nat × RO)):List AVal→(List AVal→Bool)→Bool :=
  @List.rec (Nat × Nat × RO) (fun _ => List AVal→(List AVal→Bool)→Bool) (fun cs K => K cs)
    (fun x _ ih cs K => optK (γ x.2.2) fun v => Z6j v (v.Z28 fun vs => lenK vs 0 fun n => ifK (Nat.beq n x.2.1) (Z3l vs cs x.1 fun cs => ih cs K) (fail 29))) l
def Z8g (es:Nat):List (Nat × RO)→List (Nat × Nat × RO)
  | [] => []
  | (i,x) :: r => (i * es,es,x) :: Z8g es r
def Z4m (e:EK):EK→Bool
  | .bool => match e with | .bool => true | _ => false
  | .ptr => match e with | .ptr => true | _ => false
  | .slc => match e with | .slc => true | _ => false
  | .map => match e with | .map => true | _ => false
  | .func => match e with | .func => true | _ => false
  | .agg => match e with | .agg => true | _ => false
  | .other => false
noncomputable def Z8q (k:EK) (op:BinOp) (x y:AVal) (s:St) (K:VK):Bool :=
  Z52 x
    (fun a => ifK (Z4m k .ptr) (Z52 y (fun b => Z3p a b fun e => Z3g op e s K) (fun _ => false) (fun _ => false) (fun _ => false)) (fail 11))
    (fun a => ifK (Z4m k .slc) (Z52 y (fun _ => false) (fun b => Z3p a b fun e => Z3g op e s K) (fun _ => false) (fun _ => false)) (fail 11))
    (fun a => ifK (Z4m k .map) (Z52 y (fun _ => false) (fun _ => false) (fun b => Z3p a b fun e => Z3g op e s K) (fun _ => false)) (fail 11))
    (fun a => ifK (Z4m k .func) (Z52 y (fun _ => false) (fun _ => false) (fun _ => false) (fun b => Z3p a b fun e => Z3g op e s K)) (fail 11))
noncomputable def Zu1 (sh:Option (List SK)) (op:BinOp) (x:List AVal) (y:AVal) (s:St) (K:VK):Bool :=
  optK sh fun ks => y.aggK fun y => lenK ks 0 fun n => lenK x 0 fun a => lenK y 0 fun b => ifK (Nat.beq a n) (ifK (Nat.beq b n) (Z0u ks x y fun e => Z3g op e s K) (fail 55)) (fail 55)
noncomputable def Zrg (op:BinOp) (k:EK) (sh:Option (List SK)) (x y:Option AVal) (s:St) (K:VK):Bool :=
  optK x fun x => optK y fun y =>
    @AVal.rec (fun _ => Bool) (fun _ => Bool)
      (fun a => y.Z72 fun b => ifK (Z4m k .bool) (Z3g op (Z5f a b) s K) (fail 12))
      (fun j a => y.intK fun i b => ifK (Zbh op) (Z6r op j a b s K) (ifK (Nat.beq (Z12 j) (Z12 i)) (Z6r op j a b s K) (fail 13)))
      (fun a => y.strK fun b => Zdf op a b s K)
      (fun b o => Z8q k op (.ptr b o) y s K) (Z8q k op .nilPtr y s K) (fun b o n c => Z8q k op (.slice b o n c) y s K) (Z8q k op .nilSlice y s K)
      (fun b => Z8q k op (.map b) y s K) (Z8q k op .nilMap y s K) (fun f a c _ _ => Z8q k op (.fn f a c) y s K) (fun _ => false) (Z8q k op .nilFn y s K)
      (fun _ _ _ => false) false (fun l _ => Zu1 sh op l y s K) (fun _ _ => false) false (fun _ _ _ _ => false) x
noncomputable def mopK (P : Program) (rec : RecT) (o : MOp) (γ : RO → Option AVal) (s : St) (K : VK) : Bool :=
  match o with
  | .move x => Zjj (γ x) s K
  | .pick c a b => Znz (γ c) (γ a) (γ b) s K
  | .alloc z => optK z fun cs => Z4q cs s K
  | .box x => Zrn (γ x) s K
  | .build pl z => optK pl fun pl => optK z fun zs => Z94 γ pl zs fun cs => K (.agg cs) s
  | .buildSlice e z len ps => optK e fun e => optK z fun zs => lenK zs 0 fun zn => ifK (Nat.beq zn e.1)
      (ifK (Nat.ble (Nat.mul len e.1) 16777216) (repK len zs [] fun cs => Z94 γ (Z8g e.1 ps) cs fun cs => Z4w (.cells cs false) s fun b s => K (.slice b 0 len (.lim len)) s) (fail 30)) (fail 30)
  | .mapSet i m k x => optK i fun info => optK (γ m) fun m => optK (γ k) fun i => optK (γ x) fun x =>
      Z1c info.1 info.2.1 i fun key => m.mapK fun b => mapK b s fun es clock => Z25 info.1 info.2.1 key es 0 fun r =>
        @Option.rec (Nat × AVal) (fun _ => Bool)
          (appK es [{ key := i, val := x, born := clock }] fun es => natK (Nat.succ clock) fun c => putK b (.map es c) s fun s => K (.tup []) s)
          (fun p => Z3x x i es p.1 fun es => putK b (.map es clock) s fun s => K (.tup []) s) r
  | .load n a => optK n fun n => optK (γ a) fun a => a.ptrK fun b off => Z28 b s fun cs _ => Z7x n cs off fun v => K v s
  | .store n a x => optK n fun n => optK (γ x) fun v => Z6j v (v.Z28 fun vs => lenK vs 0 fun m => ifK (Nat.beq m n) (optK (γ a) fun a => a.ptrK fun b off => Z5n b off vs s fun s => K (.tup []) s) (fail 2))
  | .nilck x => Zrt (γ x) s K
  | .bin op k sh x y => Zrg op k sh (γ x) (γ y) s K
  | .un op x => opUn op (γ x) s K
  | .conv k x => optK (γ x) fun x => @CK.rec (fun _ => Bool) (fun k => x.intK fun _ n => intV k (Z83 k n) s K) (x.strK fun l => K (.str l) s)
      (x.strK fun l => lenK l 0 fun n => Zae l fun cs => ifK (Nat.ble n Z0j) (Z49 1 cs n s K) (fail 38))
      (srcK 1 x s fun cs _ => Zhy cs fun l => K (.str l) s) (fail 39) k
  | .func f a c => optK f fun f => Zal γ a fun a => Zal γ c fun c => K (.fn f a c) s
  | .makeMap ok => ifK ok (Z4w (.map [] 0) s fun b s => K (.map b) s) (fail 47)
  | .makeSlice e z l c => optK e fun e => optK z fun zs => lenK zs 0 fun zn => ifK (Nat.beq zn e.1)
      (optK (γ l) fun l => optK (γ c) fun c => l.intK fun _ l => c.intK fun _ c => idxK l fun l => idxK c fun c =>
        ifK (Nat.ble l c) (ifK (Nat.ble (Nat.mul c e.2) Z0j) (ifK (Nat.ble c Z0j) (repK c zs [] fun cs => Z4w (.cells cs false) s fun b s => K (.slice b 0 l (.lim c)) s) (fail 27)) (fail 27)) (fail 28)) (fail 28)
  | .slice k e a x lo hi mx => optK (γ x) fun x => Z9m (hi.map γ) (mx.map γ)
      (@TK.rec (fun _ => Bool)
        (x.strK fun l => lenK l 0 fun n => Z2x (lo.map γ) 0 fun a => Z2x (hi.map γ) n fun b => @Option.rec (Option AVal) (fun _ => Bool) (le3K a b n (segK l a (Nat.sub b a) fun l => K (.str l) s)) (fun _ => fail 24) (mx.map γ))
        (optK e fun e =>
          @AVal.rec (fun _ => Bool) (fun _ => Bool) (fun _ => false) (fun _ _ => false) (fun _ => false) (fun _ _ => false) false (fun b off n c => cutK e.1 b off n c (lo.map γ) (hi.map γ) (mx.map γ) s K)
            (Z2x (lo.map γ) 0 fun l => Z2x (hi.map γ) 0 fun h => Z2x (mx.map γ) 0 fun m => ifK (Nat.beq l 0) (ifK (Nat.beq h 0) (ifK (Nat.beq m 0) (K .nilSlice s) (fail 25)) (fail 25)) (fail 25))
            (fun _ => false) false (fun _ _ _ _ _ => false) (fun _ => false) false (fun _ _ _ => false) false (fun _ _ => false) (fun _ _ => false) false (fun _ _ _ _ => false) x)
        (optK a fun e => x.ptrK fun b off => cutK e.2 b off e.1 (.lim e.1) (lo.map γ) (hi.map γ) (mx.map γ) s K)
        (fail 26) (fail 26) k)
  | .fieldAddr o x => optK o fun fo => optK (γ x) fun x => x.ptrK fun b off => natK (Nat.add off fo) fun o => K (.ptr b o) s
  | .field f x => optK f fun f => optK (γ x) fun x => x.aggK fun l => Z7x f.2 l f.1 fun v => K v s
  | .indexAddr k e a x i => optK (γ x) fun x => optK (γ i) fun i => i.intK fun _ i => idxK i fun i =>
      @TK.rec (fun _ => Bool) (fail 15)
        (optK e fun e => x.Zaq fun b off n _ => ifK (Nat.ble (Nat.succ i) n) (natK (Nat.add off (Nat.mul i e.1)) fun o => K (.ptr b o) s) (fail 16))
        (optK a fun e => x.ptrK fun b off => ifK (Nat.ble (Nat.succ i) e.1) (natK (Nat.add off (Nat.mul i e.2)) fun o => K (.ptr b o) s) (fail 17))
        (fail 15) (fail 15) k
  | .index k e x i => optK (γ x) fun x => optK (γ i) fun i => i.intK fun _ i => idxK i fun i =>
      @TK.rec (fun _ => Bool) (x.strK fun l => nthK l i fun c => natK c.toNat fun n => K (.int .u8 (.ofNat n)) s)
        (fail 18)
        (optK e fun e => x.aggK fun l => ifK (Nat.ble (Nat.succ i) e.1) (Z7x e.2.2 l (Nat.mul i e.2.1) fun v => K v s) (fail 19))
        (fail 18) (fail 18) k
  | .lookup i ok m k => optK i fun info => optK (γ m) fun m => optK (γ k) fun i =>
      Z1c info.1 info.2.1 i fun key => m.mapK fun b => mapK b s fun es _ => Z25 info.1 info.2.1 key es 0 fun r =>
        @Option.rec (Nat × AVal) (fun _ => Bool) (ifK ok (K (.tup [info.2.2, .bool false]) s) (K info.2.2 s)) (fun x => ifK ok (K (.tup [x.2, .bool true]) s) (K x.2 s)) r
  | .extract x i => Zfo (γ x) i s K
  | .call f l => optK (γ f) fun fv => Zal γ l fun args => Zin P rec fv args s K
  | .append e x y => optK e fun e => optK (γ x) fun x => optK (γ y) fun y => srcK e.1 y s fun new n =>
      @AVal.rec (fun _ => Bool) (fun _ => Bool) (fun _ => false) (fun _ _ => false) (fun _ => false) (fun _ _ => false) false
        (fun b off len cap => natK (Nat.add len n) fun need =>
          @Cap.rec (fun _ => Bool) (fun c => ifK (Nat.beq n 0) (ifK (Nat.ble len c) (K (.slice b off len (.lim c)) s) (fail 34)) (Z5o e.1 e.2 b off len c need new s K))
            (fun es => ifK (Nat.beq n 0) (K (.slice b off len (.opn es)) s) (ifK (Nat.beq es e.1) (Z9d e.1 e.2 b off len need new s K) (fail 34))) cap)
        (ifK (Nat.beq n 0) (K .nilSlice s) (Z51 n e.2 (Z49 e.1 new n s K)))
        (fun _ => false) false (fun _ _ _ _ _ => false) (fun _ => false) false (fun _ _ _ => false) false (fun _ _ => false) (fun _ _ => false) false (fun _ _ _ _ => false) x
  | .len e x => optK e fun e => optK (γ x) fun x =>
      @TK.rec (fun _ => Bool) (x.strK fun l => lenK l 0 fun n => K (.int .i64 (.ofNat n)) s)
        (@AVal.rec (fun _ => Bool) (fun _ => Bool) (fun _ => false) (fun _ _ => false) (fun _ => false) (fun _ _ => false) false (fun _ _ n _ => K (.int .i64 (.ofNat n)) s) (K (.int .i64 (.ofNat 0)) s)
          (fun _ => false) false (fun _ _ _ _ _ => false) (fun _ => false) false (fun _ _ _ => false) false (fun _ _ => false) (fun _ _ => false) false (fun _ _ _ _ => false) x)
        (natV e.2 s K)
        (@AVal.rec (fun _ => Bool) (fun _ => Bool) (fun _ => false) (fun _ _ => false) (fun _ => false) (fun _ _ => false) false (fun _ _ _ _ => false) false
          (fun b => mapK b s fun es _ => lenK es 0 fun n => K (.int .i64 (.ofNat n)) s) (K (.int .i64 (.ofNat 0)) s)
          (fun _ _ _ _ _ => false) (fun _ => false) false (fun _ _ _ => false) false (fun _ _ => false) (fun _ _ => false) false (fun _ _ _ _ => false) x)
        (fail 35) e.1
  | .copy e x y => optK e fun es => optK (γ x) fun x => optK (γ y) fun y => Zs3 x fun m => Zn8 y fun n =>
      natK (Nat.min n m) fun k => ifK (Nat.beq k 0) (K (.int .i64 (.ofNat 0)) s)
        (srcK es y s fun cs _ => Za6 cs (Nat.mul k es) fun cs => x.Zaq fun b off _ _ => Z5n b off cs s fun s => K (.int .i64 (.ofNat k)) s)
  | .mnmx mx l => Zal γ l fun l => Z88 mx l s K
  | .clear e x => optK e fun e => optK (γ x) fun x => @Option.rec (Nat × List AVal) (fun _ => Bool)
      (x.mapK fun b => mapK b s fun _ c => putK b (.map [] c) s fun s => K (.tup []) s)
      (fun e => @AVal.rec (fun _ => Bool) (fun _ => Bool) (fun _ => false) (fun _ _ => false) (fun _ => false) (fun _ _ => false) false
        (fun b off n _ => ifK (Nat.beq n 0) (K (.tup []) s) (repK n e.2 [] fun vs => Z5n b off vs s fun s => K (.tup []) s)) (K (.tup []) s)
        (fun _ => false) false (fun _ _ _ _ _ => false) (fun _ => false) false (fun _ _ _ => false) false (fun _ _ => false) (fun _ _ => false) false (fun _ _ _ _ => false) x) e
  | .bad => fail 48
noncomputable def Z64 (g:Option (Option (RO × Bool))) (γ:RO→Option AVal) (x y:Bool):Bool :=
  @Option.rec (Option (RO × Bool)) (fun _ => Bool) x
    (fun g => optK g fun g => optK (γ g.1) fun v =>
      @AVal.rec (fun _ => Bool) (fun _ => Bool) (fun b => ifK (Z5f b g.2) x y) (fun _ _ => y) (fun _ => y) (fun _ _ => y) y (fun _ _ _ _ => y) y (fun _ => y) y (fun _ _ _ _ _ => y) (fun _ => y) y
        (fun _ _ _ => y) y (fun _ _ => y) (fun _ _ => y) false (fun _ _ _ _ => false) v) g
noncomputable def Z33 (P:Program) (rec:RecT) (cm:List (Option Pos)) (l:List MItem):List AVal→PT AVal→St→(PT AVal→St→Bool)→Bool :=
  @List.rec MItem (fun _ => List AVal→PT AVal→St→(PT AVal→St→Bool)→Bool)
    (fun locals tree s K => Z3q cm locals tree fun tree => K tree s)
    (fun it _ ih locals tree s K => @MItem.rec (fun _ => Bool)
      (fun g o => Z64 g (fun x => getO tree locals x) (mopK P rec o (fun x => getO tree locals x) s fun v s => ih (v :: locals) tree s K) (ih (.tup [] :: locals) tree s K))
      (fun g o u => Z64 g (fun x => getO tree locals x)
        (mopK P rec o (fun x => getO tree locals x) s fun v _ => optK u fun x => optK (getO tree locals x) fun u => ifK (Z27 8 v u) (ih locals tree s K) (fail 49))
        (ih locals tree s K))
      (@Option.rec AObj (fun _ => Bool) (ih locals tree s K) (fun _ => fail 56) (PT.get s.next s.heap))
      (fun o => ifK (mopK P rec o (fun x => getO tree locals x) s fun _ _ => true) (ih locals tree s K) (fail 57)) it) l
noncomputable def roundK (r:Option Pos) (s:St) (x:Bool):Bool:=@Option.rec Pos (fun _ => Bool) x (fun l => Z7u l s fun _ => x) r
noncomputable def Zui (P:Program) (rec:RecT) (fi:FI) (f:RO) (params:List Tmp) (a b:MCode) (tree:PT AVal) (s:St) (K:Z71):Bool :=
  optK (getO tree [] f) fun fv => roundK fi.round s
    (Z4w (.loop { state:=.ready,pending:=none,fn:=fi.fn,tm:=tree,params:=params,assign:=a,body:=b }) s fun l s =>
      fv.fnK fun f a c => appK [.yld l] c fun r => appK a r fun args => Z6g P rec f args s fun _ s => Z7u l s fun L => ifK (Zd3 L.state) (fail 52)
        (putK l (.loop { L with state:=.exhausted }) s fun s => Zjn L.pending tree s K))
noncomputable def Zmm (P:Program) (rec:RecT) (c:MCode) (fi:FI) (tree:PT AVal) (s:St) (K:Z71):Bool :=
  match c with
  | .skip => K .normal tree s
  | .region l cm => Z33 P rec cm l [] tree s fun tree s => K .normal tree s
  | .seq a b => rec a fi tree s fun e tree s => thenK e tree s (rec b fi tree s K) K
  | .cond c a b => optK (getO tree [] c) fun v => v.Z72 fun t => ifK t (rec a fi tree s K) (rec b fi tree s K)
  | .block id c => rec c fi tree s fun e tree s => blockK id e tree s K
  | .loop c => rec c fi tree s fun e tree s => thenK e tree s (rec (.loop c) fi tree s K) K
  | .range f ps a b => Zui P rec fi f ps a b tree s K
  | .scope c => rec c fi tree s K
  | .exit id => K (.exit id) tree s
  | .ret => K .ret tree s
  | .bad => fail 53
noncomputable def exec (P:Program) (n:Nat):RecT:=@Nat.rec (fun _ => RecT) (fun _ _ _ _ _ => false) (fun _ ih => Zmm P ih) n
noncomputable def run (P:Program) (n:Nat) (f:FuncId) (args:List AVal) (s:St) (K:VK):Bool:=Z6g P (exec P n) f args s K
end Go.AM
end
section
namespace Go.AM
variable [Orc]
section
variable {P:Program} {rec:RecT} {prev:List (Option Tmp)} {γ:RO→Option AVal} {s:St} {K:VK}
theorem Zam:∀ (l:List Operand) (k:List AVal→Bool),Zal γ (l.map (Z07 prev)) k = Z4c (fun x => γ (Z07 prev x)) l k
  | [],k => rfl
  | x :: l,k => by
    show (optK (γ (Z07 prev x)) fun v => Zal γ (l.map (Z07 prev)) fun r => k (v :: r)) = optK (γ (Z07 prev x)) fun v => Z4c _ l fun r => k (v :: r)
    congr 1
    funext v
    exact Zam l _
theorem Zfe:∀ (l:List (Nat × Nat × Operand)) (cs:List AVal) (k:List AVal→Bool),Z94 γ (Zak prev l) cs k = Z3t (fun x => γ (Z07 prev x)) l cs k
  | [],cs,k => rfl
  | x :: l,cs,k => by
    show (optK (γ (Z07 prev x.2.2)) fun v => Z6j v (v.Z28 fun vs => lenK vs 0 fun m => ifK (Nat.beq m x.2.1) (Z3l vs cs x.1 fun cs => Z94 γ (Zak prev l) cs k) (fail 29))) =
      (optK (γ (Z07 prev x.2.2)) fun v => Z6j v (v.Z28 fun vs => lenK vs 0 fun m => ifK (Nat.beq m x.2.1) (Z3l vs cs x.1 fun cs => Z3t (fun x => γ (Z07 prev x)) l cs k) (fail 29)))
    have:(fun cs => Z94 γ (Zak prev l) cs k) = (fun cs => Z3t (fun x => γ (Z07 prev x)) l cs k):=funext fun cs => Zfe l cs k
    rw [this]
theorem Zh7 {es:Nat}:∀ (l:List (Nat × Operand)),Z8g es (l.map fun x => (x.1,Z07 prev x.2)) = Zak prev (Z4v es l)
  | [] => rfl
  | (i,x) :: l => by
    show (i * es,es,Z07 prev x) :: Z8g es (l.map fun x => (x.1,Z07 prev x.2)) = (i * es,es,Z07 prev x) :: Zak prev (Z4v es l)
    rw [Zh7 l]
theorem Zz8 (x:Option Operand):(x.map (Z07 prev)).map γ = x.map fun x => γ (Z07 prev x):=by cases x <;> rfl
theorem Zno (o:Op):mopK P rec (mop P prev o) γ s K = opK P rec o (fun x => γ (Z07 prev x)) s K:=by
  cases o with
  | build t ps =>
    show (optK ((Z69 P t ps).map (Zak prev)) fun pl => optK (zeroCells P t) fun zs => Z94 γ pl zs fun cs => K (.agg cs) s) = optK (Z69 P t ps) fun pl => optK (zeroCells P t) fun zs => Z3t _ pl zs fun cs => K (.agg cs) s
    cases Z69 P t ps with
    | none => rfl
    | some pl =>
      show (optK (zeroCells P t) fun zs => Z94 γ (Zak prev pl) zs fun cs => K (.agg cs) s) = optK (zeroCells P t) fun zs => Z3t _ pl zs fun cs => K (.agg cs) s
      simp only [Zfe]
  | buildSlice t n ps =>
    simp only [mop,mopK,opK,Z50,Zh7,Zfe]
  | makeFunc f a c => simp only [mop,mopK,opK,Zam]
  | makeMap t r =>
    show ifK (r.isNone && isEK P t .map) _ _ = ifK r.isNone _ _
    cases r with
    | none => cases h:isEK P t .map <;> rfl
    | some r => rfl
  | slice t x lo hi mx =>
    simp only [mop,mopK,opK,Zbi,Zz8]
  | call c =>
    obtain ⟨callee,args,ats⟩:=c
    cases callee with
    | value f => simp only [mop,Zcc,mopK,opK,Z3u,Zam]
    | invoke r n => rfl
    | builtin b =>
      cases b with
      | append =>
        simp only [mop,Zcc,opK,Z3u]
        split <;> rfl
      | len =>
        simp only [mop,Zcc,opK,Z3u]
        split <;> rfl
      | copy =>
        simp only [mop,Zcc,opK,Z3u]
        split <;> rfl
      | min => simp only [mop,Zcc,mopK,opK,Z3u,Zam]
      | max => simp only [mop,Zcc,mopK,opK,Z3u,Zam]
      | clear =>
        simp only [mop,Zcc,opK,Z3u]
        split <;> rfl
      | _ => rfl
  | _ => rfl
theorem Zll {all:Array Oper} {o:Oper} {x y:Bool}:Z64 (Zd4 all prev o) γ x y = Z26 all o (fun x => γ (Z07 prev x)) x y:=by
  unfold Zd4 Z26 Z64
  cases o.guard with
  | none => rfl
  | some g =>
    show (optK ((Z4z all o).map fun g => (Z07 prev (.tmp g.1),g.2)) _) = optK (Z4z all o) _
    cases Z4z all o <;> rfl
end
theorem Z8r {P : Program} {rec : RecT} {fi : FI} {all : Array Oper} : ∀ (l : List DItem) (prev : List (Option Tmp)) (locals : List AVal) (tree : PT AVal) (s : St) (k : PT AVal → St → Bool),
    Z33 P rec (Z2z P fi.ps all l prev).2 (Z2z P fi.ps all l prev).1 locals tree s k = Z1r P rec fi all l prev locals tree s k
  | [], prev, locals, tree, s, k => rfl
  | .run o :: r, prev, locals, tree, s, k => by
    show Z64 (Zd4 all prev o) (fun x => getO tree locals x) (mopK P rec (mop P prev o.op) (fun x => getO tree locals x) s fun v s => Z33 P rec (Z2z P fi.ps all r (o.dst :: prev)).2 (Z2z P fi.ps all r (o.dst :: prev)).1 (v :: locals) tree s k)
        (Z33 P rec (Z2z P fi.ps all r (o.dst :: prev)).2 (Z2z P fi.ps all r (o.dst :: prev)).1 (.tup [] :: locals) tree s k) =
      Z26 all o (fun x => getO tree locals (Z07 prev x)) (opK P rec o.op (fun x => getO tree locals (Z07 prev x)) s fun v s => Z1r P rec fi all r (o.dst :: prev) (v :: locals) tree s k)
        (Z1r P rec fi all r (o.dst :: prev) (.tup [] :: locals) tree s k)
    rw [Zll, Zno, Z8r r]
    simp only [Z8r r]
  | .chk o :: r, prev, locals, tree, s, k => by
    show Z64 (Zd4 all prev o) (fun x => getO tree locals x)
        (mopK P rec (mop P prev o.op) (fun x => getO tree locals x) s fun v _ => optK (o.dst.map fun d => Z07 prev (.tmp d)) fun x => optK (getO tree locals x) fun u => ifK (Z27 8 v u) (Z33 P rec (Z2z P fi.ps all r prev).2 (Z2z P fi.ps all r prev).1 locals tree s k) (fail 49))
        (Z33 P rec (Z2z P fi.ps all r prev).2 (Z2z P fi.ps all r prev).1 locals tree s k) =
      Z26 all o (fun x => getO tree locals (Z07 prev x))
        (opK P rec o.op (fun x => getO tree locals (Z07 prev x)) s fun v _ => optK o.dst fun d => optK (getO tree locals (Z07 prev (.tmp d))) fun u => ifK (Z27 8 v u) (Z1r P rec fi all r prev locals tree s k) (fail 49))
        (Z1r P rec fi all r prev locals tree s k)
    rw [Zll, Zno, Z8r r]
    cases o.dst <;> rfl
  | .fresh :: r, prev, locals, tree, s, k => by
    show @Option.rec AObj (fun _ => Bool) (Z33 P rec (Z2z P fi.ps all r prev).2 (Z2z P fi.ps all r prev).1 locals tree s k) (fun _ => fail 56) (PT.get s.next s.heap) =
      @Option.rec AObj (fun _ => Bool) (Z1r P rec fi all r prev locals tree s k) (fun _ => fail 56) (PT.get s.next s.heap)
    rw [Z8r r]
  | .peek o :: r, prev, locals, tree, s, k => by
    show ifK (mopK P rec (mop P prev o.op) (fun x => getO tree locals x) s fun _ _ => true) (Z33 P rec (Z2z P fi.ps all r prev).2 (Z2z P fi.ps all r prev).1 locals tree s k) (fail 57) =
      ifK (opK P rec o.op (fun x => getO tree locals (Z07 prev x)) s fun _ _ => true) (Z1r P rec fi all r prev locals tree s k) (fail 57)
    rw [Zno, Z8r r]
theorem Zuj {P:Program} {rec:RecT} {fi:FI} {id:Nat} {ops:Array Oper} {draw:Bool} {tree:PT AVal} {s:St} {K:Z71} (h:Zmm P rec (compile P fi.ps fi.ntmps (.region id ops draw)) fi tree s K = true) :
    Zgk P rec fi ops draw tree s (fun tree s => K .normal tree s) = true:=by
  unfold compile at h
  unfold Zgk
  cases hl:Zga P ops draw with
  | none => rw [hl] at h; cases h
  | some l =>
    rw [hl] at h
    show ifK (Zf0 fi.ntmps ops) _ _ = true
    cases hd:Zf0 fi.ntmps ops with
    | false => simp only [hd] at h; cases h
    | true =>
      simp only [hd,if_true] at h
      have h:Z33 P rec (Z2z P fi.ps ops l []).2 (Z2z P fi.ps ops l []).1 [] tree s (fun tree s => K .normal tree s) = true:=h
      rw [Z8r] at h
      exact h
end Go.AM
end
section
namespace Go.AM
theorem Pos.toNat_pos (p:Pos):0 < p.toNat:=by
  induction p <;> simp [Pos.toNat] <;> omega
theorem Pos.toNat_inj:∀ {p q:Pos},p.toNat = q.toNat→p = q
  | .h,.h,_ => rfl
  | .h,.o q,e => by simp [Pos.toNat] at e; omega
  | .h,.i q,e => by have:=q.toNat_pos; simp [Pos.toNat] at e; omega
  | .o p,.h,e => by simp [Pos.toNat] at e; omega
  | .o p,.o q,e => by simp [Pos.toNat] at e; exact congrArg Pos.o (Pos.toNat_inj (by omega))
  | .o p,.i q,e => by simp [Pos.toNat] at e; omega
  | .i p,.h,e => by have:=p.toNat_pos; simp [Pos.toNat] at e; omega
  | .i p,.o q,e => by simp [Pos.toNat] at e; omega
  | .i p,.i q,e => by simp [Pos.toNat] at e; exact congrArg Pos.i (Pos.toNat_inj (by omega))
theorem Pos.Z9a (p:Pos):p.succ.toNat = p.toNat + 1:=by
  induction p <;> simp [Pos.succ,Pos.toNat] <;> omega
theorem Zwk (p:Pos):∀ K,succK p K = K p.succ:=by
  induction p with
  | h => intro K; rfl
  | o p _ => intro K; rfl
  | i p ih => intro K; exact ih _
theorem Ze7:∀ f m,1 ≤ m→m ≤ f→(posF f m).toNat = m
  | 0,m,h1,h2 => by omega
  | f + 1,m,h1,h2 => by
    unfold posF
    split
    · simp [Pos.toNat]; omega
    · split
      · simp only [Pos.toNat]; rw [Ze7 f (m / 2) (by omega) (by omega)]; omega
      · simp only [Pos.toNat]; rw [Ze7 f (m / 2) (by omega) (by omega)]; omega
theorem Z6x (n:Nat):(posOf n).toNat = n + 1:=Ze7 _ _ (by omega) (by omega)
theorem Zap {m n:Nat} (h:posOf m = posOf n):m = n:=by
  have:=congrArg Pos.toNat h
  rw [Z6x,Z6x] at this
  omega
theorem PT.Z7b {α:Type} (k:Pos):PT.get k (.leaf:PT α) = none:=by cases k <;> rfl
theorem PT.Zbk {α:Type} (k:Pos) (x:α):∀ (t:PT α) K,PT.setK k x t K = K (PT.set k x t):=by
  induction k with
  | h => intro t K; cases t <;> rfl
  | o k ih => intro t K; cases t with
    | leaf => exact ih .leaf _
    | node l v r => exact ih l _
  | i k ih => intro t K; cases t with
    | leaf => exact ih .leaf _
    | node l v r => exact ih r _
theorem PT.Z1h {α:Type} (k:Pos) (x:α):∀ t:PT α,PT.get k (PT.set k x t) = some x:=by
  induction k with
  | h => intro t; cases t <;> rfl
  | o k ih => intro t; cases t with
    | leaf => exact ih .leaf
    | node l v r => exact ih l
  | i k ih => intro t; cases t with
    | leaf => exact ih .leaf
    | node l v r => exact ih r
theorem PT.Z0w {α:Type} (k:Pos) (x:α):∀ (j:Pos) (t:PT α),j ≠ k→PT.get j (PT.set k x t) = PT.get j t:=by
  induction k with
  | h => intro j t hj; cases j with
    | h => exact absurd rfl hj
    | o j => cases t <;> first | rfl | exact PT.Z7b j
    | i j => cases t <;> first | rfl | exact PT.Z7b j
  | o k ih => intro j t hj; cases j with
    | h => cases t <;> rfl
    | o j => cases t with
      | leaf => exact (ih j .leaf (fun e => hj (e ▸ rfl))).trans (PT.Z7b j)
      | node l v r => exact ih j l (fun e => hj (e ▸ rfl))
    | i j => cases t <;> first | rfl | exact PT.Z7b j
  | i k ih => intro j t hj; cases j with
    | h => cases t <;> rfl
    | o j => cases t <;> first | rfl | exact PT.Z7b j
    | i j => cases t with
      | leaf => exact (ih j .leaf (fun e => hj (e ▸ rfl))).trans (PT.Z7b j)
      | node l v r => exact ih j r (fun e => hj (e ▸ rfl))
structure Place where
  blk:Nat
  off:Nat
  size:Nat
  ro:Bool
abbrev Ren:=Pos→Option Place
mutual
inductive VRel (ι : Ren) : AVal → Value → Prop where
  | bool (b : Bool) : VRel ι (.bool b) (.bool b)
  | int (k : IntKind) (n : Int) : VRel ι (.int k n) (.int k n)
  | str (l : List UInt8) : VRel ι (.str l) (.string ⟨l.toArray⟩)
  | ptr {b : Pos} {p : Place} {off : Nat} (h : ι b = some p) : VRel ι (.ptr b off) (.pointer (some ⟨p.blk, p.off + off, none⟩))
  | nilPtr : VRel ι .nilPtr (.pointer none)
  | slice {b : Pos} {p : Place} {off len c : Nat} (h : ι b = some p) : VRel ι (.slice b off len (.lim c)) (.slice (some ⟨p.blk, p.off + off, none⟩) len c)
  | opn {b : Pos} {p : Place} {off len c o es : Nat} (h : ι b = some p) (he : 0 < es) (hc : len ≤ c) (hb : c = 0 ∨ o + c * es = p.size) (ha : 0 < len → o = p.off + off) :
      VRel ι (.slice b off len (.opn es)) (.slice (some ⟨p.blk, o, none⟩) len c)
  | empty {b : Pos} {off : Nat} {a : Addr} : VRel ι (.slice b off 0 (.lim 0)) (.slice (some a) 0 0)
  | nilSlice : VRel ι .nilSlice (.slice none 0 0)
  | map {b : Pos} {p : Place} (h : ι b = some p) : VRel ι (.map b) (.map (some p.blk))
  | nilMap : VRel ι .nilMap (.map none)
  | fn {f : Nat} {a c : List AVal} {a' c' : Array Value} (ha : VRels ι a a'.toList) (hc : VRels ι c c'.toList) : VRel ι (.fn f a c) (.func (.func f) a' c')
  | yld {l : Pos} {p : Place} (h : ι l = some p) : VRel ι (.yld l) (.func (.yield p.blk) #[] #[])
  | nilFn : VRel ι .nilFn .nilFunc
  | iface {t : Nat} {v : AVal} {v' : Value} (h : VRel ι v v') : VRel ι (.iface t v) (.iface t v')
  | nilIface : VRel ι .nilIface .nilIface
  | agg {l : List AVal} {c : Array Value} (h : VRels ι l c.toList) (hs : ∀ x ∈ l, x.scalar = true) : VRel ι (.agg l) (.agg c)
  | tup {l : List AVal} {c : Array Value} (h : VRels ι l c.toList) : VRel ι (.tup l) (.tuple c)
inductive VRels (ι:Ren):List AVal→List Value→Prop where
  | nil:VRels ι [] []
  | cons {a:AVal} {v:Value} {l:List AVal} {m:List Value} (h:VRel ι a v) (t:VRels ι l m):VRels ι (a :: l) (v :: m)
end
def Ren.le (ι ι':Ren):Prop:=∀ b p,ι b = some p→ι' b = some p
theorem Ren.le_refl (ι:Ren):Ren.le ι ι:=fun _ _ h => h
theorem Ren.le_trans {ι ι' ι'':Ren} (h:Ren.le ι ι') (h':Ren.le ι' ι''):Ren.le ι ι'':=fun b p e => h' b p (h b p e)
mutual
theorem VRel.mono {ι ι':Ren} (hl:Ren.le ι ι') {a:AVal} {v:Value} (h:VRel ι a v):VRel ι' a v:=by
  cases h with
  | bool b => exact .bool b
  | int k n => exact .int k n
  | str l => exact .str l
  | ptr h => exact .ptr (hl _ _ h)
  | nilPtr => exact .nilPtr
  | slice h => exact .slice (hl _ _ h)
  | opn h he hc hb ha => exact .opn (hl _ _ h) he hc hb ha
  | nilSlice => exact .nilSlice
  | empty => exact .empty
  | map h => exact .map (hl _ _ h)
  | nilMap => exact .nilMap
  | fn ha hc => exact .fn (VRels.mono hl ha) (VRels.mono hl hc)
  | yld h => exact .yld (hl _ _ h)
  | nilFn => exact .nilFn
  | iface h => exact .iface (VRel.mono hl h)
  | nilIface => exact .nilIface
  | agg h hs => exact .agg (VRels.mono hl h) hs
  | tup h => exact .tup (VRels.mono hl h)
theorem VRels.mono {ι ι':Ren} (hl:Ren.le ι ι') {l:List AVal} {m:List Value} (h:VRels ι l m):VRels ι' l m:=by
  cases h with
  | nil => exact .nil
  | cons h t => exact .cons (VRel.mono hl h) (VRels.mono hl t)
end
theorem VRels.length {ι:Ren} {l:List AVal} {m:List Value} (h:VRels ι l m):l.length = m.length:=by
  induction l generalizing m with
  | nil => cases h; rfl
  | cons a l ih => cases h with | cons h t => simp [ih t]
theorem VRels.get {ι:Ren}:∀ {l:List AVal} {m:List Value},VRels ι l m→∀ {i:Nat} {a:AVal},l[i]? = some a→∃ v,m[i]? = some v∧VRel ι a v
  | _,_,.cons h t,0,a,e => by simp at e; exact ⟨_,rfl,e ▸ h⟩
  | _,_,.cons h t,i + 1,a,e => by simp at e; obtain ⟨v,hv,hr⟩:=VRels.get t e; exact ⟨v,by simpa using hv,hr⟩
theorem VRels.Znp {ι:Ren}:∀ {l:List AVal} {m:List Value},l.length = m.length→(∀ (i:Nat) (a:AVal),l[i]? = some a→∃ v,m[i]? = some v∧VRel ι a v)→VRels ι l m
  | [],[],_,_ => .nil
  | a :: l,v :: m,hl,h => by
    obtain ⟨w,hw,hr⟩:=h 0 a rfl
    simp at hw
    refine .cons (hw ▸ hr) (VRels.Znp (by simpa using hl) fun i b e => ?_)
    obtain ⟨u,hu,hr'⟩:=h (i + 1) b (by simpa using e)
    exact ⟨u,by simpa using hu,hr'⟩
theorem VRels.append {ι:Ren} {l l':List AVal} {m m':List Value} (h:VRels ι l m) (h':VRels ι l' m'):VRels ι (l ++ l') (m ++ m'):=by
  induction l generalizing m with
  | nil => cases h; exact h'
  | cons a l ih => cases h with | cons h t => exact .cons h (ih t)
theorem VRels.drop {ι:Ren} {l:List AVal} {m:List Value} (h:VRels ι l m) (n:Nat):VRels ι (l.drop n) (m.drop n):=by
  induction n generalizing l m with
  | zero => simpa using h
  | succ n ih => cases h with
    | nil => simpa using VRels.nil
    | cons h t => simpa using ih t
theorem VRels.take {ι:Ren} {l:List AVal} {m:List Value} (h:VRels ι l m) (n:Nat):VRels ι (l.take n) (m.take n):=by
  induction n generalizing l m with
  | zero => simpa using VRels.nil
  | succ n ih => cases h with
    | nil => simpa using VRels.nil
    | cons h t => simpa using VRels.cons h (ih t)
theorem VRel.Zgj {ι:Ren} {a:AVal} {v:Value} (h:VRel ι a v) (hs:a.scalar = true):v.oneCell' = true:=by
  cases h <;> simp [AVal.scalar] at hs <;> rfl
theorem VRels.Zgj {ι:Ren} {l:List AVal} {m:List Value} (h:VRels ι l m) (hs:∀ x ∈ l,x.scalar = true):∀ v ∈ m,v.oneCell' = true:=by
  induction l generalizing m with
  | nil => cases h; simp
  | cons a l ih => cases h with
    | cons h t =>
      intro v hv
      rcases List.mem_cons.1 hv with rfl | hv
      · exact h.Zgj (hs _ (by simp))
      · exact ih t (fun x hx => hs x (by simp [hx])) v hv
theorem VRel.cells {ι:Ren} {a:AVal} {v:Value} (h:VRel ι a v):VRels ι a.cells v.cells.toList:=by
  cases h with
  | agg h hs => exact h
  | bool b => exact .cons (.bool b) .nil
  | int k n => exact .cons (.int k n) .nil
  | str l => exact .cons (.str l) .nil
  | ptr h => exact .cons (.ptr h) .nil
  | nilPtr => exact .cons .nilPtr .nil
  | slice h => exact .cons (.slice h) .nil
  | opn h he hc hb ha => exact .cons (.opn h he hc hb ha) .nil
  | nilSlice => exact .cons .nilSlice .nil
  | empty => exact .cons .empty .nil
  | map h => exact .cons (.map h) .nil
  | nilMap => exact .cons .nilMap .nil
  | fn ha hc => exact .cons (.fn ha hc) .nil
  | yld h => exact .cons (.yld h) .nil
  | nilFn => exact .cons .nilFn .nil
  | iface h => exact .cons (.iface h) .nil
  | nilIface => exact .cons .nilIface .nil
  | tup h => exact .cons (.tup h) .nil
def Z8j (ι:Ren) (cs:List AVal) (off:Nat) (c:Array Value):Prop:=∀ (i:Nat) (a:AVal),cs[i]? = some a→∃ v,c[off + i]? = some v∧VRel ι a v
inductive ERel (ι:Ren):MapE→MapEntry→Prop where
  | mk {e:MapE} {e':MapEntry} (hk:VRel ι e.key e'.key) (hv:VRel ι e.val e'.val) (hb:e.born = e'.born):ERel ι e e'
structure TRel (ι:Ren) (n:Nat) (ps:List Tmp) (tm:PT AVal) (tmps:Array Value):Prop where
  size:n ≤ tmps.size
  get:∀ t a,PT.get (posOf t) tm = some a→t ∈ ps∧∃ v,tmps[t]? = some v∧VRel ι a v
structure LRel (P:Program) (ι:Ren) (l:LoopR) (L:Loop):Prop where
  state:L.state = l.state
  pending:L.pending = l.pending
  params:L.params = l.params.toArray
  tm:∃ fi,funInfo P l.fn = some fi∧TRel ι fi.ntmps fi.ps l.tm L.tmps∧l.assign = compile P fi.ps fi.ntmps L.assign∧l.body = compile P fi.ps fi.ntmps L.body
inductive ORel (P : Program) (ι : Ren) (w : World) (p : Place) : AObj → Prop where
  | cells {cs : List AVal} {c : Array Value} {t : TypeId} {fr : Nat × Nat} (h : w.heap[p.blk]? = some (.cells c t fr)) (hs : c.size = p.size) (hl : p.off + cs.length ≤ c.size)
      (hc : Z8j ι cs p.off c) (hn : ∀ x ∈ cs, x.scalar = true) (hf : p.ro = false → ∀ i, i < c.size → ¬ (fr.1 ≤ i ∧ i < fr.2)) : ORel P ι w p (.cells cs p.ro)
  | map {es : List MapE} {es' : Array MapEntry} {clock : Nat} (h : w.heap[p.blk]? = some (.map es' clock)) (hl : es.length = es'.size) (he : ∀ (i : Nat) (e : MapE), es[i]? = some e → ∃ e', es'[i]? = some e' ∧ ERel ι e e')
      (hr : p.ro = false) : ORel P ι w p (.map es clock)
  | loop {l : LoopR} {L : Loop} (h : w.heap[p.blk]? = some (.loop L)) (hL : LRel P ι l L) (hr : p.ro = false) : ORel P ι w p (.loop l)
  | dead : ORel P ι w p .dead
def AObj.live:AObj→Bool
  | .dead => false
  | _ => true
structure WRel (P:Program) (ι:Ren) (s:St) (w:World):Prop where
  objs:∀ b p,ι b = some p→∃ o,PT.get b s.heap = some o∧ORel P ι w p o
  apart:∀ b b' p p' o o',ι b = some p→ι b' = some p'→PT.get b s.heap = some o→PT.get b' s.heap = some o'→o.live = true→o'.live = true→p.blk = p'.blk→b = b' ∨ (p.ro = true∧p'.ro = true)
  fresh:∀ b p,ι b = some p→b.toNat < s.next.toNat
  bound:∀ b p,ι b = some p→p.blk < w.heap.size
structure Ext (ι:Ren) (w:World) (ι':Ren) (w':World):Prop where
  le:Ren.le ι ι'
  size:w.heap.size ≤ w'.heap.size
  new:∀ b p,ι' b = some p→ι b = some p ∨ w.heap.size ≤ p.blk ∨ (p.ro = false∧∃ b0 p0,ι b0 = some p0∧p0.ro = false∧p0.blk = p.blk)
  keep:∀ i,i < w.heap.size→(∀ b p,ι b = some p→p.ro = false→p.blk ≠ i)→w'.heap[i]? = w.heap[i]?
  os:w'.os = w.os
  out:w'.output = w.output
theorem Ext.refl (ι:Ren) (w:World):Ext ι w ι w:=⟨Ren.le_refl ι,Nat.le_refl _,fun _ _ h => .inl h,fun _ _ _ => rfl,rfl,rfl⟩
theorem Ext.trans {ι ι' ι'':Ren} {w w' w'':World} (h:Ext ι w ι' w') (h':Ext ι' w' ι'' w''):Ext ι w ι'' w'' where
  le:=Ren.le_trans h.le h'.le
  size:=Nat.le_trans h.size h'.size
  new:=by
    intro b p e
    rcases h'.new b p e with e' | e' | ⟨hr,b0,p0,e0,hr0,hb0⟩
    · exact h.new b p e'
    · exact .inr (.inl (Nat.le_trans h.size e'))
    · rcases h.new b0 p0 e0 with e1 | e1 | ⟨_,b1,p1,e1,hr1,hb1⟩
      · exact .inr (.inr ⟨hr,b0,p0,e1,hr0,hb0⟩)
      · exact .inr (.inl (hb0 ▸ e1))
      · exact .inr (.inr ⟨hr,b1,p1,e1,hr1,hb1.trans hb0⟩)
  keep:=by
    intro i hi hn
    rw [h'.keep i (Nat.lt_of_lt_of_le hi h.size) ?_,h.keep i hi hn]
    intro b p e hr
    rcases h.new b p e with e' | e' | ⟨_,b0,p0,e0,hr0,hb0⟩
    · exact hn b p e' hr
    · omega
    · exact hb0 ▸ hn b0 p0 e0 hr0
  os:=h'.os.trans h.os
  out:=h'.out.trans h.out
theorem Ext.drawn (ι:Ren) (w:World) (n:Nat):Ext ι w ι { w with drawn:=n }:=⟨Ren.le_refl ι,Nat.le_refl _,fun _ _ h => .inl h,fun _ _ _ => rfl,rfl,rfl⟩
theorem Z8j.mono {ι ι':Ren} (hl:Ren.le ι ι') {cs:List AVal} {off:Nat} {c:Array Value} (h:Z8j ι cs off c):Z8j ι' cs off c :=
  fun i a e => let ⟨v,hv,hr⟩:=h i a e; ⟨v,hv,hr.mono hl⟩
theorem TRel.mono {ι ι':Ren} (hl:Ren.le ι ι') {n:Nat} {ps:List Tmp} {tm:PT AVal} {tmps:Array Value} (h:TRel ι n ps tm tmps):TRel ι' n ps tm tmps :=
  ⟨h.size,fun t a e => let ⟨hm,v,hv,hr⟩:=h.get t a e; ⟨hm,v,hv,hr.mono hl⟩⟩
theorem LRel.mono {P:Program} {ι ι':Ren} (hl:Ren.le ι ι') {l:LoopR} {L:Loop} (h:LRel P ι l L):LRel P ι' l L :=
  ⟨h.state,h.pending,h.params,let ⟨fi,hf,ht,ha,hb⟩:=h.tm; ⟨fi,hf,ht.mono hl,ha,hb⟩⟩
theorem ERel.mono {ι ι':Ren} (hl:Ren.le ι ι') {e:MapE} {e':MapEntry} (h:ERel ι e e'):ERel ι' e e':=by
  cases h with | mk hk hv hb => exact .mk (hk.mono hl) (hv.mono hl) hb
theorem ORel.mono {P:Program} {ι ι':Ren} {w w':World} {p:Place} {o:AObj} (hl:Ren.le ι ι') (hw:o.live = true→w'.heap[p.blk]? = w.heap[p.blk]?) (h:ORel P ι w p o):ORel P ι' w' p o:=by
  cases h with
  | cells h hs hlen hc hn hf => exact .cells ((hw rfl).trans h) hs hlen (hc.mono hl) hn hf
  | map h hlen he hr => exact .map ((hw rfl).trans h) hlen (fun i e hi => let ⟨e',h1,h2⟩:=he i e hi; ⟨e',h1,h2.mono hl⟩) hr
  | loop h hL hr => exact .loop ((hw rfl).trans h) (hL.mono hl) hr
  | dead => exact .dead
theorem WRel.drawn {P:Program} {ι:Ren} {s:St} {w:World} (h:WRel P ι s w) (n:Nat):WRel P ι s { w with drawn:=n } :=
  ⟨fun b p e => let ⟨o,ho,hr⟩:=h.objs b p e; ⟨o,ho,ORel.mono (w:=w) (w':={ w with drawn:=n }) (Ren.le_refl ι) (fun _ => rfl) hr⟩,h.apart,h.fresh,h.bound⟩
end Go.AM
end
section
namespace Go.AM
theorem Z1v (x:AObj) (s:St) (K:Pos→St→Bool):Z4w x s K = K s.next { heap:=PT.set s.next x s.heap,next:=s.next.succ }:=by
  simp only [Z4w,PT.Zbk,Zwk]
theorem Z23 (b:Pos) (x:AObj) (s:St) (K:St→Bool):putK b x s K = K { heap:=PT.set b x s.heap,next:=s.next }:=by
  simp only [putK,PT.Zbk]
theorem Z1e {b:Pos} {s:St} {K:List AVal→Bool→Bool}:Z28 b s K = true ↔ ∃ cs ro,PT.get b s.heap = some (.cells cs ro)∧K cs ro = true:=by
  unfold Z28
  rw [Z01]
  constructor
  · rintro ⟨o,h,hk⟩; cases o <;> simp at hk; exact ⟨_,_,h,hk⟩
  · rintro ⟨cs,ro,h,hk⟩; exact ⟨_,h,hk⟩
theorem Z46 {b:Pos} {s:St} {K:List MapE→Nat→Bool}:mapK b s K = true ↔ ∃ es c,PT.get b s.heap = some (.map es c)∧K es c = true:=by
  unfold mapK
  rw [Z01]
  constructor
  · rintro ⟨o,h,hk⟩; cases o <;> simp at hk; exact ⟨_,_,h,hk⟩
  · rintro ⟨cs,ro,h,hk⟩; exact ⟨_,h,hk⟩
theorem Z38 {b:Pos} {s:St} {K:LoopR→Bool}:Z7u b s K = true ↔ ∃ l,PT.get b s.heap = some (.loop l)∧K l = true:=by
  unfold Z7u
  rw [Z01]
  constructor
  · rintro ⟨o,h,hk⟩; cases o <;> simp at hk; exact ⟨_,h,hk⟩
  · rintro ⟨l,h,hk⟩; exact ⟨_,h,hk⟩
def Ren.set (ι:Ren) (b:Pos) (p:Place):Ren:=fun x => if x.toNat = b.toNat then some p else ι x
theorem Ren.Z3m (ι:Ren) (b:Pos) (p:Place):Ren.set ι b p b = some p:=by simp [Ren.set]
theorem Ren.Zjr {ι:Ren} {b x:Pos} {p:Place} (h:x ≠ b):Ren.set ι b p x = ι x:=by
  unfold Ren.set
  rw [if_neg fun e => h (Pos.toNat_inj e)]
theorem Ren.Z1d {ι:Ren} {b x:Pos} {p q:Place} (h:Ren.set ι b p x = some q):(x = b∧q = p) ∨ (x ≠ b∧ι x = some q):=by
  by_cases e:x = b
  · subst e; rw [Ren.Z3m] at h; cases h; exact .inl ⟨rfl,rfl⟩
  · rw [Ren.Zjr e] at h; exact .inr ⟨e,h⟩
theorem Ren.Z63 {ι:Ren} {b:Pos} {p:Place} (h:ι b = none):Ren.le ι (Ren.set ι b p):=by
  intro x q e
  rw [Ren.Zjr ?_]
  · exact e
  · rintro rfl; rw [h] at e; cases e
theorem Z7j {w:World} {o:Obj} {i:Nat} (h:i < w.heap.size):(w.heap.push o)[i]? = w.heap[i]?:=by
  rw [Array.getElem?_push]
  have:i ≠ w.heap.size:=by omega
  simp [this]
theorem Zw3 (w:World) (o:Obj):(w.heap.push o)[w.heap.size]? = some o:=by simp
theorem WRel.Z6c {P:Program} {ι:Ren} {s:St} {w:World} (h:WRel P ι s w):ι s.next = none:=by
  cases e:ι s.next with
  | none => rfl
  | some p => exact absurd (h.fresh _ _ e) (Nat.lt_irrefl _)
theorem WRel.alloc {P:Program} {ι:Ren} {s:St} {w:World} (h:WRel P ι s w) (x:AObj) (o:Obj) (p:Place) (hp:p.blk = w.heap.size) (hr:p.ro = false)
    (hx:ORel P (Ren.set ι s.next p) { w with heap:=w.heap.push o } p x) :
    WRel P (Ren.set ι s.next p) { heap:=PT.set s.next x s.heap,next:=s.next.succ } { w with heap:=w.heap.push o }∧Ext ι w (Ren.set ι s.next p) { w with heap:=w.heap.push o }:=by
  have hn:=h.Z6c
  have hle:Ren.le ι (Ren.set ι s.next p):=Ren.Z63 hn
  refine ⟨⟨?_,?_,?_,?_⟩,⟨hle,by simp,?_,?_,rfl,rfl⟩⟩
  · intro b q e
    rcases Ren.Z1d e with ⟨rfl,rfl⟩ | ⟨hne,e'⟩
    · exact ⟨x,PT.Z1h _ _ _,hx⟩
    · obtain ⟨y,hy,hr'⟩:=h.objs b q e'
      exact ⟨y,by rw [PT.Z0w _ _ _ _ hne]; exact hy,ORel.mono (w:=w) hle (fun _ => Z7j (h.bound b q e')) hr'⟩
  · intro b b' q q' y y' e e' hy hy' hl hl' hblk
    rcases Ren.Z1d e with ⟨rfl,rfl⟩ | ⟨hne,e1⟩ <;> rcases Ren.Z1d e' with ⟨rfl,rfl⟩ | ⟨hne',e1'⟩
    · exact .inl rfl
    · have:=h.bound _ _ e1'; omega
    · have:=h.bound _ _ e1; omega
    · simp only [PT.Z0w _ _ _ _ hne] at hy
      simp only [PT.Z0w _ _ _ _ hne'] at hy'
      exact h.apart b b' q q' y y' e1 e1' hy hy' hl hl' hblk
  · intro b q e
    simp only [Pos.Z9a]
    rcases Ren.Z1d e with ⟨rfl,_⟩ | ⟨_,e'⟩
    · omega
    · have:=h.fresh b q e'; omega
  · intro b q e
    simp only [Array.size_push]
    rcases Ren.Z1d e with ⟨_,rfl⟩ | ⟨_,e'⟩
    · omega
    · have:=h.bound b q e'; omega
  · intro b q e
    rcases Ren.Z1d e with ⟨_,rfl⟩ | ⟨_,e'⟩
    · exact .inr (.inl (by omega))
    · exact .inl e'
  · intro i hi _
    exact Z7j hi
theorem WRel.update {P:Program} {ι:Ren} {s:St} {w w':World} (h:WRel P ι s w) {b:Pos} {p:Place} {y:AObj} (x:AObj) (e:ι b = some p) (hy:PT.get b s.heap = some y) (hly:y.live = true)
    (hr:p.ro = false) (hsz:w'.heap.size = w.heap.size) (hk:∀ i,i ≠ p.blk→w'.heap[i]? = w.heap[i]?) (hos:w'.os = w.os) (hout:w'.output = w.output) (hx:ORel P ι w' p x) :
    WRel P ι { heap:=PT.set b x s.heap,next:=s.next } w'∧Ext ι w ι w':=by
  refine ⟨⟨?_,?_,h.fresh,fun c q e' => hsz ▸ h.bound c q e'⟩,⟨Ren.le_refl ι,by omega,fun _ _ h => .inl h,?_,hos,hout⟩⟩
  · intro c q e'
    by_cases hc:c = b
    · subst hc
      rw [e] at e'; cases e'
      exact ⟨x,PT.Z1h _ _ _,hx⟩
    · obtain ⟨z,hz,hr'⟩:=h.objs c q e'
      refine ⟨z,by rw [PT.Z0w _ _ _ _ hc]; exact hz,ORel.mono (w:=w) (Ren.le_refl ι) (fun hlz => hk _ fun hb => ?_) hr'⟩
      rcases h.apart c b q p z y e' e hz hy hlz hly hb with h1 | ⟨_,h2⟩
      · exact hc h1
      · rw [hr] at h2; cases h2
  · intro c c' q q' z z' e1 e2 hz hz' hl hl' hb
    by_cases hc:c = b <;> by_cases hc':c' = b
    · exact .inl (hc.trans hc'.symm)
    · subst hc
      simp only [PT.Z0w _ _ _ _ hc'] at hz'
      exact h.apart c c' q q' y z' e1 e2 hy hz' hly hl' hb
    · subst hc'
      simp only [PT.Z0w _ _ _ _ hc] at hz
      exact h.apart c c' q q' z y e1 e2 hz hy hl hly hb
    · simp only [PT.Z0w _ _ _ _ hc] at hz
      simp only [PT.Z0w _ _ _ _ hc'] at hz'
      exact h.apart c c' q q' z z' e1 e2 hz hz' hl hl' hb
  · intro i _ hn
    exact hk i fun hb => hn b p e hr hb.symm
theorem WRel.kill {P:Program} {ι:Ren} {s:St} {w:World} (h:WRel P ι s w) (b:Pos):WRel P ι { heap:=PT.set b .dead s.heap,next:=s.next } w:=by
  refine ⟨?_,?_,h.fresh,h.bound⟩
  · intro c q e
    by_cases hc:c = b
    · subst hc; exact ⟨.dead,PT.Z1h _ _ _,.dead⟩
    · obtain ⟨z,hz,hr⟩:=h.objs c q e
      exact ⟨z,by rw [PT.Z0w _ _ _ _ hc]; exact hz,hr⟩
  · intro c c' q q' z z' e1 e2 hz hz' hl hl' hb
    by_cases hc:c = b
    · subst hc; simp only [PT.Z1h,Option.some.injEq] at hz; subst hz; simp [AObj.live] at hl
    by_cases hc':c' = b
    · subst hc'; simp only [PT.Z1h,Option.some.injEq] at hz'; subst hz'; simp [AObj.live] at hl'
    simp only [PT.Z0w _ _ _ _ hc] at hz
    simp only [PT.Z0w _ _ _ _ hc'] at hz'
    exact h.apart c c' q q' z z' e1 e2 hz hz' hl hl' hb
theorem WRel.regrow {P:Program} {ι:Ren} {s:St} {w w':World} (h:WRel P ι s w) {b:Pos} {p q:Place} {y:AObj} (x:AObj) (e:ι b = some p) (hy:PT.get b s.heap = some y) (hly:y.live = true)
    (hr:p.ro = false) (hq:q.blk = p.blk) (hqr:q.ro = false) (hsz:w'.heap.size = w.heap.size) (hk:∀ i,i ≠ p.blk→w'.heap[i]? = w.heap[i]?) (hos:w'.os = w.os) (hout:w'.output = w.output)
    (hx:ORel P (Ren.set ι s.next q) w' q x) :
    WRel P (Ren.set ι s.next q) { heap:=PT.set s.next x (PT.set b .dead s.heap),next:=s.next.succ } w'∧Ext ι w (Ren.set ι s.next q) w':=by
  have hn:=h.Z6c
  have hle:Ren.le ι (Ren.set ι s.next q):=Ren.Z63 hn
  have hbn:b ≠ s.next:=by rintro rfl; rw [hn] at e; cases e
  refine ⟨⟨?_,?_,?_,?_⟩,⟨hle,by omega,?_,?_,hos,hout⟩⟩
  · intro c r e'
    rcases Ren.Z1d e' with ⟨rfl,rfl⟩ | ⟨hne,e1⟩
    · exact ⟨x,PT.Z1h _ _ _,hx⟩
    · by_cases hc:c = b
      · subst hc
        exact ⟨.dead,by rw [PT.Z0w _ _ _ _ hne,PT.Z1h],.dead⟩
      · obtain ⟨z,hz,hr'⟩:=h.objs c r e1
        refine ⟨z,by rw [PT.Z0w _ _ _ _ hne,PT.Z0w _ _ _ _ hc]; exact hz,ORel.mono (w:=w) hle (fun hlz => hk _ fun hb => ?_) hr'⟩
        rcases h.apart c b r p z y e1 e hz hy hlz hly hb with h1 | ⟨_,h2⟩
        · exact hc h1
        · rw [hr] at h2; cases h2
  · intro c c' r r' z z' f1 f2 hz hz' hl hl' hb
    rcases Ren.Z1d f1 with ⟨rfl,rfl⟩ | ⟨hne,e1⟩ <;> rcases Ren.Z1d f2 with ⟨rfl,rfl⟩ | ⟨hne',e2⟩
    · exact .inl rfl
    · rw [PT.Z0w _ _ _ _ hne'] at hz'
      by_cases hc:c' = b
      · subst hc; rw [PT.Z1h] at hz'; cases hz'; simp [AObj.live] at hl'
      · rw [PT.Z0w _ _ _ _ hc] at hz'
        rcases h.apart b c' p r' y z' e e2 hy hz' hly hl' (hq ▸ hb) with h1 | ⟨h2,_⟩
        · exact absurd h1.symm hc
        · rw [hr] at h2; cases h2
    · rw [PT.Z0w _ _ _ _ hne] at hz
      by_cases hc:c = b
      · subst hc; rw [PT.Z1h] at hz; cases hz; simp [AObj.live] at hl
      · rw [PT.Z0w _ _ _ _ hc] at hz
        rcases h.apart b c p r y z e e1 hy hz hly hl (hq ▸ hb.symm) with h1 | ⟨h2,_⟩
        · exact absurd h1.symm hc
        · rw [hr] at h2; cases h2
    · rw [PT.Z0w _ _ _ _ hne] at hz
      rw [PT.Z0w _ _ _ _ hne'] at hz'
      exact (h.kill b).apart c c' r r' z z' e1 e2 hz hz' hl hl' hb
  · intro c r e'
    simp only [Pos.Z9a]
    rcases Ren.Z1d e' with ⟨rfl,_⟩ | ⟨_,e1⟩
    · omega
    · have:=h.fresh c r e1; omega
  · intro c r e'
    rw [hsz]
    rcases Ren.Z1d e' with ⟨_,rfl⟩ | ⟨_,e1⟩
    · rw [hq]; exact h.bound b p e
    · exact h.bound c r e1
  · intro c r e'
    rcases Ren.Z1d e' with ⟨_,rfl⟩ | ⟨_,e1⟩
    · exact .inr (.inr ⟨hqr,b,p,e,hr,hq.symm⟩)
    · exact .inl e1
  · intro i _ hn'
    exact hk i fun hb => hn' b p e hr hb.symm
section
variable {α:Type}
theorem Zvy (i:Nat) (K:α→Bool):nthK [] i K = false:=rfl
theorem Zu7 (a:α) (l:List α) (K:α→Bool):nthK (a :: l) 0 K = K a:=rfl
theorem Zu6 (a:α) (l:List α) (i:Nat) (K:α→Bool):nthK (a :: l) (i + 1) K = nthK l i K:=rfl
theorem Zqt (K:List α→Bool):Zdp [] 0 K = K []:=rfl
theorem Zqu (i:Nat) (K:List α→Bool):Zdp [] (i + 1) K = false:=rfl
theorem Zqx (a:α) (l:List α) (K:List α→Bool):Zdp (a :: l) 0 K = K (a :: l):=rfl
theorem Zqv (a:α) (l:List α) (i:Nat) (K:List α→Bool):Zdp (a :: l) (i + 1) K = Zdp l i K:=rfl
theorem Zs6 (K:List α→Bool):Za6 [] 0 K = K []:=rfl
theorem Zs7 (i:Nat) (K:List α→Bool):Za6 [] (i + 1) K = false:=rfl
theorem Zs9 (a:α) (l:List α) (K:List α→Bool):Za6 (a :: l) 0 K = K []:=rfl
theorem Zs8 (a:α) (l:List α) (i:Nat) (K:List α→Bool):Za6 (a :: l) (i + 1) K = Za6 l i fun r => K (a :: r):=rfl
theorem Zuc (m:List α) (K:List α→Bool):Zb8 [] m K = K m:=rfl
theorem Zpd (v:α) (vs:List α) (K:List α→Bool):Zb8 (v :: vs) [] K = false:=rfl
theorem Zrw (v a:α) (vs m:List α) (K:List α→Bool):Zb8 (v :: vs) (a :: m) K = Zb8 vs m fun r => K (v :: r):=rfl
theorem Zpe (vs:List α) (K:List α→Bool):Z3l vs [] 0 K = Zb8 vs [] K:=rfl
theorem Zpf (vs:List α) (i:Nat) (K:List α→Bool):Z3l vs [] (i + 1) K = false:=rfl
theorem Zph (vs:List α) (a:α) (l:List α) (K:List α→Bool):Z3l vs (a :: l) 0 K = Zb8 vs (a :: l) K:=rfl
theorem Zpg (vs:List α) (a:α) (l:List α) (i:Nat) (K:List α→Bool):Z3l vs (a :: l) (i + 1) K = Z3l vs l i fun r => K (a :: r):=rfl
end
theorem Z4r {α:Type} {l:List α} {i:Nat} {K:α→Bool}:nthK l i K = true ↔ ∃ a,l[i]? = some a∧K a = true:=by
  induction l generalizing i with
  | nil => simp [Zvy]
  | cons a l ih => cases i with
    | zero => simp [Zu7]
    | succ i => rw [Zu6,ih]; simp
theorem Zqw {α:Type} {l:List α} {i:Nat} {K:List α→Bool}:Zdp l i K = true ↔ i ≤ l.length∧K (l.drop i) = true:=by
  induction l generalizing i with
  | nil => cases i with
    | zero => simp [Zqt]
    | succ i => simp [Zqu]
  | cons a l ih => cases i with
    | zero => simp [Zqx]
    | succ i => rw [Zqv,ih]; simp
theorem Zed {α:Type} {l:List α} {i:Nat} {K:List α→Bool}:Za6 l i K = true ↔ i ≤ l.length∧K (l.take i) = true:=by
  induction l generalizing i K with
  | nil => cases i with
    | zero => simp [Zs6]
    | succ i => simp [Zs7]
  | cons a l ih => cases i with
    | zero => simp [Zs9]
    | succ i => rw [Zs8,ih]; simp
theorem Z3a {α:Type} (l m:List α) (K:List α→Bool):appK l m K = K (l ++ m):=by
  induction l generalizing K with
  | nil => rfl
  | cons a l ih => exact ih _
theorem Zjl {α:Type} {vs m:List α} {K:List α→Bool}:Zb8 vs m K = true ↔ vs.length ≤ m.length∧K (vs ++ m.drop vs.length) = true:=by
  induction vs generalizing m K with
  | nil => simp [Zuc]
  | cons v vs ih => cases m with
    | nil => simp [Zpd]
    | cons a m => rw [Zrw,ih]; simp
theorem Z40 {α:Type} {vs l:List α} {i:Nat} {K:List α→Bool} :
    Z3l vs l i K = true ↔ i + vs.length ≤ l.length∧K (l.take i ++ vs ++ l.drop (i + vs.length)) = true:=by
  induction l generalizing i K with
  | nil => cases i with
    | zero => rw [Zpe,Zjl]; simp
    | succ i => rw [Zpf]; simp
  | cons a l ih => cases i with
    | zero => rw [Zph,Zjl]; simp
    | succ i =>
      rw [Zpg,ih]
      have e:i + 1 + vs.length = (i + vs.length) + 1:=by omega
      simp [e]
theorem Z0p {α:Type} (l:List α) (n:Nat) (K:Nat→Bool):lenK l n K = K (n + l.length):=by
  induction l generalizing n with
  | nil => simp [lenK,Z18]
  | cons a l ih =>
    have:=ih (n:=n + 1)
    simp only [lenK] at this ⊢
    rw [this]
    simp
    congr 1; omega
theorem Z2t {α:Type} {l:List α} {i n:Nat} {K:List α→Bool}:segK l i n K = true ↔ i + n ≤ l.length∧K ((l.drop i).take n) = true:=by
  unfold segK
  rw [Zqw,Zed]
  simp
  constructor
  · rintro ⟨h,h1,h2⟩; exact ⟨by omega,h2⟩
  · rintro ⟨h,h2⟩; exact ⟨by omega,by omega,h2⟩
theorem Z4l {v:AVal} {K:List AVal→Bool}:v.Z28 K = K v.cells:=by cases v <;> rfl
theorem ORel.cell {P:Program} {ι:Ren} {w:World} {p:Place} {cs:List AVal} {ro:Bool} (h:ORel P ι w p (.cells cs ro)) {i:Nat} {a:AVal} (e:cs[i]? = some a) :
    ∃ v,w.cell? ⟨p.blk,p.off + i,none⟩ = some v∧VRel ι a v:=by
  cases h with
  | cells h hs hl hc hn hf =>
    obtain ⟨v,hv,hr⟩:=hc i a e
    exact ⟨v,by simp [World.cell?,h,hv],hr⟩
theorem ORel.scalars {P:Program} {ι:Ren} {w:World} {p:Place} {cs:List AVal} {ro:Bool} (h:ORel P ι w p (.cells cs ro)):∀ x ∈ cs,x.scalar = true:=by
  cases h with | cells h hs hl hc hn hf => exact hn
theorem add_eq (b o n:Nat):(Addr.add ⟨b,o,none⟩ n) = ⟨b,o + n,none⟩:=by
  unfold Addr.add
  split <;> simp [*]
theorem Zie {P : Program} {ι : Ren} {w : World} {p : Place} {cs : List AVal} {ro : Bool} (h : ORel P ι w p (.cells cs ro)) (off n : Nat) (hn : off + n ≤ cs.length) :
    ∃ vs : List Value, VRels ι ((cs.drop off).take n) vs ∧ vs.length = n ∧ ∀ (j : Nat) (v : Value), vs[j]? = some v → w.cell? ⟨p.blk, p.off + off + j, none⟩ = some v := by
  induction n with
  | zero => exact ⟨[], by simpa using VRels.nil, rfl, by simp⟩
  | succ n ih =>
    obtain ⟨vs, hr, hl, hc⟩ := ih (by omega)
    have hlt : off + n < cs.length := by omega
    obtain ⟨v, hv, hrv⟩ := h.cell (i := off + n) (a := cs[off + n]) (by simp [hlt])
    refine ⟨vs ++ [v], ?_, by simp [hl], ?_⟩
    · rw [List.take_add_one]
      refine hr.append ?_
      have : (cs.drop off)[n]? = some cs[off + n] := by simp [hlt]
      rw [this]
      exact .cons hrv .nil
    · intro j u hj
      rw [List.getElem?_append] at hj
      split at hj
      · exact hc j u hj
      · have hj' : j = n := by
          rcases Nat.lt_trichotomy (j - vs.length) 0 with h0 | h0 | h0
          · omega
          · omega
          · have : ([v] : List Value)[j - vs.length]? = none := by simp; omega
            rw [this] at hj; cases hj
        subst hj'
        rw [hl] at hj
        simp at hj
        subst hj
        rw [show p.off + off + j = p.off + (off + j) by omega]
        exact hv
theorem Z85 {P:Program} {w:World} {b o:Nat} {vs:List Value} (hc:∀ (j:Nat) (v:Value),vs[j]? = some v→w.cell? ⟨b,o + j,none⟩ = some v) :
    (loadCells ⟨b,o,none⟩ vs.length).run P w = .ok vs.toArray w:=by
  have:=run_loadCells_list (P:=P) (w:=w) ⟨b,o,none⟩ vs (fun j v h => by rw [add_eq]; exact hc j v h)
  simpa using this
end Go.AM
end
section
namespace Go.AM
def Fine (P:Program) (ι:Ren) (w:World) (K:VK) (r:Result Next):Prop :=
  ∃ v w' ι' s' a,(r = .ok (.value v) w' ∨ (r = .ok .skip w'∧v = undef))∧Ext ι w ι' w'∧WRel P ι' s' w'∧VRel ι' a v∧K a s' = true
def Z1i (P:Program) (ι:Ren) (w:World) (K:VK) (r:Result Value):Prop :=
  ∃ v w' ι' s' a,r = .ok v w'∧Ext ι w ι' w'∧WRel P ι' s' w'∧VRel ι' a v∧K a s' = true
theorem Z1i.fine {P:Program} {ι:Ren} {w:World} {K:VK} {x:Sem Value} (h:Z1i P ι w K (x.run P w)):Fine P ι w K (Sem.run P (do pure (.value (← x))) w):=by
  obtain ⟨v,w',ι',s',a,e,h1,h2,h3,h4⟩:=h
  exact ⟨v,w',ι',s',a,.inl (by simp [e]),h1,h2,h3,h4⟩
theorem Z1i.same {P:Program} {ι:Ren} {w:World} {s:St} {K:VK} {a:AVal} {v:Value} (hw:WRel P ι s w) (hv:VRel ι a v) (hk:K a s = true):Z1i P ι w K (.ok v w) :=
  ⟨v,w,ι,s,a,rfl,Ext.refl ι w,hw,hv,hk⟩
def ORl (ι:Ren) (x:Option AVal) (v:Value):Prop:=∀ a,x = some a→VRel ι a v
section
variable {P:Program} {ι:Ren} {s:St} {w:World} {K:VK}
theorem Z04 {t:TypeId} {d:TypeDesc} (h:P.underlying t = some d):(underlying t).run P w = .ok d w:=by simp [underlying,h]
theorem Z5b {t:TypeId} {i:TypeInfo} (h:P.info? t = some i):(typeInfo t).run P w = .ok i w:=by simp [typeInfo,h]
theorem Z0y {t:TypeId} {n:Nat} (h:Z2c P t = some n):(sizeOf t).run P w = .ok n w:=by
  unfold Z2c at h
  cases hi:P.info? t with
  | none => rw [hi] at h; cases h
  | some i => rw [hi] at h; simp at h; simp [sizeOf,Z5b hi,h]
theorem Zea {t:TypeId} {d:TypeDesc} (h:P.underlying t = some d):(isAgg t).run P w = .ok (Z2y d) w:=by
  simp only [isAgg,Sem.run_bind,Z04 h,Result.andThen_ok]
  cases d <;> rfl
theorem Zbq {v:Value} {a:AVal} (h:Zdo v = some a):VRel ι a v∧a.scalar = true:=by
  unfold Zdo at h
  split at h <;> cases h
  · exact ⟨.bool _,rfl⟩
  · exact ⟨.int _ _,rfl⟩
  · exact ⟨by simpa using VRel.str (ι:=ι) _,rfl⟩
  · exact ⟨.nilPtr,rfl⟩
  · exact ⟨.nilSlice,rfl⟩
  · exact ⟨.nilMap,rfl⟩
  · exact ⟨.nilFn,rfl⟩
  · exact ⟨.nilIface,rfl⟩
theorem Zex:∀ {l:List Value} {m:List AVal},Zg4 l = some m→VRels ι m l∧∀ x ∈ m,x.scalar = true
  | [],m,h => by cases h; exact ⟨.nil,by simp⟩
  | v :: l,m,h => by
    simp only [Zg4] at h
    split at h
    · rename_i a r ha hr
      cases h
      obtain ⟨h1,h2⟩:=Zbq (ι:=ι) ha
      obtain ⟨h3,h4⟩:=Zex hr
      refine ⟨.cons h1 h3,fun x hx => ?_⟩
      rcases List.mem_cons.1 hx with rfl | hx
      · exact h2
      · exact h4 x hx
    · cases h
theorem Zhl {v:Value} {a:AVal} (h:conv v = some a):VRel ι a v:=by
  unfold conv at h
  split at h
  · cases hl:Zg4 (Array.toList _) with
    | none => rw [hl] at h; cases h
    | some m =>
      rw [hl] at h; cases h
      obtain ⟨h1,h2⟩:=Zex (ι:=ι) hl
      exact .agg h1 h2
  · exact (Zbq h).1
theorem Zcj {t:TypeId} {a:AVal} (h:zeroV P t = some a):∃ v,(zeroValue t).run P w = .ok v w∧VRel ι a v:=by
  unfold zeroV at h
  cases hi:P.info? t with
  | none => rw [hi] at h; cases h
  | some i =>
    rw [hi] at h
    simp only [Option.bind_some] at h
    cases hz:i.zero with
    | none => rw [hz] at h; cases h
    | some v => rw [hz] at h; exact ⟨v,by simp [zeroValue,Z5b hi,hz],Zhl h⟩
theorem Zn5 {v:Value} {a:AVal} (h:conv v = some a):∀ x ∈ a.cells,x.scalar = true:=by
  unfold conv at h
  split at h
  · cases hl:Zg4 (Array.toList _) with
    | none => rw [hl] at h; cases h
    | some m => rw [hl] at h; cases h; exact (Zex (ι:=fun _ => none) hl).2
  · have:=(Zbq (ι:=fun _ => none) h).2
    cases a <;> simp_all [AVal.cells,AVal.scalar]
theorem Z6u {t:TypeId} {a:AVal} (h:zeroV P t = some a):∀ x ∈ a.cells,x.scalar = true:=by
  unfold zeroV at h
  cases hi:P.info? t with
  | none => rw [hi] at h; cases h
  | some i =>
    rw [hi] at h
    simp only [Option.bind_some] at h
    cases hz:i.zero with
    | none => rw [hz] at h; cases h
    | some v => rw [hz] at h; exact Zn5 h
theorem Zhb {x:Option AVal} {v:Value} (h:Zjj x s K = true) (hw:WRel P ι s w) (hx:ORl ι x v):Z1i P ι w K (.ok v w):=by
  obtain ⟨a,ha,hk⟩:=Z01.1 h
  exact .same hw (hx a ha) hk
theorem Zpb {c a b:Option AVal} {vc va vb:Value} (h:Znz c a b s K = true) (hw:WRel P ι s w) (hc:ORl ι c vc) (ha:ORl ι a va) (hb:ORl ι b vb) :
    Z1i P ι w K (Sem.run P (do pure (if ← asBool vc then va else vb)) w):=by
  obtain ⟨c',hc',h⟩:=Z01.1 h
  obtain ⟨t,rfl,h⟩:=AVal.Z1p.1 h
  have hv:=hc _ hc'
  cases hv
  simp only [asBool,Sem.run_bind,Sem.run_pure,Result.andThen_ok]
  rcases Z02.1 h with ⟨rfl,h⟩ | ⟨rfl,h⟩
  · obtain ⟨y,hy,hk⟩:=Z01.1 h
    exact .same hw (ha y hy) hk
  · obtain ⟨y,hy,hk⟩:=Z01.1 h
    exact .same hw (hb y hy) hk
theorem VRels.Zk7 {l:List AVal} {c:Array Value} (h:VRels ι l c.toList):Z8j ι l 0 c:=by
  intro i a e
  obtain ⟨v,hv,hr⟩:=h.get e
  exact ⟨v,by simpa using hv,hr⟩
theorem Zhw {l:List AVal} {c:Array Value} {t:TypeId} (hw:WRel P ι s w) (hc:VRels ι l c.toList) (hs:∀ x ∈ l,x.scalar = true) :
    WRel P (Ren.set ι s.next ⟨w.heap.size,0,c.size,false⟩) { heap:=PT.set s.next (.cells l false) s.heap,next:=s.next.succ } { w with heap:=w.heap.push (.cells c t) } ∧
      Ext ι w (Ren.set ι s.next ⟨w.heap.size,0,c.size,false⟩) { w with heap:=w.heap.push (.cells c t) }:=by
  refine hw.alloc (.cells l false) (.cells c t) ⟨w.heap.size,0,c.size,false⟩ rfl rfl ?_
  have hl:=hc.length
  refine ORel.cells (p:=⟨w.heap.size,0,c.size,false⟩) (c:=c) (t:=t) (fr:=(0,0)) (by simp) rfl (by simp [hl]) ?_ hs (fun _ i _ => by simp)
  exact (hc.Zk7).mono (Ren.Z63 hw.Z6c)
theorem Zd5 {l:List AVal} {c:Array Value} {t:TypeId} (h:Z4q l s K = true) (hw:WRel P ι s w) (hc:VRels ι l c.toList) (hs:∀ x ∈ l,x.scalar = true) :
    Z1i P ι w K (.ok (.pointer (some ⟨w.heap.size,0,none⟩)) { w with heap:=w.heap.push (.cells c t) }):=by
  unfold Z4q at h
  rw [Z1v] at h
  obtain ⟨h1,h2⟩:=Zhw (t:=t) hw hc hs
  exact ⟨_,_,_,_,_,rfl,h2,h1,VRel.ptr (p:=⟨w.heap.size,0,c.size,false⟩) (off:=0) (Ren.Z3m _ _ _),h⟩
theorem Znr {t:TypeId} (h:Zq3 P t s K = true) (hw:WRel P ι s w):Z1i P ι w K ((Instr.alloc t true (.tuple #[])).run P w):=by
  obtain ⟨cs,hcs,h⟩:=Z01.1 h
  unfold zeroCells at hcs
  cases hz:zeroV P t with
  | none => rw [hz] at hcs; cases hcs
  | some a =>
    rw [hz] at hcs; cases hcs
    obtain ⟨v,hv,hr⟩:=Zcj (ι:=ι) (w:=w) hz
    simp only [Instr.alloc,newVar,newRow,Sem.run_bind,hv,Result.andThen_ok,run_newObj,Sem.run_pure]
    exact Zd5 h hw hr.cells (Z6u hz)
theorem Z4n {v:AVal} {x:Bool}:Z6j v x = true ↔ (∀ l,v ≠ .tup l)∧x = true:=by cases v <;> simp [Z6j]
theorem VRel.Z8x {a:AVal} {v:Value} (h:VRel ι a v) (ht:∀ l,a ≠ .tup l):∀ x ∈ a.cells,x.scalar = true:=by
  cases h <;> simp_all [AVal.cells,AVal.scalar]
theorem Zro {t:TypeId} {x:Option AVal} {v:Value} (h:Zrn x s K = true) (hw:WRel P ι s w) (hx:ORl ι x v):Z1i P ι w K ((Instr.box t v).run P w):=by
  obtain ⟨a,ha,h⟩:=Z01.1 h
  obtain ⟨ht,h⟩:=Z4n.1 h
  rw [Z4l] at h
  have hr:=hx a ha
  simp only [Instr.box,newVar,newRow,Sem.run_bind,run_newObj,Result.andThen_ok,Sem.run_pure]
  exact Zd5 h hw hr.cells (hr.Z8x ht)
theorem Zce {n:Option Nat} {cs:List AVal} {off:Nat} {k:AVal→Bool} (h:Z7x n cs off k = true) :
    (n = none∧∃ a,cs[off]? = some a∧k a = true) ∨ (∃ m,n = some m∧off + m ≤ cs.length∧k (.agg ((cs.drop off).take m)) = true):=by
  cases n with
  | none => exact .inl ⟨rfl,Z4r.1 h⟩
  | some m => exact .inr ⟨m,rfl,Z2t.1 h⟩
theorem Zgf {α:Type} {l:List α} {i n:Nat} {x:α} (h:x ∈ (l.drop i).take n):x ∈ l:=List.mem_of_mem_drop (List.mem_of_mem_take h)
theorem Zh5 {t:TypeId} {n:Option Nat} (h:Z45 P t = some n):∃ d m,P.underlying t = some d∧Z2c P t = some m∧n = if Z2y d then some m else none:=by
  unfold Z45 at h
  split at h
  · rename_i d m hd hm; cases h; exact ⟨d,m,hd,hm,rfl⟩
  · cases h
theorem Zfc {t:TypeId} {n:Option Nat} {b:Pos} {off:Nat} {p:Place} {cs:List AVal} {ro:Bool} {k:AVal→Bool} (hn:Z45 P t = some n) (hb:ι b = some p)
    (hc:PT.get b s.heap = some (.cells cs ro)) (hw:WRel P ι s w) (h:Z7x n cs off k = true) :
    ∃ v a,(loadVar t ⟨p.blk,p.off + off,none⟩).run P w = .ok v w∧VRel ι a v∧k a = true:=by
  obtain ⟨d,m,hd,hm,rfl⟩:=Zh5 hn
  obtain ⟨o,ho,hr⟩:=hw.objs b p hb
  rw [hc] at ho; cases ho
  simp only [loadVar,Sem.run_bind,Zea hd,Result.andThen_ok]
  cases hg:Z2y d with
  | false =>
    rw [hg] at h
    rcases Zce h with ⟨_,a,ha,hk⟩ | ⟨m',hm',_⟩
    · obtain ⟨v,hv,hrv⟩:=hr.cell ha
      refine ⟨v,a,?_,hrv,hk⟩
      simp [run_load,hv]
    · simp at hm'
  | true =>
    rw [hg] at h
    rcases Zce h with ⟨hf,_⟩ | ⟨m',hm',hlen,hk⟩
    · simp at hf
    · simp at hm'; subst hm'
      obtain ⟨vs,hvs,hl,hcell⟩:=Zie hr off m hlen
      refine ⟨.agg vs.toArray,_,?_,VRel.agg (by simpa using hvs) (fun x hx => hr.scalars x (Zgf hx)),hk⟩
      have:=Z85 (P:=P) hcell
      rw [hl] at this
      simp [Z0y hm,this]
theorem Zp8 {t:TypeId} {x:Option AVal} {v:Value} (h:Z6s P t x s K = true) (hw:WRel P ι s w) (hx:ORl ι x v):Z1i P ι w K ((Instr.loadAt t v).run P w):=by
  obtain ⟨n,hn,h⟩:=Z01.1 h
  obtain ⟨a,ha,h⟩:=Z01.1 h
  obtain ⟨b,off,rfl,h⟩:=AVal.Z24.1 h
  obtain ⟨cs,ro,hc,h⟩:=Z1e.1 h
  have hr:=hx _ ha
  cases hr with
  | ptr hb =>
    obtain ⟨u,a',hu,hru,hk⟩:=Zfc hn hb hc hw h
    simp only [Instr.loadAt,Instr.sureAddr,Sem.run_bind,Sem.run_pure,Result.andThen_ok,hu]
    exact .same hw hru hk
theorem Zpi {w:World} {g o:Nat} {c:Array Value} {t:TypeId} {fr:Nat × Nat} {v:Value} (h:w.heap[g]? = some (.cells c t fr)) :
    (w.setCell ⟨g,o,none⟩ v).heap[g]? = some (.cells (c.setIfInBounds o v) t fr):=by
  simp [World.setCell,Array.getElem?_modify,h]
theorem Zkn {w:World} {g o k:Nat} {v:Value} (h:k ≠ g):(w.setCell ⟨g,o,none⟩ v).heap[k]? = w.heap[k]?:=by
  simp [World.setCell,Array.getElem?_modify,h.symm]
theorem Zay (g o:Nat) (t:TypeId) (fr:Nat × Nat):∀ (us:List Value) (i:Nat) (w:World) (c:Array Value),w.heap[g]? = some (.cells c t fr)→(∀ v ∈ us,v.oneCell' = true) →
    o + i + us.length ≤ c.size→(∀ j,j < us.length→¬ (fr.1 ≤ o + i + j∧o + i + j < fr.2)) →
    ∃ w' c',(storeCells ⟨g,o,none⟩ us i).run P w = .ok () w'∧w'.heap[g]? = some (.cells c' t fr)∧c'.size = c.size ∧
      (∀ j,c'[j]? = if o + i ≤ j∧j < o + i + us.length then us[j - (o + i)]? else c[j]?)∧w'.heap.size = w.heap.size∧(∀ k,k ≠ g→w'.heap[k]? = w.heap[k]?)∧w'.os = w.os∧w'.output = w.output
  | [],i,w,c,h,_,_,_ => ⟨w,c,rfl,h,rfl,fun j => by rw [if_neg (by simp)],rfl,fun _ _ => rfl,rfl,rfl⟩
  | v :: us,i,w,c,h,h1,hl,hf => by
    have hi:o + i < c.size:=by simp at hl; omega
    have hst:(store ((⟨g,o,none⟩:Addr).add i) v).run P w = .ok () (w.setCell ⟨g,o + i,none⟩ v):=by
      have hz:w.frozen? ⟨g,o + i,none⟩ = false:=by
        have:=hf 0 (by simp)
        simp only [World.frozen?,h]
        simp at this ⊢
        omega
      rw [add_eq,run_store P w _ v _ (h1 v (by simp))]
      simp [World.cell?,h,hi,hz]
    obtain ⟨w',c',hr,hg,hs,hc,hz,hk,ho,hout⟩:=Zay g o t fr us (i + 1) (w.setCell ⟨g,o + i,none⟩ v) (c.setIfInBounds (o + i) v) (Zpi h) (fun x hx => h1 x (by simp [hx]))
      (by simp at hl ⊢; omega) (fun j hj => by have:=hf (j + 1) (by simp; omega); omega)
    refine ⟨w',c',by simp only [storeCells,Sem.run_bind,hst,Result.andThen_ok]; exact hr,hg,by simpa using hs,fun j => ?_,by simpa [World.setCell] using hz,fun k hk' => (hk k hk').trans (Zkn hk'),ho,hout⟩
    rw [hc j]
    simp only [List.length_cons]
    by_cases hj:o + i = j
    · subst hj
      rw [if_neg (by omega),if_pos (by omega)]
      simp [hi]
    · by_cases hj2:o + (i + 1) ≤ j∧j < o + (i + 1) + us.length
      · rw [if_pos hj2,if_pos (by omega),show j - (o + i) = (j - (o + (i + 1))) + 1 by omega]
        simp
      · rw [if_neg hj2,if_neg (by omega),Array.getElem?_setIfInBounds_ne (by omega)]
theorem Zhf {p:Place} {cs vs:List AVal} {us:List Value} {c c':Array Value} {off:Nat} (hat:Z8j ι cs p.off c) (hv:VRels ι vs us) (hle:off + vs.length ≤ cs.length)
    (hc:∀ j,c'[j]? = if p.off + off + 0 ≤ j∧j < p.off + off + 0 + us.length then us[j - (p.off + off + 0)]? else c[j]?):Z8j ι (cs.take off ++ vs ++ cs.drop (off + vs.length)) p.off c':=by
  intro i a e
  have hul:=hv.length
  rw [hc (p.off + i)]
  by_cases h1:i < off
  · rw [if_neg (by omega)]
    refine hat i a ?_
    rw [List.append_assoc,List.getElem?_append_left (by simp; omega),List.getElem?_take_of_lt h1] at e
    exact e
  · by_cases h2:i < off + vs.length
    · rw [if_pos (by omega),show p.off + i - (p.off + off + 0) = i - off by omega]
      refine hv.get ?_
      rw [List.getElem?_append_left (by simp; omega),List.getElem?_append_right (by simp; omega)] at e
      simpa [Nat.min_eq_left (by omega:off ≤ cs.length)] using e
    · rw [if_neg (by omega)]
      refine hat i a ?_
      rw [List.getElem?_append_right (by simp; omega)] at e
      simp only [List.length_append,List.length_take,Nat.min_eq_left (by omega:off ≤ cs.length),List.getElem?_drop] at e
      rwa [show off + vs.length + (i - (off + vs.length)) = i by omega] at e
theorem Zh6 {cs vs:List AVal} {off:Nat} {x:AVal} (hn:∀ x ∈ cs,x.scalar = true) (hs:∀ x ∈ vs,x.scalar = true) (h:x ∈ cs.take off ++ vs ++ cs.drop (off + vs.length)):x.scalar = true:=by
  rcases List.mem_append.1 h with h | h
  · rcases List.mem_append.1 h with h | h
    · exact hn x (List.mem_of_mem_take h)
    · exact hs x h
  · exact hn x (List.mem_of_mem_drop h)
theorem Zas {b:Pos} {p:Place} {off:Nat} {vs:List AVal} {us:List Value} {k:St→Bool} (h:Z5n b off vs s k = true) (hb:ι b = some p) (hw:WRel P ι s w) (hv:VRels ι vs us)
    (hs:∀ x ∈ vs,x.scalar = true):∃ s' w',(storeCells ⟨p.blk,p.off + off,none⟩ us).run P w = .ok () w'∧WRel P ι s' w'∧Ext ι w ι w'∧k s' = true:=by
  unfold Z5n at h
  obtain ⟨cs,ro,hc,h⟩:=Z1e.1 h
  obtain ⟨o,ho,hr⟩:=hw.objs b p hb
  rw [hc] at ho; cases ho
  cases hr with
  | cells hcells hsz hlen hat hn hf =>
    rename_i c t fr
    rcases Z02.1 h with ⟨_,h⟩ | ⟨hro,h⟩
    · cases h
    · obtain ⟨hle,h⟩:=Z40.1 h
      rw [Z23] at h
      have hul:=hv.length
      obtain ⟨w',c',hr,hg,hs',hc',hz,hk,ho,hout⟩:=Zay (P:=P) p.blk (p.off + off) t fr us 0 w c hcells (hv.Zgj hs) (by omega) (fun j hj => by
        have:=hf hro (p.off + off + 0 + j) (by omega)
        omega)
      obtain ⟨h1,h2⟩:=hw.update (w':=w') (.cells (cs.take off ++ vs ++ cs.drop (off + vs.length)) p.ro) hb hc rfl hro hz hk ho hout
        (.cells hg (by omega) (by simp; omega) (Zhf hat hv hle hc') (fun x hx => Zh6 hn hs hx) (fun _ i hi => hf hro i (by omega)))
      rw [hro] at h1
      exact ⟨_,w',hr,h1,h2,h⟩
theorem Zo1 {t:TypeId} {a x:Option AVal} {va vx:Value} (h:Zq6 P t a x s K = true) (hw:WRel P ι s w) (ha:ORl ι a va) (hx:ORl ι x vx) :
    Fine P ι w K (Sem.run P (do Instr.storeAt t va vx; pure .skip) w):=by
  obtain ⟨n,hn,h⟩:=Z01.1 h
  obtain ⟨y,hy,h⟩:=Z01.1 h
  obtain ⟨ht,h⟩:=Z4n.1 h
  rw [Z4l,Z0p] at h
  rcases Z02.1 h with ⟨hm,h⟩ | ⟨_,h⟩
  · obtain ⟨z,hz,h⟩:=Z01.1 h
    obtain ⟨b,off,rfl,h⟩:=AVal.Z24.1 h
    have hr:=ha _ hz
    cases hr with
    | ptr hb =>
      have hry:=hx _ hy
      obtain ⟨s',w',hst,h1,h2,h3⟩:=Zas h hb hw hry.cells (hry.Z8x ht)
      have hlen:=hry.cells.length
      have hsz:vx.cells.size = n:=by
        have:=Nat.eq_of_beq_eq_true hm
        simp at this hlen
        omega
      refine ⟨undef,w',ι,s',.tup [],.inr ⟨?_,rfl⟩,h2,h1,.tup .nil,h3⟩
      simp only [Instr.storeAt,Instr.sureAddr,storeVar,Sem.run_bind,Sem.run_pure,Result.andThen_ok,Z0y hn,hsz,ne_eq,not_true_eq_false,if_false,hst]
  · cases h
theorem Zru {x:Option AVal} {v:Value} (h:Zrt x s K = true) (hx:ORl ι x v):∃ b o a,v = .pointer (some ⟨b,o,none⟩)∧VRel ι a v∧K a s = true:=by
  obtain ⟨y,hy,h⟩:=Z01.1 h
  obtain ⟨b,off,rfl,h⟩:=AVal.Z24.1 h
  have hr:=hx _ hy
  cases hr with
  | ptr hb => exact ⟨_,_,_,rfl,.ptr hb,h⟩
end
end Go.AM
end
