/- Parts of the proof: CodesN, MapSym, CopySym, MinSym, SliceSym, Nm, Heap2, Heap3, Cls1, Cls2, Cls3, Cls4, Tak1, Tak2, Gr1, Gr2, Sz, Mrg1, Mrg2, Own1, Mrg3, Ctx, HR. -/
import Derived.Test.YtoipnedbpjfeiaaDoorAt04
set_option linter.all false
set_option linter.unusedSectionVars false
set_option linter.unusedSimpArgs false
set_option linter.unusedVariables false
section
open Go Go.AM
namespace Go.Proofs
def c44_1:MCode:=.region [Yo (.bool false)] [Cs 2]
def c44_3:MCode:=.region [Cm 0,Cr (.len (some (.str,0)) (Yq 0)),Yh .gtr (Yq 0) (Ck 0),C0,Yj 0 (.move (Cp 0)),Yj 1 (.len (some (.str,0)) (Yq 0)),Yj 2 (.bin .leq .other none (Yq 0) (Ck 8)),Cr (.pick (Yq 3) (Yq 0) (.cst (.bool false))),C0,Yj 0 (.move (Cp 0)),Yj 1 (.call (.cst (.fn 84 [] [])) [(Yq 0),(.cst (.str [97,98,99,100,101,102,103,104,105,106,107,108,109,110,111,112,113,114,115,116,117,118,119,120,121,122]))]),Yj 2 (.bin .eql .other none (Yq 0) (.cst (.str []))),Cr (.pick (Yq 3) (Yq 0) (.cst (.bool false))),C0] [Cs 2,none,none,none,none,none,none,none,none,none,none,none,none,none]
def c44_2:MCode:=.seq c44_3 .ret
def c44_0:MCode:=.seq c44_1 c44_2
theorem fi44:funInfo Tryd.prog 44 = some { code:=c44_0,ntmps:=16,nargs:=1,ps:=[0,2],res:=[.tmp 2] }:=by kernel_rfl
def c93_1:MCode:=.region [Yo (.bool false)] [Cs 2]
def c93_3:MCode:=.region [Cm 0,Cr (.len (some (.str,0)) (Yq 0)),Yh .gtr (Yq 0) (Ck 0),C0,Yj 0 (.move (Cp 0)),Yj 1 (.len (some (.str,0)) (Yq 0)),Yj 2 (.bin .leq .other none (Yq 0) (Ck 8)),Cr (.pick (Yq 3) (Yq 0) (.cst (.bool false))),C0,Yj 0 (.move (Cp 0)),Yj 1 (.call (.cst (.fn 84 [] [])) [(Yq 0),(.cst (.str [97,98,99,100,101,102,103,104,105,106,107,108,109,110,111,112,113,114,115,116,117,118,119,120,121,122]))]),Yj 2 (.bin .eql .other none (Yq 0) (.cst (.str []))),Cr (.pick (Yq 3) (Yq 0) (.cst (.bool false))),C0] [Cs 2,none,none,none,none,none,none,none,none,none,none,none,none,none]
def c93_2:MCode:=.seq c93_3 .ret
def c93_0:MCode:=.seq c93_1 c93_2
theorem fi93:funInfo Tryd.prog 93 = some { code:=c93_0,ntmps:=16,nargs:=1,ps:=[0,2],res:=[.tmp 2] }:=by kernel_rfl
def c84_1:MCode:=.region [Yo (.str [])] [Cs 4]
def c84_4:MCode:=.region [Cm 0,Cr (.bin .eql .other none (Yq 0) (.cst (.str []))),C0,Yi 0 (.move (Cp 1)),Yi 1 (.bin .eql .other none (Yq 0) (.cst (.str []))),Cr (.pick (Yq 2) (.cst (.bool true)) (Yq 0))] [Cs 12,none,none,none,none,none]
def c84_7:MCode:=.region [Cm 0,C0] [Cs 4,none]
def c84_6:MCode:=.seq c84_7 .ret
def c84_5:MCode:=.cond (Cp 12) c84_6 .skip
def c84_3:MCode:=.seq c84_4 c84_5
def c84_10:MCode:=.region [Cm 1,Cr (.len (some (.str,0)) (Yq 0)),Yh .eql (Yq 0) (Ck 1),C0,Yj 0 (.move (Cp 1)),Yj 1 (.index .str none (Yq 0) (Ck 0)),Yj 2 (.bin .lss .other none (Yq 0) (.cst (.int .u8 128))),Cr (.pick (Yq 3) (Yq 0) (.cst (.bool false)))] [Cs 21,none,none,none,none,none,none,none]
def c84_13:MCode:=.region [Cm 0,Cm 1,Cr (.index .str none (Yq 0) (Ck 0)),Cm 1,Cr (.index .str none (Yq 0) (Ck 0)),Ym 104 [(Yq 4),(Yq 2)],Ym 103 [(Yq 0),(Yq 1)],C0] [Cs 4,Cs 28,Cs 25,Cs 27,Cs 26,Cs 24,Cs 23,Cs 22]
def c84_12:MCode:=.seq c84_13 .ret
def c84_11:MCode:=.cond (Cp 21) c84_12 .skip
def c84_9:MCode:=.seq c84_10 c84_11
def c84_16:MCode:=.region [Cm 1,Ym 105 [(Yq 0)],C0,Yg 0 0,Yg 1 1,Cr (.alloc (some [(.bool false),(.bool false),(.bool false),(.bool false),(.bool false),(.bool false),(.bool false),(.bool false),(.bool false),(.bool false),(.bool false),(.bool false),(.bool false),(.bool false),(.bool false),(.bool false),(.bool false),(.bool false),(.bool false),(.bool false),(.bool false),(.bool false),(.bool false),(.bool false),(.bool false),(.bool false),(.bool false),(.bool false),(.bool false),(.bool false),(.bool false),(.bool false),(.bool false),(.bool false),(.bool false),(.bool false),(.bool false),(.bool false),(.bool false),(.bool false),(.bool false),(.bool false),(.bool false),(.bool false),(.bool false),(.bool false),(.bool false),(.bool false),(.bool false),(.bool false),(.bool false),(.bool false),(.bool false),(.bool false),(.bool false),(.bool false),(.bool false),(.bool false),(.bool false),(.bool false),(.bool false),(.bool false),(.bool false),(.bool false),(.bool false),(.bool false),(.bool false),(.bool false),(.bool false),(.bool false),(.bool false),(.bool false),(.bool false),(.bool false),(.bool false),(.bool false),(.bool false),(.bool false),(.bool false),(.bool false),(.bool false),(.bool false),(.bool false),(.bool false),(.bool false),(.bool false),(.bool false),(.bool false),(.bool false),(.bool false),(.bool false),(.bool false),(.bool false),(.bool false),(.bool false),(.bool false),(.bool false),(.bool false),(.bool false),(.bool false),(.bool false),(.bool false),(.bool false),(.bool false),(.bool false),(.bool false),(.bool false),(.bool false),(.bool false),(.bool false),(.bool false),(.bool false),(.bool false),(.bool false),(.bool false),(.bool false),(.bool false),(.bool false),(.bool false),(.bool false),(.bool false),(.bool false),(.bool false),(.bool false),(.bool false),(.bool false),(.bool false),(.bool false),(.bool false),(.bool false),(.bool false),(.bool false),(.bool false),(.bool false),(.bool false),(.bool false),(.bool false),(.bool false),(.bool false),(.bool false),(.bool false),(.bool false),(.bool false),(.bool false),(.bool false),(.bool false),(.bool false),(.bool false),(.bool false),(.bool false),(.bool false),(.bool false),(.bool false),(.bool false),(.bool false),(.bool false),(.bool false),(.bool false),(.bool false),(.bool false),(.bool false),(.bool false),(.bool false),(.bool false),(.bool false),(.bool false),(.bool false),(.bool false),(.bool false),(.bool false),(.bool false),(.bool false),(.bool false),(.bool false),(.bool false),(.bool false),(.bool false),(.bool false),(.bool false),(.bool false),(.bool false),(.bool false),(.bool false),(.bool false),(.bool false),(.bool false),(.bool false),(.bool false),(.bool false),(.bool false),(.bool false),(.bool false),(.bool false),(.bool false),(.bool false),(.bool false),(.bool false),(.bool false),(.bool false),(.bool false),(.bool false),(.bool false),(.bool false),(.bool false),(.bool false),(.bool false),(.bool false),(.bool false),(.bool false),(.bool false),(.bool false),(.bool false),(.bool false),(.bool false),(.bool false),(.bool false),(.bool false),(.bool false),(.bool false),(.bool false),(.bool false),(.bool false),(.bool false),(.bool false),(.bool false),(.bool false),(.bool false),(.bool false),(.bool false),(.bool false),(.bool false),(.bool false),(.bool false),(.bool false),(.bool false),(.bool false),(.bool false),(.bool false),(.bool false),(.bool false),(.bool false),(.bool false),(.bool false),(.bool false),(.bool false),(.bool false),(.bool false),(.bool false),(.bool false),(.bool false),(.bool false),(.bool false),(.bool false),(.bool false),(.bool false),(.bool false)])),Yk 256 (Yq 0) (Yq 2),Yn 2] [Cs 6,none,Cs 5,none,none,none,none,none]
def c84_18:MCode:=.region [Cm 6] [Cs 34]
def c84_21:MCode:=.region [Cm 0,Ym 107 [(Yq 0),(Cp 5)],Ym 106 [(Yq 0),(Cp 5)],C0] [Cs 4,none,none,none]
def c84_20:MCode:=.seq c84_21 .ret
def c84_19:MCode:=.cond (Cp 34) c84_20 .skip
def c84_17:MCode:=.seq c84_18 c84_19
def c84_15:MCode:=.seq c84_16 c84_17
def c84_23:MCode:=.region [Cm 0,Cm 1,Ym 109 [(Yq 1),(Yq 0)],Cm 1,Ym 108 [(Yq 1),(Yq 0)],C0] [Cs 4,none,none,none,none,none]
def c84_22:MCode:=.seq c84_23 .ret
def c84_14:MCode:=.seq c84_15 c84_22
def c84_8:MCode:=.seq c84_9 c84_14
def c84_2:MCode:=.seq c84_3 c84_8
def c84_0:MCode:=.seq c84_1 c84_2
theorem fi84:funInfo Tryd.prog 84 = some { code:=c84_0,ntmps:=43,nargs:=2,ps:=[5,34,6,23,24,22,26,27,25,28,21,12,1,0,4],res:=[.tmp 4] }:=by kernel_rfl
def c106_1:MCode:=.region [Yo (.str [])] [Cs 4]
def c106_7:MCode:=.region [Cm 0,Cr (.len (some (.str,0)) (Yq 0)),Yh .gtr (Yq 0) (Ck 0)] [Cs 7,none,none]
def c106_8:MCode:=.cond (Cp 7) .skip (.exit 0)
def c106_6:MCode:=.seq c106_7 c106_8
def Zxv:MCode:=.region [Cm 1,Cm 0,Cr (.index .str none (Yq 0) (Ck 0)),Ym 116 [(Yq 2),(Yq 0)],Cr (.un .not (Yq 0))] [Cs 12,none,none,none,none]
def Zxw:MCode:=.cond (Cp 12) (.exit 0) .skip
def Zxu:MCode:=.seq Zxv Zxw
def Zxx:MCode:=.region [Cm 0,Cr (.slice .str none none (Yq 0) (some (Ck 1)) none none),C0] [Cs 0,none,none]
def Zxt:MCode:=.seq Zxu Zxx
def c106_9:MCode:=.block 1 Zxt
def c106_5:MCode:=.seq c106_6 c106_9
def c106_4:MCode:=.loop c106_5
def c106_3:MCode:=.block 0 c106_4
def Zxz:MCode:=.region [Cm 0,C0] [Cs 4,none]
def Zxy:MCode:=.seq Zxz .ret
def c106_2:MCode:=.seq c106_3 Zxy
def c106_0:MCode:=.seq c106_1 c106_2
theorem fi106:funInfo Tryd.prog 106 = some { code:=c106_0,ntmps:=16,nargs:=2,ps:=[12,1,7,0,4],res:=[.tmp 4] }:=by kernel_rfl
def c107_1:MCode:=.region [Yo (.str [])] [Cs 4]
def c107_7:MCode:=.region [Cm 0,Cr (.len (some (.str,0)) (Yq 0)),Yh .gtr (Yq 0) (Ck 0)] [Cs 7,none,none]
def c107_8:MCode:=.cond (Cp 7) .skip (.exit 0)
def c107_6:MCode:=.seq c107_7 c107_8
def Zy2:MCode:=.region [Cm 1,Cm 0,Cm 0,Cr (.len (some (.str,0)) (Yq 0)),Yh .sub (Yq 0) (Ck 1),Cr (.index .str none (Yq 3) (Yq 0)),Ym 116 [(Yq 5),(Yq 0)],Cr (.un .not (Yq 0))] [Cs 15,none,none,none,none,none,none,none]
def Zy3:MCode:=.cond (Cp 15) (.exit 0) .skip
def Zy1:MCode:=.seq Zy2 Zy3
def Zy4:MCode:=.region [Cm 0,Cm 0,Cr (.len (some (.str,0)) (Yq 0)),Yh .sub (Yq 0) (Ck 1),Cr (.slice .str none none (Yq 3) none (some (Yq 0)) none),C0] [Cs 0,none,none,none,none,none]
def Zy0:MCode:=.seq Zy1 Zy4
def c107_9:MCode:=.block 1 Zy0
def c107_5:MCode:=.seq c107_6 c107_9
def c107_4:MCode:=.loop c107_5
def c107_3:MCode:=.block 0 c107_4
def Zy6:MCode:=.region [Cm 0,C0] [Cs 4,none]
def Zy5:MCode:=.seq Zy6 .ret
def c107_2:MCode:=.seq c107_3 Zy5
def c107_0:MCode:=.seq c107_1 c107_2
theorem fi107:funInfo Tryd.prog 107 = some { code:=c107_0,ntmps:=22,nargs:=2,ps:=[15,1,7,0,4],res:=[.tmp 4] }:=by kernel_rfl
def c116_1:MCode:=.region [Yo (.bool false)] [Cs 4]
def c116_3:MCode:=.region [Cm 0,Cm 1,Yf 1,Cr (.indexAddr .arr none (some (256,1)) (Yq 0) (Yq 1)),Ya 0,C0] [Cs 4,none,none,none,none,none]
def c116_2:MCode:=.seq c116_3 .ret
def c116_0:MCode:=.seq c116_1 c116_2
theorem fi116:funInfo Tryd.prog 116 = some { code:=c116_0,ntmps:=10,nargs:=2,ps:=[1,0,4],res:=[.tmp 4] }:=by kernel_rfl
end Go.Proofs
end
section
namespace Go.AM
variable [Orc] [OrcOk]
set_option maxRecDepth 100000
abbrev Key:=List UInt8 × List Int
def Key.cells (k:Key):List AVal:=.str k.1 :: k.2.map fun n => .int .i64 n
def Z7a (n:Nat):List SK:=.str :: List.replicate n .int
omit [Orc] [OrcOk] in
theorem eqInts:∀ (n:Nat) (x y:List Int) (K:Bool→Bool),x.length = n→y.length = n→Z10 (List.replicate n .int) (x.map fun n => .int .i64 n) (y.map fun n => .int .i64 n) K = K (decide (x = y))
 | 0,[],[],K,_,_ => rfl
 | n + 1,a :: x,b :: y,K,hx,hy => by
  show ifK (Nat.beq (Z1b .i64) (Z1b .i64)) (ifK (eqI a b) (Z10 (List.replicate n .int) (x.map fun n => .int .i64 n) (y.map fun n => .int .i64 n) K) (K false)) (fail 8) = _
  rw [Z6v]
  show ifK (decide (a = b)) _ _ = _
  by_cases h:a = b
  ·rw [eqInts n x y K (by simpa using hx) (by simpa using hy)]
   subst h
   simp [ifK]
  ·simp [h,ifK]
omit [Orc] [OrcOk] in
theorem eqKey (n:Nat) (a b:Key) (K:Bool→Bool) (ha:a.2.length = n) (hb:b.2.length = n):Z10 (Z7a n) a.cells b.cells K = K (decide (a = b)):=by
 obtain ⟨s,x⟩:=a
 obtain ⟨t,y⟩:=b
 show ifK (Z7q s t) (Z10 (List.replicate n .int) (x.map fun n => .int .i64 n) (y.map fun n => .int .i64 n) K) (K false) = _
 rw [Z5j,eqInts n x y K ha hb]
 by_cases h:s = t
 ·subst h
  simp [ifK]
 ·have:(s == t) = false:=by simpa using h
  rw [this]
  simp [h,ifK]
def Z1d:Nat→List Key→List MapE
 | _,[] => []
 | n,k :: r => { key:=.agg k.cells,val:=.int .i64 n,born:=n } :: Z1d (n + 1) r
omit [Orc] [OrcOk] in
theorem entsFrom_append:∀ (n:Nat) (D:List Key) (k:Key),Z1d n (D ++ [k]) = Z1d n D ++ [{ key:=.agg k.cells,val:=.int .i64 (n + D.length:Nat),born:=n + D.length }]
 | n,[],k => rfl
 | n,d :: D,k => by
  show _ :: Z1d (n + 1) (D ++ [k]) = _ :: (Z1d (n + 1) D ++ _)
  rw [entsFrom_append (n + 1) D k]
  simp [Nat.add_assoc,Nat.add_comm 1]
omit [Orc] [OrcOk] in
theorem entsFrom_len:∀ (n:Nat) (D:List Key),(Z1d n D).length = D.length
 | _,[] => rfl
 | n,d :: D => by simp [Z1d,entsFrom_len (n + 1) D]
omit [Orc] [OrcOk] in
theorem keyCells_agg (n:Nat) (k:Key) (K:List AVal→Bool) (hk:k.2.length = n):Z1r true (Z7a n) (.agg k.cells) K = K k.cells:=by
 show lenK k.cells 0 (fun a => lenK (Z7a n) 0 fun m => ifK (Nat.beq a m) (K k.cells) (fail 54)) = K k.cells
 rw [Z0s,Z0s]
 have:k.cells.length = (Z7a n).length:=by simp [Key.cells,Z7a,hk]
 rw [this,Nat.beq_refl]
 rfl
omit [Orc] [OrcOk] in
theorem find_ents (w:Nat) (k:Key) (hk:k.2.length = w):∀ (D:List Key) (n i:Nat) (K:Option (Nat × AVal)→Bool),(∀ d ∈ D,d.2.length = w) →
  Z2q true (Z7a w) k.cells (Z1d n D) i K = K (if k ∈ D then some (i + D.idxOf k,.int .i64 (n + D.idxOf k:Nat)) else none)
 | [],n,i,K,_ => by simp [Z1d,Z2q]
 | d :: D,n,i,K,h => by
  show Z1r true (Z7a w) (.agg d.cells) (fun c => Z10 (Z7a w) k.cells c fun b => ifK b (K (some (i,.int .i64 n))) (Z2q true (Z7a w) k.cells (Z1d (n + 1) D) (i + 1) K)) = _
  rw [keyCells_agg w d _ (h d (by simp)),eqKey w k d _ hk (h d (by simp))]
  by_cases e:k = d
  ·subst e
   simp [ifK]
  ·rw [find_ents w k hk D (n + 1) (i + 1) K (fun x hx => h x (by simp [hx]))]
   have e':¬ d = k:=fun h => e h.symm
   by_cases hm:k ∈ D
   ·simp [ifK,e,hm,List.idxOf_cons,e',beq_false_of_ne e']
    have e1:i + 1 + D.idxOf k = i + (D.idxOf k + 1):=by omega
    have e2:n + 1 + D.idxOf k = n + (D.idxOf k + 1):=by omega
    rw [e1]
    have e3:(n:Int) + 1 + (D.idxOf k:Nat) = n + ((D.idxOf k:Nat) + 1):=by omega
    first | rw [e3] | rw [e2] | skip
   ·simp [ifK,e,hm]
theorem Zje {w:Nat} {z:AVal} {k:Key} {D:List Key} {F:Option (Nat × AVal)→Prop} (hk:k.2.length = w) (hD:∀ d ∈ D,d.2.length = w)
  (h:F (if k ∈ D then some (D.idxOf k,.int .i64 (D.idxOf k:Nat)) else none)):Zjd (true,Z7a w,z) (.agg k.cells) (Z1d 0 D) F:=by
 refine ⟨_,?_,h⟩
 show (Z1r true (Z7a w) (.agg k.cells) fun c => Z2q true (Z7a w) c (Z1d 0 D) 0 _) = true
 rw [keyCells_agg w k _ hk,find_ents w k hk D 0 0 _ hD]
 simp only [Nat.zero_add]
 exact Z1y.2 trivial
def Zse (info:Bool × List SK × AVal) (ok:Bool) (key:AVal) (m:Option AVal) (s:St) (Q:AVal→St→Prop):Prop:=match m with
 | some (.map b) => match s.obj b with
  | some (.map es _) => Zjd info key es fun r => match r with
   | none => if ok = true then Q (.tup [info.2.2,.bool false]) s else Q info.2.2 s
   | some x => if ok = true then Q (.tup [x.2,.bool true]) s else Q x.2 s
  | _ => False
 | _ => False
def setP (info:Bool × List SK × AVal) (key x:AVal) (m:Option AVal) (s:St) (Q:AVal→St→Prop):Prop:=match m with
 | some (.map b) => match s.obj b with
  | some (.map es clock) => Zjd info key es fun r => match r with
   | none => Q (.tup []) (s.put b (.map (es ++ [{ key:=key,val:=x,born:=clock }]) (clock + 1)))
   | some p => ∃ es',Z41 x key es p.1 (fun e => hold (e = es')) = true∧Q (.tup []) (s.put b (.map es' clock))
  | _ => False
 | _ => False
def Zkr (m:Option AVal) (s:St) (Q:AVal→St→Prop):Prop:=match m with
 | some (.map b) => match s.obj b with
  | some (.map es _) => Q (.int .i64 es.length) s
  | _ => False
 | _ => False
section
variable {P:Program} {γ:RO→Option AVal} {s:St} {Q:AVal→St→Prop}
@[simp ↓] theorem opP_lookup (info:Bool × List SK × AVal) (ok:Bool) (m k:RO):opP P (.lookup (some info) ok m k) γ s Q = Z1n (γ k) fun key => Zse info ok key (γ m) s Q:=propext ⟨fun h => h,fun h => h⟩
@[simp ↓] theorem opP_mapSet (info:Bool × List SK × AVal) (m k x:RO):opP P (.mapSet (some info) m k x) γ s Q = Z1n (γ k) fun key => Z1n (γ x) fun x => setP info key x (γ m) s Q:=propext ⟨fun h => h,fun h => h⟩
@[simp ↓] theorem opP_lenMap (n:Nat) (x:RO):opP P (.len (some (.map,n)) x) γ s Q = Zkr (γ x) s Q:=propext ⟨fun h => h,fun h => h⟩
end
section
variable {s:St} {Q:AVal→St→Prop} {b:Pos} {w cl:Nat} {z:AVal} {k:Key} {D:List Key}
theorem Zee {ok:Bool} (hb:s.obj b = some (.map (Z1d 0 D) cl)) (hk:k.2.length = w) (hD:∀ d ∈ D,d.2.length = w)
  (h1:k ∈ D→if ok = true then Q (.tup [.int .i64 (D.idxOf k:Nat),.bool true]) s else Q (.int .i64 (D.idxOf k:Nat)) s)
  (h2:k ∉ D→if ok = true then Q (.tup [z,.bool false]) s else Q z s):Zse (true,Z7a w,z) ok (.agg k.cells) (some (.map b)) s Q:=by
 unfold Zse
 simp only [hb]
 refine Zje hk hD ?_
 by_cases hm:k ∈ D
 ·rw [if_pos hm]
  exact h1 hm
 ·rw [if_neg hm]
  exact h2 hm
theorem Zmb (hb:s.obj b = some (.map (Z1d 0 D) D.length)) (hk:k.2.length = w) (hD:∀ d ∈ D,d.2.length = w) (hm:k ∉ D)
  (h:Q (.tup []) (s.put b (.map (Z1d 0 (D ++ [k])) (D ++ [k]).length))):setP (true,Z7a w,z) (.agg k.cells) (.int .i64 D.length) (some (.map b)) s Q:=by
 unfold setP
 simp only [hb]
 refine Zje hk hD ?_
 rw [if_neg hm]
 have e:=entsFrom_append 0 D k
 simp only [Nat.zero_add] at e
 rw [e] at h
 simpa using h
theorem Z7u {es:List MapE} (hb:s.obj b = some (.map es cl)) (h:Q (.int .i64 es.length) s):Zkr (some (.map b)) s Q:=by
 unfold Zkr
 simp only [hb]
 exact h
end
end Go.AM
end
section
namespace Go.AM
variable [Orc] [OrcOk]
set_option maxRecDepth 100000
theorem Zo9 {P:Program} {γ:RO→Option AVal} {s:St} {Q:AVal→St→Prop} {es n ox o:Nat} {x y:RO} {bx b:Pos} {cx c:Cap} {dcs scs:List AVal}
  (hx:γ x = some (.slice bx ox n cx)) (hy:γ y = some (.slice b o n c)) (hn:n ≠ 0) (hd:s.own bx = some dcs) (hs:s.cells b = some scs) (h1:o + n * es ≤ scs.length) (h2:ox + n * es ≤ dcs.length)
  (h:Q (.int .i64 n) (s.put bx (.cells (lay dcs ox ((scs.drop o).take (n * es))) false))):opP P (.copy (some es) x y) γ s Q:=by
 have hlen:((scs.drop o).take (n * es)).length = n * es:=by simp; omega
 refine ⟨_,_,fun rec K hK => ?_,h⟩
 refine Z01.2 ⟨_,hx,Z01.2 ⟨_,hy,?_⟩⟩
 show natK (Nat.min n n) (fun k => ifK (Nat.beq k 0) (K (.int .i64 (Int.ofNat 0)) s) (srcK es (.slice b o n c) s fun cs _ => Zac cs (Nat.mul k es) fun cs => (AVal.slice bx ox n cx).Zax fun b off _ _ => Z5v b off cs s fun s => K (.int .i64 (Int.ofNat k)) s)) = true
 rw [Z1f]
 have hmin:Nat.min n n = n:=Nat.min_self n
 rw [hmin]
 refine Z03.2 (.inr ⟨beq_false hn,?_⟩)
 obtain ⟨ro,ho⟩:=St.Z7k hs
 show (ifK (Nat.beq n 0) _ (Z2h b s fun cs _ => segK cs o (Nat.mul n es) _)) = true
 refine Z03.2 (.inr ⟨beq_false hn,Z1j.2 ⟨scs,ro,ho,Z2y.2 ⟨h1,?_⟩⟩⟩)
 refine Zes.2 ⟨Nat.le_of_eq hlen.symm,?_⟩
 have ht:List.take (Nat.mul n es) ((scs.drop o).take (n * es)) = (scs.drop o).take (n * es):=List.take_of_length_le (Nat.le_of_eq hlen)
 refine AVal.Zaa.2 ⟨bx,ox,n,cx,rfl,?_⟩
 refine Z1j.2 ⟨dcs,false,St.Z2e hd,?_⟩
 refine Z03.2 (.inr ⟨rfl,Z44.2 ⟨?_,?_⟩⟩)
 ·have:(List.take (Nat.mul n es) (List.take (Nat.mul n es) (List.drop o scs))).length = n * es:=by
   show (List.take (n * es) (List.take (n * es) (List.drop o scs))).length = n * es
   simp; omega
  omega
 ·rw [Z2b]
  have e:List.take (Nat.mul n es) (List.take (Nat.mul n es) (List.drop o scs)) = (scs.drop o).take (n * es):=ht
  rw [e]
  exact hK
end Go.AM
end
section
namespace Go.AM
variable [Orc] [OrcOk]
theorem Zg3 {P:Program} {γ:RO→Option AVal} {s:St} {Q:AVal→St→Prop} {mx:Bool} {x y:RO} {k k':IntKind} {a b:Int} (hx:γ x = some (.int k a)) (hy:γ y = some (.int k' b))
  (h:Q (.int k (if mx = true then max a b else min a b)) s):opP P (.mnmx mx [x,y]) γ s Q:=by
 refine ⟨_,_,fun rec K hK => ?_,h⟩
 show optK (γ x) (fun v => optK (γ y) fun w => Z8a mx [v,w] s K) = true
 rw [hx,hy]
 show ifK mx (ifK (ltI a b) (K (.int k b) s) (K (.int k a) s)) (ifK (ltI b a) (K (.int k b) s) (K (.int k a) s)) = true
 rw [Z40,Z40]
 cases mx with
 | true =>
  simp only [if_true] at hK
  by_cases hl:a < b
  ·rw [show max a b = b by omega] at hK
   simp [ifK,hl,hK]
  ·rw [show max a b = a by omega] at hK
   simp [ifK,hl,hK]
 | false =>
  simp only [Bool.false_eq_true,if_false] at hK
  by_cases hl:b < a
  ·rw [show min a b = b by omega] at hK
   simp [ifK,hl,hK]
  ·rw [show min a b = a by omega] at hK
   simp [ifK,hl,hK]
end Go.AM
end
section
namespace Go.AM
variable [Orc] [OrcOk]
set_option maxRecDepth 100000
def Bnd (γ:RO→Option AVal) (x:Option RO) (d n:Nat):Prop:=match x with
 | none => n = d
 | some r => ∃ k,γ r = some (.int k (n:Int))
theorem Z8m {γ:RO→Option AVal} {x:Option RO} {d n:Nat} (h:Bnd γ x d n) {K:Nat→Bool} (hK:K n = true):Z31 (x.map γ) d K = true:=by
 cases x with
 | none =>
  have h:n = d:=h
  subst h
  exact hK
 | some r =>
  obtain ⟨k,h⟩:=h
  exact Z01.2 ⟨_,h,AVal.Z0w.2 ⟨k,n,rfl,hK⟩⟩
theorem Zkq {a b c:Nat} {x:Bool} (h1:a ≤ b) (h2:b ≤ c) (h:x = true):le3K a b c x = true :=
 Z03.2 (.inl ⟨Nat.ble_eq_true_of_le h1,Z03.2 (.inl ⟨Nat.ble_eq_true_of_le h2,h⟩)⟩)
section
variable {P:Program} {γ:RO→Option AVal} {s:St} {Q:AVal→St→Prop} {x:RO} {lo hi:Option RO} {e ar:Option (Nat × Nat)} {a b:Nat}
theorem Zg4 {l:List UInt8} (hx:γ x = some (.str l)) (ha:Bnd γ lo 0 a) (hb:Bnd γ hi l.length b) (h1:a ≤ b) (h2:b ≤ l.length) (h:Q (.str ((l.drop a).take (b - a))) s) :
  opP P (.slice .str e ar x lo hi none) γ s Q:=by
 refine ⟨_,_,fun rec K hK => ?_,h⟩
 refine Z01.2 ⟨_,hx,?_⟩
 show lenK l 0 (fun n => Z31 (lo.map γ) 0 fun a => Z31 (hi.map γ) n fun b => le3K a b n (segK l a (Nat.sub b a) fun l => K (.str l) s)) = true
 rw [Z0s,Nat.zero_add]
 refine Z8m ha (Z8m hb (Zkq h1 h2 (Z2y.2 ⟨?_,hK⟩)))
 show a + (b - a) ≤ _
 omega
theorem Zob {es eb n off:Nat} {p:Pos} (hx:γ x = some (.slice p off n (.opn es))) (ha:Bnd γ lo 0 a) (hb:Bnd γ hi n b) (h1:a ≤ b) (h2:b ≤ n) (h:Q (.slice p (off + a * es) (b - a) (.opn es)) s) :
  opP P (.slice .slc (some (es,eb)) ar x lo hi none) γ s Q:=by
 refine ⟨_,_,fun rec K hK => ?_,h⟩
 refine Z01.2 ⟨_,hx,?_⟩
 show Z31 (lo.map γ) 0 (fun l => Z31 (hi.map γ) n fun h => ifK (Nat.beq es es) (le3K l h n (natK (Nat.add off (Nat.mul l es)) fun o => natK (Nat.sub h l) fun n => K (.slice p o n (.opn es)) s)) (fail 21)) = true
 refine Z8m ha (Z8m hb (Z03.2 (.inl ⟨by simp,Zkq h1 h2 ?_⟩)))
 rw [Z1f,Z1f]
 exact hK
theorem Zoa {es eb n c off:Nat} {p:Pos} (hx:γ x = some (.slice p off n (.lim c))) (ha:Bnd γ lo 0 a) (hb:Bnd γ hi n b) (h1:a ≤ b) (h2:b ≤ c)
  (h:Q (if c = a then .slice p off 0 (.lim 0) else .slice p (off + a * es) (b - a) (.lim (c - a))) s) :
  opP P (.slice .slc (some (es,eb)) ar x lo hi none) γ s Q:=by
 refine ⟨_,_,fun rec K hK => ?_,h⟩
 refine Z01.2 ⟨_,hx,?_⟩
 show Z31 (lo.map γ) 0 (fun l => Z31 (hi.map γ) n fun h => ifK (Nat.ble c c) (le3K l h c (ifK (Nat.beq c l) (K (.slice p off 0 (.lim 0)) s)
    (natK (Nat.add off (Nat.mul l es)) fun o => natK (Nat.sub h l) fun n => natK (Nat.sub c l) fun c => K (.slice p o n (.lim c)) s))) (fail 22)) = true
 refine Z8m ha (Z8m hb (Z03.2 (.inl ⟨Nat.ble_eq_true_of_le (Nat.le_refl _),Zkq h1 h2 ?_⟩)))
 by_cases hc:c = a
 ·rw [if_pos hc] at hK
  refine Z03.2 (.inl ⟨by rw [hc]; simp,hK⟩)
 ·rw [if_neg hc] at hK
  refine Z03.2 (.inr ⟨beq_false hc,?_⟩)
  rw [Z1f,Z1f,Z1f]
  exact hK
end
end Go.AM
end
section
open Go Go.AM
namespace Go.Proofs
set_option maxRecDepth 100000
def isL (c:UInt8):Bool:=decide (97 ≤ c.toNat) && decide (c.toNat ≤ 122)
def Z1x (nm:List UInt8):Bool:=decide (0 < nm.length) && (decide (nm.length ≤ 8) && nm.all isL)
theorem Zsd (c:UInt8):Z3j[c.toNat]? = some (.bool (isL c)):=by
 have hc:c.toNat < 256:=c.toNat_lt
 unfold Z3j isL
 by_cases h1:c.toNat < 97
 ·rw [List.getElem?_append_left (by simpa using h1),List.getElem?_replicate,if_pos h1]
  have:¬ 97 ≤ c.toNat:=by omega
  simp [this]
 ·rw [List.getElem?_append_right (by simp; omega)]
  by_cases h2:c.toNat < 123
  ·rw [List.getElem?_append_left (by simp; omega),List.getElem?_replicate,if_pos (by simp; omega)]
   have h3:97 ≤ c.toNat:=by omega
   have h4:c.toNat ≤ 122:=by omega
   simp [h3,h4]
  ·rw [List.getElem?_append_right (by simp; omega),List.getElem?_replicate,if_pos (by simp; omega)]
   have h4:¬ c.toNat ≤ 122:=by omega
   simp [h4]
theorem Zps:Z3j.length = 256:=by unfold Z3j; simp
theorem Zma {s:St} {B:Pos} {c:UInt8} {Q:AVal→St→Prop} (hB:s.cells B = some Z3j) (q:Q (.bool (isL c)) s):Z0e Tryd.prog 116 [.ptr B 0,.int .u8 (c.toNat:Int)] s Q:=by
 have hc:c.toNat < 256:=c.toNat_lt
 have hc':(c.toNat:Int) < 256:=by omega
 have hg:=Zsd c
 refine Z08 (Z0i (by decide)) fi116 rfl (by decide) rfl ?_
 refine Z00 ?_
 simp
 refine Z00 ?_
 simp [hB,hg,hc]
 refine ⟨hc',?_⟩
 refine AM.wp_ret ?_
 simp
 exact q
theorem Zqd {s:St} {B:Pos} {l:List UInt8} {Q:AVal→St→Prop} (hB:s.cells B = some Z3j) (hl:l.length ≤ 1000) (q:Q (.str (l.dropWhile isL)) s):Z0e Tryd.prog 106 [.str l,.ptr B 0] s Q:=by
 refine Z08 (Z0i (by decide)) fi106 rfl (by decide) rfl ?_
 refine Z00 ?_
 simp
 refine AM.wp_seq ?_
 refine AM.wp_block ?_
 refine AM.wp_loop (fun m t s' => ∃ l':List UInt8,m = l'.length∧l'.length ≤ 1000∧PT.get (posOf 0) t = some (.str l')∧PT.get (posOf 1) t = some (.ptr B 0)∧s' = s∧l.dropWhile isL = l'.dropWhile isL) l.length ⟨l,rfl,hl,by simp,by simp,rfl,rfl⟩ ?_
 rintro m t s' ⟨l',rfl,hl',t0,t1,rfl,he⟩
 refine AM.wp_seq ?_
 refine Z00 ?_
 simp [t0]
 refine AM.Z04 ?_
 cases l' with
 | nil =>
  simp
  refine AM.wp_exit ?_
  simp
  refine Z00 ?_
  simp [t0]
  refine AM.wp_ret ?_
  simp
  rw [he] at q
  exact q
 | cons c r =>
  have h0:(0:Int) < ((r.length:Int) + 1):=by omega
  simp [h0]
  refine AM.wp_skip ?_
  simp
  refine AM.wp_block ?_
  refine AM.wp_seq ?_
  refine Z00 ?_
  simp [t0,t1]
  refine Z02 ?_
  refine Zma hB ?_
  simp
  refine AM.Z04 ?_
  cases hc:isL c with
  | true =>
   simp
   refine AM.wp_skip ?_
   simp
   refine AM.wp_region ?_
   simp [t0]
   refine Zg4 (a:=1) (b:=(c :: r).length) (l:=c :: r) (by simp [t0]) ⟨.i64,by simp⟩ rfl (by simp) (Nat.le_refl _) ?_
   simp
   refine ⟨r.length,by omega,r,rfl,by simp at hl'; omega,rfl,t1,?_⟩
   rw [he,List.dropWhile_cons,hc]
   rfl
  | false =>
   simp
   refine AM.wp_exit ?_
   simp
   refine Z00 ?_
   simp [t0]
   refine AM.wp_ret ?_
   simp
   have:l.dropWhile isL = c :: r:=by rw [he,List.dropWhile_cons,hc]; rfl
   rw [this] at q
   exact q
theorem Zp8 {s:St} {B:Pos} {l:List UInt8} {Q:AVal→St→Prop} (hB:s.cells B = some Z3j) (hl:l.length ≤ 1000) (q:∀ r:List UInt8,r.length ≤ 1000→r.all isL = l.all isL→(r ≠ []→r.all isL = false)→Q (.str r) s):Z0e Tryd.prog 107 [.str l,.ptr B 0] s Q:=by
 refine Z08 (Z0i (by decide)) fi107 rfl (by decide) rfl ?_
 refine Z00 ?_
 simp
 refine AM.wp_seq ?_
 refine AM.wp_block ?_
 refine AM.wp_loop (fun m t s' => ∃ l':List UInt8,m = l'.length∧l'.length ≤ 1000∧PT.get (posOf 0) t = some (.str l')∧PT.get (posOf 1) t = some (.ptr B 0)∧s' = s∧l'.all isL = l.all isL) l.length ⟨l,rfl,hl,by simp,by simp,rfl,rfl⟩ ?_
 rintro m t s' ⟨l',rfl,hl',t0,t1,rfl,he⟩
 refine AM.wp_seq ?_
 refine Z00 ?_
 simp [t0]
 refine AM.Z04 ?_
 rcases List.eq_nil_or_concat l' with rfl | ⟨r,c,rfl⟩
 ·simp
  refine AM.wp_exit ?_
  simp
  refine Z00 ?_
  simp [t0]
  refine AM.wp_ret ?_
  simp
  exact q [] (by simp) he (by simp)
 ·rw [List.concat_eq_append] at t0 he hl'
  have h0:(0:Int) < ((r.length:Int) + 1):=by omega
  have hwr:IntKind.wrap .i64 (r.length:Int) = (r.length:Int):=by simp at hl'; rw [IntWalk.i64_in _ (by omega)]
  simp [h0]
  refine AM.wp_skip ?_
  simp
  refine AM.wp_block ?_
  refine AM.wp_seq ?_
  refine Z00 ?_
  simp [t0,t1,hwr]
  refine Z02 ?_
  refine Zma hB ?_
  simp
  refine AM.Z04 ?_
  cases hc:isL c with
  | true =>
   simp
   refine AM.wp_skip ?_
   simp
   refine AM.wp_region ?_
   simp [t0,hwr]
   refine Zg4 (a:=0) (b:=r.length) (l:=r ++ [c]) (by simp [t0]) rfl ⟨.i64,by simp⟩ (by simp) (by simp) ?_
   simp
   refine ⟨r.length,by omega,r,rfl,by simp at hl'; omega,rfl,t1,?_⟩
   rw [← he]
   simp [hc]
  | false =>
   simp
   refine AM.wp_exit ?_
   simp
   refine Z00 ?_
   simp [t0]
   refine AM.wp_ret ?_
   simp
   exact q _ hl' he (fun _ => by simp [hc])
theorem dropWhile_nil {α:Type} {p:α→Bool}:∀ l:List α,l.dropWhile p = []→l.all p = true
 | [],_ => rfl
 | a :: l,h => by
  rw [List.dropWhile_cons] at h
  split at h
  ·rename_i hp
   rw [List.all_cons,hp,dropWhile_nil l h]
   rfl
  ·cases h
theorem Zrc {s:St} {l:List UInt8} {Q:AVal→St→Prop} (h0:l ≠ []) (hl:l.length ≤ 1000) (q:∀ r s',Keeps s s'→(r = [] ↔ l.all isL = true)→Q (.str r) s'):Z0e Tryd.prog 84 [.str l,.str Z8r] s Q:=by
 refine Z08 (Z0i (by decide)) fi84 rfl (by decide) rfl ?_
 refine Z00 ?_
 simp
 refine AM.wp_seq ?_
 refine Z00 ?_
 have hne:Z8r ≠ []:=by simp [Z8r]
 simp [h0,hne]
 refine AM.Z04 ?_
 simp
 refine AM.wp_skip ?_
 simp
 refine AM.wp_seq ?_
 refine Z00 ?_
 have hl26:Z8r.length = 26:=rfl
 simp [hl26]
 refine AM.Z04 ?_
 simp
 refine AM.wp_skip ?_
 simp
 refine AM.wp_seq ?_
 refine Z00 ?_
 simp
 refine Z02 ?_
 refine Zev Zq2 ?_
 have hlen:=Zps
 generalize hLS:Z3j = LS at hlen
 simp
 refine ⟨hlen,?_⟩
 generalize hz:St.put _ s.next _ = s1
 have hk:Keeps s s1:=hz ▸ (Keeps.alloc s _).put _ (Z09 s) (Z18 _ _)
 have hB:s1.cells s.next = some Z3j:=by
  rw [← hz,Zfc,List.drop_eq_nil_of_le (by rw [hlen]; exact Nat.le_refl 256),List.append_nil,hLS]
 clear hz
 generalize s.next = B at hB ⊢
 refine Z00 ?_
 simp
 refine AM.Z04 ?_
 simp
 refine Z00 ?_
 simp
 refine Z02 ?_
 refine Zp8 hB hl fun r hr he hn => ?_
 simp
 refine Z02 ?_
 refine Zqd hB hr ?_
 simp
 refine AM.wp_ret ?_
 simp
 refine q _ s1 hk ?_
 rw [← he]
 constructor
 ·intro e
  cases r with
  | nil => rfl
  | cons c r' => exact dropWhile_nil _ e
 ·intro e
  by_cases hr0:r = []
  ·rw [hr0]
   rfl
  ·rw [hn hr0] at e
   cases e
theorem Zsg {s:St} {nm:List UInt8} {Q:AVal→St→Prop} (hl:nm.length ≤ 2 ^ 62) (q:∀ s',Keeps s s'→Q (.bool (Z1x nm)) s'):Z0e Tryd.prog 44 [.str nm] s Q:=by
 refine Z08 (Z0i (by decide)) fi44 rfl (by decide) rfl ?_
 refine Z00 ?_
 simp
 refine Z00 ?_
 unfold Z1x at q
 by_cases h0:0 < nm.length
 ·by_cases h8:nm.length ≤ 8
  ·have h0':(0:Int) < nm.length:=by omega
   have h8':¬ (8:Int) < nm.length:=by omega
   have hne:nm ≠ []:=by intro e; subst e; simp at h0
   simp [h0,h8']
   refine Z02 ?_
   refine Zrc hne (by omega) fun r s' hk hr => ?_
   simp
   refine AM.wp_ret ?_
   simp
   have:=q s' hk
   have e:r.isEmpty = nm.all isL:=by
    cases ha:nm.all isL with
    | true => rw [hr.2 ha]; rfl
    | false =>
     have:r ≠ []:=fun e => by rw [hr.1 e] at ha; cases ha
     cases r with
     | nil => exact (this rfl).elim
     | cons => rfl
   rw [e]
   simpa [h0,h8] using this
  ·have h0':(0:Int) < nm.length:=by omega
   have h8':(8:Int) < nm.length:=by omega
   simp [h0,h8']
   refine AM.wp_ret ?_
   simp
   have:=q s (Keeps.refl s)
   simpa [h8] using this
 ·have h0':¬ (0:Int) < nm.length:=by omega
  have hne:nm = []:=by
   cases nm with
   | nil => rfl
   | cons => simp at h0
  subst hne
  simp
  refine AM.wp_ret ?_
  simp
  have:=q s (Keeps.refl s)
  simpa using this
theorem Zsh {s:St} {nm:List UInt8} {Q:AVal→St→Prop} (hl:nm.length ≤ 2 ^ 62) (q:∀ s',Keeps s s'→Q (.bool (Z1x nm)) s'):Z0e Tryd.prog 93 [.str nm] s Q:=by
 refine Z08 (Z0i (by decide)) fi93 rfl (by decide) rfl ?_
 refine Z00 ?_
 simp
 refine Z00 ?_
 unfold Z1x at q
 by_cases h0:0 < nm.length
 ·by_cases h8:nm.length ≤ 8
  ·have h0':(0:Int) < nm.length:=by omega
   have h8':¬ (8:Int) < nm.length:=by omega
   have hne:nm ≠ []:=by intro e; subst e; simp at h0
   simp [h0,h8']
   refine Z02 ?_
   refine Zrc hne (by omega) fun r s' hk hr => ?_
   simp
   refine AM.wp_ret ?_
   simp
   have:=q s' hk
   have e:r.isEmpty = nm.all isL:=by
    cases ha:nm.all isL with
    | true => rw [hr.2 ha]; rfl
    | false =>
     have:r ≠ []:=fun e => by rw [hr.1 e] at ha; cases ha
     cases r with
     | nil => exact (this rfl).elim
     | cons => rfl
   rw [e]
   simpa [h0,h8] using this
  ·have h0':(0:Int) < nm.length:=by omega
   have h8':(8:Int) < nm.length:=by omega
   simp [h0,h8']
   refine AM.wp_ret ?_
   simp
   have:=q s (Keeps.refl s)
   simpa [h8] using this
 ·have h0':¬ (0:Int) < nm.length:=by omega
  have hne:nm = []:=by
   cases nm with
   | nil => rfl
   | cons => simp at h0
  subst hne
  simp
  refine AM.wp_ret ?_
  simp
  have:=q s (Keeps.refl s)
  simpa using this
structure HeapAt (s:St) (hb p:Pos) (vs:AVal) (l:List RC):Prop where
 wf:s.Wf
 ob:s.own hb = some [.slice p 0 l.length (.lim l.length),vs]
 op:s.own p = some (encs l)
 ne:p ≠ hb
 pos:1 ≤ l.length
 max:l.length ≤ 400
theorem Z0a {s:St} {b:Pos} {cs:List AVal} (h:s.own b = some cs):s.cells b = some cs:=by
 unfold St.own at h
 unfold St.cells
 split at h
 ·rename_i cs' e
  rw [e]
  exact h
 ·cases h
theorem Z0b {s:St} {b:Pos} {cs:List AVal} (hw:s.Wf) (h:s.own b = some cs):s.Old b:=by
 unfold St.own at h
 split at h
 ·rename_i cs' e
  exact Z3r hw e
 ·cases h
theorem HeapAt.keep {s s':St} {hb p:Pos} {vs:AVal} {l:List RC} (h:HeapAt s hb p vs l) (k:Keeps s s'):HeapAt s' hb p vs l :=
 ⟨k.wf h.wf,(k.own (Z0b h.wf h.ob)).trans h.ob,(k.own (Z0b h.wf h.op)).trans h.op,h.ne,h.pos,h.max⟩
theorem Ze5:∀ (l:List RC) (i:Nat) (c:RC),i < l.length→lay (encs l) (i * 4) c.enc = encs (l.set i c)
 | [],i,c,h => by simp at h
 | d :: l,0,c,h => by
  have e:encs (d :: l) = d.enc ++ encs l:=rfl
  have e2:encs ((d :: l).set 0 c) = c.enc ++ encs l:=rfl
  rw [e,e2]
  simp [lay,RC.enc]
 | d :: l,i + 1,c,h => by
  have e:encs (d :: l) = d.enc ++ encs l:=rfl
  have e2:encs ((d :: l).set (i + 1) c) = d.enc ++ encs (l.set i c):=rfl
  have ih:=Ze5 l i c (by simpa using h)
  have hd:d.enc.length = 4:=rfl
  have e3:(i + 1) * 4 = d.enc.length + i * 4:=by rw [hd]; omega
  rw [e,e2,← ih]
  unfold lay
  rw [e3,List.take_length_add_append,Nat.add_assoc,List.drop_length_add_append]
  simp
theorem Zpq (l:List RC):Z8d l = -1 ∨ ∃ i:Nat,Z8d l = i∧i < l.length:=by
 unfold Z8d
 cases h:l.findIdx? (fun c => !c.taken) with
 | none => exact .inl rfl
 | some i =>
  obtain ⟨hi,_⟩:=List.findIdx?_eq_some_iff_getElem.1 h
  exact .inr ⟨i,rfl,hi⟩
theorem Z8n (p:Pos) (o n c:Nat):Z27 8 (.slice p o n (.lim c)) (.slice p o n (.lim c)) = true:=by
 simp [Z27,Zb8]
theorem Zzy {s:St} {hb p:Pos} {vs v:AVal} {l:List RC} {nm:List UInt8} {ks:List Int} {Q:AVal→St→Prop} (h:HeapAt s hb p vs l) (hnm:nm.length ≤ 2 ^ 62) (hv:Z0g s v ks) (hks:ks.length ≤ 2 ^ 62)
  (qf:Z1x nm = false→∀ s',Keeps s s'→Q (.tup [.int .i64 0,.int .i64 4]) s')
  (qm:Z1x nm = true→4 < ks.length→∀ s',Keeps s s'→Q (.tup [.int .i64 0,.int .i64 2]) s')
  (q1:Z1x nm = true→ks.length ≤ 4→ks.all (Z34 l) = false→∀ s',Keeps s s'→Q (.tup [.int .i64 0,.int .i64 1]) s')
  (q2:Z1x nm = true→ks.length ≤ 4→ks.all (Z34 l) = true→Z8d l < 0→∀ s',Keeps s s'→Q (.tup [.int .i64 0,.int .i64 12]) s')
  (q3:Z1x nm = true→ks.length ≤ 4→ks.all (Z34 l) = true→∀ (i:Nat) kv s',Z8d l = i→i < l.length→Keeps s s'→KidV s' kv ks→(∀ q c,kv = .slice q 0 ks.length c→¬ s.Old q∧s'.Old q) →
   Q (.tup [.int .i64 i,.int .i64 0]) (s'.put p (.cells (encs (l.set i ⟨true,nm,kv,0⟩)) false))):Z0e Tryd.prog 11 [.ptr hb 0,.str nm,v] s Q:=by
 have hc:=Z0a h.ob
 have hpo:=Z0b h.wf h.op
 have hno:l.length ≠ 0:=by have:=h.pos; omega
 have hvt:=hv.ntup
 refine Z08 (Z0i (by decide)) fi11 rfl (by decide) rfl ?_
 refine Z00 ?_
 simp
 refine AM.wp_seq ?_
 refine AM.wp_block ?_
 refine Z00 ?_
 simp
 refine Z02 ?_
 refine Z75 hc rfl hno ?_
 simp
 refine AM.Z04 ?_
 simp
 refine Z00 ?_
 simp
 refine Z02 ?_
 refine Zsg hnm fun sN hkN => ?_
 have h:=h.keep hkN
 have hc:=Z0a h.ob
 have hpo:=Z0b h.wf h.op
 have hv:=hv.keep hkN
 cases hg:Z1x nm with
 | false =>
  simp
  refine AM.Z04 ?_
  simp
  refine Z00 ?_
  simp
  refine AM.wp_ret ?_
  simp
  exact qf hg _ hkN
 | true =>
 simp
 refine AM.Z04 ?_
 simp
 refine Z00 ?_
 simp [hv.len]
 refine AM.Z04 ?_
 by_cases h4':4 < ks.length
 ·have h4:(4:Int) < ks.length:=by omega
  simp [h4]
  refine Z00 ?_
  simp
  refine AM.wp_ret ?_
  simp
  exact qm hg h4' _ hkN
 have h4'':ks.length ≤ 4:=by omega
 have h4:¬ (4:Int) < ks.length:=by omega
 simp [h4]
 refine Z00 ?_
 simp [hc]
 refine Z02 ?_
 refine Zwe hv (by omega) (g:=Z34 l) (fun s' x R hk hx hR => Zvs (hk.old hpo) ((hk.cells hpo).trans (Z0a h.op)) rfl hR) fun s1 hk1 => ?_
 simp
 refine AM.Z04 ?_
 cases hall:ks.all (Z34 l) with
 | false =>
  simp
  refine Z00 ?_
  simp
  refine AM.wp_ret ?_
  simp
  exact q1 hg h4'' hall _ (hkN.trans hk1)
 | true =>
  simp
  refine AM.wp_skip ?_
  simp
  have H1:=h.keep hk1
  have hc1:=Z0a H1.ob
  have hpo1:=Z0b H1.wf H1.op
  refine Z00 ?_
  simp [hc1]
  refine Z02 ?_
  refine Zqp hpo1 (Z0a H1.op) rfl h.max fun s2 hk2 => ?_
  have H2:=H1.keep hk2
  have hc2:=Z0a H2.ob
  simp
  refine AM.wp_seq ?_
  refine Z00 ?_
  rcases Zpq l with e | ⟨i,e,hi⟩
  ·simp [e]
   refine AM.Z04 ?_
   simp
   refine Z00 ?_
   simp
   refine AM.wp_ret ?_
   simp
   exact q2 hg h4'' hall (by omega) _ (hkN.trans (hk1.trans hk2))
  ·have hneg:¬ ((i:Int) < 0):=by omega
   simp [e,hneg]
   refine AM.Z04 ?_
   simp
   refine AM.wp_skip ?_
   simp
   refine Z00 ?_
   simp [hc2]
   refine Z02 ?_
   refine Zhz H2.wf ((hv.keep hk1).keep hk2) (by omega) fun kv s3 hk3 hkv hfr => ?_
   have H3:=H2.keep hk3
   have hc3:=Z0a H3.ob
   have hkt:∀ t,¬ kv = .tup t:=by
    rintro t rfl
    rcases hkv with ⟨h0,_⟩ | ⟨q,c,h0,_⟩
    ·cases h0
    ·cases h0
   have hlay:=Ze5 l i ⟨true,nm,kv,0⟩ hi
   have hkc:kv.cells = [kv]:=by
    rcases hkv with ⟨h0,_⟩ | ⟨q,c,h0,_⟩
    ·cases kv <;> simp [Z1q] at h0
     ·rfl
     ·rfl
    ·rw [h0]; rfl
   have hle:i * 4 + 4 ≤ (encs l).length:=by rw [Z36]; omega
   simp [lay,RC.enc] at hlay
   simp [hc3,Z8n,hi,H3.op,hkt,hkc,hle]
   refine Z00 ?_
   simp
   refine AM.wp_ret ?_
   simp
   rw [hlay]
   refine q3 hg h4'' hall i kv s3 e hi (hkN.trans ((hk1.trans hk2).trans hk3)) hkv fun q c h0 => ?_
   obtain ⟨h1,h2⟩:=hfr q c h0
   exact ⟨fun h3 => h1 ((hk1.trans hk2).old (hkN.old h3)),h2⟩
theorem KidV.keep {s s':St} {kv:AVal} {ks:List Int} (h:KidV s kv ks) (hw:s.Wf) (k:Keeps s s'):KidV s' kv ks:=by
 rcases h with h | ⟨q,c,h1,h2⟩
 ·exact .inl h
 ·exact .inr ⟨q,c,h1,(k.own (Z0b hw h2)).trans h2⟩
theorem KidV.len {s:St} {kv:AVal} {ks:List Int} (h:KidV s kv ks):Z1q kv = some ks.length:=by
 rcases h with ⟨h1,rfl⟩ | ⟨q,c,rfl,h2⟩
 ·exact h1
 ·rfl
theorem Zqc {l:List RC} {i:Int} (h:Z34 l i = true):0 ≤ i∧∃ c,l[i.toNat]? = some c∧c.taken = true∧i < l.length:=by
 by_cases h0:0 ≤ i
 ·refine ⟨h0,?_⟩
  cases hc:l[i.toNat]? with
  | none => unfold Z34 at h; rw [hc] at h; simp at h
  | some c =>
   rw [Zmd h0 hc] at h
   have:=(List.getElem?_eq_some_iff.1 hc).1
   exact ⟨c,rfl,h,by omega⟩
 ·rw [Zet (.inl (by omega))] at h
  cases h
theorem Z5z:∀ (ks:List Int) (j:Nat) (k:Int),j < ks.length→lay (ks.map fun k => AVal.int .i64 k) j [.int .i64 k] = (ks.set j k).map fun k => AVal.int .i64 k
 | [],j,k,h => by simp at h
 | a :: r,0,k,h => by simp [lay]
 | a :: r,j + 1,k,h => by
  have ih:=Z5z r j k (by simpa using h)
  simp [lay] at ih ⊢
  exact ih
theorem tie_wp {s:St} {hb p:Pos} {vs:AVal} {l:List RC} {i j k:Int} {K:Nat→List Int} {Q:AVal→St→Prop} (h:HeapAt s hb p vs l) (hK:∀ n c,l[n]? = some c→KidV s c.kv (K n))
  (q0:¬ (Z34 l i = true∧Z34 l k = true∧0 ≤ j∧j < (K i.toNat).length)→∀ s',Keeps s s'→Q (.int .i64 1) s')
  (q1:Z34 l i = true→Z34 l k = true→0 ≤ j→j < (K i.toNat).length→∀ (c:RC) (q:Pos) (cp:Cap) (s':St),l[i.toNat]? = some c→c.kv = .slice q 0 (K i.toNat).length cp→Keeps s s' →
   Q (.int .i64 0) (s'.put q (.cells (((K i.toNat).set j.toNat k).map fun k => .int .i64 k) false))):Z0e Tryd.prog 12 [.ptr hb 0,.int .i64 i,.int .i64 j,.int .i64 k] s Q:=by
 have hc:=Z0a h.ob
 have hpo:=Z0b h.wf h.op
 have hno:l.length ≠ 0:=by have:=h.pos; omega
 refine Z08 (Z0i (by decide)) fi12 rfl (by decide) rfl ?_
 refine Z00 ?_
 simp
 refine AM.wp_seq ?_
 refine AM.wp_block ?_
 refine Z00 ?_
 simp
 refine Z02 ?_
 refine Z75 hc rfl hno ?_
 simp
 refine AM.Z04 ?_
 simp
 refine Z00 ?_
 simp [hc]
 refine Z02 ?_
 refine Zeu hpo (Z0a h.op) rfl fun s1 hk1 => ?_
 have H1:=h.keep hk1
 have hc1:=Z0a H1.ob
 cases hi:Z34 l i with
 | false =>
  simp
  refine AM.Z04 ?_
  simp
  refine Z00 ?_
  simp
  refine AM.wp_ret ?_
  simp
  exact q0 (by simp [hi]) _ hk1
 | true =>
  simp [hc1]
  refine Z02 ?_
  refine Zeu (Z0b H1.wf H1.op) (Z0a H1.op) rfl fun s2 hk2 => ?_
  have H2:=H1.keep hk2
  have hc2:=Z0a H2.ob
  cases hk:Z34 l k with
  | false =>
   simp
   refine AM.Z04 ?_
   simp
   refine Z00 ?_
   simp
   refine AM.wp_ret ?_
   simp
   exact q0 (by simp [hk]) _ (hk1.trans hk2)
  | true =>
   obtain ⟨h0,c,hci,_,hlt⟩:=Zqc hi
   have hkv:=((hK _ c hci).keep h.wf hk1).keep H1.wf hk2
   have hg:(encs l)[i.toNat * 4 + 2]? = some c.kv:=Z3f l i.toNat 2 c hci (by decide)
   have hcp:=Z0a H2.op
   have hle:i.toNat * 4 + 2 < (encs l).length:=by rw [Z36]; omega
   have hlen:=hkv.len
   by_cases hj:j < 0
   ·simp [hj]
    refine AM.Z04 ?_
    simp
    refine Z00 ?_
    simp
    refine AM.wp_ret ?_
    simp
    exact q0 (by omega) _ (hk1.trans hk2)
   ·have hj0:0 ≤ j:=by omega
    by_cases hjl:j < (K i.toNat).length
    ·simp [hj,hc2,h0,hlt,hcp,hg,hlen,hjl]
     rcases hkv with ⟨_,h1⟩ | ⟨q,cp,h1,h2⟩
     ·rw [h1] at hjl
      simp at hjl
      omega
     refine AM.Z04 ?_
     simp
     refine AM.wp_skip ?_
     simp
     refine Z00 ?_
     rw [h1] at hg
     have hlay:=Z5z (K i.toNat) j.toNat k (by omega)
     have hjn:j.toNat + 1 ≤ (K i.toNat).length:=by omega
     simp [lay] at hlay
     simp [hj0,hc2,h0,hlt,hcp,hg,hjl,h2,hlay,hjn]
     refine Z00 ?_
     simp
     refine AM.wp_ret ?_
     simp
     have:=q1 hi hk hj0 hjl c q cp s2 hci h1 (hk1.trans hk2)
     simp at this
     exact this
    ·simp [hj,hc2,h0,hlt,hcp,hg,hlen,hjl]
     refine AM.Z04 ?_
     simp
     refine Z00 ?_
     simp
     refine AM.wp_ret ?_
     simp
     exact q0 (by omega) _ (hk1.trans hk2)
structure Same (bs:List Pos) (s s':St):Prop where
 obj:∀ b,b ∉ bs→s.Old b→s'.obj b = s.obj b
 next:s.next.toNat ≤ s'.next.toNat
 wf:s.Wf→s'.Wf
theorem Same.refl (bs:List Pos) (s:St):Same bs s s:=⟨fun _ _ _ => rfl,Nat.le_refl _,fun h => h⟩
theorem Same.old {bs:List Pos} {s s':St} (k:Same bs s s') {b:Pos} (h:s.Old b):s'.Old b:=Nat.lt_of_lt_of_le h k.next
theorem Same.trans {bs:List Pos} {s s' s'':St} (k:Same bs s s') (k':Same bs s' s''):Same bs s s'' :=
 ⟨fun b hb h => (k'.obj b hb (k.old h)).trans (k.obj b hb h),Nat.le_trans k.next k'.next,fun h => k'.wf (k.wf h)⟩
theorem Same.Z8j {bs:List Pos} {s s':St} (k:Keeps s s'):Same bs s s':=⟨fun b _ h => k.obj b h,k.next,k.wf⟩
theorem Same.cells {bs:List Pos} {s s':St} (k:Same bs s s') {b:Pos} (hb:b ∉ bs) (h:s.Old b):s'.cells b = s.cells b:=by unfold St.cells; rw [k.obj b hb h]
theorem Same.own {bs:List Pos} {s s':St} (k:Same bs s s') {b:Pos} (hb:b ∉ bs) (h:s.Old b):s'.own b = s.own b:=by unfold St.own; rw [k.obj b hb h]
theorem Same.put {bs:List Pos} {s s':St} (k:Same bs s s') {b:Pos} (x:AObj) (h:b ∈ bs) (h':s'.Old b):Same bs s (s'.put b x) :=
 ⟨fun c hc ho => by
  have hne:c ≠ b:=fun e => hc (e ▸ h)
  rw [Z43 hne]
  exact k.obj c hc ho,k.next,fun hw => Zgg x (k.wf hw) h'⟩
theorem Same.keeps {bs:List Pos} {s0 s s':St} (k0:Keeps s0 s) (k:Same bs s s') (h:∀ b ∈ bs,¬ s0.Old b):Keeps s0 s' :=
 ⟨fun b hb => (k.obj b (fun hm => h b hm hb) (k0.old hb)).trans (k0.obj b hb),Nat.le_trans k0.next k.next,fun hw => k.wf (k0.wf hw)⟩
def Fr (W:List Nat) (t0 t:PT AVal):Prop:=∀ x,x ∉ W→PT.get (posOf x) t = PT.get (posOf x) t0
structure NodesG (s:St) (p:Pos) (nds:List (List UInt8 × List Int)):Prop where
 old:s.Old p
 ex:∃ cs,s.cells p = some cs∧2 * nds.length ≤ cs.length∧∀ i nd,nds[i]? = some nd→cs[i * 2]? = some (.str nd.1)∧∃ kv,cs[i * 2 + 1]? = some kv∧Z0g s kv nd.2
theorem NodesG.keep {s s':St} {p:Pos} {nds:List (List UInt8 × List Int)} (h:NodesG s p nds) (k:Keeps s s'):NodesG s' p nds:=by
 obtain ⟨cs,h1,h2,h3⟩:=h.ex
 refine ⟨k.old h.old,cs,(k.cells h.old).trans h1,h2,fun i nd e => ?_⟩
 obtain ⟨h4,kv,h5,h6⟩:=h3 i nd e
 exact ⟨h4,kv,h5,h6.keep k⟩
def sgX (now ks:List Int) (i:Nat):List Int:=(List.range 4).map fun j => if j < i then ((ks[j]?).bind fun k => now[k.toNat]?).getD 0 else 0
def sgK (now:List Int) (nd:List UInt8 × List Int) (i:Nat):Key:=(nd.1,(nd.2.length:Int) :: sgX now nd.2 i)
theorem Za1 (now ks:List Int) (i:Nat):(sgX now ks i).length = 4:=by simp [sgX]
theorem Zvl {now ks:List Int} {i:Nat} {k x:Int} {nm:List UInt8} (hi:i < 4) (hk:ks[i]? = some k) (hx:now[k.toNat]? = some x) :
  lay (Key.cells (nm,(ks.length:Int) :: sgX now ks i)) (2 + i) [.int .i64 x] = Key.cells (nm,(ks.length:Int) :: sgX now ks (i + 1)):=by
 have e:ks[i]? = some k:=hk
 have:i = 0 ∨ i = 1 ∨ i = 2 ∨ i = 3:=by omega
 rcases this with rfl | rfl | rfl | rfl <;> simp [lay,Key.cells,sgX,List.range,List.range.loop,e,hx]
theorem Zp3 (now ks:List Int) {i:Nat} (hi:ks.length ≤ i) (h4:ks.length ≤ 4):sgX now ks i = sgX now ks 4:=by
 unfold sgX
 refine List.map_congr_left fun j hj => ?_
 have hj4:j < 4:=by simpa using hj
 by_cases h:j < ks.length
 ·rw [if_pos (by omega),if_pos hj4]
 ·rw [if_pos hj4,List.getElem?_eq_none (by omega)]
  simp
theorem Zzv {fr:FI} {s0 s:St} {t0:PT AVal} {p Bn Bk:Pos} {nds:List (List UInt8 × List Int)} {nd:List UInt8 × List Int} {a:Nat} {now:List Int} {c0 c1:Cap} {Q:Ex→PT AVal→St→Prop}
  (hN:NodesG s0 p nds) (hk0:Keeps s0 s) (hnd:nds[a]? = some nd) (h4:nd.2.length ≤ 4) (hin:∀ k ∈ nd.2,0 ≤ k∧k < nds.length) (hlen:now.length = nds.length)
  (h0:PT.get (posOf 0) t0 = some (.slice p 0 nds.length c0)) (h11:PT.get (posOf 11) t0 = some (.int .i64 a)) (h5:PT.get (posOf 5) t0 = some (.slice Bn 0 nds.length c1)) (h12:PT.get (posOf 12) t0 = some (.ptr Bk 0))
  (hBn:s.cells Bn = some (now.map fun k => .int .i64 k)) (hob:s.Old Bn) (hne:Bn ≠ Bk) (hBk:s.own Bk = some (sgK now nd 0).cells) (hoBk:s.Old Bk) (hfr:¬ s0.Old Bk)
  (q:∀ t s',Fr [13,14,55,56,57,58] t0 t→Same [Bk] s s'→s'.own Bk = some (sgK now nd 4).cells→Q .normal t s'):wp Tryd.prog Ztu fr t0 s Q:=by
 have hf:∀ b ∈ [Bk],¬ s0.Old b:=by simpa using hfr
 obtain ⟨cs,hcs,hle,hel⟩:=(hN.keep hk0).ex
 obtain ⟨hel0,kv,hel1,hkv⟩:=hel a nd hnd
 have ha:a < nds.length:=(List.getElem?_eq_some_iff.1 hnd).1
 have hkv0:Z0g s0 kv nd.2:=by
  obtain ⟨cs0,hcs0,_,hel00⟩:=hN.ex
  have e:cs0 = cs:=by
   have:=hk0.cells hN.old
   rw [hcs,hcs0] at this
   exact (Option.some.inj this).symm
  subst e
  obtain ⟨_,kv',h1,h2⟩:=hel00 a nd hnd
  rw [hel1] at h1
  cases h1
  exact h2
 refine Z00 ?_
 simp [h0,h11,ha,hcs,hel1,hkv.len]
 refine AM.wp_block ?_
 refine AM.wp_loop (fun m t s' => ∃ i:Nat,i ≤ nd.2.length∧m = nd.2.length - i∧Fr [13,14,55,56,57,58] t0 t∧PT.get (posOf 55) t = some kv∧PT.get (posOf 56) t = some (.int .i64 nd.2.length)∧PT.get (posOf 57) t = some (.int .i64 i)∧Same [Bk] s s'∧s'.own Bk = some (sgK now nd i).cells) nd.2.length ⟨0,by simp,by simp,?_,by simp,by simp,by simp,Same.refl _ _,hBk⟩ ?_
 ·intro x hx
  simp at hx
  simp [hx]
 rintro m t s' ⟨i,hi,rfl,hF,t55,t56,t57,hS,hO⟩
 refine Z00 ?_
 simp [t56,t57]
 refine AM.wp_seq ?_
 refine AM.Z04 ?_
 by_cases hlt:i < nd.2.length
 ·obtain ⟨k,hk⟩:∃ k,nd.2[i]? = some k:=⟨_,List.getElem?_eq_getElem hlt⟩
  obtain ⟨hk1,hk2⟩:=hin k (List.mem_of_getElem? hk)
  obtain ⟨x,hx⟩:∃ x,now[k.toNat]? = some x:=⟨_,List.getElem?_eq_getElem (by omega)⟩
  have hwr:IntKind.wrap .i64 ((i:Int) + 1) = ((i + 1:Nat):Int):=by rw [IntWalk.i64_in _ (by omega)]; omega
  have hkeep:Keeps s0 s':=Same.keeps hk0 hS hf
  have hBn':s'.cells Bn = some (now.map fun k => .int .i64 k):=(hS.cells (by simpa using hne) hob).trans hBn
  have hgx:(now.map fun k => AVal.int .i64 k)[k.toNat]? = some (.int .i64 x):=by rw [List.getElem?_map,hx]; rfl
  have hlay:lay (sgK now nd i).cells (2 + i) [.int .i64 x] = (sgK now nd (i + 1)).cells:=Zvl (nm:=nd.1) (by omega) hk hx
  have hsl:2 + i + 1 ≤ (sgK now nd i).cells.length:=by simp [sgK,Key.cells,Za1]; omega
  have hi4:(i:Int) < 4:=by omega
  simp [lay] at hlay
  have t5:=(hF 5 (by simp)).trans h5
  have t12:=(hF 12 (by simp)).trans h12
  rcases hkv0.keep hkeep with ⟨_,e0⟩ | ⟨b,o,c,ks,rfl,hb,hks,hle2,hel2⟩
  ·rw [e0] at hlt
   simp at hlt
  have hg:=hel2 i k hk
  simp [hlt]
  refine AM.wp_skip ?_
  simp
  refine AM.wp_seq ?_
  refine AM.wp_block ?_
  refine Z00 ?_
  simp [t55,t57,hlt,hks,hg]
  refine AM.wp_region ?_
  simp [t5,t12,hk1,hk2,hBn',hgx,hO]
  refine ⟨hi4,hsl,?_⟩
  rw [hlay]
  refine AM.wp_region ?_
  simp [t57,hwr]
  refine ⟨nd.2.length - (i + 1),by omega,i + 1,by omega,by omega,?_,by simp [t55],by simp [t56],by simp,?_,by simp⟩
  ·intro y hy
   simp at hy
   simp [hy]
   exact hF y (by simp [hy])
  ·exact hS.put _ (by simp) (hS.old hoBk)
 ·simp [hlt]
  refine AM.wp_exit ?_
  simp
  have hie:i = nd.2.length:=by omega
  subst hie
  refine q _ s' ?_ hS ?_
  ·intro y hy
   simp at hy
   simp [hy]
   exact hF y (by simp [hy])
  ·rw [hO]
   unfold sgK
   rw [Zp3 now nd.2 (Nat.le_refl _) h4]
def addK (D:List Key) (k:Key):List Key:=if k ∈ D then D else D ++ [k]
theorem Zbz (D:List Key) (k:Key):k ∈ addK D k:=by
 unfold addK
 split
 ·assumption
 ·simp
theorem Zmu {w:Nat} {D:List Key} {k:Key} (hD:∀ d ∈ D,d.2.length = w) (hk:k.2.length = w):∀ d ∈ addK D k,d.2.length = w:=by
 unfold addK
 split
 ·exact hD
 ·intro d hd
  rcases List.mem_append.1 hd with h | h
  ·exact hD d h
  ·simp at h
   subst h
   exact hk
theorem Zzc {fr:FI} {s0 s:St} {t0:PT AVal} {p Bn Bx Bm:Pos} {nds:List (List UInt8 × List Int)} {nd:List UInt8 × List Int} {a:Nat} {now nxt:List Int} {c0 c1 c2:Cap} {D:List Key} {Q:Ex→PT AVal→St→Prop}
  (hN:NodesG s0 p nds) (hk0:Keeps s0 s) (hw:s.Wf) (hnd:nds[a]? = some nd) (h4:nd.2.length ≤ 4) (hin:∀ k ∈ nd.2,0 ≤ k∧k < nds.length) (hlen:now.length = nds.length) (hlx:nxt.length = nds.length)
  (h0:PT.get (posOf 0) t0 = some (.slice p 0 nds.length c0)) (h11:PT.get (posOf 11) t0 = some (.int .i64 a)) (h5:PT.get (posOf 5) t0 = some (.slice Bn 0 nds.length c1)) (h7:PT.get (posOf 7) t0 = some (.slice Bx 0 nds.length c2)) (h9:PT.get (posOf 9) t0 = some (.map Bm))
  (hBn:s.cells Bn = some (now.map fun k => .int .i64 k)) (hob:s.Old Bn) (hBx:s.own Bx = some (nxt.map fun k => .int .i64 k)) (hBm:s.obj Bm = some (.map (Z1d 0 D) D.length)) (hD:∀ d ∈ D,d.2.length = 5)
  (hnx:Bn ≠ Bx) (hnm:Bn ≠ Bm) (hxm:Bx ≠ Bm) (hfx:¬ s0.Old Bx) (hfm:¬ s0.Old Bm)
  (q:∀ t s',Fr [11,12,13,14,16,39,40,41,42,43,44,45,46,47,48,49,50,55,56,57,58,77] t0 t→Same [Bx,Bm] s s' →
   s'.own Bx = some ((nxt.set a ((addK D (sgK now nd 4)).idxOf (sgK now nd 4):Nat)).map fun k => .int .i64 k)→s'.obj Bm = some (.map (Z1d 0 (addK D (sgK now nd 4))) (addK D (sgK now nd 4)).length)→Q .normal t s'):wp Tryd.prog Ztt fr t0 s Q:=by
 obtain ⟨cs,hcs,hle,hel⟩:=(hN.keep hk0).ex
 obtain ⟨hel0,kv,hel1,hkv⟩:=hel a nd hnd
 have ha:a < nds.length:=(List.getElem?_eq_some_iff.1 hnd).1
 have hoX:s.Old Bx:=Z0b hw hBx
 have hoM:s.Old Bm:=Z3r hw hBm
 refine Z00 ?_
 simp [h0,h11,ha,hcs,hel0,hel1,hkv.len,hw]
 have hK1:Keeps s ((s.alloc (.cells [.str [],.int .i64 0,.int .i64 0,.int .i64 0,.int .i64 0,.int .i64 0] false)).put s.next (.cells [.str nd.1,.int .i64 nd.2.length,.int .i64 0,.int .i64 0,.int .i64 0,.int .i64 0] false)) :=
  (Keeps.alloc _ _).put _ (Z09 _) (Z18 _ _)
 have hoK:((s.alloc (.cells [.str [],.int .i64 0,.int .i64 0,.int .i64 0,.int .i64 0,.int .i64 0] false)).put s.next (.cells [.str nd.1,.int .i64 nd.2.length,.int .i64 0,.int .i64 0,.int .i64 0,.int .i64 0] false)).Old s.next:=Zgw.2 (Z18 _ _)
 have hwK:((s.alloc (.cells [.str [],.int .i64 0,.int .i64 0,.int .i64 0,.int .i64 0,.int .i64 0] false)).put s.next (.cells [.str nd.1,.int .i64 nd.2.length,.int .i64 0,.int .i64 0,.int .i64 0,.int .i64 0] false)).own s.next = some (sgK now nd 0).cells:=Z7x _ _ _
 generalize (s.alloc (.cells [.str [],.int .i64 0,.int .i64 0,.int .i64 0,.int .i64 0,.int .i64 0] false)).put s.next (.cells [.str nd.1,.int .i64 nd.2.length,.int .i64 0,.int .i64 0,.int .i64 0,.int .i64 0] false) = S1 at hK1 hoK hwK ⊢
 have hfk:¬ s0.Old s.next:=fun h => Z09 s (hk0.old h)
 have hnk:Bn ≠ s.next:=ne_next hob
 have hxk:Bx ≠ s.next:=ne_next hoX
 have hmk:Bm ≠ s.next:=ne_next hoM
 have hsk:¬ s.Old s.next:=Z09 s
 generalize s.next = Bk at hoK hwK hfk hnk hxk hmk hsk ⊢
 refine AM.wp_seq ?_
 refine Zzv (c0:=c0) (c1:=c1) (Bn:=Bn) (Bk:=Bk) hN (hk0.trans hK1) hnd h4 hin hlen (by simp [h0]) (by simp [h11]) (by simp [h5]) (by simp) ((hK1.cells hob).trans hBn) (hK1.old hob) hnk hwK hoK hfk fun t2 s2 hF2 hS2 hO2 => ?_
 have hX2:s2.own Bx = some (nxt.map fun k => .int .i64 k):=((hS2.own (by simpa using hxk) (hK1.old hoX)).trans (hK1.own hoX)).trans hBx
 have hM2:s2.obj Bm = some (.map (Z1d 0 D) D.length):=((hS2.obj Bm (by simpa using hmk) (hK1.old hoM)).trans (hK1.obj Bm hoM)).trans hBm
 have g9:PT.get (posOf 9) t2 = some (.map Bm):=(hF2 9 (by simp)).trans (by simp [h9])
 have g12:PT.get (posOf 12) t2 = some (.ptr Bk 0):=(hF2 12 (by simp)).trans (by simp)
 have g7:PT.get (posOf 7) t2 = some (.slice Bx 0 nds.length c2):=(hF2 7 (by simp)).trans (by simp [h7])
 have g11:PT.get (posOf 11) t2 = some (.int .i64 a):=(hF2 11 (by simp)).trans (by simp [h11])
 have hwf2:s2.Wf:=hS2.wf (hK1.wf hw)
 have hoX2:s2.Old Bx:=hS2.old (hK1.old hoX)
 have hoM2:s2.Old Bm:=hS2.old (hK1.old hoM)
 have hl6:(sgK now nd 4).cells.length = 6:=by simp [sgK,Key.cells,Za1]
 have ht6:(sgK now nd 4).cells.take 6 = (sgK now nd 4).cells:=List.take_of_length_le (by omega)
 have hk5:(sgK now nd 4).2.length = 5:=by simp [sgK,Za1]
 have hSa:Same [Bx,Bm] s s2:=⟨fun b hb ho => (hS2.obj b (by intro hm; simp at hm; subst hm; exact hsk ho) (hK1.old ho)).trans (hK1.obj b ho),Nat.le_trans hK1.next hS2.next,fun h => hwf2⟩
 have hcB:=Z0a hO2
 have fin:∀ (t3:PT AVal) (s3:St),Fr [11,12,13,14,16,39,40,41,42,43,44,45,46,47,48,49,50,55,56,57,58,77] t0 t3→PT.get (posOf 12) t3 = some (.ptr Bk 0)→Same [Bx,Bm] s s3→s3.cells Bk = some (sgK now nd 4).cells →
   s3.own Bx = some (nxt.map fun k => .int .i64 k)→s3.obj Bm = some (.map (Z1d 0 (addK D (sgK now nd 4))) (addK D (sgK now nd 4)).length)→PT.get (posOf 11) t3 = some (.int .i64 a)→wp Tryd.prog Ztv fr t3 s3 Q:=by
  intro t3 s3 hF3 f12 hS3 hB3 hX3 hM3 f11
  have f7:PT.get (posOf 7) t3 = some (.slice Bx 0 nds.length c2):=(hF3 7 (by simp)).trans h7
  have f9:PT.get (posOf 9) t3 = some (.map Bm):=(hF3 9 (by simp)).trans h9
  refine AM.wp_region ?_
  simp [f7,f9,f11,f12,hB3,hl6,ht6]
  refine Zee (w:=5) hM3 hk5 (Zmu hD hk5) (fun hm => ?_) (fun hm => (hm (Zbz D _)).elim)
  have hlay:=Z5z nxt a ((addK D (sgK now nd 4)).idxOf (sgK now nd 4):Nat) (by omega)
  have hax:a + 1 ≤ nxt.length:=by omega
  simp [lay] at hlay
  simp [ha,hX3,hax]
  refine q t3 _ hF3 (hS3.put _ (by simp) (hS3.old hoX)) ?_ ?_
  ·rw [hlay]
   simp
  ·rw [Z43 (fun e => hxm e.symm)]
   exact hM3
 have hF2':∀ (b:Bool),Fr [11,12,13,14,16,39,40,41,42,43,44,45,46,47,48,49,50,55,56,57,58,77] t0 (PT.set (posOf 77) (.bool b) (PT.set (posOf 16) (.bool (!b)) t2)):=by
  intro b y hy
  simp at hy
  simp [hy]
  rw [hF2 y (by simp [hy])]
  simp [hy]
 simp
 refine AM.wp_seq ?_
 refine Z00 ?_
 simp [g9,g12,hcB,hl6,ht6]
 refine Zee (w:=5) hM2 hk5 hD (fun hm => ?_) (fun hm => ?_)
 ·have e:addK D (sgK now nd 4) = D:=if_pos hm
  simp
  refine Z00 ?_
  simp
  refine AM.Z04 ?_
  simp
  refine AM.wp_skip ?_
  simp
  refine fin _ s2 (hF2' false) (by simp [g12]) hSa hcB hX2 ?_ (by simp [g11])
  rw [e]
  exact hM2
 ·have e:addK D (sgK now nd 4) = D ++ [sgK now nd 4]:=if_neg hm
  simp
  refine Z00 ?_
  simp
  refine AM.Z04 ?_
  simp
  refine AM.wp_region ?_
  simp [g9,g12,hcB,hl6,ht6]
  refine Z7u hM2 ?_
  rw [entsFrom_len]
  refine Zmb (w:=5) hM2 hk5 hD hm ?_
  simp
  refine fin _ _ (hF2' true) (by simp [g12]) (hSa.put _ (by simp) hoM2) ?_ ?_ ?_ (by simp [g11])
  ·rw [Zc2 (fun e => hmk e.symm)]
   exact hcB
  ·rw [Z5p hxm]
   exact hX2
  ·rw [e]
   simp
def keyA (now:List Int) (nds:List (List UInt8 × List Int)) (a:Nat):Key:=match nds[a]? with
 | some nd => sgK now nd 4
 | none => ([],[])
def Z54 (now:List Int) (nds:List (List UInt8 × List Int)) (x:List Key × List Int) (a:Nat):List Key × List Int :=
 (addK x.1 (keyA now nds a),x.2.set a ((addK x.1 (keyA now nds a)).idxOf (keyA now nds a):Nat))
def Z0t (now:List Int) (nds:List (List UInt8 × List Int)) (L:List Nat):List Key × List Int:=L.foldl (Z54 now nds) ([],List.replicate nds.length (-1))
theorem Zbk (now:List Int) (nds:List (List UInt8 × List Int)):∀ (L:List Nat) (x:List Key × List Int),(L.foldl (Z54 now nds) x).2.length = x.2.length
 | [],x => rfl
 | a :: L,x => by
  rw [List.foldl_cons,Zbk now nds L]
  simp [Z54]
theorem Zwo {now:List Int} {nds:List (List UInt8 × List Int)} {a:Nat} (ha:a < nds.length):(keyA now nds a).2.length = 5:=by
 unfold keyA
 rw [List.getElem?_eq_getElem ha]
 simp [sgK,Za1]
theorem Zd9 {now:List Int} {nds:List (List UInt8 × List Int)}:∀ (L:List Nat) (x:List Key × List Int),(∀ a ∈ L,a < nds.length)→(∀ d ∈ x.1,d.2.length = 5)→∀ d ∈ (L.foldl (Z54 now nds) x).1,d.2.length = 5
 | [],x,_,h => h
 | a :: L,x,hL,h => by
  rw [List.foldl_cons]
  exact Zd9 L _ (fun b hb => hL b (by simp [hb])) (Zmu h (Zwo (hL a (by simp))))
theorem Zzx {fr:FI} {s0 s:St} {t0:PT AVal} {p Bn Bx Bm:Pos} {nds:List (List UInt8 × List Int)} {now:List Int} {c0 c1 c2:Cap} {Lv:AVal} {L:List Nat} {Q:Ex→PT AVal→St→Prop}
  (hN:NodesG s0 p nds) (hk0:Keeps s0 s) (hw:s.Wf) (hL:Z0g s0 Lv (L.map fun (a:Nat) => (a:Int))) (hLn:∀ a ∈ L,a < nds.length) (hLl:L.length ≤ 1000)
  (hkids:∀ (a:Nat) nd,nds[a]? = some nd→nd.2.length ≤ 4∧∀ k ∈ nd.2,0 ≤ k∧k < nds.length) (hlen:now.length = nds.length)
  (h0:PT.get (posOf 0) t0 = some (.slice p 0 nds.length c0)) (h1:PT.get (posOf 1) t0 = some Lv) (h5:PT.get (posOf 5) t0 = some (.slice Bn 0 nds.length c1)) (h7:PT.get (posOf 7) t0 = some (.slice Bx 0 nds.length c2)) (h9:PT.get (posOf 9) t0 = some (.map Bm))
  (hBn:s.cells Bn = some (now.map fun k => .int .i64 k)) (hob:s.Old Bn) (hBx:s.own Bx = some ((List.replicate nds.length (-1)).map fun k => .int .i64 k)) (hBm:s.obj Bm = some (.map [] 0))
  (hnx:Bn ≠ Bx) (hnm:Bn ≠ Bm) (hxm:Bx ≠ Bm) (hfx:¬ s0.Old Bx) (hfm:¬ s0.Old Bm)
  (q:∀ t s',Fr [11,12,13,14,16,33,34,35,36,39,40,41,42,43,44,45,46,47,48,49,50,55,56,57,58,77] t0 t→Same [Bx,Bm] s s' →
   s'.own Bx = some ((Z0t now nds L).2.map fun k => .int .i64 k)→s'.obj Bm = some (.map (Z1d 0 (Z0t now nds L).1) (Z0t now nds L).1.length)→Q .normal t s'):wp Tryd.prog Zts fr t0 s Q:=by
 have hoX:s.Old Bx:=Z0b hw hBx
 have hoM:s.Old Bm:=Z3r hw hBm
 have hLlen:=(hL.keep hk0).len
 have hLt:=hL.ntup
 simp at hLlen
 have hf:∀ b ∈ [Bx,Bm],¬ s0.Old b:=by
  intro b hb
  simp at hb
  rcases hb with rfl | rfl
  ·exact hfx
  ·exact hfm
 refine Z00 ?_
 simp [h1,hLlen]
 refine AM.wp_block ?_
 refine AM.wp_loop (fun m t s' => ∃ i:Nat,i ≤ L.length∧m = L.length - i∧Fr [11,12,13,14,16,33,34,35,36,39,40,41,42,43,44,45,46,47,48,49,50,55,56,57,58,77] t0 t∧PT.get (posOf 33) t = some Lv∧PT.get (posOf 34) t = some (.int .i64 L.length)∧PT.get (posOf 35) t = some (.int .i64 i)∧Same [Bx,Bm] s s' ∧
  s'.own Bx = some ((Z0t now nds (L.take i)).2.map fun k => .int .i64 k)∧s'.obj Bm = some (.map (Z1d 0 (Z0t now nds (L.take i)).1) (Z0t now nds (L.take i)).1.length)) L.length ⟨0,by simp,by simp,?_,by simp,by simp,by simp,Same.refl _ _,?_,?_⟩ ?_
 ·intro y hy
  simp at hy
  simp [hy]
 ·simpa [Z0t] using hBx
 ·simpa [Z0t,Z1d] using hBm
 rintro m t s' ⟨i,hi,rfl,hF,t33,t34,t35,hS,hX,hM⟩
 refine Z00 ?_
 simp [t34,t35]
 refine AM.wp_seq ?_
 refine AM.Z04 ?_
 by_cases hlt:i < L.length
 ·obtain ⟨a,ha⟩:∃ a,L[i]? = some a:=⟨_,List.getElem?_eq_getElem hlt⟩
  have han:a < nds.length:=hLn a (List.mem_of_getElem? ha)
  obtain ⟨nd,hnd⟩:∃ nd,nds[a]? = some nd:=⟨_,List.getElem?_eq_getElem han⟩
  obtain ⟨h4,hin⟩:=hkids a nd hnd
  have hwr:IntKind.wrap .i64 ((i:Int) + 1) = ((i + 1:Nat):Int):=by rw [IntWalk.i64_in _ (by omega)]; omega
  have hkeep:Keeps s0 s':=Same.keeps hk0 hS hf
  have hal:(L.map fun (a:Nat) => (a:Int))[i]? = some (a:Int):=by rw [List.getElem?_map,ha]; rfl
  have hkey:keyA now nds a = sgK now nd 4:=by unfold keyA; rw [hnd]
  have htk:L.take (i + 1) = L.take i ++ [a]:=by
   rw [List.take_add_one,ha]
   rfl
  have hrd:Z0t now nds (L.take (i + 1)) = Z54 now nds (Z0t now nds (L.take i)) a:=by
   unfold Z0t
   rw [htk,List.foldl_append]
   rfl
  rcases hL.keep hkeep with ⟨_,e0⟩ | ⟨b,o,c,ks,rfl,hb,hks,hle2,hel2⟩
  ·have:(L.map fun (a:Nat) => (a:Int)).length = 0:=by rw [e0]; rfl
   rw [List.length_map] at this
   omega
  have hg:=hel2 i a hal
  simp at t33
  simp [hlt]
  refine AM.wp_skip ?_
  simp
  refine AM.wp_seq ?_
  refine AM.wp_block ?_
  refine Z00 ?_
  simp [t33,t35,hlt,hks,hg]
  refine Zzc (c0:=c0) (c1:=c1) (c2:=c2) (D:=(Z0t now nds (L.take i)).1) (nxt:=(Z0t now nds (L.take i)).2) hN hkeep (hS.wf hw) hnd h4 hin hlen ?_ ?_ ?_ ?_ ?_ ?_ ((hS.cells (by simp [hnx,hnm]) hob).trans hBn) (hS.old hob) hX hM ?_ hnx hnm hxm hfx hfm fun t2 s2 hF2 hS2 hX2 hM2 => ?_
  ·rw [Z0t,Zbk]
   simp
  ·simp
   exact (hF 0 (by simp)).trans h0
  ·simp
  ·simp
   exact (hF 5 (by simp)).trans h5
  ·simp
   exact (hF 7 (by simp)).trans h7
  ·simp
   exact (hF 9 (by simp)).trans h9
  ·exact Zd9 _ _ (fun a ha => hLn a (List.mem_of_mem_take ha)) (by simp)
  have g33:PT.get (posOf 33) t2 = some (.slice b o L.length c):=(hF2 33 (by simp)).trans (by simp [t33])
  have g34:PT.get (posOf 34) t2 = some (.int .i64 L.length):=(hF2 34 (by simp)).trans (by simp [t34])
  have g35:PT.get (posOf 35) t2 = some (.int .i64 i):=(hF2 35 (by simp)).trans (by simp [t35])
  simp
  refine AM.wp_region ?_
  simp [g35,hwr]
  refine ⟨L.length - (i + 1),by omega,i + 1,by omega,by omega,?_,by simp [g33],by simp [g34],by simp,hS.trans hS2,?_,?_⟩
  ·intro y hy
   simp at hy
   simp [hy]
   rw [hF2 y (by simp [hy])]
   simp [hy]
   exact hF y (by simp [hy])
  ·rw [hrd,hX2,← hkey]
   rfl
  ·rw [hrd,hM2,← hkey]
   rfl
 ·simp [hlt]
  refine AM.wp_exit ?_
  simp
  have hie:i = L.length:=by omega
  subst hie
  rw [List.take_length] at hX hM
  refine q _ s' ?_ hS hX hM
  intro y hy
  simp at hy
  simp [hy]
  exact hF y (by simp [hy])
theorem Zou {α:Type} (A B:α) (n i:Nat):List.drop (i + 1) (List.replicate i A ++ List.replicate (n - i) B) = List.replicate (n - (i + 1)) B:=by
 rw [List.drop_append,List.drop_eq_nil_of_le (by simp),List.length_replicate,List.drop_replicate,List.nil_append]
 congr 1
 omega
theorem Zov {α:Type} (A B:α) (n i:Nat):List.replicate i A ++ A :: List.replicate (n - (i + 1)) B = List.replicate (i + 1) A ++ List.replicate (n - (i + 1)) B:=by
 rw [List.replicate_succ']
 simp
theorem Zzt {fr:FI} {s:St} {t0:PT AVal} {Bx:Pos} {n:Nat} {c2:Cap} {Q:Ex→PT AVal→St→Prop} (hw:s.Wf) (hn:n ≤ 1000)
  (h7:PT.get (posOf 7) t0 = some (.slice Bx 0 n c2)) (hBx:s.own Bx = some ((List.replicate n (0:Int)).map fun k => .int .i64 k))
  (q:∀ t s',Fr [8,24,25,26] t0 t→Same [Bx] s s'→s'.own Bx = some ((List.replicate n (-1:Int)).map fun k => .int .i64 k)→Q .normal t s'):wp Tryd.prog Ztr fr t0 s Q:=by
 have hoX:s.Old Bx:=Z0b hw hBx
 refine Z00 ?_
 simp [h7]
 refine AM.wp_block ?_
 refine AM.wp_loop (fun m t s' => ∃ i:Nat,i ≤ n∧m = n - i∧Fr [8,24,25,26] t0 t∧PT.get (posOf 24) t = some (.int .i64 n)∧PT.get (posOf 25) t = some (.int .i64 i)∧Same [Bx] s s' ∧
  s'.own Bx = some (List.replicate i (.int .i64 (-1)) ++ List.replicate (n - i) (.int .i64 0))) n ⟨0,by simp,by simp,?_,by simp,by simp,Same.refl _ _,?_⟩ ?_
 ·intro y hy
  simp at hy
  simp [hy]
 ·simpa using hBx
 rintro m t s' ⟨i,hi,rfl,hF,t24,t25,hS,hX⟩
 refine Z00 ?_
 simp [t24,t25]
 refine AM.wp_seq ?_
 refine AM.Z04 ?_
 by_cases hlt:i < n
 ·have hwr:IntKind.wrap .i64 ((i:Int) + 1) = ((i + 1:Nat):Int):=by rw [IntWalk.i64_in _ (by omega)]; omega
  have t7:=(hF 7 (by simp)).trans h7
  have hle:i + 1 ≤ i + (n - i):=by omega
  simp [hlt]
  refine AM.wp_skip ?_
  simp
  refine AM.wp_seq ?_
  refine AM.wp_block ?_
  refine Z00 ?_
  simp [t25]
  refine AM.wp_region ?_
  simp [t7,hlt,hX,hle,Zou]
  refine AM.wp_region ?_
  simp [t25,hwr]
  refine ⟨n - (i + 1),by omega,i + 1,by omega,by omega,?_,by simp [t24],by simp,hS.put _ (by simp) (hS.old hoX),?_⟩
  ·intro y hy
   simp at hy
   simp [hy]
   exact hF y (by simp [hy])
  ·rw [Zov]
 ·simp [hlt]
  refine AM.wp_exit ?_
  simp
  have hie:i = n:=by omega
  subst hie
  refine q _ s' ?_ hS (by simpa using hX)
  intro y hy
  simp at hy
  simp [hy]
  exact hF y (by simp [hy])
def nowI (nds:List (List UInt8 × List Int)) (L:List Nat):Nat→List Int
 | 0 => List.replicate nds.length 0
 | r + 1 => (Z0t (nowI nds L r) nds L).2
def cntI (nds:List (List UInt8 × List Int)) (L:List Nat):Nat→Nat
 | 0 => 0
 | r + 1 => (Z0t (nowI nds L r) nds L).1.length
theorem Z6s (nds:List (List UInt8 × List Int)) (L:List Nat):∀ r,(nowI nds L r).length = nds.length
 | 0 => by simp [nowI]
 | r + 1 => by
  show (Z0t (nowI nds L r) nds L).2.length = _
  rw [Z0t,Zbk]
  simp
theorem Zro {s:St} {p:Pos} {nds:List (List UInt8 × List Int)} {c0:Cap} {Lv:AVal} {L:List Nat} {R:Nat} {Q:AVal→St→Prop}
  (hw:s.Wf) (hN:NodesG s p nds) (hn:nds.length ≤ 1000) (hL:Z0g s Lv (L.map fun (a:Nat) => (a:Int))) (hLn:∀ a ∈ L,a < nds.length) (hLl:L.length ≤ 1000)
  (hkids:∀ (a:Nat) nd,nds[a]? = some nd→nd.2.length ≤ 4∧∀ k ∈ nd.2,0 ≤ k∧k < nds.length)
  (hR:∀ r,r < R→cntI nds L (r + 1) ≠ cntI nds L r) (hE:cntI nds L (R + 1) = cntI nds L R)
  (q:∀ Bx s',Keeps s s'→¬ s.Old Bx→s'.own Bx = some ((nowI nds L (R + 1)).map fun k => .int .i64 k)→Q (.slice Bx 0 nds.length (.lim nds.length)) s'):Z0e Tryd.prog 49 [.slice p 0 nds.length c0,Lv] s Q:=by
 have hLt:=hL.ntup
 refine Z08 (Z0i (by decide)) fi49 rfl (by decide) rfl ?_
 refine Z00 ?_
 simp
 refine Z00 ?_
 have hs1:nds.length * 8 ≤ Z0l:=by unfold Z0l; omega
 have hs2:nds.length ≤ Z0l:=by unfold Z0l; omega
 simp [hs1,hs2]
 have hK1:Keeps s (s.alloc (.cells (List.replicate nds.length (.int .i64 0)) false)):=Keeps.alloc _ _
 have hX1:(s.alloc (.cells (List.replicate nds.length (.int .i64 0)) false)).own s.next = some ((nowI nds L 0).map fun k => .int .i64 k):=by simp [nowI]
 have hf1:¬ s.Old s.next:=Z09 s
 have ho1:(s.alloc (.cells (List.replicate nds.length (.int .i64 0)) false)).Old s.next:=Z18 _ _
 generalize s.alloc (.cells (List.replicate nds.length (.int .i64 0)) false) = s1 at hK1 hX1 ho1 ⊢
 generalize s.next = B1 at hX1 hf1 ho1 ⊢
 refine Z00 ?_
 simp
 refine AM.wp_block ?_
 refine AM.wp_loop (fun m t s' => ∃ (r:Nat) (Bn:Pos),r ≤ R∧m = R - r∧PT.get (posOf 0) t = some (.slice p 0 nds.length c0)∧PT.get (posOf 1) t = some Lv∧PT.get (posOf 5) t = some (.slice Bn 0 nds.length (.lim nds.length))∧PT.get (posOf 6) t = some (.int .i64 (cntI nds L r))∧Keeps s s'∧¬ s.Old Bn∧s'.Old Bn ∧
  s'.own Bn = some ((nowI nds L r).map fun k => .int .i64 k)) R ⟨0,B1,by simp,by simp,by simp,by simp,by simp,by simp [cntI],hK1,hf1,ho1,hX1⟩ ?_
 rintro m t s' ⟨r,Bn,hr,rfl,t0,t1,t5,t6,hk,hfn,hon,hXn⟩
 refine AM.wp_block ?_
 refine Z00 ?_
 simp [t0,hs1,hs2]
 have hw':s'.Wf:=hk.wf hw
 have hK2:Keeps s' (s'.alloc (.cells (List.replicate nds.length (.int .i64 0)) false)):=Keeps.alloc _ _
 have hX2:(s'.alloc (.cells (List.replicate nds.length (.int .i64 0)) false)).own s'.next = some ((List.replicate nds.length (0:Int)).map fun k => .int .i64 k):=by simp
 have hfx:¬ s.Old s'.next:=fun h => Z09 s' (hk.old h)
 have hnx:Bn ≠ s'.next:=ne_next hon
 have hfx':¬ s'.Old s'.next:=Z09 s'
 generalize s'.alloc (.cells (List.replicate nds.length (.int .i64 0)) false) = s2 at hK2 hX2 ⊢
 generalize s'.next = Bx at hX2 hfx hnx hfx' ⊢
 have hw2:s2.Wf:=hK2.wf hw'
 refine AM.wp_seq ?_
 refine Zzt (n:=nds.length) (Bx:=Bx) (c2:=.lim nds.length) hw2 hn (by simp) hX2 fun t3 s3 hF3 hS3 hX3 => ?_
 have hw3:s3.Wf:=hS3.wf hw2
 have hk3:Keeps s' s3:=Same.keeps hK2 hS3 (by simpa using hfx')
 have g0:PT.get (posOf 0) t3 = some (.slice p 0 nds.length c0):=(hF3 0 (by simp)).trans (by simp [t0])
 have g1:PT.get (posOf 1) t3 = some Lv:=(hF3 1 (by simp)).trans (by simp [t1])
 have g5:PT.get (posOf 5) t3 = some (.slice Bn 0 nds.length (.lim nds.length)):=(hF3 5 (by simp)).trans (by simp [t5])
 have g6:PT.get (posOf 6) t3 = some (.int .i64 (cntI nds L r)):=(hF3 6 (by simp)).trans (by simp [t6])
 have g7:PT.get (posOf 7) t3 = some (.slice Bx 0 nds.length (.lim nds.length)):=(hF3 7 (by simp)).trans (by simp)
 simp
 refine Z00 ?_
 simp
 have hK4:Keeps s3 (s3.alloc (.map [] 0)):=Keeps.alloc _ _
 have hM4:(s3.alloc (.map [] 0)).obj s3.next = some (.map [] 0):=Z4u _ _
 have hoX3:s3.Old Bx:=Z0b hw3 hX3
 have hfm:¬ s.Old s3.next:=fun h => Z09 s3 (hk3.old (hk.old h))
 have hnm:Bn ≠ s3.next:=ne_next (hk3.old hon)
 have hxm:Bx ≠ s3.next:=ne_next hoX3
 generalize s3.alloc (.map [] 0) = s4 at hK4 hM4 ⊢
 generalize s3.next = Bm at hM4 hfm hnm hxm ⊢
 have hw4:s4.Wf:=hK4.wf hw3
 have hk4:Keeps s s4:=(hk.trans hk3).trans hK4
 have hX4:s4.own Bx = some ((List.replicate nds.length (-1:Int)).map fun k => .int .i64 k):=(hK4.own hoX3).trans hX3
 have hN4:s4.own Bn = some ((nowI nds L r).map fun k => .int .i64 k):=(hK4.own (hk3.old hon)).trans ((hk3.own hon).trans hXn)
 refine AM.wp_seq ?_
 refine Zzx (p:=p) (Bn:=Bn) (Bx:=Bx) (Bm:=Bm) (c0:=c0) (c1:=.lim nds.length) (c2:=.lim nds.length) (now:=nowI nds L r) (Lv:=Lv) (L:=L) hN hk4 hw4 hL hLn hLl hkids (Z6s nds L r) (by simp [g0]) (by simp [g1]) (by simp [g5]) (by simp [g7]) (by simp) (Z0a hN4) (hK4.old (hk3.old hon)) hX4 hM4 hnx hnm hxm hfx hfm fun t5' s5 hF5 hS5 hX5 hM5 => ?_
 have hk5:Keeps s s5:=Same.keeps hk4 hS5 (by
  intro b hb
  simp at hb
  rcases hb with rfl | rfl
  ·exact hfx
  ·exact hfm)
 have j0:PT.get (posOf 0) t5' = some (.slice p 0 nds.length c0):=(hF5 0 (by simp)).trans (by simp [g0])
 have j1:PT.get (posOf 1) t5' = some Lv:=(hF5 1 (by simp)).trans (by simp [g1])
 have j6:PT.get (posOf 6) t5' = some (.int .i64 (cntI nds L r)):=(hF5 6 (by simp)).trans (by simp [g6])
 have j7:PT.get (posOf 7) t5' = some (.slice Bx 0 nds.length (.lim nds.length)):=(hF5 7 (by simp)).trans (by simp [g7])
 have j9:PT.get (posOf 9) t5' = some (.map Bm):=(hF5 9 (by simp)).trans (by simp)
 have hcnt:(Z0t (nowI nds L r) nds L).1.length = cntI nds L (r + 1):=rfl
 simp
 refine AM.wp_seq ?_
 refine Z00 ?_
 simp [j9]
 refine Z7u hM5 ?_
 rw [entsFrom_len,hcnt]
 by_cases he:cntI nds L (r + 1) = cntI nds L r
 ·have hrR:r = R:=by
   rcases Nat.lt_or_ge r R with h | h
   ·exact (hR r h he).elim
   ·omega
  subst hrR
  simp [j6,he]
  refine AM.Z04 ?_
  simp
  refine Z00 ?_
  simp [j7]
  refine AM.wp_ret ?_
  simp
  exact q Bx s5 hk5 hfx hX5
 ·have hrR:r < R:=by
   rcases Nat.lt_or_ge r R with h | h
   ·exact h
   ·have:r = R:=by omega
    subst this
    exact (he hE).elim
  have he':¬ ((cntI nds L (r + 1):Nat):Int) = (cntI nds L r:Nat):=by omega
  simp [j6,he,he']
  refine AM.Z04 ?_
  simp
  refine AM.wp_skip ?_
  simp
  refine AM.wp_region ?_
  simp [j7,j9]
  refine Z7u hM5 ?_
  rw [entsFrom_len,hcnt]
  simp
  refine ⟨R - (r + 1),by omega,r + 1,by omega,rfl,by simp [j0],by simp [j1],rfl,hk5,hfx,Z0b (hk5.wf hw) hX5,hX5⟩
theorem Ze6:∀ (l:List RC) (i:Nat) (c:RC),l[i]? = some c→((encs l).drop (i * 4)).take 4 = c.enc
 | [],i,c,h => by simp at h
 | d :: l,0,c,h => by
  simp at h
  subst h
  have:(encs (d :: l)) = d.enc ++ encs l:=rfl
  rw [this,Nat.zero_mul,List.drop_zero,List.take_append_of_le_length (by simp [RC.enc])]
  rfl
 | d :: l,i + 1,c,h => by
  have:(encs (d :: l)) = d.enc ++ encs l:=rfl
  have e:(i + 1) * 4 = d.enc.length + i * 4:=by simp [RC.enc]; omega
  rw [this,e,List.drop_length_add_append]
  exact Ze6 l i c (by simpa using h)
theorem Zk8 {s:St} {p B:Pos} {l:List RC} {yv:AVal} {I:Nat→St→Prop} {Q:AVal→St→Prop} (hl:l.length ≤ 400) (hyt:∀ t,¬ yv = .tup t)
  (hI:∀ i s',I i s'→s'.Wf∧s'.Old p∧s'.Old B∧s'.cells p = some (encs l)∧s'.cells B = some [.slice p 0 l.length (.lim l.length)])
  (hst:∀ i s' s'',I i s'→Keeps s' s''→I i s'') (hskip:∀ i c s',l[i]? = some c→c.taken = false→I i s'→I (i + 1) s')
  (hy:∀ (i:Nat) c s' (R:AVal→St→Prop),l[i]? = some c→c.taken = true→I i s'→(∀ s'',I (i + 1) s''→R (.bool true) s'')→Z39 Tryd.prog yv [.int .i64 i] s' R)
  (h0:I 0 s) (q:∀ s',I l.length s'→Q (.tup []) s'):Z0e Tryd.prog 87 [yv,.ptr B 0] s Q:=by
 obtain ⟨_,_,_,_,hB⟩:=hI 0 s h0
 refine Z08 (Z0i (by decide)) fi87 rfl (by decide) rfl ?_
 refine Z00 ?_
 simp [hB]
 refine AM.wp_block ?_
 refine AM.wp_loop (fun m t s' => ∃ i:Nat,i ≤ l.length∧m = l.length - i∧PT.get (posOf 0) t = some yv∧PT.get (posOf 6) t = some (.slice p 0 l.length (.lim l.length))∧PT.get (posOf 7) t = some (.int .i64 l.length)∧PT.get (posOf 8) t = some (.int .i64 i)∧I i s') l.length ⟨0,by simp,by simp,by simp,by simp,by simp,by simp,h0⟩ ?_
 rintro m t s' ⟨i,hi,rfl,t0,t6,t7,t8,hIi⟩
 obtain ⟨hw,hp,hBo,hc,hB'⟩:=hI i s' hIi
 refine Z00 ?_
 simp [t7,t8]
 refine AM.wp_seq ?_
 refine AM.Z04 ?_
 by_cases hlt:i < l.length
 ·obtain ⟨c,hci⟩:∃ c,l[i]? = some c:=⟨_,List.getElem?_eq_getElem hlt⟩
  have hseg:=Ze6 l i c hci
  have hle:i * 4 + 4 ≤ (encs l).length:=by rw [Z36]; omega
  have hwr:IntKind.wrap .i64 ((i:Int) + 1) = ((i + 1:Nat):Int):=by rw [IntWalk.i64_in _ (by omega)]; omega
  simp [hlt]
  refine AM.wp_skip ?_
  simp
  refine AM.wp_seq ?_
  refine AM.wp_block ?_
  refine Z00 ?_
  simp [t6,t8,hlt,hc,hle,hseg,RC.enc]
  have hK:Keeps s' ((s'.alloc (.cells [.bool false,.str [],.nilSlice,.int .i64 0] false)).put s'.next (.cells c.enc false)):=(Keeps.alloc _ _).put _ (Z09 _) (Z18 _ _)
  have hO:((s'.alloc (.cells [.bool false,.str [],.nilSlice,.int .i64 0] false)).put s'.next (.cells c.enc false)).cells s'.next = some c.enc:=Zfc _ _ _ _
  simp only [RC.enc] at hK hO
  generalize (s'.alloc (.cells [.bool false,.str [],.nilSlice,.int .i64 0] false)).put s'.next (.cells [.bool c.taken,.str c.name,c.kv,.int .i64 c.held] false) = s1 at hK hO ⊢
  generalize s'.next = V at hO ⊢
  have hI1:=hst i s' s1 hIi hK
  refine Z00 ?_
  cases hct:c.taken with
  | false =>
   rw [hct] at hO
   simp [hO]
   refine AM.Z04 ?_
   simp
   refine AM.wp_skip ?_
   simp
   refine AM.wp_region ?_
   simp [t8,hwr]
   exact ⟨l.length - (i + 1),by omega,i + 1,by omega,by omega,by simp [t0],by simp [t6],by simp [t7],by simp,hskip i c s1 hci hct hI1⟩
  | true =>
   rw [hct] at hO
   simp [hO,t0,hyt]
   refine hy i c s1 _ hci hct hI1 fun s2 hI2 => ?_
   simp
   refine AM.Z04 ?_
   simp
   refine AM.wp_skip ?_
   simp
   refine AM.wp_region ?_
   simp [t8,hwr]
   exact ⟨l.length - (i + 1),by omega,i + 1,by omega,by omega,by simp [t0],by simp [t6],by simp [t7],by simp,hI2⟩
 ·simp [hlt]
  refine AM.wp_exit ?_
  simp
  have hie:i = l.length:=by omega
  subst hie
  exact q s' hIi
theorem Zcc {s:St} {v:AVal} {Q:AVal→St→Prop} (q:∀ B,B = s.next→Q (.fn 87 [] [.ptr B 0]) (s.alloc (.cells [v] false))):Z0e Tryd.prog 55 [.agg [v]] s Q:=by
 refine Z08 (Z0i (by decide)) fi55 rfl (by decide) rfl ?_
 refine Z00 ?_
 simp
 refine Z00 ?_
 simp
 refine AM.wp_ret ?_
 simp
 exact q _ rfl
theorem Zd7 {fr:FI} {s:St} {t:PT AVal} {Q:Ex→PT AVal→St→Prop} {f:RO} {k k':Nat} {b:MCode} {fi:FInfo} {p B:Pos} {l:List RC} {I:Nat→St→Prop} (hl:l.length ≤ 400)
  (hx:getO t [] f = some (.fn 87 [] [.ptr B 0])) (hr:fr.round = none) (hfi:funInfo Tryd.prog fr.fn = some fi) (hpl:Z6l fi.ps fi.ntmps [k] = some [some (posOf k)])
  (hI:∀ i s',I i s'→s'.Wf∧s'.Old p∧s'.Old B∧s'.cells p = some (encs l)∧s'.cells B = some [.slice p 0 l.length (.lim l.length)])
  (hst:∀ i s' s'',I i s'→Same [s.next] s' s''→I i s'') (hskip:∀ i c s',l[i]? = some c→c.taken = false→I i s'→I (i + 1) s')
  (hbody:∀ (i:Nat) c s1 (W:Ex→PT AVal→St→Prop),l[i]? = some c→c.taken = true→I i s1→s1.Old s.next→(∀ t s2,I (i + 1) s2→s2.obj s.next = s1.obj s.next→W .normal t s2) →
   wp Tryd.prog b { fn:=fr.fn,ntmps:=fi.ntmps,ps:=fi.ps,round:=some s.next } (PT.set (posOf k') (.int .i64 i) (PT.set (posOf k) (.int .i64 i) t)) s1 W)
  (h0:I 0 s) (q:∀ s',I l.length s'→Q .normal t s'):wp Tryd.prog (.range f [k] (.region [.run none (.move (.per (posOf k)))] [some (posOf k')]) b) fr t s Q:=by
 refine AM.Zix hx (fun l0 e => by rw [hr] at e; cases e) ?_
 have hw0:=(hI 0 s h0).1
 have hL0:(s.alloc (.loop { state:=.ready,pending:=none,fn:=fr.fn,tm:=t,params:=[k],assign:=.region [.run none (.move (.per (posOf k)))] [some (posOf k')],body:=b })).obj s.next = some (.loop { state:=.ready,pending:=none,fn:=fr.fn,tm:=t,params:=[k],assign:=.region [.run none (.move (.per (posOf k)))] [some (posOf k')],body:=b }):=Z4u _ _
 have hS0:Same [s.next] s (s.alloc (.loop { state:=.ready,pending:=none,fn:=fr.fn,tm:=t,params:=[k],assign:=.region [.run none (.move (.per (posOf k)))] [some (posOf k')],body:=b })):=Same.Z8j (Keeps.alloc _ _)
 generalize s.alloc (.loop { state:=.ready,pending:=none,fn:=fr.fn,tm:=t,params:=[k],assign:=.region [.run none (.move (.per (posOf k)))] [some (posOf k')],body:=b }) = s0 at hL0 hS0 ⊢
 refine Zk8 (I:=fun i s' => I i s'∧s'.obj s.next = some (.loop { state:=.ready,pending:=none,fn:=fr.fn,tm:=t,params:=[k],assign:=.region [.run none (.move (.per (posOf k)))] [some (posOf k')],body:=b })) hl (by simp) (fun i s' h => hI i s' h.1) ?_ ?_ ?_ ⟨hst 0 s s0 h0 hS0,hL0⟩ ?_
 ·rintro i s' s'' ⟨h1,h2⟩ hk
  have hw:=(hI i s' h1).1
  exact ⟨hst i s' s'' h1 (Same.Z8j hk),(hk.obj _ (Z3r hw h2)).trans h2⟩
 ·rintro i c s' hci hct ⟨h1,h2⟩
  exact ⟨hskip i c s' hci hct h1,h2⟩
 ·rintro i c s' R hci hct ⟨h1,h2⟩ hR
  have hw:=(hI i s' h1).1
  have ho:=Z3r hw h2
  refine Zda (pl:=[some (posOf k)]) (tree:=PT.set (posOf k) (.int .i64 i) t) h2 hfi hpl rfl rfl ?_
  refine AM.wp_region ?_
  simp
  refine ⟨_,h2,rfl,?_⟩
  refine hbody i c _ _ hci hct (hst i s' _ h1 ((Same.refl _ _).put _ (by simp) ho)) (Zgw.2 ho) fun t2 s2 hI2 hobj => ?_
  have hw2:=(hI (i + 1) s2 hI2).1
  rw [Zgv] at hobj
  refine ⟨_,hobj,?_⟩
  refine hR _ ⟨hst (i + 1) s2 _ hI2 ((Same.refl _ _).put _ (by simp) (Z3r hw2 hobj)),?_⟩
  simp
 ·rintro s2 ⟨h1,h2⟩
  have hw:=(hI _ s2 h1).1
  refine ⟨_,h2,rfl,?_⟩
  exact q _ (hst _ s2 _ h1 ((Same.refl _ _).put _ (by simp) (Z3r hw h2)))
def penc (l:List (List UInt8 × AVal)):List AVal:=l.flatMap fun x => [.str x.1,x.2]
theorem Zcb:∀ (l:List (List UInt8 × AVal)),(penc l).length = 2 * l.length
 | [] => rfl
 | c :: l => by
  have:=Zcb l
  simp [penc] at this ⊢
  omega
theorem Zij:∀ (l:List (List UInt8 × AVal)) (i:Nat) (c:List UInt8 × AVal),l[i]? = some c→(penc l)[i * 2]? = some (.str c.1)∧(penc l)[i * 2 + 1]? = some c.2
 | [],i,c,h => by simp at h
 | d :: l,0,c,h => by
  simp at h
  subst h
  exact ⟨rfl,rfl⟩
 | d :: l,i + 1,c,h => by
  have e:penc (d :: l) = .str d.1 :: d.2 :: penc l:=rfl
  have e1:(i + 1) * 2 = i * 2 + 1 + 1:=by omega
  have e2:(i + 1) * 2 + 1 = (i * 2 + 1) + 1 + 1:=by omega
  obtain ⟨h1,h2⟩:=Zij l i c (by simpa using h)
  rw [e,e2,e1]
  simp only [List.getElem?_cons_succ]
  exact ⟨h1,h2⟩
theorem Zon:∀ (l:List (List UInt8 × AVal)) (i:Nat) (c:List UInt8 × AVal),i < l.length→lay (penc l) (i * 2) [.str c.1,c.2] = penc (l.set i c)
 | [],i,c,h => by simp at h
 | d :: l,0,c,h => by
  simp [lay,penc]
 | d :: l,i + 1,c,h => by
  have e:penc (d :: l) = [.str d.1,d.2] ++ penc l:=rfl
  have e2:penc ((d :: l).set (i + 1) c) = [.str d.1,d.2] ++ penc (l.set i c):=rfl
  have ih:=Zon l i c (by simpa using h)
  have e3:(i + 1) * 2 = [AVal.str d.1,d.2].length + i * 2:=by simp; omega
  rw [e,e2,← ih]
  unfold lay
  rw [e3,List.take_length_add_append,Nat.add_assoc,List.drop_length_add_append]
  simp
def nlI (l:List RC) (i:Nat):List (List UInt8 × AVal):=l.mapIdx fun j c => if j < i∧c.taken = true then (c.name,c.kv) else ([],.nilSlice)
theorem Z72 (l:List RC) (i:Nat):(nlI l i).length = l.length:=by simp [nlI]
theorem Z8u {l:List RC} {i j:Nat} {c:RC} (h:l[j]? = some c):(nlI l i)[j]? = some (if j < i∧c.taken = true then (c.name,c.kv) else ([],.nilSlice)):=by
 simp [nlI,h]
theorem Zwy (l:List RC):penc (nlI l 0) = (List.replicate l.length [AVal.str [],.nilSlice]).flatten:=by
 have:nlI l 0 = List.replicate l.length ([],.nilSlice):=by
  refine List.ext_getElem? fun j => ?_
  by_cases hj:j < l.length
  ·rw [Z8u (List.getElem?_eq_getElem hj)]
   simp [hj]
  ·rw [List.getElem?_eq_none (by rw [Z72]; omega),List.getElem?_eq_none (by simp; omega)]
 rw [this]
 simp [penc,List.flatMap]
theorem Zww {l:List RC} {i:Nat} {c:RC} (h:l[i]? = some c) (hc:c.taken = true):(nlI l i).set i (c.name,c.kv) = nlI l (i + 1):=by
 have hi:i < l.length:=(List.getElem?_eq_some_iff.1 h).1
 refine List.ext_getElem? fun j => ?_
 by_cases hj:j < l.length
 ·rw [List.getElem?_set]
  by_cases e:i = j
  ·subst e
   have e2:=Z8u (i:=i + 1) h
   rw [e2,Z72]
   simp [hi,hc]
  ·rw [if_neg e,Z8u (List.getElem?_eq_getElem hj),Z8u (List.getElem?_eq_getElem hj)]
   have:j < i ↔ j < i + 1:=by omega
   simp [this]
 ·rw [List.getElem?_eq_none (by rw [List.length_set,Z72]; omega),List.getElem?_eq_none (by rw [Z72]; omega)]
theorem Zwx {l:List RC} {i:Nat} {c:RC} (h:l[i]? = some c) (hc:c.taken = false):nlI l i = nlI l (i + 1):=by
 refine List.ext_getElem? fun j => ?_
 by_cases hj:j < l.length
 ·rw [Z8u (List.getElem?_eq_getElem hj),Z8u (List.getElem?_eq_getElem hj)]
  by_cases e:i = j
  ·subst e
   have:l[i] = c:=(List.getElem?_eq_some_iff.1 h).2
   simp [this,hc]
  ·have:j < i ↔ j < i + 1:=by omega
   simp [this]
 ·rw [List.getElem?_eq_none (by rw [Z72]; omega),List.getElem?_eq_none (by rw [Z72]; omega)]
def takI (l:List RC) (i:Nat):List Nat:=(List.range i).filter fun j => match l[j]? with
 | some c => c.taken
 | none => false
theorem Z7n {l:List RC} {i:Nat} {c:RC} (h:l[i]? = some c) (hc:c.taken = true):takI l (i + 1) = takI l i ++ [i]:=by
 unfold takI
 rw [List.range_succ,List.filter_append]
 simp [h,hc]
theorem Zgf {l:List RC} {i:Nat} {c:RC} (h:l[i]? = some c) (hc:c.taken = false):takI l (i + 1) = takI l i:=by
 unfold takI
 rw [List.range_succ,List.filter_append]
 simp [h,hc]
theorem Zp4 (l:List RC) (i:Nat):(takI l i).length ≤ i:=by
 unfold takI
 exact Nat.le_trans (List.length_filter_le _ _) (by simp)
structure GrI (s0:St) (p B1 B4 B5 pn Lb:Pos) (l:List RC) (i:Nat) (s:St):Prop where
 wf:s.Wf
 k:Keeps s0 s
 b1:s.own B1 = some [.slice p 0 l.length (.lim l.length)]
 b4:s.own B4 = some [.slice pn 0 l.length (.lim l.length)]
 n:s.own pn = some (penc (nlI l i))
 b5:∃ lv,s.own B5 = some [lv]∧((lv = .nilSlice∧takI l i = []) ∨ ∃ q,lv = .slice q 0 (takI l i).length (.opn 1)∧takI l i ≠ []∧s.own q = some ((takI l i).map fun (a:Nat) => .int .i64 (a:Int))∧¬ s0.Old q∧q ≠ B1∧q ≠ B4∧q ≠ B5∧q ≠ pn∧q ≠ Lb)
theorem GrI.same {s0 s s':St} {p B1 B4 B5 pn Lb:Pos} {l:List RC} {i:Nat} (h:GrI s0 p B1 B4 B5 pn Lb l i s) (hk:Same [Lb] s s') (hL:¬ s0.Old Lb) (h1:B1 ≠ Lb) (h4:B4 ≠ Lb) (h5:B5 ≠ Lb) (hn:pn ≠ Lb):GrI s0 p B1 B4 B5 pn Lb l i s':=by
 have hf:∀ b ∈ [Lb],¬ s0.Old b:=by simpa using hL
 refine ⟨hk.wf h.wf,Same.keeps h.k hk hf,(hk.own (by simpa using h1) (Z0b h.wf h.b1)).trans h.b1,(hk.own (by simpa using h4) (Z0b h.wf h.b4)).trans h.b4,(hk.own (by simpa using hn) (Z0b h.wf h.n)).trans h.n,?_⟩
 obtain ⟨lv,e5,hlv⟩:=h.b5
 refine ⟨lv,(hk.own (by simpa using h5) (Z0b h.wf e5)).trans e5,?_⟩
 rcases hlv with h0 | ⟨q,g1,g2,g3,g4,g5,g6,g7,g8,g9⟩
 ·exact .inl h0
 ·exact .inr ⟨q,g1,g2,(hk.own (by simpa using g9) (Z0b h.wf g3)).trans g3,g4,g5,g6,g7,g8,g9⟩
def Zbf (l:List RC) (K:Nat→List Int):List (List UInt8 × List Int):=l.mapIdx fun j c => if c.taken = true then (c.name,K j) else ([],[])
theorem Zlj {s:St} {p:Pos} {l:List RC} {K:Nat→List Int} {Q:AVal→St→Prop} (hw:s.Wf) (hp:s.Old p) (hc:s.cells p = some (encs l)) (hl:l.length ≤ 400) (hK:∀ j c,l[j]? = some c→Z0g s c.kv (K j))
  (q:∀ pn lv s',Keeps s s'→¬ s.Old pn→s'.own pn = some (penc (nlI l l.length))→((lv = .nilSlice∧takI l l.length = []) ∨ ∃ q,lv = .slice q 0 (takI l l.length).length (.opn 1)∧takI l l.length ≠ []∧s'.own q = some ((takI l l.length).map fun (a:Nat) => .int .i64 (a:Int))∧¬ s.Old q∧q ≠ pn)→NodesG s' pn (Zbf l K)→Z0g s' lv ((takI l l.length).map fun (a:Nat) => (a:Int))→Q (.tup [.slice pn 0 l.length (.lim l.length),lv]) s'):Z0e Tryd.prog 50 [.agg [.slice p 0 l.length (.lim l.length)]] s Q:=by
 refine Z08 (Z0i (by decide)) fi50 rfl (by decide) rfl ?_
 refine Z00 ?_
 simp
 have hK1:Keeps s (s.alloc (.cells [.slice p 0 l.length (.lim l.length)] false)):=Keeps.alloc _ _
 have hB1:(s.alloc (.cells [.slice p 0 l.length (.lim l.length)] false)).own s.next = some [.slice p 0 l.length (.lim l.length)]:=Z1g _ _
 have hf1:¬ s.Old s.next:=Z09 s
 generalize s.alloc (.cells [.slice p 0 l.length (.lim l.length)] false) = s1 at hK1 hB1 ⊢
 generalize s.next = B1 at hB1 hf1 ⊢
 have hw1:s1.Wf:=hK1.wf hw
 have ho1:s1.Old B1:=Z0b hw1 hB1
 have hz1:l.length * 40 ≤ Z0l:=by unfold Z0l; omega
 have hz2:l.length ≤ Z0l:=by unfold Z0l; omega
 refine Z00 ?_
 simp [Z0a hB1,hz1,hz2]
 have hK2:Keeps s1 (s1.alloc (.cells (List.replicate l.length [AVal.str [],.nilSlice]).flatten false)):=Keeps.alloc _ _
 have hN2:(s1.alloc (.cells (List.replicate l.length [AVal.str [],.nilSlice]).flatten false)).own s1.next = some (penc (nlI l 0)):=by rw [Zwy]; exact Z1g _ _
 have hfn:¬ s1.Old s1.next:=Z09 s1
 have hn1:B1 ≠ s1.next:=ne_next ho1
 generalize s1.alloc (.cells (List.replicate l.length [AVal.str [],.nilSlice]).flatten false) = s2 at hK2 hN2 ⊢
 generalize s1.next = pn at hN2 hfn hn1 ⊢
 have hw2:s2.Wf:=hK2.wf hw1
 have hon:s2.Old pn:=Z0b hw2 hN2
 have hK3:Keeps s2 ((s2.alloc (.cells [.nilSlice] false)).put s2.next (.cells [.slice pn 0 l.length (.lim l.length)] false)):=(Keeps.alloc _ _).put _ (Z09 _) (Z18 _ _)
 have hB3:((s2.alloc (.cells [.nilSlice] false)).put s2.next (.cells [.slice pn 0 l.length (.lim l.length)] false)).own s2.next = some [.slice pn 0 l.length (.lim l.length)]:=Z7x _ _ _
 have hf4:¬ s2.Old s2.next:=Z09 s2
 have hn4:pn ≠ s2.next:=ne_next hon
 have h14:B1 ≠ s2.next:=ne_next (hK2.old ho1)
 generalize (s2.alloc (.cells [.nilSlice] false)).put s2.next (.cells [.slice pn 0 l.length (.lim l.length)] false) = s3 at hK3 hB3 ⊢
 generalize s2.next = B4 at hB3 hf4 hn4 h14 ⊢
 have hw3:s3.Wf:=hK3.wf hw2
 have ho4:s3.Old B4:=Z0b hw3 hB3
 refine Z00 ?_
 simp
 have hK4:Keeps s3 (s3.alloc (.cells [.nilSlice] false)):=Keeps.alloc _ _
 have hB5:(s3.alloc (.cells [.nilSlice] false)).own s3.next = some [.nilSlice]:=Z1g _ _
 have hf5:¬ s3.Old s3.next:=Z09 s3
 have hn5:pn ≠ s3.next:=ne_next (hK3.old hon)
 have h15:B1 ≠ s3.next:=ne_next (hK3.old (hK2.old ho1))
 have h45:B4 ≠ s3.next:=ne_next ho4
 generalize s3.alloc (.cells [.nilSlice] false) = s4 at hK4 hB5 ⊢
 generalize s3.next = B5 at hB5 hf5 hn5 h15 h45 ⊢
 have hw4:s4.Wf:=hK4.wf hw3
 have ho5:s4.Old B5:=Z0b hw4 hB5
 have hB1':s4.own B1 = some [.slice p 0 l.length (.lim l.length)]:=(hK4.own (hK3.old (hK2.old ho1))).trans ((hK3.own (hK2.old ho1)).trans ((hK2.own ho1).trans hB1))
 have hN4:s4.own pn = some (penc (nlI l 0)):=(hK4.own (hK3.old hon)).trans ((hK3.own hon).trans hN2)
 have hB4:s4.own B4 = some [.slice pn 0 l.length (.lim l.length)]:=(hK4.own ho4).trans hB3
 have hk4:Keeps s s4:=((hK1.trans hK2).trans hK3).trans hK4
 refine AM.wp_seq ?_
 refine Z00 ?_
 simp [Z0a hB1']
 refine Z02 ?_
 refine Zcc fun BB hBB => ?_
 have hK5:Keeps s4 (s4.alloc (.cells [.slice p 0 l.length (.lim l.length)] false)):=Keeps.alloc _ _
 have hBB5:(s4.alloc (.cells [.slice p 0 l.length (.lim l.length)] false)).own BB = some [.slice p 0 l.length (.lim l.length)]:=by rw [hBB]; exact Z1g _ _
 generalize s4.alloc (.cells [.slice p 0 l.length (.lim l.length)] false) = s5 at hK5 hBB5 ⊢
 have hw5:s5.Wf:=hK5.wf hw4
 have hk5:Keeps s s5:=hk4.trans hK5
 simp
 refine AM.wp_block ?_
 have hLo:∀ b,s5.Old b→b ≠ s5.next:=fun b hb => ne_next hb
 have hG0:GrI s p B1 B4 B5 pn s5.next l 0 s5:=⟨hw5,hk5,(hK5.own (Z0b hw4 hB1')).trans hB1',(hK5.own (Z0b hw4 hB4)).trans hB4,(hK5.own (Z0b hw4 hN4)).trans hN4,.nilSlice,(hK5.own ho5).trans hB5,.inl ⟨rfl,rfl⟩⟩
 have hp5:s5.Old p:=hk5.old hp
 have hc5:s5.cells p = some (encs l):=(hk5.cells hp).trans hc
 have hBo:s5.Old BB:=Z0b hw5 hBB5
 have hBf:¬ s.Old BB:=fun h => by
  rw [hBB] at h
  exact Z09 s4 (hk4.old h)
 refine Zd7 (I:=fun i s' => GrI s p B1 B4 B5 pn s5.next l i s'∧s'.own BB = some [.slice p 0 l.length (.lim l.length)]) (p:=p) (B:=BB) (l:=l) hl (by simp) rfl fi50 rfl ?_ ?_ ?_ ?_ ⟨hG0,hBB5⟩ ?_
 ·rintro i s' ⟨h,hb⟩
  exact ⟨h.wf,h.k.old hp,Z0b h.wf hb,(h.k.cells hp).trans hc,Z0a hb⟩
 ·rintro i s' s'' ⟨h,hb⟩ hS
  refine ⟨h.same hS (fun h => Z09 s5 (hk5.old h)) (hLo _ (hK5.old (Z0b hw4 hB1'))) (hLo _ (hK5.old (Z0b hw4 hB4))) (hLo _ (hK5.old ho5)) (hLo _ (hK5.old (Z0b hw4 hN4))),?_⟩
  exact (hS.own (by simpa using hLo _ hBo) (Z0b h.wf hb)).trans hb
 ·rintro i c s' hci hct ⟨h,hb⟩
  refine ⟨⟨h.wf,h.k,h.b1,h.b4,by rw [← Zwx hci hct]; exact h.n,?_⟩,hb⟩
  rw [Zgf hci hct]
  exact h.b5
 ·rintro i c s' W hci hct ⟨h,hb⟩ hoL hW
  have hi:i < l.length:=(List.getElem?_eq_some_iff.1 hci).1
  have hcp:s'.cells p = some (encs l):=(h.k.cells hp).trans hc
  have hg1:(encs l)[i * 4 + 1]? = some (.str c.name):=Z3f l i 1 c hci (by decide)
  have hg2:(encs l)[i * 4 + 2]? = some c.kv:=Z3f l i 2 c hci (by decide)
  have hkt:∀ t,¬ c.kv = .tup t:=(hK i c hci).ntup
  have hkc:c.kv.cells = [c.kv]:=by
   rcases hK i c hci with ⟨h0,_⟩ | ⟨_,_,_,_,h0,_⟩
   ·cases e:c.kv <;> rw [e] at h0 <;> simp [Z1q] at h0 <;> rfl
   ·rw [h0]; rfl
  have hlay:=Zon (nlI l i) i (c.name,c.kv) (by rw [Z72]; exact hi)
  rw [Zww hci hct] at hlay
  have hle:i * 2 + 2 ≤ (penc (nlI l i)).length:=by rw [Zcb,Z72]; omega
  obtain ⟨lv,e5,hlv⟩:=h.b5
  refine AM.wp_block ?_
  refine Z00 ?_
  simp [lay] at hlay
  simp [Z0a h.b1,Z0a h.b4,hi,hcp,hg1,hg2,hkt,hkc,h.n,hle]
  rw [hlay]
  have hwA:(s'.put pn (.cells (penc (nlI l (i + 1))) false)).Wf:=Zgg _ h.wf (Z0b h.wf h.n)
  have h5A:(s'.put pn (.cells (penc (nlI l (i + 1))) false)).own B5 = some [lv]:=(Z5p (fun e => hn5 e.symm)).trans e5
  have hnA:(s'.put pn (.cells (penc (nlI l (i + 1))) false)).own pn = some (penc (nlI l (i + 1))):=Z7x _ _ _
  have hSA:Same [pn] s' (s'.put pn (.cells (penc (nlI l (i + 1))) false)):=(Same.refl _ _).put _ (by simp) (Z0b h.wf h.n)
  generalize s'.put pn (.cells (penc (nlI l (i + 1))) false) = sA at hwA h5A hnA hSA ⊢
  have hlt:∀ t,¬ lv = .tup t:=by
   rintro t rfl
   rcases hlv with ⟨h0,_⟩ | ⟨q,h0,_⟩ <;> cases h0
  have ho5A:=Z0b hwA h5A
  have hspn:¬ s.Old pn:=fun h => hfn (hK1.old h)
  have hsB5:¬ s.Old B5:=fun h => hf5 (((hK1.trans hK2).trans hK3).old h)
  have hoB1:=Z0b h.wf h.b1
  have hoB4:=Z0b h.wf h.b4
  have hoBB:=Z0b h.wf hb
  have hfin:∀ (t:PT AVal) (sB:St) (qN:Pos) (ex:List Pos),Same ex sA sB→sB.own qN = some ((takI l (i + 1)).map fun (a:Nat) => .int .i64 (a:Int))→¬ sA.Old qN →
    (∀ b ∈ ex,b ≠ pn∧b ≠ B1∧b ≠ B4∧b ≠ B5∧b ≠ BB∧b ≠ s5.next∧¬ s.Old b)→W .normal t (sB.put B5 (.cells [.slice qN 0 (takI l (i + 1)).length (.opn 1)] false)):=by
   intro t sB qN ex hSB hqB hqo hex
   have hoBn:=hSA.old (Z0b h.wf h.n)
   have hne:∀ b,sA.Old b→b ≠ qN:=fun b hb e => hqo (e ▸ hb)
   have gp:∀ b,b ≠ pn→b ≠ B5→b ∉ ex→s'.Old b→(sB.put B5 (.cells [.slice qN 0 (takI l (i + 1)).length (.opn 1)] false)).obj b = s'.obj b:=by
    intro b h1 h2 h3 h4
    rw [Z43 h2,hSB.obj b h3 (hSA.old h4)]
    exact hSA.obj b (by simpa using h1) h4
   have hwF:(sB.put B5 (.cells [.slice qN 0 (takI l (i + 1)).length (.opn 1)] false)).Wf:=Zgg _ (hSB.wf hwA) (hSB.old ho5A)
   have hown:∀ b cs,b ≠ pn→b ≠ B5→b ∉ ex→s'.own b = some cs→(sB.put B5 (.cells [.slice qN 0 (takI l (i + 1)).length (.opn 1)] false)).own b = some cs:=by
    intro b cs h1 h2 h3 h4
    unfold St.own
    rw [gp b h1 h2 h3 (Z0b h.wf h4)]
    exact h4
   have n1:B1 ∉ ex:=fun hm => (hex _ hm).2.1 rfl
   have n4:B4 ∉ ex:=fun hm => (hex _ hm).2.2.1 rfl
   have nB:BB ∉ ex:=fun hm => (hex _ hm).2.2.2.2.1 rfl
   have nL:s5.next ∉ ex:=fun hm => (hex _ hm).2.2.2.2.2.1 rfl
   have nP:pn ∉ ex:=fun hm => (hex _ hm).1 rfl
   refine hW t _ ⟨⟨hwF,?_,hown _ _ hn1 h15 n1 h.b1,hown _ _ (fun e => hn4 e.symm) h45 n4 h.b4,?_,_,Z7x _ _ _,.inr ⟨qN,rfl,?_,?_,?_,?_,?_,?_,?_,?_⟩⟩,hown _ _ ?_ ?_ nB hb⟩ ?_
   ·refine ⟨fun b hb => ?_,Nat.le_trans h.k.next (Nat.le_trans hSA.next hSB.next),fun _ => hwF⟩
    rw [gp b (fun e => hspn (e ▸ hb)) (fun e => hsB5 (e ▸ hb)) (fun hm => (hex _ hm).2.2.2.2.2.2 hb) (h.k.old hb)]
    exact h.k.obj b hb
   ·rw [Z5p hn5,hSB.own nP hoBn]
    exact hnA
   ·rw [Z7n hci hct]
    simp
   ·rw [Z5p (fun e => hne _ ho5A e.symm)]
    exact hqB
   ·exact fun h' => hqo (hSA.old (h.k.old h'))
   ·exact fun e => hne _ (hSA.old hoB1) e.symm
   ·exact fun e => hne _ (hSA.old hoB4) e.symm
   ·exact fun e => hne _ ho5A e.symm
   ·exact fun e => hne _ hoBn e.symm
   ·exact fun e => hne _ (hSA.old hoL) e.symm
   ·intro e
    have h1:=h.n
    rw [← e,hb] at h1
    have h2:=congrArg Option.some (Option.some.inj h1)
    have h3:(penc (nlI l i)).length = 1:=by rw [← Option.some.inj h1]; rfl
    rw [Zcb] at h3
    omega
   ·intro e
    rw [e,e5] at hb
    have:=List.head_eq_of_cons_eq (Option.some.inj hb)
    rcases hlv with ⟨h0,_⟩ | ⟨q',h0,_⟩
    ·rw [h0] at this
     cases this
    ·rw [h0] at this
     simp at this
   ·exact gp _ (fun e => hLo _ (hK5.old (Z0b hw4 hN4)) e.symm) (fun e => hLo _ (hK5.old ho5) e.symm) nL hoL
  refine AM.wp_region ?_
  rcases hlv with ⟨rfl,hl0⟩ | ⟨q',rfl,hl0,hq,hqf,hq1,hq4,hq5,hqn,hqL⟩
  ·simp [Z0a h5A,Z1w,srcP,appP,Z5l,h5A,ho5A]
   refine ⟨by unfold Z0l; omega,?_⟩
   have hKF:Keeps sA ((sA.alloc (.cells [.int .i64 i] false)).alloc (.cells [.int .i64 i] false)):=(Keeps.alloc _ _).trans (Keeps.alloc _ _)
   have hqN:((sA.alloc (.cells [.int .i64 i] false)).alloc (.cells [.int .i64 i] false)).own (sA.alloc (.cells [.int .i64 i] false)).next = some [.int .i64 i]:=Z1g _ _
   have hqo:¬ sA.Old (sA.alloc (.cells [.int .i64 i] false)).next:=fun h => Z09 _ ((Keeps.alloc sA (.cells [.int .i64 i] false)).old h)
   generalize (sA.alloc (.cells [.int .i64 i] false)).next = qN at hqN hqo ⊢
   generalize (sA.alloc (.cells [.int .i64 i] false)).alloc (.cells [.int .i64 i] false) = sB at hKF hqN ⊢
   have hlen:(takI l (i + 1)).length = 1:=by rw [Z7n hci hct,hl0]; rfl
   have:=fun t => hfin t sB qN [] (Same.Z8j hKF) (by rw [hqN,Z7n hci hct,hl0]; rfl) hqo (by simp)
   rw [hlen] at this
   exact this _
  ·have hoq:=Z0b h.wf hq
   have hqA:sA.own q' = some ((takI l i).map fun (a:Nat) => .int .i64 (a:Int)):=(hSA.own (by simpa using hqn) hoq).trans hq
   have hoqA:sA.Old q':=hSA.old hoq
   have hsz:((takI l i).length + 1) * 8 ≤ Z0l:=by have:=Zp4 l i; unfold Z0l; omega
   have hq5':¬ B5 = q':=fun e => hq5 e.symm
   have hnle:¬ (takI l i).length + 1 ≤ (takI l i).length:=by omega
   simp [Z0a h5A,Z1w,srcP,appP,Z5l,h5A,ho5A,hqA,hoqA,hl0,hsz,hq5',hnle]
   have htk:List.take (takI l i).length ((takI l i).map fun (a:Nat) => AVal.int .i64 (a:Int)) = (takI l i).map fun (a:Nat) => AVal.int .i64 (a:Int):=List.take_of_length_le (by simp)
   rw [htk]
   have hTo:(sA.alloc (.cells [.int .i64 i] false)).Old q':=Zly _ hoqA
   have hSB:Same [q'] sA (((sA.alloc (.cells [.int .i64 i] false)).put q' .dead).alloc (.cells ((takI l i).map (fun (a:Nat) => AVal.int .i64 (a:Int)) ++ [.int .i64 i]) false)) :=
    ((Same.Z8j (Keeps.alloc _ _)).put _ (by simp) hTo).trans (Same.Z8j (Keeps.alloc _ _))
   have hqN:(((sA.alloc (.cells [.int .i64 i] false)).put q' .dead).alloc (.cells ((takI l i).map (fun (a:Nat) => AVal.int .i64 (a:Int)) ++ [.int .i64 i]) false)).own (sA.alloc (.cells [.int .i64 i] false)).next = some ((takI l i).map (fun (a:Nat) => AVal.int .i64 (a:Int)) ++ [.int .i64 i]):=Z1g _ _
   have hqo:¬ sA.Old (sA.alloc (.cells [.int .i64 i] false)).next:=fun h => Z09 _ ((Keeps.alloc sA (.cells [.int .i64 i] false)).old h)
   generalize (sA.alloc (.cells [.int .i64 i] false)).next = qN at hqN hqo ⊢
   generalize ((sA.alloc (.cells [.int .i64 i] false)).put q' .dead).alloc (.cells ((takI l i).map (fun (a:Nat) => AVal.int .i64 (a:Int)) ++ [.int .i64 i]) false) = sB at hSB hqN ⊢
   have hlen:(takI l (i + 1)).length = (takI l i).length + 1:=by rw [Z7n hci hct]; simp
   have:=fun t => hfin t sB qN [q'] hSB (by rw [hqN,Z7n hci hct]; simp) hqo (by
    intro b hb'
    simp at hb'
    subst hb'
    refine ⟨hqn,hq1,hq4,hq5,?_,hqL,hqf⟩
    intro e
    rw [e,hb] at hq
    cases hti:takI l i with
    | nil => exact hl0 hti
    | cons x r =>
     rw [hti] at hq
     simp at hq)
   rw [hlen] at this
   exact this _
 ·rintro s' ⟨h,hb⟩
  obtain ⟨lv,e5,hlv⟩:=h.b5
  have hlt:∀ t,¬ lv = .tup t:=by
   rintro t rfl
   rcases hlv with ⟨h0,_⟩ | ⟨q,h0,_⟩ <;> cases h0
  simp
  refine Z00 ?_
  simp [Z0a h.b4,Z0a e5]
  refine AM.wp_ret ?_
  simp
  refine q pn lv s' h.k (fun ho => hfn (hK1.old ho)) h.n (hlv.imp id fun ⟨q',g1,g2,g3,g4,_,_,_,g8,_⟩ => ⟨q',g1,g2,g3,g4,g8⟩) ⟨Z0b h.wf h.n,_,Z0a h.n,?_,?_⟩ ?_
  ·rw [Zcb,Z72]
   simp [Zbf]
  ·intro j nd hnd
   have hj:j < l.length:=by
    have:=(List.getElem?_eq_some_iff.1 hnd).1
    simpa [Zbf] using this
   have hcj:l[j]? = some l[j]:=List.getElem?_eq_getElem hj
   have hnl:=Z8u (i:=l.length) hcj
   obtain ⟨h1,h2⟩:=Zij _ _ _ hnl
   have hnd':nd = if l[j].taken = true then (l[j].name,K j) else ([],[]):=by
    simp [Zbf,hcj] at hnd
    exact hnd.symm
   rw [hnd']
   rw [h1]
   refine ⟨?_,_,h2,?_⟩
   ·by_cases ht:l[j].taken = true
    ·simp [ht,hj]
    ·simp [ht]
   ·by_cases ht:l[j].taken = true
    ·simp only [ht,hj,and_self,if_true]
     exact (hK j _ hcj).keep h.k
    ·simp [ht,Z0g,Z1q]
  ·rcases hlv with ⟨rfl,h0⟩ | ⟨q',rfl,h0,h1,h2⟩
   ·rw [h0]
    exact .inl ⟨rfl,rfl⟩
   ·refine .inr ⟨q',0,.opn 1,_,by simp,Z0b h.wf h1,Z0a h1,by simp,?_⟩
    intro j k hk
    simp at hk ⊢
    obtain ⟨a,ha,rfl⟩:=hk
    exact ⟨a,ha,rfl⟩
theorem Zwj {s:St} {p:Pos} {l:List RC} {K:Nat→List Int} {Q:AVal→St→Prop} (hw:s.Wf) (hp:s.Old p) (hc:s.cells p = some (encs l)) (hl:l.length ≤ 400) (hK:∀ j c,l[j]? = some c→Z0g s c.kv (K j))
  (q:∀ pn lv s',Keeps s s'→NodesG s' pn (Zbf l K)→Z0g s' lv ((takI l l.length).map fun (a:Nat) => (a:Int))→Q (.tup [.slice pn 0 l.length (.lim l.length),lv]) s'):Z0e Tryd.prog 50 [.agg [.slice p 0 l.length (.lim l.length)]] s Q :=
 Zlj hw hp hc hl hK fun pn lv s' k _ _ _ => q pn lv s' k
@[simp] theorem ls103:Z3q Tryd.prog 103 = some (some 3):=by kernel_rfl
def Z5m (l:List RC):Nat→Int
 | 0 => 0
 | i + 1 => match l[i]? with
  | some c => if c.taken = true then IntKind.wrap .i64 (Z5m l i + c.held) else Z5m l i
  | none => Z5m l i
theorem Zu8 {s:St} {p:Pos} {l:List RC} {Q:AVal→St→Prop} (hw:s.Wf) (hp:s.Old p) (hc:s.cells p = some (encs l)) (hl:l.length ≤ 400)
  (q:∀ s',Keeps s s'→Q (.agg [.int .i64 l.length,.int .i64 (takI l l.length).length,.int .i64 (Z5m l l.length)]) s'):Z0e Tryd.prog 59 [.agg [.slice p 0 l.length (.lim l.length)]] s Q:=by
 refine Z08 (Z0i (by decide)) fi59 rfl (by decide) rfl ?_
 refine Z00 ?_
 simp
 have hK1:Keeps s (s.alloc (.cells [.slice p 0 l.length (.lim l.length)] false)):=Keeps.alloc _ _
 have hB1:(s.alloc (.cells [.slice p 0 l.length (.lim l.length)] false)).own s.next = some [.slice p 0 l.length (.lim l.length)]:=Z1g _ _
 have hf1:¬ s.Old s.next:=Z09 s
 generalize s.alloc (.cells [.slice p 0 l.length (.lim l.length)] false) = s1 at hK1 hB1 ⊢
 generalize s.next = B1 at hB1 hf1 ⊢
 have hw1:s1.Wf:=hK1.wf hw
 have ho1:s1.Old B1:=Z0b hw1 hB1
 have hK2:Keeps s1 (s1.alloc (.cells [.int .i64 0,.int .i64 0,.int .i64 0] false)):=Keeps.alloc _ _
 have hB2:(s1.alloc (.cells [.int .i64 0,.int .i64 0,.int .i64 0] false)).own s1.next = some [.int .i64 0,.int .i64 0,.int .i64 0]:=Z1g _ _
 have hf2:¬ s1.Old s1.next:=Z09 s1
 have h12:B1 ≠ s1.next:=ne_next ho1
 generalize s1.alloc (.cells [.int .i64 0,.int .i64 0,.int .i64 0] false) = s2 at hK2 hB2 ⊢
 generalize s1.next = B2 at hB2 hf2 h12 ⊢
 have hw2:s2.Wf:=hK2.wf hw1
 have ho2:s2.Old B2:=Z0b hw2 hB2
 have hB1':s2.own B1 = some [.slice p 0 l.length (.lim l.length)]:=(hK2.own ho1).trans hB1
 refine Z00 ?_
 simp [Z0a hB1']
 have hK3:Keeps s2 ((s2.alloc (.cells [.int .i64 0,.int .i64 0,.int .i64 0] false)).put s2.next (.cells [.int .i64 l.length,.int .i64 0,.int .i64 0] false)):=(Keeps.alloc _ _).put _ (Z09 _) (Z18 _ _)
 have hB3:((s2.alloc (.cells [.int .i64 0,.int .i64 0,.int .i64 0] false)).put s2.next (.cells [.int .i64 l.length,.int .i64 0,.int .i64 0] false)).own s2.next = some [.int .i64 l.length,.int .i64 0,.int .i64 0]:=Z7x _ _ _
 have hf3:¬ s2.Old s2.next:=Z09 s2
 have h13:B1 ≠ s2.next:=ne_next (hK2.old ho1)
 have h23:B2 ≠ s2.next:=ne_next ho2
 generalize (s2.alloc (.cells [.int .i64 0,.int .i64 0,.int .i64 0] false)).put s2.next (.cells [.int .i64 l.length,.int .i64 0,.int .i64 0] false) = s3 at hK3 hB3 ⊢
 generalize s2.next = B3 at hB3 hf3 h13 h23 ⊢
 have hw3:s3.Wf:=hK3.wf hw2
 have ho3:s3.Old B3:=Z0b hw3 hB3
 have hB1'':s3.own B1 = some [.slice p 0 l.length (.lim l.length)]:=(hK3.own (hK2.old ho1)).trans hB1'
 have hB2':s3.own B2 = some [.int .i64 0,.int .i64 0,.int .i64 0]:=(hK3.own ho2).trans hB2
 have hk3:Keeps s s3:=(hK1.trans hK2).trans hK3
 refine AM.wp_seq ?_
 refine Z00 ?_
 simp [Z0a hB1'']
 refine Z02 ?_
 refine Zcc fun BB hBB => ?_
 have hK5:Keeps s3 (s3.alloc (.cells [.slice p 0 l.length (.lim l.length)] false)):=Keeps.alloc _ _
 have hBB5:(s3.alloc (.cells [.slice p 0 l.length (.lim l.length)] false)).own BB = some [.slice p 0 l.length (.lim l.length)]:=by rw [hBB]; exact Z1g _ _
 have hB3B:B3 ≠ BB:=by rw [hBB]; exact ne_next ho3
 generalize s3.alloc (.cells [.slice p 0 l.length (.lim l.length)] false) = s5 at hK5 hBB5 ⊢
 have hw5:s5.Wf:=hK5.wf hw3
 have hk5:Keeps s s5:=hk3.trans hK5
 simp
 refine AM.wp_block ?_
 have hLo:∀ b,s5.Old b→b ≠ s5.next:=fun b hb => ne_next hb
 have hs3:¬ s.Old B3:=fun h => hf3 ((hK1.trans hK2).old h)
 have hs2:¬ s.Old B2:=fun h => hf2 (hK1.old h)
 have hBo:s5.Old BB:=Z0b hw5 hBB5
 refine Zd7 (I:=fun i s' => s'.Wf∧Keeps s s'∧s'.own B1 = some [.slice p 0 l.length (.lim l.length)]∧s'.own B2 = some [.int .i64 0,.int .i64 0,.int .i64 0]∧s'.own BB = some [.slice p 0 l.length (.lim l.length)] ∧
  s'.own B3 = some [.int .i64 l.length,.int .i64 (takI l i).length,.int .i64 (Z5m l i)]) (p:=p) (B:=BB) (l:=l) hl (by simp) rfl fi59 rfl ?_ ?_ ?_ ?_ ⟨hw5,hk5,(hK5.own (hK3.old (hK2.old ho1))).trans hB1'',(hK5.own (hK3.old ho2)).trans hB2',hBB5,(hK5.own ho3).trans hB3⟩ ?_
 ·rintro i s' ⟨h,hk,_,_,hb,_⟩
  exact ⟨h,hk.old hp,Z0b h hb,(hk.cells hp).trans hc,Z0a hb⟩
 ·rintro i s' s'' ⟨h,hk,g1,g2,hb,g3⟩ hS
  refine ⟨hS.wf h,Same.keeps hk hS (by simpa using fun h => Z09 s5 (hk5.old h)),(hS.own (by simpa using hLo _ (hK5.old (hK3.old (hK2.old ho1)))) (Z0b h g1)).trans g1,
   (hS.own (by simpa using hLo _ (hK5.old (hK3.old ho2))) (Z0b h g2)).trans g2,(hS.own (by simpa using hLo _ hBo) (Z0b h hb)).trans hb,(hS.own (by simpa using hLo _ (hK5.old ho3)) (Z0b h g3)).trans g3⟩
 ·rintro i c s' hci hct ⟨h,hk,g1,g2,hb,g3⟩
  refine ⟨h,hk,g1,g2,hb,?_⟩
  rw [Zgf hci hct]
  simp only [Z5m,hci,hct]
  exact g3
 ·rintro i c s' W hci hct ⟨h,hk,g1,g2,hb,g3⟩ hoL hW
  have hi:i < l.length:=(List.getElem?_eq_some_iff.1 hci).1
  have hcp:s'.cells p = some (encs l):=(hk.cells hp).trans hc
  have hg3:(encs l)[i * 4 + 3]? = some (.int .i64 c.held):=Z3f l i 3 c hci (by decide)
  have hwr:IntKind.wrap .i64 (((takI l i).length:Int) + 1) = (((takI l i).length + 1:Nat):Int):=by have:=Zp4 l i; rw [IntWalk.i64_in _ (by omega)]; omega
  have hp3:p ≠ B3:=fun e => hs3 (e ▸ hp)
  refine AM.wp_block ?_
  refine Z00 ?_
  simp [Z0a g3,g3,hwr]
  refine AM.wp_region ?_
  simp [Zc2 h13,Z0a g1,hi,Zc2 hp3,hcp,hg3]
  have hh:Z5m l (i + 1) = IntKind.wrap .i64 (Z5m l i + c.held):=by simp [Z5m,hci,hct]
  have ht:((takI l (i + 1)).length:Int) = (takI l i).length + 1:=by rw [Z7n hci hct]; simp
  have hw3':=Z0b h g3
  have hSF:Same [B3] s' ((s'.put B3 (.cells [.int .i64 l.length,.int .i64 ((takI l i).length + 1),.int .i64 (Z5m l i)] false)).put B3 (.cells [.int .i64 l.length,.int .i64 ((takI l i).length + 1),.int .i64 (IntKind.wrap .i64 (Z5m l i + c.held))] false)) :=
   ((Same.refl _ _).put _ (by simp) hw3').put _ (by simp) (Zgw.2 hw3')
  have h3F:((s'.put B3 (.cells [.int .i64 l.length,.int .i64 ((takI l i).length + 1),.int .i64 (Z5m l i)] false)).put B3 (.cells [.int .i64 l.length,.int .i64 ((takI l i).length + 1),.int .i64 (IntKind.wrap .i64 (Z5m l i + c.held))] false)).own B3 = some [.int .i64 l.length,.int .i64 ((takI l i).length + 1),.int .i64 (IntKind.wrap .i64 (Z5m l i + c.held))]:=Z7x _ _ _
  generalize (s'.put B3 (.cells [.int .i64 l.length,.int .i64 ((takI l i).length + 1),.int .i64 (Z5m l i)] false)).put B3 (.cells [.int .i64 l.length,.int .i64 ((takI l i).length + 1),.int .i64 (IntKind.wrap .i64 (Z5m l i + c.held))] false) = sF at hSF h3F ⊢
  refine hW _ sF ⟨hSF.wf h,Same.keeps hk hSF (by simpa using hs3),(hSF.own (by simpa using h13) (Z0b h g1)).trans g1,(hSF.own (by simpa using h23) (Z0b h g2)).trans g2,(hSF.own (by simpa using fun e:BB = B3 => hB3B e.symm) (Z0b h hb)).trans hb,?_⟩ ?_
  ·rw [h3F,hh,ht]
  ·exact hSF.obj _ (by simpa using fun e:s5.next = B3 => hLo _ (hK5.old ho3) e.symm) hoL
 ·rintro s' ⟨h,hk,g1,g2,hb,g3⟩
  simp
  refine Z00 ?_
  simp [Z0a g3,g2]
  refine AM.wp_ret ?_
  simp
  have hFk:Keeps s (s'.put B2 (.cells [.int .i64 l.length,.int .i64 (takI l l.length).length,.int .i64 (Z5m l l.length)] false)):=hk.put _ hs2 (Z0b h g2)
  exact q _ hFk
theorem Zr7 {s:St} {hb p:Pos} {vs:AVal} {l:List RC} {Q:AVal→St→Prop} (h:HeapAt s hb p vs l) (q:∀ s',Keeps s s'→Q (.int .i64 (takI l l.length).length) s'):Z0e Tryd.prog 14 [.ptr hb 0] s Q:=by
 have hc:=Z0a h.ob
 have hno:l.length ≠ 0:=by have:=h.pos; omega
 refine Z08 (Z0i (by decide)) fi14 rfl (by decide) rfl ?_
 refine Z00 ?_
 simp
 refine AM.wp_seq ?_
 refine Z00 ?_
 simp
 refine Z02 ?_
 refine Z75 hc rfl hno ?_
 simp
 refine AM.Z04 ?_
 simp
 refine AM.wp_skip ?_
 simp
 refine Z00 ?_
 simp [hc]
 refine Z02 ?_
 refine Zu8 h.wf (Z0b h.wf h.op) (Z0a h.op) h.max fun s' hk => ?_
 simp
 refine AM.wp_ret ?_
 simp
 exact q s' hk
theorem Zec {s:St} {v:AVal} {ks:List Int} {k:Int} {Q:AVal→St→Prop} (hv:Z0g s v ks) (hmax:ks.length ≤ 2 ^ 62)
  (q:Q (.int .i64 (Z3b (fun d => decide (k = d)) ks)) s):Z0e Tryd.prog 53 [v,.int .i64 k] s Q:=by
 refine Z08 (Z0i (by decide)) fi53 rfl (by decide) rfl ?_
 refine Z00 ?_
 simp
 refine AM.wp_seq ?_
 refine Z00 ?_
 simp [hv.len]
 refine AM.wp_block ?_
 refine AM.wp_loop (fun m t s' => ∃ i:Nat,i ≤ ks.length∧m = ks.length - i∧PT.get (posOf 0) t = some v∧PT.get (posOf 1) t = some (.int .i64 k)∧PT.get (posOf 7) t = some (.int .i64 ks.length)∧PT.get (posOf 8) t = some (.int .i64 i)∧s' = s∧∀ j d,j < i→ks[j]? = some d→decide (k = d) = false) ks.length ⟨0,by simp,by simp,by simp,by simp,by simp,by simp,rfl,by simp⟩ ?_
 rintro m t s' ⟨i,hi,rfl,t0,t1,t7,t8,rfl,hall⟩
 refine Z00 ?_
 simp [t7,t8]
 refine AM.wp_seq ?_
 refine AM.Z04 ?_
 by_cases hlt:i < ks.length
 ·obtain ⟨x,hx⟩:∃ x,ks[i]? = some x:=⟨_,List.getElem?_eq_getElem hlt⟩
  have hwr:IntKind.wrap .i64 ((i:Int) + 1) = ((i + 1:Nat):Int):=by rw [IntWalk.i64_in _ (by omega)]; omega
  rcases hv with ⟨_,h0⟩ | ⟨b,o,c,cs,rfl,hb,hcs,hle,hel⟩
  ·subst h0
   simp at hlt
  have hg:=hel i x hx
  simp [hlt]
  refine AM.wp_skip ?_
  simp
  refine AM.wp_seq ?_
  refine AM.wp_block ?_
  refine Z00 ?_
  simp [t8]
  refine Z00 ?_
  simp [t0,t1,hlt,hcs,hg]
  refine AM.Z04 ?_
  by_cases hct:k = x
  ·simp [hct]
   refine Z00 ?_
   simp
   refine AM.wp_ret ?_
   simp
   rw [Zcj hall hx (by simp [hct])] at q
   exact q
  ·simp [hct]
   refine AM.wp_skip ?_
   simp
   refine AM.wp_region ?_
   simp [t8,hwr]
   refine ⟨ks.length - (i + 1),by omega,i + 1,by omega,by omega,by simp [t0],by simp [t1],by simp [t7],by simp,?_⟩
   intro j d hj hd
   by_cases hji:j = i
   ·subst hji
    rw [hx] at hd
    cases hd
    exact hct
   ·simpa using hall j d (by omega) hd
 ·simp [hlt]
  refine AM.wp_exit ?_
  simp
  refine Z00 ?_
  simp
  refine AM.wp_ret ?_
  simp
  rw [Zd1 (fun j d hj hd => hall j d (by omega) hd)] at q
  exact q
theorem Zlr {s:St} {Bc:Pos} {v:AVal} {cls:List Int} {i:Int} {c:Int} {Q:AVal→St→Prop} (hB:s.cells Bc = some [v]) (hv:Z0g s v cls) (hmax:cls.length ≤ 1000) (hi:0 ≤ i) (hc:cls[i.toNat]? = some c)
  (q:Q (.int .i64 (Z3b (fun d => decide (c = d)) cls)) s):Z0e Tryd.prog 52 [.int .i64 i,.ptr Bc 0] s Q:=by
 have hv':=hv
 have hlt:i.toNat < cls.length:=(List.getElem?_eq_some_iff.1 hc).1
 refine Z08 (Z0i (by decide)) fi52 rfl (by decide) rfl ?_
 refine Z00 ?_
 simp
 refine Z00 ?_
 rcases hv with ⟨_,h0⟩ | ⟨b,o,cp,cs,rfl,hb,hcs,hle,hel⟩
 ·subst h0
  simp at hlt
 have hg:=hel _ _ hc
 have hil:i < cls.length:=by omega
 simp [hB,hi,hil,hcs,hg]
 refine Z02 ?_
 refine Zec hv' (by omega) ?_
 simp
 refine AM.wp_ret ?_
 simp
 exact q
def Zgo:RC:=⟨false,[],.nilSlice,0⟩
def rel (l:List RC) (gone:List Int):List RC:=gone.foldl (fun l k => l.set k.toNat Zgo) l
theorem Zkz:∀ (gone:List Int) (l:List RC),(rel l gone).length = l.length
 | [],l => rfl
 | k :: r,l => by
  show (rel (l.set k.toNat Zgo) r).length = _
  rw [Zkz r]
  simp
theorem Zsu {s:St} {p:Pos} {l:List RC} {v:AVal} {gone:List Int} {Q:AVal→St→Prop} (hw:s.Wf) (hp:s.own p = some (encs l)) (hmax:gone.length ≤ 1000) (hin:∀ k ∈ gone,0 ≤ k∧k < l.length)
  (hv:∀ s',Same [p] s s'→Z0g s' v gone) (q:∀ s',Same [p] s s'→s'.own p = some (encs (rel l gone))→Q (.tup []) s'):Z0e Tryd.prog 58 [.agg [.slice p 0 l.length (.lim l.length)],v] s Q:=by
 have hop:=Z0b hw hp
 have hv0:=hv s (Same.refl _ _)
 have hvt:=hv0.ntup
 refine Z08 (Z0i (by decide)) fi58 rfl (by decide) rfl ?_
 refine Z00 ?_
 simp
 have hK1:Keeps s (s.alloc (.cells [.slice p 0 l.length (.lim l.length)] false)):=Keeps.alloc _ _
 have hB1:(s.alloc (.cells [.slice p 0 l.length (.lim l.length)] false)).own s.next = some [.slice p 0 l.length (.lim l.length)]:=Z1g _ _
 have h1p:s.next ≠ p:=fun e => ne_next hop e.symm
 generalize s.alloc (.cells [.slice p 0 l.length (.lim l.length)] false) = s1 at hK1 hB1 ⊢
 generalize s.next = B at hB1 h1p ⊢
 have hw1:s1.Wf:=hK1.wf hw
 have hoB:s1.Old B:=Z0b hw1 hB1
 have hS1:Same [p] s s1:=Same.Z8j hK1
 refine Z00 ?_
 simp [hv0.len]
 refine AM.wp_block ?_
 refine AM.wp_loop (fun m t s' => ∃ i:Nat,i ≤ gone.length∧m = gone.length - i∧PT.get (posOf 2) t = some (.ptr B 0)∧PT.get (posOf 6) t = some v∧PT.get (posOf 7) t = some (.int .i64 gone.length)∧PT.get (posOf 8) t = some (.int .i64 i)∧Same [p] s1 s'∧s'.own p = some (encs (rel l (gone.take i)))) gone.length ⟨0,by simp,by simp,by simp,by simp,by simp,by simp,Same.refl _ _,(hK1.own hop).trans hp⟩ ?_
 rintro m t s' ⟨i,hi,rfl,t2,t6,t7,t8,hS,hO⟩
 refine Z00 ?_
 simp [t7,t8]
 refine AM.wp_seq ?_
 refine AM.Z04 ?_
 by_cases hlt:i < gone.length
 ·obtain ⟨k,hk⟩:∃ k,gone[i]? = some k:=⟨_,List.getElem?_eq_getElem hlt⟩
  obtain ⟨hk0,hk1⟩:=hin k (List.mem_of_getElem? hk)
  have hwr:IntKind.wrap .i64 ((i:Int) + 1) = ((i + 1:Nat):Int):=by rw [IntWalk.i64_in _ (by omega)]; omega
  have htk:rel l (gone.take (i + 1)) = (rel l (gone.take i)).set k.toNat Zgo:=by
   unfold rel
   rw [List.take_add_one,hk,List.foldl_append]
   rfl
  have hB':s'.cells B = some [.slice p 0 l.length (.lim l.length)]:=Z0a ((hS.own (by simpa using h1p) hoB).trans hB1)
  have hlay:=Ze5 (rel l (gone.take i)) k.toNat Zgo (by rw [Zkz]; omega)
  rw [← htk] at hlay
  have hle:k.toNat * 4 + 4 ≤ (encs (rel l (gone.take i))).length:=by rw [Z36,Zkz]; omega
  have hop':s'.Old p:=hS.old (hK1.old hop)
  rcases hv s' (hS1.trans hS) with ⟨_,h0⟩ | ⟨b,o,c,cs,hvv,hb,hcs,hle2,hel⟩
  ·subst h0
   simp at hlt
  subst hvv
  have hg:=hel i k hk
  simp [hlt]
  refine AM.wp_skip ?_
  simp
  refine AM.wp_seq ?_
  refine AM.wp_block ?_
  refine Z00 ?_
  simp [t6,t8,hlt,hcs,hg]
  refine AM.wp_region ?_
  simp [lay,RC.enc,Zgo] at hlay
  simp [t2,hB',hk0,hk1,hO,hle]
  rw [hlay]
  refine AM.wp_region ?_
  simp [t8,hwr]
  exact ⟨gone.length - (i + 1),by omega,i + 1,by omega,by omega,by simp [t2],by simp [t6],by simp [t7],by simp,hS.put _ (by simp) hop',by simp⟩
 ·simp [hlt]
  refine AM.wp_exit ?_
  simp
  have hie:i = gone.length:=by omega
  subst hie
  rw [List.take_length] at hO
  exact q s' (hS1.trans hS) hO
def cpI (l:List RC) (kvs:Nat→AVal) (i:Nat):List RC:=l.mapIdx fun j c => if j < i then { c with kv:=kvs j } else c
theorem Z9o (l:List RC) (kvs:Nat→AVal) (i:Nat):(cpI l kvs i).length = l.length:=by simp [cpI]
theorem Zdf {l:List RC} {kvs:Nat→AVal} {i j:Nat} {c:RC} (h:l[j]? = some c):(cpI l kvs i)[j]? = some (if j < i then { c with kv:=kvs j } else c):=by simp [cpI,h]
theorem Zw9 (l:List RC) (kvs:Nat→AVal):cpI l kvs 0 = l:=by
 refine List.ext_getElem? fun j => ?_
 by_cases hj:j < l.length
 ·rw [Zdf (List.getElem?_eq_getElem hj),List.getElem?_eq_getElem hj]
  simp
 ·rw [List.getElem?_eq_none (by rw [Z9o]; omega),List.getElem?_eq_none (by omega)]
theorem Zw8 {l:List RC} {kvs:Nat→AVal} {i:Nat} {c:RC} {kv:AVal} (h:l[i]? = some c):(cpI l kvs i).set i { c with kv:=kv } = cpI l (fun j => if j = i then kv else kvs j) (i + 1):=by
 have hi:i < l.length:=(List.getElem?_eq_some_iff.1 h).1
 refine List.ext_getElem? fun j => ?_
 by_cases hj:j < l.length
 ·rw [List.getElem?_set]
  have hc2:=Zdf (kvs:=fun j => if j = i then kv else kvs j) (i:=i + 1) (List.getElem?_eq_getElem hj)
  rw [hc2]
  by_cases e:i = j
  ·subst e
   have:l[i] = c:=(List.getElem?_eq_some_iff.1 h).2
   rw [Z9o]
   simp [hi,this]
  ·rw [if_neg e,Zdf (List.getElem?_eq_getElem hj)]
   have e':¬ j = i:=fun h => e h.symm
   have:j < i ↔ j < i + 1:=by omega
   simp [this,e']
 ·rw [List.getElem?_eq_none (by rw [List.length_set,Z9o]; omega),List.getElem?_eq_none (by rw [Z9o]; omega)]
theorem Zlf:∀ (l:List RC) (i:Nat) (c:RC) (kv:AVal),l[i]? = some c→lay (encs l) (i * 4 + 2) [kv] = encs (l.set i { c with kv:=kv })
 | [],i,c,kv,h => by simp at h
 | d :: l,0,c,kv,h => by
  simp at h
  subst h
  have e:encs (d :: l) = d.enc ++ encs l:=rfl
  have e2:encs ((d :: l).set 0 { d with kv:=kv }) = (RC.enc { d with kv:=kv }) ++ encs l:=rfl
  rw [e,e2]
  simp [lay,RC.enc]
 | d :: l,i + 1,c,kv,h => by
  have e:encs (d :: l) = d.enc ++ encs l:=rfl
  have e2:encs ((d :: l).set (i + 1) { c with kv:=kv }) = d.enc ++ encs (l.set i { c with kv:=kv }):=rfl
  have ih:=Zlf l i c kv (by simpa using h)
  have hd:d.enc.length = 4:=rfl
  have e3:(i + 1) * 4 + 2 = d.enc.length + (i * 4 + 2):=by rw [hd]; omega
  rw [e,e2,← ih]
  unfold lay
  rw [e3,List.take_length_add_append,Nat.add_assoc,List.drop_length_add_append]
  simp
structure OwnK (s0 s:St) (pn:Pos) (K:Nat→List Int) (kvs:Nat→AVal) (i:Nat):Prop where
 kid:∀ j,j < i→KidV s (kvs j) (K j)
 fresh:∀ j q c,j < i→kvs j = .slice q 0 (K j).length c→K j ≠ []→¬ s0.Old q∧q ≠ pn
 sep:∀ j j' q c c',j < i→j' < i→K j ≠ []→K j' ≠ []→kvs j = .slice q 0 (K j).length c→kvs j' = .slice q 0 (K j').length c'→j = j'
theorem Zjv {s:St} {q b:Pos} {ks:List Int} {x:AVal} {r:List AVal} (h:s.own q = some (ks.map fun k => .int .i64 k)) (hb:s.own b = some (x :: r)) (hx:∀ n,x ≠ .int .i64 n):q ≠ b:=by
 rintro rfl
 rw [hb] at h
 cases ks with
 | nil => simp at h
 | cons k ks =>
  simp at h
  exact hx k h.1
theorem KidV.mono {s s':St} {kv:AVal} {ks:List Int} (h:KidV s kv ks) (hs:∀ (q:Pos) (ks:List Int),s.own q = some (ks.map fun (k:Int) => .int .i64 k)→s'.own q = some (ks.map fun (k:Int) => .int .i64 k)):KidV s' kv ks:=by
 rcases h with h | ⟨q,c,h1,h2⟩
 ·exact .inl h
 ·exact .inr ⟨q,c,h1,hs q ks h2⟩
theorem Zud {l:List RC} (h:1 ≤ l.length):∃ b r,encs l = .bool b :: r:=by
 match l,h with
 | c :: l,_ => exact ⟨c.taken,_,rfl⟩
@[simp] theorem ls77:Z3q Tryd.prog 77 = some (some 1):=by kernel_rfl
theorem Zxo (n:Nat):(List.replicate n [AVal.bool false,.str [],.nilSlice,.int .i64 0]).flatten.length = 4 * n:=by
 simp [List.length_flatten]
 omega
theorem own_wp {s:St} {p:Pos} {l:List RC} {K:Nat→List Int} {Q:AVal→St→Prop} (hw:s.Wf) (hp:s.Old p) (hc:s.cells p = some (encs l)) (h1:1 ≤ l.length) (hl:l.length ≤ 400) (hK:∀ j c,l[j]? = some c→Z0g s c.kv (K j)∧(K j).length ≤ 1000)
  (q:∀ pn kvs s',Keeps s s'→¬ s.Old pn→s'.own pn = some (encs (cpI l kvs l.length))→OwnK s s' pn K kvs l.length→Q (.agg [.slice pn 0 l.length (.lim l.length)]) s'):Z0e Tryd.prog 51 [.agg [.slice p 0 l.length (.lim l.length)]] s Q:=by
 refine Z08 (Z0i (by decide)) fi51 rfl (by decide) rfl ?_
 refine Z00 ?_
 simp
 have hK1:Keeps s (s.alloc (.cells [.slice p 0 l.length (.lim l.length)] false)):=Keeps.alloc _ _
 have hB1:(s.alloc (.cells [.slice p 0 l.length (.lim l.length)] false)).own s.next = some [.slice p 0 l.length (.lim l.length)]:=Z1g _ _
 have hf1:¬ s.Old s.next:=Z09 s
 generalize s.alloc (.cells [.slice p 0 l.length (.lim l.length)] false) = s1 at hK1 hB1 ⊢
 generalize s.next = B1 at hB1 hf1 ⊢
 have hw1:s1.Wf:=hK1.wf hw
 have ho1:s1.Old B1:=Z0b hw1 hB1
 have hK2:Keeps s1 (s1.alloc (.cells [.nilSlice] false)):=Keeps.alloc _ _
 have hB2:(s1.alloc (.cells [.nilSlice] false)).own s1.next = some [.nilSlice]:=Z1g _ _
 have hf2:¬ s1.Old s1.next:=Z09 s1
 have h12:B1 ≠ s1.next:=ne_next ho1
 generalize s1.alloc (.cells [.nilSlice] false) = s2 at hK2 hB2 ⊢
 generalize s1.next = B2 at hB2 hf2 h12 ⊢
 have hw2:s2.Wf:=hK2.wf hw1
 have ho2:s2.Old B2:=Z0b hw2 hB2
 have hB1':s2.own B1 = some [.slice p 0 l.length (.lim l.length)]:=(hK2.own ho1).trans hB1
 have hz1:l.length * 56 ≤ Z0l:=by unfold Z0l; omega
 have hz2:l.length ≤ Z0l:=by unfold Z0l; omega
 refine Z00 ?_
 simp [Z0a hB1',hz1,hz2]
 have hK3:Keeps s2 (s2.alloc (.cells (List.replicate l.length [AVal.bool false,.str [],.nilSlice,.int .i64 0]).flatten false)):=Keeps.alloc _ _
 have hN3:(s2.alloc (.cells (List.replicate l.length [AVal.bool false,.str [],.nilSlice,.int .i64 0]).flatten false)).own s2.next = some (List.replicate l.length [AVal.bool false,.str [],.nilSlice,.int .i64 0]).flatten:=Z1g _ _
 have hfn:¬ s2.Old s2.next:=Z09 s2
 have hn1:B1 ≠ s2.next:=ne_next (hK2.old ho1)
 have hn2:B2 ≠ s2.next:=ne_next ho2
 have hzl:=Zxo l.length
 generalize (List.replicate l.length [AVal.bool false,.str [],.nilSlice,.int .i64 0]).flatten = zs at hK3 hN3 hzl ⊢
 generalize s2.alloc (.cells zs false) = s3 at hK3 hN3 ⊢
 generalize s2.next = pn at hN3 hfn hn1 hn2 ⊢
 have hw3:s3.Wf:=hK3.wf hw2
 have hon:s3.Old pn:=Z0b hw3 hN3
 have hK4:Keeps s3 ((s3.alloc (.cells [.nilSlice] false)).put s3.next (.cells [.slice pn 0 l.length (.lim l.length)] false)):=(Keeps.alloc _ _).put _ (Z09 _) (Z18 _ _)
 have hB4:((s3.alloc (.cells [.nilSlice] false)).put s3.next (.cells [.slice pn 0 l.length (.lim l.length)] false)).own s3.next = some [.slice pn 0 l.length (.lim l.length)]:=Z7x _ _ _
 have hf3:¬ s3.Old s3.next:=Z09 s3
 have hn3:pn ≠ s3.next:=ne_next hon
 have h13:B1 ≠ s3.next:=ne_next (hK3.old (hK2.old ho1))
 have h23:B2 ≠ s3.next:=ne_next (hK3.old ho2)
 generalize (s3.alloc (.cells [.nilSlice] false)).put s3.next (.cells [.slice pn 0 l.length (.lim l.length)] false) = s4 at hK4 hB4 ⊢
 generalize s3.next = B3 at hB4 hf3 hn3 h13 h23 ⊢
 have hw4:s4.Wf:=hK4.wf hw3
 have ho3:s4.Old B3:=Z0b hw4 hB4
 have hk4:Keeps s s4:=((hK1.trans hK2).trans hK3).trans hK4
 have hN4:s4.own pn = some zs:=(hK4.own hon).trans hN3
 have hB1'':s4.own B1 = some [.slice p 0 l.length (.lim l.length)]:=(hK4.own (hK3.old (hK2.old ho1))).trans ((hK3.own (hK2.old ho1)).trans hB1')
 have hB2':s4.own B2 = some [.nilSlice]:=(hK4.own (hK3.old ho2)).trans ((hK3.own ho2).trans hB2)
 have hcp:s4.cells p = some (encs l):=(hk4.cells hp).trans hc
 refine Z00 ?_
 simp [Z0a hB1'',Z0a hB4]
 refine Zo9 (ox:=0) (o:=0) (n:=l.length) (cx:=.lim l.length) (c:=.lim l.length) (bx:=pn) (b:=p) (by simp) (by simp) (by omega) hN4 hcp (by rw [Z36]; omega) (by omega) ?_
 have hcopy:lay zs 0 (((encs l).drop 0).take (l.length * 4)) = encs l:=by
  have e:List.take (l.length * 4) (encs l) = encs l:=List.take_of_length_le (by rw [Z36]; omega)
  unfold lay
  rw [List.drop_zero,e,List.take_zero,List.drop_eq_nil_of_le (by rw [Z36]; omega)]
  simp
 rw [hcopy]
 have hspn:¬ s.Old pn:=fun h => hfn ((hK1.trans hK2).old h)
 have hS5:Same [pn] s4 (s4.put pn (.cells (encs l) false)):=(Same.refl _ _).put _ (by simp) (hK4.old hon)
 have hN5:(s4.put pn (.cells (encs l) false)).own pn = some (encs l):=Z7x _ _ _
 generalize s4.put pn (.cells (encs l) false) = s5 at hS5 hN5 ⊢
 have hw5:s5.Wf:=hS5.wf hw4
 have hk5:Keeps s s5:=Same.keeps hk4 hS5 (by simpa using hspn)
 have hB3:s5.own B3 = some [.slice pn 0 l.length (.lim l.length)]:=(hS5.own (by simpa using fun e:B3 = pn => hn3 e.symm) ho3).trans hB4
 have hB2:s5.own B2 = some [.nilSlice]:=(hS5.own (by simpa using hn2) (Z0b hw4 hB2')).trans hB2'
 have ho3':=Z0b hw5 hB3
 refine AM.wp_seq ?_
 refine Z00 ?_
 simp [Z0a hB3]
 refine AM.wp_block ?_
 refine AM.wp_loop (fun m t s' => ∃ (i:Nat) (kvs:Nat→AVal),i ≤ l.length∧m = l.length - i∧PT.get (posOf 2) t = some (.ptr B2 0)∧PT.get (posOf 3) t = some (.ptr B3 0)∧PT.get (posOf 17) t = some (.int .i64 l.length)∧PT.get (posOf 18) t = some (.int .i64 i)∧Same [pn] s5 s'∧s'.own pn = some (encs (cpI l kvs i))∧OwnK s s' pn K kvs i) l.length
  ⟨0,fun _ => .nilSlice,by simp,by simp,by simp,by simp,by simp,by simp,Same.refl _ _,by rw [Zw9]; exact hN5,⟨fun j hj => by omega,fun j q c hj => by omega,fun j j' q c c' hj => by omega⟩⟩ ?_
 rintro m t s' ⟨i,kvs,hi,rfl,t2,t3,t17,t18,hS,hO,hV⟩
 refine Z00 ?_
 simp [t17,t18]
 refine AM.wp_seq ?_
 refine AM.Z04 ?_
 by_cases hlt:i < l.length
 ·obtain ⟨c,hci⟩:∃ c,l[i]? = some c:=⟨_,List.getElem?_eq_getElem hlt⟩
  have hwr:IntKind.wrap .i64 ((i:Int) + 1) = ((i + 1:Nat):Int):=by rw [IntWalk.i64_in _ (by omega)]; omega
  have hw':s'.Wf:=hS.wf hw5
  have hk':Keeps s s':=Same.keeps hk5 hS (by simpa using hspn)
  have hB3s:s'.own B3 = some [.slice pn 0 l.length (.lim l.length)]:=(hS.own (by simpa using fun e:B3 = pn => hn3 e.symm) ho3').trans hB3
  have hcc:(cpI l kvs i)[i]? = some c:=by rw [Zdf hci]; simp
  have hg:(encs (cpI l kvs i))[i * 4 + 2]? = some c.kv:=Z3f _ i 2 c hcc (by decide)
  obtain ⟨hkI,hkl⟩:=hK i c hci
  simp [hlt]
  refine AM.wp_skip ?_
  simp
  refine AM.wp_seq ?_
  refine AM.wp_block ?_
  refine Z00 ?_
  simp [t18]
  refine AM.wp_region ?_
  simp [t3,Z0a hB3s,hlt,Z0a hO,hg]
  refine Z02 ?_
  refine Zhz hw' (hkI.keep hk') hkl fun kv s2' hk2 hkv hfr => ?_
  have hB3t:s2'.own B3 = some [.slice pn 0 l.length (.lim l.length)]:=(hk2.own (Z0b hw' hB3s)).trans hB3s
  have hOt:s2'.own pn = some (encs (cpI l kvs i)):=(hk2.own (Z0b hw' hO)).trans hO
  have hlay:=Zlf (cpI l kvs i) i c kv hcc
  rw [Zw8 hci] at hlay
  have hle:i * 4 + 2 + 1 ≤ (encs (cpI l kvs i)).length:=by rw [Z36,Z9o]; omega
  have hkc:kv.cells = [kv]:=by
   rcases hkv with ⟨h0,_⟩ | ⟨q,c,h0,_⟩
   ·cases kv <;> simp [Z1q] at h0
    ·rfl
    ·rfl
   ·rw [h0]; rfl
  have hkt:∀ t,¬ kv = .tup t:=by
   rintro t rfl
   rcases hkv with ⟨h0,_⟩ | ⟨q,c,h0,_⟩ <;> cases h0
  simp [lay] at hlay
  simp [Z0a hB3t,Z8n,hlt,hOt,hle,hkc,hkt]
  rw [hlay]
  have hop':s2'.Old pn:=Z0b (hk2.wf hw') hOt
  obtain ⟨eb,er,ee⟩:=Zud (l:=cpI l kvs i) (by rw [Z9o]; exact h1)
  have hmono:∀ (q:Pos) (ks:List Int),s2'.own q = some (ks.map fun (k:Int) => .int .i64 k)→(s2'.put pn (.cells (encs (cpI l (fun j => if j = i then kv else kvs j) (i + 1))) false)).own q = some (ks.map fun (k:Int) => .int .i64 k):=by
   intro q ks hq
   rw [ee] at hOt
   rw [Z5p (Zjv hq hOt (by simp))]
   exact hq
  refine AM.wp_region ?_
  simp [t18,hwr]
  refine ⟨l.length - (i + 1),by omega,i + 1,by omega,by omega,by simp [t2],by simp [t3],by simp [t17],by simp,(hS.trans (Same.Z8j hk2)).put _ (by simp) hop',fun j => if j = i then kv else kvs j,by simp,⟨?_,?_,?_⟩⟩
  ·intro j hj
   by_cases e:j = i
   ·subst e
    simp
    exact hkv.mono hmono
   ·simp [e]
    exact ((hV.kid j (by omega)).keep hw' hk2).mono hmono
  ·intro j q' c' hj he hne
   by_cases e:j = i
   ·subst e
    simp at he
    obtain ⟨g1,g2⟩:=hfr q' c' he
    refine ⟨fun h => g1 (hk'.old h),fun h => g1 ?_⟩
    rw [h]
    exact Z0b hw' hO
   ·simp [e] at he
    exact hV.fresh j q' c' (by omega) he hne
  ·intro j j' q' c' c'' hj hj' hne hne' he he'
   have key:∀ (j:Nat) c',j < i→K j ≠ []→kvs j = .slice q' 0 (K j).length c'→s'.Old q':=by
    intro j c' hj hne he
    rcases hV.kid j hj with ⟨_,h0⟩ | ⟨q2,c2,g1,g2⟩
    ·exact (hne h0).elim
    ·rw [he] at g1
     cases g1
     exact Z0b hw' g2
   by_cases e:j = i
   ·by_cases e':j' = i
    ·omega
    ·subst e
     simp at he
     simp [e'] at he'
     exact ((hfr q' c' he).1 (key j' c'' (by omega) hne' he')).elim
   ·by_cases e':j' = i
    ·subst e'
     simp at he'
     simp [e] at he
     exact ((hfr q' c'' he').1 (key j c' (by omega) hne he)).elim
    ·simp [e] at he
     simp [e'] at he'
     exact hV.sep j j' q' c' c'' (by omega) (by omega) hne hne' he he'
 ·simp [hlt]
  refine AM.wp_exit ?_
  simp
  have hie:i = l.length:=by omega
  subst hie
  have hw':s'.Wf:=hS.wf hw5
  have hk':Keeps s s':=Same.keeps hk5 hS (by simpa using hspn)
  have hB3s:s'.own B3 = some [.slice pn 0 l.length (.lim l.length)]:=(hS.own (by simpa using fun e:B3 = pn => hn3 e.symm) ho3').trans hB3
  have hB2s:s'.own B2 = some [.nilSlice]:=(hS.own (by simpa using hn2) (Z0b hw5 hB2)).trans hB2
  refine Z00 ?_
  simp [t2,t3,Z0a hB3s,hB2s]
  refine AM.wp_ret ?_
  simp [t2]
  have hmono:∀ (q:Pos) (ks:List Int),s'.own q = some (ks.map fun (k:Int) => .int .i64 k)→(s'.put B2 (.cells [.slice pn 0 l.length (.lim l.length)] false)).own q = some (ks.map fun (k:Int) => .int .i64 k):=by
   intro q ks hq
   rw [Z5p (Zjv hq hB2s (by simp))]
   exact hq
  refine q pn kvs _ (hk'.put _ (fun h => hf2 (hK1.old h)) (Z0b hw' hB2s)) hspn ?_ ⟨fun j hj => (hV.kid j hj).mono hmono,hV.fresh,hV.sep⟩
  rw [Z5p (fun e => hn2 e.symm)]
  exact hO
theorem Zx3 {s:St} {c:RC} {Q:AVal→St→Prop} (q:∀ s',Keeps s s'→Q (.bool (decide (1000 < c.held))) s'):Z0e Tryd.prog 57 [.agg c.enc] s Q:=by
 refine Z08 (Z0i (by decide)) fi57 rfl (by decide) rfl ?_
 refine Z00 ?_
 simp [RC.enc]
 refine Z00 ?_
 simp
 refine AM.wp_ret ?_
 simp
 exact q _ (Keeps.alloc _ _)
theorem Zv7 {s:St} {p:Pos} {l:List RC} {Q:AVal→St→Prop} (hp:s.Old p) (hc:s.cells p = some (encs l)) (hl:l.length ≤ 400)
  (q:∀ (i:Int) s',Keeps s s'→(!decide (i < 0)) = l.any (fun c => decide (1000 < c.held))→Q (.int .i64 i) s'):Z0e Tryd.prog 88 [.slice p 0 l.length (.lim l.length),.fn 57 [] []] s Q:=by
 refine Z08 (Z0i (by decide)) fi88 rfl (by decide) rfl ?_
 refine Z00 ?_
 simp
 refine AM.wp_seq ?_
 refine Z00 ?_
 simp
 refine AM.wp_block ?_
 refine AM.wp_loop (fun m t s' => ∃ i:Nat,i ≤ l.length∧m = l.length - i∧PT.get (posOf 0) t = some (.slice p 0 l.length (.lim l.length))∧PT.get (posOf 1) t = some (.fn 57 [] [])∧PT.get (posOf 7) t = some (.int .i64 l.length)∧PT.get (posOf 8) t = some (.int .i64 i)∧Keeps s s'∧∀ j d,j < i→l[j]? = some d→¬ 1000 < d.held) l.length ⟨0,by simp,by simp,by simp,by simp,by simp,by simp,Keeps.refl s,by simp⟩ ?_
 rintro m t s' ⟨i,hi,rfl,t0,t1,t7,t8,hk,hall⟩
 refine Z00 ?_
 simp [t7,t8]
 refine AM.wp_seq ?_
 refine AM.Z04 ?_
 by_cases hlt:i < l.length
 ·obtain ⟨c,hci⟩:∃ c,l[i]? = some c:=⟨_,List.getElem?_eq_getElem hlt⟩
  have hwr:IntKind.wrap .i64 ((i:Int) + 1) = ((i + 1:Nat):Int):=by rw [IntWalk.i64_in _ (by omega)]; omega
  have hcp:s'.cells p = some (encs l):=(hk.cells hp).trans hc
  have hseg:=Ze6 l i c hci
  have hle:i * 4 + 4 ≤ (encs l).length:=by rw [Z36]; omega
  simp [hlt]
  refine AM.wp_skip ?_
  simp
  refine AM.wp_seq ?_
  refine AM.wp_block ?_
  refine Z00 ?_
  simp [t8]
  refine Z00 ?_
  simp [t0,t1,hlt,hcp,hle,hseg]
  refine Z02 ?_
  refine Zx3 fun s2 hk2 => ?_
  simp
  refine AM.Z04 ?_
  by_cases hct:1000 < c.held
  ·simp [hct]
   refine Z00 ?_
   simp
   refine AM.wp_ret ?_
   simp
   refine q _ _ (hk.trans hk2) ?_
   have h1:l.any (fun c => decide (1000 < c.held)) = true:=List.any_eq_true.2 ⟨c,List.mem_of_getElem? hci,by simpa using hct⟩
   have h2:¬ ((i:Int) < 0):=by omega
   rw [h1]
   simp [h2]
  ·simp [hct]
   refine AM.wp_skip ?_
   simp
   refine AM.wp_region ?_
   simp [t8,hwr]
   refine ⟨l.length - (i + 1),by omega,i + 1,by omega,by omega,by simp [t0],by simp [t1],by simp [t7],by simp,hk.trans hk2,?_⟩
   intro j d hj hd
   by_cases hji:j = i
   ·subst hji
    rw [hci] at hd
    cases hd
    omega
   ·have:=hall j d (by omega) hd
    omega
 ·simp [hlt]
  refine AM.wp_exit ?_
  simp
  refine Z00 ?_
  simp
  refine AM.wp_ret ?_
  simp
  refine q _ _ hk ?_
  have h1:l.any (fun c => decide (1000 < c.held)) = false:=by
   rw [List.any_eq_false]
   intro c hc
   obtain ⟨j,hj,e⟩:=List.getElem_of_mem hc
   have:=hall j c (by omega) (by rw [List.getElem?_eq_getElem hj,e])
   simpa using this
  rw [h1]
  rfl
theorem over_wp {s:St} {p:Pos} {l:List RC} {Q:AVal→St→Prop} (hp:s.Old p) (hc:s.cells p = some (encs l)) (hl:l.length ≤ 400)
  (q:∀ s',Keeps s s'→Q (.bool (l.any fun c => decide (1000 < c.held))) s'):Z0e Tryd.prog 56 [.slice p 0 l.length (.lim l.length),.fn 57 [] []] s Q:=by
 refine Z08 (Z0i (by decide)) fi56 rfl (by decide) rfl ?_
 refine Z00 ?_
 simp
 refine Z00 ?_
 simp
 refine Z02 ?_
 refine Zv7 hp hc hl fun i s' hk e => ?_
 simp
 refine AM.wp_ret ?_
 simp
 rw [e]
 exact q _ hk
abbrev C (cs:List AVal):AObj:=.cells cs false
abbrev Lets:=List (Pos × AObj)
structure Ctx (s0:St) (W:Pos→Prop) (m:Lets) (s:St):Prop where
 wf:s.Wf
 obj:∀ b,¬ W b→s0.Old b→s.obj b = s0.obj b
 next:s0.next.toNat ≤ s.next.toNat
 own:∀ x ∈ m,s.obj x.1 = some x.2
 nodup:(m.map (·.1)).Nodup
 free:∀ x ∈ m,s0.Old x.1→W x.1
theorem Ctx.start {s:St} (W:Pos→Prop) (hw:s.Wf):Ctx s W [] s:=⟨hw,fun _ _ _ => rfl,Nat.le_refl _,by simp,by simp,by simp⟩
theorem Z0y {s:St} {b:Pos} {cs:List AVal} (h:s.obj b = some (C cs)):s.own b = some cs:=by unfold St.own; rw [h]
section
variable {s0 s:St} {W:Pos→Prop} {m r:Lets}
theorem Ctx.x (h:Ctx s0 W m s) {b:Pos} {x:AObj} (i:Nat) (hi:m[i]? = some (b,x)):s.obj b = some x:=h.own (b,x) (List.mem_of_getElem? hi)
theorem Ctx.o (h:Ctx s0 W m s) {b:Pos} {cs:List AVal} (i:Nat) (hi:m[i]? = some (b,C cs)):s.own b = some cs:=Z0y (h.x i hi)
theorem Ctx.c (h:Ctx s0 W m s) {b:Pos} {cs:List AVal} (i:Nat) (hi:m[i]? = some (b,C cs)):s.cells b = some cs:=Z0a (h.o i hi)
theorem Ctx.ob (h:Ctx s0 W m s) {x:Pos × AObj} (hx:x ∈ m):s.Old x.1:=Z3r h.wf (h.own x hx)
theorem Ctx.oi (h:Ctx s0 W m s) {b:Pos} {x:AObj} (i:Nat) (hi:m[i]? = some (b,x)):s.Old b:=h.ob (List.mem_of_getElem? hi)
theorem Ctx.old (h:Ctx s0 W m s) {b:Pos} (ho:s0.Old b):s.Old b:=Nat.lt_of_lt_of_le ho h.next
theorem Ctx.keeps (h:Ctx s0 W m s) {s':St} (k:Keeps s s'):Ctx s0 W m s' :=
 ⟨k.wf h.wf,fun b hb ho => (k.obj b (h.old ho)).trans (h.obj b hb ho),Nat.le_trans h.next k.next,fun x hx => (k.obj _ (h.ob hx)).trans (h.own x hx),h.nodup,h.free⟩
theorem Ctx.same (h:Ctx s0 W m s) {s':St} {bs:List Pos} (k:Same bs s s') (hb:∀ b ∈ bs,s0.Old b→W b) (hm:∀ x ∈ m,x.1 ∉ bs):Ctx s0 W m s' :=
 ⟨k.wf h.wf,fun b hW ho => (k.obj b (fun hbs => hW (hb b hbs ho)) (h.old ho)).trans (h.obj b hW ho),Nat.le_trans h.next k.next,fun x hx => (k.obj _ (hm x hx) (h.ob hx)).trans (h.own x hx),h.nodup,h.free⟩
theorem Ctx.add (h:Ctx s0 W m s) {b:Pos} {x:AObj} (ho:s.obj b = some x) (hW:s0.Old b→W b) (hn:b ∉ m.map (·.1)):Ctx s0 W ((b,x) :: m) s :=
 ⟨h.wf,h.obj,h.next,by simpa using ⟨ho,fun a b hx => h.own (a,b) hx⟩,by rw [List.map_cons,List.nodup_cons]; exact ⟨hn,h.nodup⟩,by simpa using ⟨hW,fun a b hx => h.free (a,b) hx⟩⟩
theorem Ctx.Zv0 (h:Ctx s0 W m s) {b:Pos} (hb:¬ s.Old b):b ∉ m.map (·.1):=by
 rw [List.mem_map]
 rintro ⟨x,hx,rfl⟩
 exact hb (h.ob hx)
theorem Ctx.made (h:Ctx s0 W m s) {s':St} (k:Keeps s s') {b:Pos} {x:AObj} (hb:¬ s.Old b) (hx:s'.obj b = some x):Ctx s0 W ((b,x) :: m) s' :=
 (h.keeps k).add hx (fun ho => (hb (h.old ho)).elim) (h.Zv0 hb)
theorem Ctx.alloc (h:Ctx s0 W m s) (x:AObj):Ctx s0 W ((s.next,x) :: m) (s.alloc x):=h.made (Keeps.alloc s x) (Z09 s) (Z4u _ _)
theorem Ctx.ne (h:Ctx s0 W m s) {b b':Pos} {x x':AObj} (i j:Nat) (hi:m[i]? = some (b,x)) (hj:m[j]? = some (b',x')) (hij:i ≠ j):b ≠ b':=by
 rintro rfl
 have hn:=h.nodup
 have h1:(m.map (·.1))[i]? = some b:=by rw [List.getElem?_map,hi]; rfl
 have h2:(m.map (·.1))[j]? = some b:=by rw [List.getElem?_map,hj]; rfl
 obtain ⟨h3,h4⟩:=List.getElem?_eq_some_iff.1 h1
 obtain ⟨h5,h6⟩:=List.getElem?_eq_some_iff.1 h2
 exact hij ((List.getElem_inj hn).1 (h4.trans h6.symm))
theorem Ctx.perm (h:Ctx s0 W m s) {m':Lets} (p:m.Perm m'):Ctx s0 W m' s :=
 ⟨h.wf,h.obj,h.next,fun x hx => h.own x (p.mem_iff.2 hx),(p.map _).nodup_iff.1 h.nodup,fun x hx => h.free x (p.mem_iff.2 hx)⟩
theorem Ctx.sub (h:Ctx s0 W m s) {m':Lets} (hs:m'.Sublist m):Ctx s0 W m' s :=
 ⟨h.wf,h.obj,h.next,fun x hx => h.own x (hs.subset hx),List.Pairwise.sublist (hs.map _) h.nodup,fun x hx => h.free x (hs.subset hx)⟩
theorem Ctx.tail {b:Pos} {x:AObj} (h:Ctx s0 W ((b,x) :: m) s):Ctx s0 W m s:=h.sub (List.sublist_cons_self _ _)
theorem Ctx.put0 {b:Pos} {x:AObj} (h:Ctx s0 W ((b,x) :: m) s) (y:AObj):Ctx s0 W ((b,y) :: m) (s.put b y):=by
 have hn:=h.nodup
 rw [List.map_cons,List.nodup_cons] at hn
 have hfr:=h.free (b,x) (by simp)
 have ho:=h.ob (x:=(b,x)) (by simp)
 refine ⟨Zgg _ h.wf ho,?_,h.next,?_,by rw [List.map_cons,List.nodup_cons]; exact hn,?_⟩
 ·intro c hc hco
  have hne:c ≠ b:=fun e => hc (e ▸ hfr (e ▸ hco))
  rw [Z43 hne]
  exact h.obj c hc hco
 ·intro z hz
  rcases List.mem_cons.1 hz with rfl | hz
  ·exact Zgv _ _ _
  ·have hne:z.1 ≠ b:=fun e => hn.1 (List.mem_map.2 ⟨z,hz,e⟩)
   rw [Z43 hne]
   exact h.own z (List.mem_cons_of_mem _ hz)
 ·intro z hz
  rcases List.mem_cons.1 hz with rfl | hz
  ·exact hfr
  ·exact h.free z (List.mem_cons_of_mem _ hz)
theorem Z8f:∀ (m:Lets) (i:Nat) (x:Pos × AObj),m[i]? = some x→m.Perm (x :: m.eraseIdx i)
 | [],i,x,h => by simp at h
 | y :: m,0,x,h => by simp at h; subst h; simp
 | y :: m,i + 1,x,h => by
  have:=Z8f m i x (by simpa using h)
  exact (List.Perm.cons y this).trans (List.Perm.swap _ _ _)
theorem set_perm:∀ (m:Lets) (i:Nat) (x y:Pos × AObj),m[i]? = some x→(y :: m.eraseIdx i).Perm (m.set i y)
 | [],i,x,y,h => by simp at h
 | z :: m,0,x,y,h => by simp
 | z :: m,i + 1,x,y,h => by
  have:=set_perm m i x y (by simpa using h)
  exact (List.Perm.swap _ _ _).trans (List.Perm.cons z this)
theorem Ctx.put (h:Ctx s0 W m s) {b:Pos} {x:AObj} (i:Nat) (hi:m[i]? = some (b,x)) (y:AObj):Ctx s0 W (m.set i (b,y)) (s.put b y) :=
 ((h.perm (Z8f m i _ hi)).put0 y).perm (set_perm m i _ _ hi)
theorem Ctx.Zfb (h:Ctx s0 W m s) {b:Pos} (hb:¬ W b) (ho:s0.Old b):s.cells b = s0.cells b:=by unfold St.cells; rw [h.obj b hb ho]
theorem Ctx.Z0h (h:Ctx s0 (fun _ => False) m s):Keeps s0 s:=⟨fun b ho => h.obj b (fun h => h) ho,h.next,fun _ => h.wf⟩
theorem Ctx.on (h:Ctx s0 W (m ++ r) s) {m':Lets} {s':St} (h':Ctx s (fun b => b ∈ m.map (·.1)) m' s'):Ctx s0 W (m' ++ r) s':=by
 have hn:=h.nodup
 rw [List.map_append,List.nodup_append] at hn
 have hr:∀ x ∈ r,x.1 ∉ m.map (·.1):=fun x hx hm => hn.2.2 _ hm _ (List.mem_map.2 ⟨x,hx,rfl⟩) rfl
 have hro:∀ x ∈ r,s.Old x.1:=fun x hx => h.ob (List.mem_append_right _ hx)
 have hWm:∀ b,b ∈ m.map (·.1)→s0.Old b→W b:=by
  intro b hb ho
  obtain ⟨x,hx,rfl⟩:=List.mem_map.1 hb
  exact h.free x (List.mem_append_left _ hx) ho
 refine ⟨h'.wf,?_,Nat.le_trans h.next h'.next,?_,?_,?_⟩
 ·intro b hb ho
  rw [h'.obj b (fun hm => hb (hWm b hm ho)) (h.old ho)]
  exact h.obj b hb ho
 ·intro x hx
  rcases List.mem_append.1 hx with hx | hx
  ·exact h'.own x hx
  ·rw [h'.obj _ (hr x hx) (hro x hx)]
   exact h.own x (List.mem_append_right _ hx)
 ·rw [List.map_append,List.nodup_append]
  refine ⟨h'.nodup,hn.2.1,?_⟩
  intro a ha b hb e
  subst e
  obtain ⟨x,hx,rfl⟩:=List.mem_map.1 ha
  obtain ⟨y,hy,e⟩:=List.mem_map.1 hb
  have:=h'.free x hx (e ▸ hro y hy)
  exact hr y hy (e ▸ this)
 ·intro x hx ho
  rcases List.mem_append.1 hx with hx | hx
  ·exact hWm _ (h'.free x hx (h.old ho)) ho
  ·exact h.free x (List.mem_append_right _ hx) ho
end
structure CV where
 taken:Bool
 name:List UInt8
 kids:List Int
 held:Int
abbrev ints (ks:List Int):List AVal:=ks.map fun k => .int .i64 k
def RowR (kv:AVal) (ks:List Int) (m:Lets):Prop:=(ks = []∧Z1q kv = some 0∧m = []) ∨ ∃ q c,ks ≠ []∧kv = .slice q 0 ks.length c∧m = [(q,C (ints ks))]
def Z12:List (List Int)→List AVal→Lets→Prop
 | [],[],m => m = []
 | ks :: K,kv :: V,m => ∃ m1 m2,m.Perm (m1 ++ m2)∧RowR kv ks m1∧Z12 K V m2
 | _,_,_ => False
theorem Z12.len:∀ {K:List (List Int)} {V:List AVal} {m:Lets},Z12 K V m→V.length = K.length
 | [],[],m,h => rfl
 | ks :: K,kv :: V,m,⟨m1,m2,h1,h2,h3⟩ => by simp [h3.len]
 | [],_ :: _,_,h => h.elim
 | _ :: _,[],_,h => h.elim
theorem Z12.at:∀ {K:List (List Int)} {V:List AVal} {m:Lets} {i:Nat} {ks:List Int},Z12 K V m→K[i]? = some ks →
  ∃ kv m1 m2,V[i]? = some kv∧RowR kv ks m1∧m.Perm (m1 ++ m2)∧∀ ks' kv' m1',RowR kv' ks' m1'→Z12 (K.set i ks') (V.set i kv') (m1' ++ m2)
 | ks :: K,kv :: V,m,0,ks0,⟨m1,m2,h1,h2,h3⟩,h => by
  simp at h
  subst h
  exact ⟨kv,m1,m2,rfl,h2,h1,fun ks' kv' m1' h' => ⟨m1',m2,List.Perm.refl _,h',h3⟩⟩
 | ks :: K,kv :: V,m,i + 1,ks0,⟨m1,m2,h1,h2,h3⟩,h => by
  obtain ⟨kv0,n1,n2,g1,g2,g3,g4⟩:=Z12.at h3 (i:=i) (by simpa using h)
  refine ⟨kv0,n1,m1 ++ n2,by simpa using g1,g2,h1.trans ?_,fun ks' kv' m1' h' => ⟨m1,m1' ++ n2,?_,h2,g4 ks' kv' m1' h'⟩⟩
  ·refine ((List.Perm.refl m1).append g3).trans ?_
   rw [← List.append_assoc,← List.append_assoc]
   exact List.perm_append_comm.append (List.Perm.refl _)
  ·rw [← List.append_assoc,← List.append_assoc]
   exact List.perm_append_comm.append (List.Perm.refl _)
 | [],_,_,_,_,_,h => by simp at h
 | _ :: _,[],_,_,_,h,_ => h.elim
theorem Z12.each {K:List (List Int)} {V:List AVal} {m:Lets} {i:Nat} {ks:List Int} (h:Z12 K V m) (hi:K[i]? = some ks):∃ kv,V[i]? = some kv∧((ks = []∧Z1q kv = some 0) ∨ ∃ q c,ks ≠ []∧kv = .slice q 0 ks.length c∧(q,C (ints ks)) ∈ m):=by
 obtain ⟨kv,m1,m2,g1,g2,g3,_⟩:=h.at hi
 refine ⟨kv,g1,?_⟩
 rcases g2 with ⟨e1,e2,_⟩ | ⟨q,c,e1,e2,rfl⟩
 ·exact .inl ⟨e1,e2⟩
 ·exact .inr ⟨q,c,e1,e2,g3.mem_iff.2 (by simp)⟩
theorem Zl1 {s:St}:∀ (K:List (List Int)) (V:List AVal),V.length = K.length→(∀ (i:Nat) (ks:List Int) (kv:AVal),K[i]? = some ks→V[i]? = some kv→KidV s kv ks) →
  (∀ (i j:Nat) (ks ks':List Int) (q:Pos) (c c':Cap),K[i]? = some ks→K[j]? = some ks'→ks ≠ []→ks' ≠ []→V[i]? = some (AVal.slice q 0 ks.length c)→V[j]? = some (AVal.slice q 0 ks'.length c')→i = j) →
  ∃ m,Z12 K V m∧(∀ x ∈ m,s.obj x.1 = some x.2)∧(m.map (·.1)).Nodup∧∀ x ∈ m,∃ (i:Nat) (ks:List Int) (c:Cap),K[i]? = some ks∧ks ≠ []∧V[i]? = some (.slice x.1 0 ks.length c)
 | [],[],_,_,_ => ⟨[],rfl,by simp,by simp,by simp⟩
 | ks :: K,kv :: V,hl,hk,hs => by
  obtain ⟨m,h1,h2,h3,h4⟩:=Zl1 K V (by simpa using hl) (fun i ks kv a b => hk (i + 1) ks kv (by simpa using a) (by simpa using b)) (fun i j ks ks' q c c' a b d e f g => by
   have:=hs (i + 1) (j + 1) ks ks' q c c' (by simpa using a) (by simpa using b) d e (by simpa using f) (by simpa using g)
   omega)
  by_cases h0:ks = []
  ·subst h0
   rcases hk 0 [] kv rfl rfl with ⟨e,_⟩ | ⟨q,c,e,_⟩
   ·exact ⟨m,⟨[],m,List.Perm.refl _,.inl ⟨rfl,e,rfl⟩,h1⟩,h2,h3,fun x hx => by
     obtain ⟨i,ks,c,e1,e2,e3⟩:=h4 x hx
     exact ⟨i + 1,ks,c,by simpa using e1,e2,by simpa using e3⟩⟩
   ·exact ⟨m,⟨[],m,List.Perm.refl _,.inl ⟨rfl,by rw [e]; rfl,rfl⟩,h1⟩,h2,h3,fun x hx => by
     obtain ⟨i,ks,c,e1,e2,e3⟩:=h4 x hx
     exact ⟨i + 1,ks,c,by simpa using e1,e2,by simpa using e3⟩⟩
  ·rcases hk 0 ks kv rfl rfl with ⟨_,e⟩ | ⟨q,c,e,hq⟩
   ·exact (h0 e).elim
   ·refine ⟨(q,C (ints ks)) :: m,⟨[(q,C (ints ks))],m,List.Perm.refl _,.inr ⟨q,c,h0,e,rfl⟩,h1⟩,?_,?_,?_⟩
    ·intro x hx
     rcases List.mem_cons.1 hx with rfl | hx
     ·exact St.Z2e hq
     ·exact h2 x hx
    ·rw [List.map_cons,List.nodup_cons]
     refine ⟨fun hm => ?_,h3⟩
     obtain ⟨x,hx,e2⟩:=List.mem_map.1 hm
     obtain ⟨i,ks',c',e3,e4,e5⟩:=h4 x hx
     have e2:x.1 = q:=e2
     rw [e2] at e5
     have:=hs 0 (i + 1) ks ks' q c c' rfl (by simpa using e3) h0 e4 (by rw [e]; rfl) (by simpa using e5)
     omega
    ·intro x hx
     rcases List.mem_cons.1 hx with rfl | hx
     ·exact ⟨0,ks,c,rfl,h0,by rw [e]; rfl⟩
     ·obtain ⟨i,ks,c,e1,e2,e3⟩:=h4 x hx
      exact ⟨i + 1,ks,c,by simpa using e1,e2,by simpa using e3⟩
 | [],_ :: _,hl,_,_ => by simp at hl
 | _ :: _,[],hl,_,_ => by simp at hl
theorem Ctx.addL {s0 s:St} {W:Pos→Prop} {r:Lets}:∀ {m:Lets},Ctx s0 W r s→(∀ x ∈ m,s.obj x.1 = some x.2)→(m.map (·.1)).Nodup→(∀ x ∈ m,s0.Old x.1→W x.1)→(∀ x ∈ m,x.1 ∉ r.map (·.1))→Ctx s0 W (m ++ r) s
 | [],h,_,_,_,_ => h
 | x :: m,h,h1,h2,h3,h4 => by
  rw [List.map_cons,List.nodup_cons] at h2
  have ih:=Ctx.addL (m:=m) h (fun y hy => h1 y (List.mem_cons_of_mem _ hy)) h2.2 (fun y hy => h3 y (List.mem_cons_of_mem _ hy)) (fun y hy => h4 y (List.mem_cons_of_mem _ hy))
  refine ih.add (b:=x.1) (x:=x.2) (h1 x (by simp)) (h3 x (by simp)) ?_
  rw [List.map_append,List.mem_append]
  rintro (h | h)
  ·exact h2.1 h
  ·exact h4 x (by simp) h
def rcs (cs:List CV) (V:List AVal):List RC:=List.zipWith (fun d kv => ⟨d.taken,d.name,kv,d.held⟩) cs V
theorem Z2c {cs:List CV} {V:List AVal} (h:V.length = cs.length):(rcs cs V).length = cs.length:=by simp [rcs,h]
theorem Z26 {cs:List CV} {V:List AVal} {i:Nat} {d:CV} {kv:AVal} (h1:cs[i]? = some d) (h2:V[i]? = some kv):(rcs cs V)[i]? = some ⟨d.taken,d.name,kv,d.held⟩:=by
 simp [rcs,List.getElem?_zipWith,h1,h2]
theorem Z8x:∀ {cs:List CV} {V:List AVal} {i:Nat} {d:CV} {kv:AVal},(rcs cs V).set i ⟨d.taken,d.name,kv,d.held⟩ = rcs (cs.set i d) (V.set i kv)
 | [],V,i,d,kv => by simp [rcs]
 | c :: cs,[],i,d,kv => by simp [rcs]
 | c :: cs,v :: V,0,d,kv => by simp [rcs]
 | c :: cs,v :: V,i + 1,d,kv => by
  have:=Z8x (cs:=cs) (V:=V) (i:=i) (d:=d) (kv:=kv)
  simp [rcs] at this ⊢
  exact this
def Z11 (cs:List CV) (j:Nat):List Int:=match cs[j]? with
 | some d => d.kids
 | none => []
def Z2t (hb:Pos) (vs:AVal) (cs:List CV) (m:Lets):Prop :=
 ∃ p V mr,m.Perm ((hb,C [.slice p 0 cs.length (.lim cs.length),vs]) :: (p,C (encs (rcs cs V))) :: mr)∧Z12 (cs.map CV.kids) V mr∧1 ≤ cs.length∧cs.length ≤ 400
def Z06 (cs:List CV) (i:Int):Bool:=decide (0 ≤ i) && match cs[i.toNat]? with
 | some c => c.taken
 | none => false
theorem Zay {cs:List CV} {V:List AVal} (h:V.length = cs.length) (i:Int):Z34 (rcs cs V) i = Z06 cs i:=by
 unfold Z34 Z06
 by_cases hi:i.toNat < cs.length
 ·have h1:cs[i.toNat]? = some cs[i.toNat]:=List.getElem?_eq_getElem hi
  have h2:V[i.toNat]? = some (V[i.toNat]'(by omega)):=List.getElem?_eq_getElem (by omega)
  rw [Z26 h1 h2,h1]
 ·rw [List.getElem?_eq_none (by rw [Z2c h]; omega),List.getElem?_eq_none (by omega)]
def Z5k (cs:List CV):Int:=match cs.findIdx? (fun c => !c.taken) with
 | some i => i
 | none => -1
theorem Zni:∀ {cs:List CV} {V:List AVal},V.length = cs.length→Z8d (rcs cs V) = Z5k cs:=by
 intro cs V h
 unfold Z8d Z5k
 have:(rcs cs V).findIdx? (fun c => !c.taken) = cs.findIdx? (fun c => !c.taken):=by
  induction cs generalizing V with
  | nil => simp [rcs]
  | cons c cs ih =>
   cases V with
   | nil => simp at h
   | cons v V =>
    have:=ih (V:=V) (by simpa using h)
    simp [rcs,List.findIdx?_cons] at this ⊢
    rw [this]
 rw [this]
 rfl
end Go.Proofs
end
