/- Parts of the proof: Open3, CodesH, CodesA, Nod, Chk1, Chk2, Chk3, Ring3, Brd1, Brd2, Brd3, Hm1, Get1, Get2, Get3, Abr. -/
import Derived.Test.YtoipnedbpjfeiaaDoorChecked
import Derived.Test.YtoipnedbpjfeiaaDoorTie
import Derived.ProofKit
import Derived.Test.YtoipnedbpjfeiaaDoorAu05
set_option linter.all false
set_option linter.unusedSectionVars false
set_option linter.unusedSimpArgs false
set_option linter.unusedVariables false
section
open Go Go.AM
namespace Go.Proofs
set_option maxRecDepth 100000
theorem c5:Tryd.prog.cellsOf 5 = 1:=by kernel_rfl
theorem Zuq {P:Program} {t e:TypeId} {w:World} {r:Reach} {base:Nat} {v:Value} (ht:P.underlying t = some (.slice e)) (h:Value.okWide P w r base t v):v.cells.toList = [v]:=by
 simp only [Value.okWide,ht,Cell.okWide] at h
 cases v <;> first | rfl | simp_all [Cell.ok]
section
variable {H:Type} {enc:TypeId × Value→H} {W:World} {N fuel:Nat} {cs:List Value} {x:DataW H × List MemPlace}
theorem row_of {α:Type} {s:St} {e:TypeId} {v:Value} {a:AVal} {elems:List (DataW H × List MemPlace)} (mk:α→AVal) (hc1:Tryd.prog.cellsOf e = 1) (he:∀ n vs x l,DataW.trod enc Tryd.prog W 0 (fun _ => true) true n e vs = some x→vs.mapM (Z5w W N) = some l→∃ y:α,l = [mk y])
  (h:SliceW Tryd.prog enc W (fun _ => true) true N e v a elems):∃ ys:List α,Zqj (stW W N) a (ys.map mk):=by
 cases h with
 | nil => exact ⟨[],.inl ⟨rfl,rfl⟩⟩
 | empty => exact ⟨[],.inl ⟨rfl,rfl⟩⟩
 | @row b o len cap n _ cells hb ho hcells hlen hc0 hcap hmax hcs hel =>
  rw [hc1] at hcs
  have hone:∀ i,i < len→∃ y:α,cells[i]? = some (mk y):=by
   intro i hi
   obtain ⟨vs,x,l,h1,_,h3,h4⟩:=hel i hi
   obtain ⟨y,rfl⟩:=he n vs x l h1 h3
   rw [hc1,Nat.mul_one] at h4
   refine ⟨y,?_⟩
   have:=congrArg (fun l => l[0]?) h4
   simpa using this
  obtain ⟨ys,hys,hl⟩:∃ ys:List α,(∀ (i:Nat) (y:α),ys[i]? = some y→cells[i]? = some (mk y))∧ys.length = len:=by
   have key:∀ k,k ≤ len→∃ ys:List α,(∀ (i:Nat) (y:α),ys[i]? = some y→cells[i]? = some (mk y))∧ys.length = k:=by
    intro k
    induction k with
    | zero => exact fun _ => ⟨[],by simp,rfl⟩
    | succ k ih =>
     intro hk
     obtain ⟨ys,h1,h2⟩:=ih (by omega)
     obtain ⟨y,hy⟩:=hone k (by omega)
     refine ⟨ys ++ [y],fun i z hz => ?_,by simp [h2]⟩
     rw [List.getElem?_append] at hz
     split at hz
     ·exact h1 i z hz
     ·rename_i hi
      have:i = k:=by
       have:=(List.getElem?_eq_some_iff.1 hz).1
       simp at this
       omega
      subst this
      simp [h2] at hz
      subst hz
      exact hy
   exact key len (Nat.le_refl _)
  refine ⟨ys,.inr ⟨nameOf N b o,0,.lim cap,cells,by simp [hl],?_,hcells,by simp [hl]; omega,fun i z hz => ?_⟩⟩
  ·unfold St.cells at hcells
   cases hob:(stW W N).obj (nameOf N b o) with
   | none => rw [hob] at hcells; cases hcells
   | some y => exact Z3k (Zus (w:=W) (N:=N)) hob
  ·rw [List.getElem?_map] at hz
   cases hy:ys[i]? with
   | none => rw [hy] at hz; cases hz
   | some y =>
    rw [hy] at hz
    cases hz
    rw [Nat.zero_add]
    exact hys i y hy
theorem Zrv (hN:Big W N) (h:DataW.trod enc Tryd.prog W 0 (fun _ => true) true fuel 35 cs = some x):∃ v a,∃ bs:List UInt8,cs = [v]∧Z5w W N v = some a∧Zqj (stW W N) a (bs.map fun b => .int .u8 (b.toNat:Int)):=by
 obtain ⟨v,a,elems,rfl,hs⟩:=Zpk hN Tryd.underlying35 (by rw [c5]; decide) (fun n vs x h => by
  obtain ⟨k,rfl,_,_⟩:=DataW.trod_int Tryd.underlying5 h
  exact ⟨[.int .u8 k],rfl⟩) h
 obtain ⟨bs,hb⟩:=row_of (s:=stW W N) (fun b:UInt8 => AVal.int .u8 (b.toNat:Int)) c5 (fun n vs x l h1 h2 => by
  obtain ⟨k,rfl,_,hk⟩:=DataW.trod_int Tryd.underlying5 h1
  have hk:0 ≤ k∧k ≤ 255:=by
   rw [Lit.wf,Bool.and_eq_true,decide_eq_true_eq,decide_eq_true_eq] at hk
   exact hk
  refine ⟨UInt8.ofNat k.toNat,?_⟩
  have e:((UInt8.ofNat k.toNat).toNat:Int) = k:=by
   rw [UInt8.toNat_ofNat_of_lt' (by show k.toNat < 256; omega)]
   omega
  rw [e]
  simp [List.mapM_cons,Z5w] at h2
  exact h2.symm) hs
 exact ⟨v,a,bs,rfl,hs.conv,hb⟩
end
end Go.Proofs
end
section
open Go Go.AM
namespace Go.Proofs
def c62_1:MCode:=.region [Cr (.box (Cp 0)),Cr (.box (Cp 1)),Yo .nilSlice] [Cs 4,Cs 3,Cs 2]
def c62_3:MCode:=.region [Yr 1 (Cp 2),Ym 50 [(Yq 0)],C0,Yg 0 0,Yg 1 1,Yn 1,Yn 1] [Cs 6,Cs 5,none,none,none,none,none]
def c62_5:MCode:=.region [Cm 5,Yl (Yq 0),C0] [Cs 7,none,none]
def c62_8:MCode:=.region [Yd 0 3,Ya 0,Yl (Yq 0),Yp 0] [Cs 26,Cs 25,Cs 24,none]
def c62_12:MCode:=.region [Yh .lss (Cp 26) (Cp 25)] [Cs 27]
def c62_14:MCode:=.cond (Cp 27) .skip (.exit 0)
def c62_18:MCode:=.region [Cm 26,Ye 2 40 (Cp 24) (Cp 26),Yr 2 (Yq 0),Cr (.alloc (some [(.str []),.nilSlice])),Yn 3,Yk 2 (Yq 1) (Yq 2)] [none,Cs 8,Cs 9,none,none,none]
def c62_20:MCode:=.region [Yd 0 9,Ya 0,Cr (.build (some [(0,(1,(Yq 0)))]) (some [(.str []),.nilSlice])),Cr (.alloc (some [(.str []),.nilSlice])),Yk 2 (Yq 0) (Yq 1)] [none,Cs 10,none,none,none]
def c62_23:MCode:=.region [Yd 1 9,Ya 0,Yl (Yq 0),Yp 0] [Cs 37,Cs 36,Cs 35,none]
def c62_27:MCode:=.region [Yh .lss (Cp 37) (Cp 36)] [Cs 38]
def c62_29:MCode:=.cond (Cp 38) .skip (.exit 2)
def c62_33:MCode:=.region [Ye 1 8 (Cp 35) (Cp 37),Ya 0,C0] [Cs 12,none,none]
def c62_34:MCode:=.region [Yd 1 10,Ya 0,Cm 7,Cm 12,Yh .add (Yq 1) (Yq 0),Cr (.buildSlice (some (1,8)) (some [(.int .i64 0)]) 1 [(0,(Yq 0))]),Cr (.append (some (1,8)) (Yq 4) (Yq 0)),Yd 1 10,Yk 1 (Yq 0) (Yq 1)] [none,none,none,none,none,none,none,none,none]
def c62_32:MCode:=.seq c62_33 c62_34
def c62_31:MCode:=.block 3 c62_32
def c62_35:MCode:=.region [Yh .add (Cp 37) (Ck 1),C0] [Cs 37,none]
def c62_30:MCode:=.seq c62_31 c62_35
def c62_28:MCode:=.seq c62_29 c62_30
def c62_26:MCode:=.seq c62_27 c62_28
def c62_25:MCode:=.loop c62_26
def c62_24:MCode:=.block 2 c62_25
def Zt1:MCode:=.seq c62_23 c62_24
def c62_36:MCode:=.region [Cm 5,Yr 2 (Cp 10),Cr (.buildSlice (some (2,40)) (some [(.str []),.nilSlice]) 1 [(0,(Yq 0))]),Cr (.append (some (2,40)) (Yq 2) (Yq 0)),Cm 6,Cm 7,Cm 8,Yh .add (Yq 1) (Yq 0),Cr (.buildSlice (some (1,8)) (some [(.int .i64 0)]) 1 [(0,(Yq 0))]),Cr (.append (some (1,8)) (Yq 4) (Yq 0)),Yn 6,Yn 1] [Cs 6,Cs 5,none,none,none,none,none,none,none,none,none,none]
def c62_21:MCode:=.seq Zt1 c62_36
def c62_19:MCode:=.seq c62_20 c62_21
def c62_17:MCode:=.seq c62_18 c62_19
def c62_16:MCode:=.block 1 c62_17
def c62_37:MCode:=.region [Yh .add (Cp 26) (Ck 1),C0] [Cs 26,none]
def c62_15:MCode:=.seq c62_16 c62_37
def c62_13:MCode:=.seq c62_14 c62_15
def c62_11:MCode:=.seq c62_12 c62_13
def c62_10:MCode:=.loop c62_11
def c62_9:MCode:=.block 0 c62_10
def c62_7:MCode:=.seq c62_8 c62_9
def c62_39:MCode:=.region [Cm 5,Cm 6,Ym 49 [(Yq 1),(Yq 0)],C0] [Cs 13,none,none,none]
def c62_41:MCode:=.region [Yd 0 3,Ya 0,Yl (Yq 0),Cr (.makeSlice (some (1,8)) (some [(.int .i64 0)]) (Yq 0) (Yq 0)),C0] [Cs 14,none,none,none,none]
def c62_44:MCode:=.region [Cm 14,Yl (Yq 0),Yp 0] [Cs 70,Cs 69,none]
def c62_48:MCode:=.region [Yh .lss (Cp 70) (Cp 69)] [Cs 71]
def c62_50:MCode:=.cond (Cp 71) .skip (.exit 4)
def c62_54:MCode:=.region [Cm 70,C0] [Cs 15,none]
def c62_55:MCode:=.region [Cm 14,Cm 15,Cm 13,Cm 7,Cr (.slice .slc (some (1,8)) none (Yq 1) none (some (Yq 0)) none),Cm 13,Cm 7,Cm 15,Yh .add (Yq 1) (Yq 0),Ye 1 8 (Yq 3) (Yq 0),Ya 0,Ym 53 [(Yq 6),(Yq 0)],Ye 1 8 (Yq 11) (Yq 10),Yk 1 (Yq 0) (Yq 1)] [none,Cs 85,Cs 84,Cs 83,Cs 82,Cs 81,Cs 80,Cs 79,Cs 78,Cs 77,Cs 76,Cs 75,Cs 74,Cs 73]
def c62_53:MCode:=.seq c62_54 c62_55
def c62_52:MCode:=.block 5 c62_53
def c62_56:MCode:=.region [Yh .add (Cp 70) (Ck 1),C0] [Cs 70,none]
def c62_51:MCode:=.seq c62_52 c62_56
def c62_49:MCode:=.seq c62_50 c62_51
def c62_47:MCode:=.seq c62_48 c62_49
def c62_46:MCode:=.loop c62_47
def c62_45:MCode:=.block 4 c62_46
def c62_43:MCode:=.seq c62_44 c62_45
def c62_58:MCode:=.region [Cm 14,C0] [Cs 4,none]
def c62_57:MCode:=.seq c62_58 .ret
def c62_42:MCode:=.seq c62_43 c62_57
def c62_40:MCode:=.seq c62_41 c62_42
def c62_38:MCode:=.seq c62_39 c62_40
def c62_6:MCode:=.seq c62_7 c62_38
def c62_4:MCode:=.seq c62_5 c62_6
def c62_2:MCode:=.seq c62_3 c62_4
def c62_0:MCode:=.seq c62_1 c62_2
theorem fi62:funInfo Tryd.prog 62 = some { code:=c62_0,ntmps:=88,nargs:=2,ps:=[76,75,13,15,80,79,81,78,82,83,77,74,73,84,85,71,69,70,14,8,6,12,7,10,35,38,36,37,9,24,27,25,26,3,5,2,1,0,4],res:=[.tmp 4] }:=by kernel_rfl
def c66_1:MCode:=.region [Cr (.box (Cp 0)),Cr (.box (Cp 1))] [Cs 4,Cs 3]
def c66_3:MCode:=.region [Yd 0 3,Ya 0,Yl (Yq 0),Cr (.makeSlice (some (1,1)) (some [(.bool false)]) (Yq 0) (Yq 0)),Cr (.alloc (some [.nilSlice])),Yk 1 (Yq 0) (Yq 1)] [none,Cs 6,none,none,none,none]
def c66_5:MCode:=.region [Cr (.alloc (some [.nilSlice]))] [Cs 7]
def c66_7:MCode:=.region [Cr (.func (some 97) [] [(Cp 6),(Cp 7),(Cp 4)]),C0] [Cs 8,none]
def c66_9:MCode:=.region [Cm 2,Yl (Yq 0),Yp 0] [Cs 20,Cs 19,Cs 18]
def c66_13:MCode:=.region [Yh .lss (Cp 20) (Cp 19)] [Cs 21]
def c66_15:MCode:=.cond (Cp 21) .skip (.exit 0)
def c66_19:MCode:=.region [Ye 1 8 (Cp 18) (Cp 20),Ya 0,C0] [Cs 10,none,none]
def c66_21:MCode:=.region [Cm 8,Cm 10,Cr (.call (Yq 1) [(Yq 0)])] [none,none,none]
def c66_26:MCode:=.region [Yb 7,Yl (Yq 0),Yh .gtr (Yq 0) (Ck 0)] [Cs 29,none,none]
def c66_27:MCode:=.cond (Cp 29) .skip (.exit 2)
def c66_25:MCode:=.seq c66_26 c66_27
def c66_31:MCode:=.region [Yd 0 3,Ya 0,Yb 7,Ye 1 8 (Yq 0) (Ck 0),Ya 0,Ye 4 56 (Yq 3) (Yq 0),Yc 2 0,Ya 0,Yl (Yq 0),Yp 0] [Cs 41,Cs 40,Cs 39,Cs 38,Cs 37,Cs 36,Cs 35,Cs 34,Cs 33,Cs 32]
def c66_35:MCode:=.region [Yh .lss (Cp 41) (Cp 40)] [Cs 42]
def c66_37:MCode:=.cond (Cp 42) .skip (.exit 4)
def c66_41:MCode:=.region [Ye 1 8 (Cp 39) (Cp 41),Ya 0,C0] [Cs 12,none,none]
def c66_42:MCode:=.region [Cm 8,Cm 12,Cr (.call (Yq 1) [(Yq 0)])] [none,none,none]
def c66_40:MCode:=.seq c66_41 c66_42
def c66_39:MCode:=.block 5 c66_40
def c66_43:MCode:=.region [Yh .add (Cp 41) (Ck 1),C0] [Cs 41,none]
def c66_38:MCode:=.seq c66_39 c66_43
def c66_36:MCode:=.seq c66_37 c66_38
def c66_34:MCode:=.seq c66_35 c66_36
def c66_33:MCode:=.loop c66_34
def c66_32:MCode:=.block 4 c66_33
def Zt3:MCode:=.seq c66_31 c66_32
def c66_29:MCode:=.block 3 Zt3
def c66_44:MCode:=.region [Yb 7,Cr (.slice .slc (some (1,8)) none (Yq 0) (some (Ck 1)) none none),Yk 1 (Cp 7) (Yq 0)] [none,none,none]
def c66_28:MCode:=.seq c66_29 c66_44
def c66_24:MCode:=.seq c66_25 c66_28
def c66_23:MCode:=.loop c66_24
def Zt2:MCode:=.block 2 c66_23
def c66_20:MCode:=.seq c66_21 Zt2
def c66_18:MCode:=.seq c66_19 c66_20
def c66_17:MCode:=.block 1 c66_18
def c66_45:MCode:=.region [Yh .add (Cp 20) (Ck 1),C0] [Cs 20,none]
def c66_16:MCode:=.seq c66_17 c66_45
def c66_14:MCode:=.seq c66_15 c66_16
def c66_12:MCode:=.seq c66_13 c66_14
def c66_11:MCode:=.loop c66_12
def c66_10:MCode:=.block 0 c66_11
def c66_8:MCode:=.seq c66_9 c66_10
def c66_6:MCode:=.seq c66_7 c66_8
def c66_4:MCode:=.seq c66_5 c66_6
def c66_2:MCode:=.seq c66_3 c66_4
def c66_0:MCode:=.seq c66_1 c66_2
theorem fi66:funInfo Tryd.prog 66 = some { code:=c66_0,ntmps:=50,nargs:=3,ps:=[12,42,40,41,32,34,35,36,33,37,38,39,29,10,8,18,21,19,20,2,4,7,6,3,1,0],res:=[] }:=by kernel_rfl
def c67_0:MCode:=.region [Yb 1,Cm 0,Cr (.buildSlice (some (1,8)) (some [(.int .i64 0)]) 1 [(0,(Yq 0))]),Cr (.append (some (1,8)) (Yq 2) (Yq 0)),Yk 1 (Cp 1) (Yq 0)] [none,none,none,none,none]
theorem fi67:funInfo Tryd.prog 67 = some { code:=c67_0,ntmps:=7,nargs:=2,ps:=[0,1],res:=[] }:=by kernel_rfl
def c74_0:MCode:=.region [Yb 1,Cm 0,Ye 1 1 (Yq 1) (Yq 0),Cr (.store (some 1) (Yq 0) (.cst (.bool true)))] [none,none,none,none]
theorem fi74:funInfo Tryd.prog 74 = some { code:=c74_0,ntmps:=6,nargs:=2,ps:=[0,1],res:=[] }:=by kernel_rfl
def c75_1:MCode:=.region [Cr (.box (Cp 0)),Yo .nilSlice] [Cs 2,Cs 1]
def c75_3:MCode:=.region [Cr (.alloc (some [.nilSlice]))] [Cs 3]
def c75_6:MCode:=.region [Yr 1 (Cp 1),Ym 55 [(Yq 0)]] [Cs 6,none]
def c75_9:MCode:=.region [Cm 7] [Cs 4]
def c75_12:MCode:=.region [Yd 0 1,Ya 0,Cm 4,Ye 4 56 (Yq 1) (Yq 0),Yc 3 0,Ya 0,Yh .gtr (Yq 0) (Ck 0)] [Cs 14,none,none,none,none,none,none]
def c75_14:MCode:=.region [Yb 3,Cm 4,Cr (.buildSlice (some (1,8)) (some [(.int .i64 0)]) 1 [(0,(Yq 0))]),Cr (.append (some (1,8)) (Yq 2) (Yq 0)),Yk 1 (Cp 3) (Yq 0)] [none,none,none,none,none]
def c75_13:MCode:=.cond (Cp 14) c75_14 .skip
def c75_11:MCode:=.seq c75_12 c75_13
def c75_10:MCode:=.block 1 c75_11
def c75_8:MCode:=.range (Cp 6) [7] c75_9 c75_10
def c75_7:MCode:=.block 0 c75_8
def c75_5:MCode:=.seq c75_6 c75_7
def c75_16:MCode:=.region [Yb 3,C0] [Cs 2,none]
def c75_15:MCode:=.seq c75_16 .ret
def c75_4:MCode:=.seq c75_5 c75_15
def c75_2:MCode:=.seq c75_3 c75_4
def c75_0:MCode:=.seq c75_1 c75_2
theorem fi75:funInfo Tryd.prog 75 = some { code:=c75_0,ntmps:=20,nargs:=1,ps:=[3,14,4,7,6,1,0,2],res:=[.tmp 2] }:=by kernel_rfl
def c97_1:MCode:=.region [Yb 1,Cm 0,Ye 1 1 (Yq 1) (Yq 0),Ya 0,Cr (.un .not (Yq 0))] [Cs 9,none,none,none,none]
def c97_4:MCode:=.region [Yb 1,Cm 0,Ye 1 1 (Yq 1) (Yq 0),Cr (.store (some 1) (Yq 0) (.cst (.bool true)))] [none,none,none,none]
def c97_6:MCode:=.region [Yb 2,Cm 0,Cr (.buildSlice (some (1,8)) (some [(.int .i64 0)]) 1 [(0,(Yq 0))]),Cr (.append (some (1,8)) (Yq 2) (Yq 0)),Yk 1 (Cp 2) (Yq 0)] [none,none,none,none,none]
def c97_7:MCode:=.region [Yb 3,Cm 0,Cr (.call (Yq 1) [(Yq 0)])] [none,none,none]
def c97_5:MCode:=.seq c97_6 c97_7
def c97_3:MCode:=.seq c97_4 c97_5
def c97_2:MCode:=.cond (Cp 9) c97_3 .skip
def c97_0:MCode:=.seq c97_1 c97_2
theorem fi97:funInfo Tryd.prog 97 = some { code:=c97_0,ntmps:=20,nargs:=4,ps:=[3,2,9,0,1],res:=[] }:=by kernel_rfl
end Go.Proofs
end
section
open Go Go.AM
namespace Go.Proofs
def c23_1:MCode:=.region [Cr (.box (Cp 0)),Cr (.alloc (some [.nilSlice,(.int .i64 0)])),Yp 0] [Cs 3,Cs 2,Cs 1]
def c23_4:MCode:=.region [Yr 2 (Cp 1),Cr (.buildSlice (some (2,32)) (some [.nilSlice,(.int .i64 0)]) 1 [(0,(Yq 0))]),Ym 68 [(Yq 0)],C0] [Cs 4,none,none,none]
def c23_6:MCode:=.region [Cm 4,Yh .neq (Yq 0) (Ck 0)] [Cs 12,none]
def c23_9:MCode:=.region [Cr (.build (some []) (some [.nilSlice,(.int .i64 0)])),Cm 4,Yk 2 (Cp 2) (Yq 1),Yn 1] [Cs 3,none,none,none]
def c23_8:MCode:=.seq c23_9 .ret
def c23_7:MCode:=.cond (Cp 12) c23_8 .skip
def c23_5:MCode:=.seq c23_6 c23_7
def c23_3:MCode:=.seq c23_4 c23_5
def c23_11:MCode:=.region [Yd 0 1,Ya 0,Yd 1 1,Ya 0,Cr (.buildSlice (some (1,8)) (some [(.int .i64 0)]) 1 [(0,(Yq 0))]),Ym 69 [(Yq 3),(Yq 0)],C0] [Cs 5,none,none,none,none,none,none]
def c23_13:MCode:=.region [Yd 0 1,Ya 0,Cm 5,Ym 70 [(Yq 1),(Yq 0)],C0,Yg 0 0,Yg 1 1,Yn 1,Yn 1] [Cs 7,Cs 6,none,none,none,none,none,none,none]
def c23_15:MCode:=.region [Yd 0 1,Ya 0,Cm 5,Cm 6,Cm 7,Ym 71 [(Yq 3),(Yq 2),(Yq 1),(Yq 0)],Yk 2 (Cp 2) (Yq 0),Yp 0] [Cs 3,none,none,none,none,none,none,none]
def c23_14:MCode:=.seq c23_15 .ret
def c23_12:MCode:=.seq c23_13 c23_14
def c23_10:MCode:=.seq c23_11 c23_12
def c23_2:MCode:=.seq c23_3 c23_10
def c23_0:MCode:=.seq c23_1 c23_2
theorem fi23:funInfo Tryd.prog 23 = some { code:=c23_0,ntmps:=34,nargs:=1,ps:=[7,6,5,12,4,1,0,2,3],res:=[.cell 2 42,.tmp 3] }:=by kernel_rfl
def c63_1:MCode:=.region [Cr (.box (Cp 0)),Yp 0] [Cs 2,Cs 1]
def c63_3:MCode:=.region [Cr (.func (some 89) [] [(Cp 1)]),Cr (.alloc (some [.nilFn])),Yk 1 (Yq 0) (Yq 1)] [none,Cs 3,none]
def c63_7:MCode:=.region [Yd 0 1,Ya 0,Yl (Yq 0),Yh .lss (Yq 0) (Ck 1),C0,Yi 0 (.fieldAddr (some 0) (Cp 1)),Yi 1 (.load (some none) (Yq 0)),Yi 2 (.len (some (.slc,0)) (Yq 0)),Yi 3 (.bin .gtr .other none (Yq 0) (Ck 60)),Cr (.pick (Yq 4) (.cst (.bool true)) (Yq 0)),C0,Yi 0 (.fieldAddr (some 0) (Cp 1)),Yi 1 (.load (some none) (Yq 0)),Yi 2 (.call (.cst (.fn 90 [] [])) [(Yq 0),(.cst (.fn 91 [] []))]),Yi 3 (.un .not (Yq 0)),Cr (.pick (Yq 4) (.cst (.bool true)) (Yq 0)),C0] [Cs 5,none,none,none,none,none,none,none,none,none,none,none,none,none,none,none,none]
def c63_10:MCode:=.region [Yp 2] [Cs 2]
def c63_9:MCode:=.seq c63_10 .ret
def c63_12:MCode:=.region [Yd 0 1,Ya 0,Cr (.call (.cst (.fn 90 [] [])) [(Yq 0),(.cst (.fn 92 [] []))]),Cr (.un .not (Yq 0)),C0] [Cs 22,none,none,none,none]
def c63_15:MCode:=.region [Yp 4] [Cs 2]
def c63_14:MCode:=.seq c63_15 .ret
def c63_17:MCode:=.region [Yb 3,Yd 1 1,Ya 0,Cr (.call (Yq 2) [(Yq 0)]),Cr (.un .not (Yq 0)),C0,Yi 0 (.fieldAddr (some 0) (Cp 1)),Yi 1 (.load (some none) (Yq 0)),Yi 2 (.func (some 94) [] [(Cp 3)]),Yi 3 (.call (.cst (.fn 90 [] [])) [(Yq 1),(Yq 0)]),Yi 4 (.un .not (Yq 0)),Cr (.pick (Yq 5) (.cst (.bool true)) (Yq 0)),C0] [Cs 27,none,none,none,none,none,none,none,none,none,none,none,none]
def c63_20:MCode:=.region [Yp 1] [Cs 2]
def c63_19:MCode:=.seq c63_20 .ret
def c63_18:MCode:=.cond (Cp 27) c63_19 .skip
def c63_16:MCode:=.seq c63_17 c63_18
def c63_13:MCode:=.cond (Cp 22) c63_14 c63_16
def c63_11:MCode:=.seq c63_12 c63_13
def c63_8:MCode:=.cond (Cp 5) c63_9 c63_11
def c63_6:MCode:=.seq c63_7 c63_8
def c63_5:MCode:=.block 0 c63_6
def c63_22:MCode:=.region [Yp 0] [Cs 2]
def c63_21:MCode:=.seq c63_22 .ret
def c63_4:MCode:=.seq c63_5 c63_21
def c63_2:MCode:=.seq c63_3 c63_4
def c63_0:MCode:=.seq c63_1 c63_2
theorem fi63:funInfo Tryd.prog 63 = some { code:=c63_0,ntmps:=40,nargs:=1,ps:=[27,3,22,5,1,0,2],res:=[.tmp 2] }:=by kernel_rfl
def c68_1:MCode:=.region [Yp 0] [Cs 2]
def c68_3:MCode:=.region [Cm 0,Cr (.call (.cst (.fn 98 [] [])) [(Yq 0),(.cst (.fn 99 [] []))]),C0,Yg 0 0,Yg 1 1,Cr (.alloc (some [.nilSlice,(.int .i64 0)])),Yk 2 (Yq 0) (Yq 2),Yn 2] [Cs 4,none,Cs 3,none,none,none,none,none]
def c68_6:MCode:=.region [Cm 4,Cr (.un .not (Yq 0))] [Cs 11,none]
def c68_9:MCode:=.region [Yp 0] [Cs 2]
def c68_8:MCode:=.seq c68_9 .ret
def c68_7:MCode:=.cond (Cp 11) c68_8 .skip
def c68_5:MCode:=.seq c68_6 c68_7
def c68_11:MCode:=.region [Yr 2 (Cp 3),Ym 63 [(Yq 0)],C0] [Cs 2,none,none]
def c68_10:MCode:=.seq c68_11 .ret
def c68_4:MCode:=.seq c68_5 c68_10
def c68_2:MCode:=.seq c68_3 c68_4
def c68_0:MCode:=.seq c68_1 c68_2
theorem fi68:funInfo Tryd.prog 68 = some { code:=c68_0,ntmps:=14,nargs:=1,ps:=[3,11,4,0,2],res:=[.tmp 2] }:=by kernel_rfl
def c69_1:MCode:=.region [Yo .nilSlice] [Cs 4]
def c69_3:MCode:=.region [Cm 0,Yl (Yq 0),Cr (.makeSlice (some (1,1)) (some [(.bool false)]) (Yq 0) (Yq 0)),C0] [Cs 5,none,none,none]
def c69_5:MCode:=.region [Yo .nilSlice] [Cs 6]
def c69_8:MCode:=.region [Cm 1,Yl (Yq 0),Yp 0] [Cs 17,Cs 16,Cs 15]
def c69_12:MCode:=.region [Yh .lss (Cp 17) (Cp 16)] [Cs 18]
def c69_14:MCode:=.cond (Cp 18) .skip (.exit 0)
def c69_18:MCode:=.region [Ye 1 8 (Cp 15) (Cp 17),Ya 0,C0] [Cs 8,none,none]
def c69_20:MCode:=.region [Cm 6,Yl (Yq 0),C0] [Cs 9,none,none]
def c69_23:MCode:=.region [Cm 5,Cm 8,Ye 1 1 (Yq 1) (Yq 0),Ya 0,Cr (.un .not (Yq 0))] [Cs 27,none,none,none,none]
def c69_26:MCode:=.region [Cm 5,Cm 8,Ye 1 1 (Yq 1) (Yq 0),Cr (.store (some 1) (Yq 0) (.cst (.bool true)))] [none,none,none,none]
def c69_27:MCode:=.region [Cm 6,Cm 8,Cr (.buildSlice (some (1,8)) (some [(.int .i64 0)]) 1 [(0,(Yq 0))]),Cr (.append (some (1,8)) (Yq 2) (Yq 0)),C0] [Cs 6,none,none,none,none]
def c69_25:MCode:=.seq c69_26 c69_27
def c69_24:MCode:=.cond (Cp 27) c69_25 .skip
def c69_22:MCode:=.seq c69_23 c69_24
def c69_32:MCode:=.region [Cm 9,Cm 6,Yl (Yq 0),Yh .lss (Yq 2) (Yq 0)] [Cs 38,none,none,none]
def c69_33:MCode:=.cond (Cp 38) .skip (.exit 2)
def c69_31:MCode:=.seq c69_32 c69_33
def c69_37:MCode:=.region [Cm 0,Cm 6,Cm 9,Ye 1 8 (Yq 1) (Yq 0),Ya 0,Ye 2 40 (Yq 4) (Yq 0),Yc 1 0,Ya 0,Yl (Yq 0),Yp 0] [Cs 50,Cs 49,Cs 48,none,none,none,none,none,none,none]
def c69_41:MCode:=.region [Yh .lss (Cp 50) (Cp 49)] [Cs 51]
def c69_43:MCode:=.cond (Cp 51) .skip (.exit 4)
def c69_47:MCode:=.region [Ye 1 8 (Cp 48) (Cp 50),Ya 0,C0] [Cs 11,none,none]
def c69_49:MCode:=.region [Cm 5,Cm 11,Ye 1 1 (Yq 1) (Yq 0),Ya 0,Cr (.un .not (Yq 0))] [Cs 58,none,none,none,none]
def c69_52:MCode:=.region [Cm 5,Cm 11,Ye 1 1 (Yq 1) (Yq 0),Cr (.store (some 1) (Yq 0) (.cst (.bool true)))] [none,none,none,none]
def c69_53:MCode:=.region [Cm 6,Cm 11,Cr (.buildSlice (some (1,8)) (some [(.int .i64 0)]) 1 [(0,(Yq 0))]),Cr (.append (some (1,8)) (Yq 2) (Yq 0)),C0] [Cs 6,none,none,none,none]
def c69_51:MCode:=.seq c69_52 c69_53
def c69_50:MCode:=.cond (Cp 58) c69_51 .skip
def c69_48:MCode:=.seq c69_49 c69_50
def c69_46:MCode:=.seq c69_47 c69_48
def c69_45:MCode:=.block 5 c69_46
def c69_54:MCode:=.region [Yh .add (Cp 50) (Ck 1),C0] [Cs 50,none]
def c69_44:MCode:=.seq c69_45 c69_54
def c69_42:MCode:=.seq c69_43 c69_44
def c69_40:MCode:=.seq c69_41 c69_42
def c69_39:MCode:=.loop c69_40
def c69_38:MCode:=.block 4 c69_39
def Zt5:MCode:=.seq c69_37 c69_38
def c69_35:MCode:=.block 3 Zt5
def c69_55:MCode:=.region [Cm 9,Yh .add (Yq 0) (Ck 1),C0] [Cs 9,none,none]
def c69_34:MCode:=.seq c69_35 c69_55
def c69_30:MCode:=.seq c69_31 c69_34
def c69_29:MCode:=.loop c69_30
def Zt4:MCode:=.block 2 c69_29
def c69_21:MCode:=.seq c69_22 Zt4
def c69_19:MCode:=.seq c69_20 c69_21
def c69_17:MCode:=.seq c69_18 c69_19
def c69_16:MCode:=.block 1 c69_17
def c69_56:MCode:=.region [Yh .add (Cp 17) (Ck 1),C0] [Cs 17,none]
def c69_15:MCode:=.seq c69_16 c69_56
def c69_13:MCode:=.seq c69_14 c69_15
def c69_11:MCode:=.seq c69_12 c69_13
def c69_10:MCode:=.loop c69_11
def c69_9:MCode:=.block 0 c69_10
def c69_7:MCode:=.seq c69_8 c69_9
def c69_58:MCode:=.region [Cm 6,C0] [Cs 4,none]
def c69_57:MCode:=.seq c69_58 .ret
def c69_6:MCode:=.seq c69_7 c69_57
def c69_4:MCode:=.seq c69_5 c69_6
def c69_2:MCode:=.seq c69_3 c69_4
def c69_0:MCode:=.seq c69_1 c69_2
theorem fi69:funInfo Tryd.prog 69 = some { code:=c69_0,ntmps:=69,nargs:=2,ps:=[58,11,48,51,49,50,38,9,27,8,5,6,15,18,16,17,1,0,4],res:=[.tmp 4] }:=by kernel_rfl
def c70_1:MCode:=.region [Yo .nilSlice,Yp 0] [Cs 5,Cs 4]
def c70_3:MCode:=.region [Cm 0,Yl (Yq 0),Cr (.makeSlice (some (1,8)) (some [(.int .i64 0)]) (Yq 0) (Yq 0)),C0] [Cs 6,none,none,none]
def c70_5:MCode:=.region [Yp 1] [Cs 7]
def c70_10:MCode:=.region [Cm 0,Yl (Yq 0),Cr (.makeSlice (some (1,8)) (some [(.int .i64 0)]) (Yq 0) (Yq 0)),C0] [Cs 8,none,none,none]
def c70_13:MCode:=.region [Cm 8,Yl (Yq 0),Yp 0] [Cs 26,Cs 25,none]
def c70_17:MCode:=.region [Yh .lss (Cp 26) (Cp 25)] [Cs 27]
def c70_19:MCode:=.cond (Cp 27) .skip (.exit 2)
def c70_23:MCode:=.region [Cm 26,C0] [Cs 9,none]
def c70_24:MCode:=.region [Cm 8,Cm 9,Ye 1 8 (Yq 1) (Yq 0),Cr (.store (some 1) (Yq 0) (.cst (.int .i64 (-1))))] [none,none,none,none]
def c70_22:MCode:=.seq c70_23 c70_24
def c70_21:MCode:=.block 3 c70_22
def c70_25:MCode:=.region [Yh .add (Cp 26) (Ck 1),C0] [Cs 26,none]
def c70_20:MCode:=.seq c70_21 c70_25
def c70_18:MCode:=.seq c70_19 c70_20
def c70_16:MCode:=.seq c70_17 c70_18
def c70_15:MCode:=.loop c70_16
def c70_14:MCode:=.block 2 c70_15
def Zt6:MCode:=.seq c70_13 c70_14
def c70_27:MCode:=.region [Cr (.makeMap true),C0] [Cs 10,none]
def c70_30:MCode:=.region [Cm 1,Yl (Yq 0),Yp 0] [Cs 36,Cs 35,Cs 34]
def c70_34:MCode:=.region [Yh .lss (Cp 36) (Cp 35)] [Cs 37]
def c70_36:MCode:=.cond (Cp 37) .skip (.exit 4)
def c70_40:MCode:=.region [Ye 1 8 (Cp 34) (Cp 36),Ya 0,C0] [Cs 12,none,none]
def c70_42:MCode:=.region [Cm 0,Cm 12,Ye 2 40 (Yq 1) (Yq 0),Yc 0 0,Ya 0,Cm 0,Cm 12,Ye 2 40 (Yq 1) (Yq 0),Yc 1 0,Ya 0,Yl (Yq 0),Cr (.build (some [(0,(1,(Yq 6))),(1,(1,(Yq 0)))]) (some [(.str []),(.int .i64 0),(.int .i64 0),(.int .i64 0),(.int .i64 0),(.int .i64 0)])),.fresh,Cr (.alloc (some [(.str []),(.int .i64 0),(.int .i64 0),(.int .i64 0),(.int .i64 0),(.int .i64 0)])),Yk 6 (Yq 0) (Yq 1)] [none,Cs 13,Cs 51,Cs 50,Cs 49,Cs 48,Cs 47,Cs 46,Cs 45,Cs 44,Cs 43,Cs 42,Cs 41,Cs 40]
def c70_45:MCode:=.region [Cm 0,Cm 12,Ye 2 40 (Yq 1) (Yq 0),Yc 1 0,Ya 0,Yl (Yq 0),Yp 0] [Cs 58,Cs 57,Cs 56,none,none,none,none]
def c70_49:MCode:=.region [Yh .lss (Cp 58) (Cp 57)] [Cs 59]
def c70_51:MCode:=.cond (Cp 59) .skip (.exit 6)
def c70_55:MCode:=.region [Cm 58,Ye 1 8 (Cp 56) (Cp 58),Ya 0,Yn 2,Yn 1] [Cs 15,Cs 14,none,none,none]
def c70_56:MCode:=.region [Cm 14,Cm 6,Cm 15,Ye 1 8 (Yq 1) (Yq 0),Ya 0,Yd 2 13,Cr (.indexAddr .arr none (some (4,1)) (Yq 0) (Yq 5)),Yk 1 (Yq 0) (Yq 2)] [none,none,none,none,none,none,none,none]
def c70_54:MCode:=.seq c70_55 c70_56
def c70_53:MCode:=.block 7 c70_54
def c70_57:MCode:=.region [Yh .add (Cp 58) (Ck 1),C0] [Cs 58,none]
def c70_52:MCode:=.seq c70_53 c70_57
def c70_50:MCode:=.seq c70_51 c70_52
def c70_48:MCode:=.seq c70_49 c70_50
def c70_47:MCode:=.loop c70_48
def c70_46:MCode:=.block 6 c70_47
def Zt9:MCode:=.seq c70_45 c70_46
def c70_59:MCode:=.region [Cm 10,Yr 6 (Cp 13),Cr (.lookup (some (true,([.str,.int,.int,.int,.int,.int],(.int .i64 0)))) true (Yq 1) (Yq 0)),C0,Yg 0 0,Yg 1 1,Yn 1,Yn 1] [Cs 17,Cs 16,none,none,none,none,none,none]
def c70_62:MCode:=.region [Cm 17,Cr (.un .not (Yq 0))] [Cs 78,none]
def c70_65:MCode:=.region [Cm 10,Cr (.len (some (.map,0)) (Yq 0)),C0] [Cs 16,none,none]
def c70_66:MCode:=.region [Cm 10,Yr 6 (Cp 13),Cm 16,Cr (.mapSet (some (true,([.str,.int,.int,.int,.int,.int],(.int .i64 0)))) (Yq 2) (Yq 1) (Yq 0))] [none,none,none,none]
def c70_64:MCode:=.seq c70_65 c70_66
def c70_63:MCode:=.cond (Cp 78) c70_64 .skip
def c70_61:MCode:=.seq c70_62 c70_63
def Zta:MCode:=.region [Cm 8,Cm 12,Cm 16,Ye 1 8 (Yq 2) (Yq 1),Yk 1 (Yq 0) (Yq 1)] [none,none,none,none,none]
def c70_60:MCode:=.seq c70_61 Zta
def c70_58:MCode:=.seq c70_59 c70_60
def c70_43:MCode:=.seq Zt9 c70_58
def Zt8:MCode:=.seq c70_42 c70_43
def c70_39:MCode:=.seq c70_40 Zt8
def c70_38:MCode:=.block 5 c70_39
def c70_68:MCode:=.region [Yh .add (Cp 36) (Ck 1),C0] [Cs 36,none]
def c70_37:MCode:=.seq c70_38 c70_68
def c70_35:MCode:=.seq c70_36 c70_37
def c70_33:MCode:=.seq c70_34 c70_35
def c70_32:MCode:=.loop c70_33
def c70_31:MCode:=.block 4 c70_32
def Zt7:MCode:=.seq c70_30 c70_31
def c70_71:MCode:=.region [Cm 10,Cr (.len (some (.map,0)) (Yq 0)),Cm 7,Yh .eql (Yq 1) (Yq 0)] [Cs 92,none,none,none]
def c70_74:MCode:=.region [Cm 8,Cm 7,Yn 1,Yn 1] [Cs 5,Cs 4,none,none]
def c70_73:MCode:=.seq c70_74 .ret
def c70_72:MCode:=.cond (Cp 92) c70_73 .skip
def c70_70:MCode:=.seq c70_71 c70_72
def c70_75:MCode:=.region [Cm 8,Cm 10,Cr (.len (some (.map,0)) (Yq 0)),Yn 2,Yn 1] [Cs 7,Cs 6,none,none,none]
def c70_69:MCode:=.seq c70_70 c70_75
def c70_28:MCode:=.seq Zt7 c70_69
def c70_26:MCode:=.seq c70_27 c70_28
def c70_11:MCode:=.seq Zt6 c70_26
def c70_9:MCode:=.seq c70_10 c70_11
def c70_8:MCode:=.block 1 c70_9
def c70_7:MCode:=.loop c70_8
def c70_6:MCode:=.block 0 c70_7
def c70_4:MCode:=.seq c70_5 c70_6
def c70_2:MCode:=.seq c70_3 c70_4
def c70_0:MCode:=.seq c70_1 c70_2
theorem fi70:funInfo Tryd.prog 70 = some { code:=c70_0,ntmps:=98,nargs:=2,ps:=[92,7,16,78,17,10,15,6,14,56,59,57,58,41,40,42,43,12,46,45,47,48,49,50,44,51,13,34,37,35,36,1,9,27,25,26,8,0,4,5],res:=[.tmp 4,.tmp 5] }:=by kernel_rfl
def c71_1:MCode:=.region [Cr (.alloc (some [.nilSlice,(.int .i64 0)]))] [Cs 8]
def c71_3:MCode:=.region [Cm 3,Cr (.makeSlice (some (2,40)) (some [(.str []),.nilSlice]) (Yq 0) (Yq 0)),Cr (.build (some [(0,(1,(Yq 0)))]) (some [.nilSlice,(.int .i64 0)])),Cr (.alloc (some [.nilSlice,(.int .i64 0)])),Yk 2 (Yq 0) (Yq 1)] [none,Cs 9,none,none,none]
def c71_6:MCode:=.region [Cm 1,Yl (Yq 0),Yp 0] [Cs 20,Cs 19,Cs 18]
def c71_10:MCode:=.region [Yh .lss (Cp 20) (Cp 19)] [Cs 21]
def c71_12:MCode:=.cond (Cp 21) .skip (.exit 0)
def c71_16:MCode:=.region [Ye 1 8 (Cp 18) (Cp 20),Ya 0,C0] [Cs 11,none,none]
def c71_18:MCode:=.region [Yd 0 9,Ya 0,Cm 2,Cm 11,Ye 1 8 (Yq 1) (Yq 0),Ya 0,Ye 2 40 (Yq 4) (Yq 0),C0] [Cs 12,Cs 30,Cs 29,Cs 28,Cs 27,Cs 26,Cs 25,Cs 24]
def c71_21:MCode:=.region [Cm 12,Yf 0,Yc 0 0,Ya 0,Cr (.bin .neq .other none (Yq 0) (.cst (.str [])))] [Cs 35,none,none,none,none]
def c71_22:MCode:=.cond (Cp 35) (.exit 1) .skip
def c71_20:MCode:=.seq c71_21 c71_22
def c71_24:MCode:=.region [Cm 12,Cm 0,Cm 11,Ye 2 40 (Yq 1) (Yq 0),Yc 0 0,Ya 0,Yf 5,Yc 0 0,Yk 1 (Yq 0) (Yq 2)] [none,none,none,none,none,none,none,none,none]
def c71_26:MCode:=.region [Cm 12,Cm 0,Cm 11,Ye 2 40 (Yq 1) (Yq 0),Yc 1 0,Ya 0,Yl (Yq 0),Cr (.makeSlice (some (1,8)) (some [(.int .i64 0)]) (Yq 0) (Yq 0)),Yf 7,Yc 1 0,Yk 1 (Yq 0) (Yq 2)] [none,none,none,none,none,none,none,none,none,none,none]
def c71_28:MCode:=.region [Cm 12,Yf 0,Yc 1 0,Ya 0,Cm 0,Cm 11,Ye 2 40 (Yq 1) (Yq 0),Yc 1 0,Ya 0,Cr (.copy (some 1) (Yq 5) (Yq 0))] [none,Cs 62,Cs 61,Cs 60,Cs 59,Cs 58,Cs 57,Cs 56,Cs 55,Cs 54]
def c71_30:MCode:=.region [Cm 12,Yf 0,Yc 1 0,Ya 0,Yl (Yq 0),Yp 0] [Cs 69,Cs 68,Cs 67,none,none,none]
def c71_34:MCode:=.region [Yh .lss (Cp 69) (Cp 68)] [Cs 70]
def c71_36:MCode:=.cond (Cp 70) .skip (.exit 2)
def c71_40:MCode:=.region [Cm 69,Ye 1 8 (Cp 67) (Cp 69),Ya 0,Yn 2,Yn 1] [Cs 14,Cs 13,none,none,none]
def c71_41:MCode:=.region [Cm 12,Yf 0,Yc 1 0,Ya 0,Cm 13,Cm 2,Cm 14,Ye 1 8 (Yq 1) (Yq 0),Ya 0,Ye 1 8 (Yq 5) (Yq 4),Yk 1 (Yq 0) (Yq 1)] [none,Cs 83,Cs 82,Cs 81,Cs 80,Cs 79,Cs 78,Cs 77,Cs 76,Cs 75,Cs 74]
def c71_39:MCode:=.seq c71_40 c71_41
def c71_38:MCode:=.block 3 c71_39
def c71_42:MCode:=.region [Yh .add (Cp 69) (Ck 1),C0] [Cs 69,none]
def c71_37:MCode:=.seq c71_38 c71_42
def c71_35:MCode:=.seq c71_36 c71_37
def c71_33:MCode:=.seq c71_34 c71_35
def c71_32:MCode:=.loop c71_33
def c71_31:MCode:=.block 2 c71_32
def c71_29:MCode:=.seq c71_30 c71_31
def c71_27:MCode:=.seq c71_28 c71_29
def c71_25:MCode:=.seq c71_26 c71_27
def c71_23:MCode:=.seq c71_24 c71_25
def c71_19:MCode:=.seq c71_20 c71_23
def c71_17:MCode:=.seq c71_18 c71_19
def c71_15:MCode:=.seq c71_16 c71_17
def c71_14:MCode:=.block 1 c71_15
def c71_43:MCode:=.region [Yh .add (Cp 20) (Ck 1),C0] [Cs 20,none]
def c71_13:MCode:=.seq c71_14 c71_43
def c71_11:MCode:=.seq c71_12 c71_13
def c71_9:MCode:=.seq c71_10 c71_11
def c71_8:MCode:=.loop c71_9
def c71_7:MCode:=.block 0 c71_8
def c71_5:MCode:=.seq c71_6 c71_7
def c71_45:MCode:=.region [Yr 2 (Cp 9),Yk 2 (Cp 8) (Yq 0)] [none,none]
def c71_44:MCode:=.seq c71_45 .ret
def c71_4:MCode:=.seq c71_5 c71_44
def c71_2:MCode:=.seq c71_3 c71_4
def c71_0:MCode:=.seq c71_1 c71_2
theorem fi71:funInfo Tryd.prog 71 = some { code:=c71_0,ntmps:=87,nargs:=4,ps:=[74,75,76,13,14,80,79,81,78,77,82,83,67,70,68,69,54,55,56,59,58,60,61,62,57,0,35,12,9,24,2,11,27,26,28,29,25,30,18,21,19,20,1,3,8],res:=[.cell 8 42] }:=by kernel_rfl
def c89_1:MCode:=.region [Yo (.bool false)] [Cs 3]
def c89_3:MCode:=.region [Cm 0,Yh .geq (Yq 0) (Ck 0),C0,Yj 0 (.move (Cp 0)),Yj 1 (.fieldAddr (some 0) (Cp 1)),Yj 2 (.load (some none) (Yq 0)),Yj 3 (.len (some (.slc,0)) (Yq 0)),Yj 4 (.bin .lss .other none (Yq 3) (Yq 0)),Cr (.pick (Yq 5) (Yq 0) (.cst (.bool false))),C0] [Cs 3,none,none,none,none,none,none,none,none,none]
def c89_2:MCode:=.seq c89_3 .ret
def c89_0:MCode:=.seq c89_1 c89_2
theorem fi89:funInfo Tryd.prog 89 = some { code:=c89_0,ntmps:=13,nargs:=2,ps:=[1,0,3],res:=[.tmp 3] }:=by kernel_rfl
def c90_1:MCode:=.region [Cr (.box (Cp 1)),Yo (.bool false)] [Cs 4,Cs 3]
def c90_3:MCode:=.region [Cm 0,Cr (.func (some 111) [] [(Cp 3)]),Ym 101 [(Yq 1),(Yq 0)],Cr (.un .not (Yq 0)),C0] [Cs 4,none,none,none,none]
def c90_2:MCode:=.seq c90_3 .ret
def c90_0:MCode:=.seq c90_1 c90_2
theorem fi90:funInfo Tryd.prog 90 = some { code:=c90_0,ntmps:=9,nargs:=2,ps:=[3,0,1,4],res:=[.tmp 4] }:=by kernel_rfl
def c91_1:MCode:=.region [Cr (.box (Cp 0)),Yo (.bool false)] [Cs 2,Cs 1]
def c91_3:MCode:=.region [Yd 1 1,Ya 0,Yl (Yq 0),Yh .leq (Yq 0) (Ck 4),C0] [Cs 2,none,none,none,none]
def c91_2:MCode:=.seq c91_3 .ret
def c91_0:MCode:=.seq c91_1 c91_2
theorem fi91:funInfo Tryd.prog 91 = some { code:=c91_0,ntmps:=7,nargs:=1,ps:=[1,0,2],res:=[.tmp 2] }:=by kernel_rfl
def c92_1:MCode:=.region [Cr (.box (Cp 0)),Yo (.bool false)] [Cs 2,Cs 1]
def c92_3:MCode:=.region [Yd 0 1,Ya 0,Ym 93 [(Yq 0)],C0] [Cs 2,none,none,none]
def c92_2:MCode:=.seq c92_3 .ret
def c92_0:MCode:=.seq c92_1 c92_2
theorem fi92:funInfo Tryd.prog 92 = some { code:=c92_0,ntmps:=6,nargs:=1,ps:=[1,0,2],res:=[.tmp 2] }:=by kernel_rfl
def c94_1:MCode:=.region [Cr (.box (Cp 0)),Yo (.bool false)] [Cs 3,Cs 2]
def c94_3:MCode:=.region [Yd 1 2,Ya 0,Yb 1,Ym 95 [(Yq 1),(Yq 0)],C0] [Cs 3,none,none,none,none]
def c94_2:MCode:=.seq c94_3 .ret
def c94_0:MCode:=.seq c94_1 c94_2
theorem fi94:funInfo Tryd.prog 94 = some { code:=c94_0,ntmps:=8,nargs:=2,ps:=[1,2,0,3],res:=[.tmp 3] }:=by kernel_rfl
def c95_1:MCode:=.region [Cr (.box (Cp 1)),Yo (.bool false)] [Cs 4,Cs 3]
def c95_3:MCode:=.region [Cm 0,Cr (.func (some 112) [] [(Cp 3)]),Ym 85 [(Yq 1),(Yq 0)],Cr (.un .not (Yq 0)),C0] [Cs 4,none,none,none,none]
def c95_2:MCode:=.seq c95_3 .ret
def c95_0:MCode:=.seq c95_1 c95_2
theorem fi95:funInfo Tryd.prog 95 = some { code:=c95_0,ntmps:=9,nargs:=2,ps:=[3,0,1,4],res:=[.tmp 4] }:=by kernel_rfl
def c98_1:MCode:=.region [Cr (.alloc (some [.nilSlice,(.int .i64 0)])),Yo (.bool false)] [Cs 5,Cs 4]
def c98_3:MCode:=.region [Cr (.alloc (some [.nilSlice,(.int .i64 0)]))] [Cs 6]
def c98_5:MCode:=.region [Cm 0,Cm 1,Ym 113 [(Yq 1),(Yq 0)],C0] [Cs 7,none,none,none]
def c98_8:MCode:=.region [Cm 7,Yh .lss (Yq 0) (Ck 0)] [Cs 12,none]
def c98_11:MCode:=.region [Yr 2 (Cp 6),Yk 2 (Cp 4) (Yq 0),Yo (.bool false)] [Cs 5,none,none]
def c98_10:MCode:=.seq c98_11 .ret
def c98_9:MCode:=.cond (Cp 12) c98_10 .skip
def c98_7:MCode:=.seq c98_8 c98_9
def c98_13:MCode:=.region [Cm 0,Cm 7,Ye 2 32 (Yq 1) (Yq 0),Yr 2 (Yq 0),Yk 2 (Cp 4) (Yq 0),Yo (.bool true)] [Cs 5,none,none,none,none,none]
def c98_12:MCode:=.seq c98_13 .ret
def c98_6:MCode:=.seq c98_7 c98_12
def c98_4:MCode:=.seq c98_5 c98_6
def c98_2:MCode:=.seq c98_3 c98_4
def c98_0:MCode:=.seq c98_1 c98_2
theorem fi98:funInfo Tryd.prog 98 = some { code:=c98_0,ntmps:=18,nargs:=2,ps:=[6,12,7,1,0,4,5],res:=[.cell 4 42,.tmp 5] }:=by kernel_rfl
def c99_1:MCode:=.region [Cr (.box (Cp 0)),Yo (.bool false)] [Cs 2,Cs 1]
def c99_3:MCode:=.region [Yr 2 (Cp 1),Ym 63 [(Yq 0)],Yh .neq (Yq 0) (Ck 0),C0] [Cs 2,none,none,none]
def c99_2:MCode:=.seq c99_3 .ret
def c99_0:MCode:=.seq c99_1 c99_2
theorem fi99:funInfo Tryd.prog 99 = some { code:=c99_0,ntmps:=6,nargs:=1,ps:=[1,0,2],res:=[.tmp 2] }:=by kernel_rfl
def c111_1:MCode:=.region [Cr (.box (Cp 0)),Yo (.bool false)] [Cs 3,Cs 2]
def c111_3:MCode:=.region [Yb 1,Yr 2 (Cp 2),Cr (.call (Yq 1) [(Yq 0)]),Cr (.un .not (Yq 0)),C0] [Cs 3,none,none,none,none]
def c111_2:MCode:=.seq c111_3 .ret
def c111_0:MCode:=.seq c111_1 c111_2
theorem fi111:funInfo Tryd.prog 111 = some { code:=c111_0,ntmps:=8,nargs:=2,ps:=[2,1,0,3],res:=[.tmp 3] }:=by kernel_rfl
def c112_1:MCode:=.region [Yo (.bool false)] [Cs 3]
def c112_3:MCode:=.region [Yb 1,Cm 0,Cr (.call (Yq 1) [(Yq 0)]),Cr (.un .not (Yq 0)),C0] [Cs 3,none,none,none,none]
def c112_2:MCode:=.seq c112_3 .ret
def c112_0:MCode:=.seq c112_1 c112_2
theorem fi112:funInfo Tryd.prog 112 = some { code:=c112_0,ntmps:=8,nargs:=2,ps:=[0,1,3],res:=[.tmp 3] }:=by kernel_rfl
def c113_1:MCode:=.region [Yp 0] [Cs 4]
def c113_4:MCode:=.region [Cm 0,Yl (Yq 0),Yp 0] [Cs 8,Cs 7,none]
def c113_8:MCode:=.region [Yh .lss (Cp 8) (Cp 7)] [Cs 9]
def Zxn:MCode:=.cond (Cp 9) .skip (.exit 0)
def Zxr:MCode:=.region [Cm 8,C0] [Cs 5,none]
def Zxt:MCode:=.region [Cm 1,Cm 0,Cm 5,Ye 2 32 (Yq 1) (Yq 0),Yr 2 (Yq 0),Cr (.call (Yq 4) [(Yq 0)])] [Cs 16,none,none,none,none,none]
def Zxw:MCode:=.region [Cm 5,C0] [Cs 4,none]
def Zxv:MCode:=.seq Zxw .ret
def Zxu:MCode:=.cond (Cp 16) Zxv .skip
def Zxs:MCode:=.seq Zxt Zxu
def Zxq:MCode:=.seq Zxr Zxs
def Zxp:MCode:=.block 1 Zxq
def Zxx:MCode:=.region [Yh .add (Cp 8) (Ck 1),C0] [Cs 8,none]
def Zxo:MCode:=.seq Zxp Zxx
def c113_9:MCode:=.seq Zxn Zxo
def c113_7:MCode:=.seq c113_8 c113_9
def c113_6:MCode:=.loop c113_7
def c113_5:MCode:=.block 0 c113_6
def c113_3:MCode:=.seq c113_4 c113_5
def Zxz:MCode:=.region [Cr (.move (.cst (.int .i64 (-1))))] [Cs 4]
def Zxy:MCode:=.seq Zxz .ret
def c113_2:MCode:=.seq c113_3 Zxy
def c113_0:MCode:=.seq c113_1 c113_2
theorem fi113:funInfo Tryd.prog 113 = some { code:=c113_0,ntmps:=19,nargs:=2,ps:=[16,5,1,9,7,8,0,4],res:=[.tmp 4] }:=by kernel_rfl
end Go.Proofs
end
section
open Go Go.AM
namespace Go.Proofs
set_option maxRecDepth 100000
abbrev ND:=List UInt8 × List Int
def Z0g (ns:List ND) (V:List AVal):List AVal:=penc (List.zipWith (fun nd kv => (nd.1,kv)) ns V)
theorem Z6b {ns:List ND} {V:List AVal} (h:V.length = ns.length):(Z0g ns V).length = 2 * ns.length:=by
 unfold Z0g
 rw [Zby]
 simp [h]
theorem Zjh {ns:List ND} {V:List AVal} (h:V.length = ns.length) (nd:ND) (kv:AVal):Z0g (ns ++ [nd]) (V ++ [kv]) = Z0g ns V ++ [.str nd.1,kv]:=by
 unfold Z0g
 rw [List.zipWith_append (by simp [h])]
 simp [penc]
theorem Z7g {ns:List ND} {V:List AVal} {i:Nat} {nd:ND} {kv:AVal} (h1:ns[i]? = some nd) (h2:V[i]? = some kv):(Z0g ns V)[i * 2]? = some (.str nd.1)∧(Z0g ns V)[i * 2 + 1]? = some kv:=by
 unfold Z0g
 exact Zi6 _ i (nd.1,kv) (by simp [List.getElem?_zipWith,h1,h2])
theorem Z14.snoc:∀ {K:List (List Int)} {V:List AVal} {m mk:Lets} {ks:List Int} {kv:AVal},Z14 K V m→RowR kv ks mk→Z14 (K ++ [ks]) (V ++ [kv]) (m ++ mk)
 | [],[],m,mk,ks,kv,h,hk => by
  have h:m = []:=h
  subst h
  exact ⟨mk,[],by simp,hk,rfl⟩
 | k :: K,v :: V,m,mk,ks,kv,⟨m1,m2,h1,h2,h3⟩,hk => ⟨m1,m2 ++ mk,by rw [← List.append_assoc]; exact h1.append (List.Perm.refl mk),h2,Z14.snoc h3 hk⟩
 | [],_ :: _,_,_,_,_,h,_ => h.elim
 | _ :: _,[],_,_,_,_,h,_ => h.elim
def Z2h (nv:AVal) (ns:List ND) (m:Lets):Prop:=(ns = []∧nv = .nilSlice∧m = []) ∨
 ∃ q V mr,ns ≠ []∧nv = .slice q 0 ns.length (.opn 2)∧m.Perm ((q,C (Z0g ns V)) :: mr)∧Z14 (ns.map Prod.snd) V mr
theorem Z2h.len {nv:AVal} {ns:List ND} {m:Lets} (h:Z2h nv ns m):Z1b nv = some ns.length:=by
 rcases h with ⟨rfl,rfl,_⟩ | ⟨q,V,mr,_,rfl,_⟩ <;> rfl
theorem Z2h.ntup {nv:AVal} {ns:List ND} {m:Lets} (h:Z2h nv ns m):∀ t,¬ nv = .tup t:=by
 rintro t rfl
 have:=h.len
 cases this
theorem Z2h.cells {nv:AVal} {ns:List ND} {m:Lets} (h:Z2h nv ns m):nv.cells = [nv]:=by
 rcases h with ⟨rfl,rfl,_⟩ | ⟨q,V,mr,_,rfl,_⟩ <;> rfl
theorem Zfh {s0 s:St} {W:Pos→Prop} {r pre mk mn:Lets} {nv kv:AVal} {ns:List ND} {nm:List UInt8} {ks:List Int} {Q:AVal→St→Prop} (h:Ctx s0 W (pre ++ (mk ++ (mn ++ r))) s) (hg:Z2h nv ns mn) (hk:RowR kv ks mk) (hs:ns.length ≤ 1000)
  (q:∀ nv' mn' s',Z2h nv' (ns ++ [(nm,ks)]) mn'→Ctx s0 W (pre ++ (mn' ++ r)) s'→Q nv' s'):appP (2,40) nv [.str nm,kv] 1 s Q:=by
 rcases hg with ⟨rfl,rfl,rfl⟩ | ⟨b,V,mr,hne,rfl,hp,hR⟩
 ·simp only [appP,Z4a]
  rw [if_neg (by decide)]
  refine ⟨by unfold Z0j; omega,?_⟩
  have:=h.alloc (C [.str nm,kv])
  refine q (.slice s.next 0 1 (.opn 2)) ((s.next,C [.str nm,kv]) :: mk) _ (.inr ⟨_,[kv],mk,by simp,rfl,List.Perm.refl _,⟨mk,[],by simp,hk,rfl⟩⟩) (this.perm ?_)
  simp only [List.nil_append,List.cons_append]
  exact List.perm_middle.symm
 ·have hV:V.length = ns.length:=by simpa using hR.len
  have hmem:(b,C (Z0g ns V)) ∈ pre ++ (mk ++ (mn ++ r)):=by
   have:(b,C (Z0g ns V)) ∈ mn:=hp.mem_iff.2 (by simp)
   simp [this]
  have hb:s.own b = some (Z0g ns V):=Z1l (h.own _ hmem)
  have hl:ns.length ≠ 0:=by simpa using hne
  have h1:Ctx s0 W ((b,C (Z0g ns V)) :: (pre ++ (mk ++ (mr ++ r)))) s:=by
   refine h.perm ?_
   have h2:(pre ++ (mk ++ (mn ++ r))).Perm (pre ++ (mk ++ (((b,C (Z0g ns V)) :: mr) ++ r))):=(List.Perm.refl pre).append ((List.Perm.refl mk).append (hp.append (List.Perm.refl r)))
   refine h2.trans ?_
   have h3:pre ++ (mk ++ (((b,C (Z0g ns V)) :: mr) ++ r)) = (pre ++ mk) ++ (b,C (Z0g ns V)) :: (mr ++ r):=by simp
   rw [h3]
   refine List.perm_middle.trans ?_
   simp
  have hlen:=Z6b hV
  have h2:=(h1.put0 .dead).tail.alloc (C (Z0g ns V ++ [.str nm,kv]))
  simp only [appP,Z4a]
  rw [if_neg (by decide)]
  refine ⟨trivial,?_⟩
  rw [hb]
  simp only [Z0x]
  rw [if_neg hl,if_neg (by omega)]
  refine ⟨by omega,by unfold Z0j; omega,?_⟩
  have ht:List.take (ns.length * 2) (List.drop 0 (Z0g ns V)) = Z0g ns V:=by rw [List.drop_zero]; exact List.take_of_length_le (by omega)
  rw [ht]
  have hn:(s.put b .dead).next = s.next:=rfl
  refine q (.slice s.next 0 (ns.length + 1) (.opn 2)) ((s.next,C (Z0g (ns ++ [(nm,ks)]) (V ++ [kv]))) :: (mr ++ mk)) _ (.inr ⟨_,V ++ [kv],mr ++ mk,by simp,by simp,List.Perm.refl _,by rw [List.map_append]; exact hR.snoc hk⟩) ?_
  rw [Zjh hV]
  refine h2.perm ?_
  rw [hn]
  have h3:(mk ++ (mr ++ r)).Perm ((mr ++ mk) ++ r):=by
   rw [← List.append_assoc]
   exact List.perm_append_comm.append (List.Perm.refl r)
  refine (List.Perm.cons _ ((List.Perm.refl pre).append h3)).trans ?_
  simp only [List.cons_append]
  exact List.perm_middle.symm
def Z1k (s:St) (nv:AVal) (ns:List ND):Prop:=(Z1b nv = some 0∧ns = []) ∨
 ∃ b o c cs,nv = .slice b o ns.length c∧s.Old b∧s.cells b = some cs∧o + 2 * ns.length ≤ cs.length∧∀ (i:Nat) (nd:ND),ns[i]? = some nd→cs[o + i * 2]? = some (.str nd.1)∧∃ kv,cs[o + i * 2 + 1]? = some kv∧Z0e s kv nd.2
theorem Z1k.keep {s s':St} {nv:AVal} {ns:List ND} (h:Z1k s nv ns) (k:Keeps s s'):Z1k s' nv ns:=by
 rcases h with h | ⟨b,o,c,cs,h1,h2,h3,h4,h5⟩
 ·exact .inl h
 ·refine .inr ⟨b,o,c,cs,h1,k.old h2,(k.cells h2).trans h3,h4,fun i nd hi => ?_⟩
  obtain ⟨g1,kv,g2,g3⟩:=h5 i nd hi
  exact ⟨g1,kv,g2,g3.keep k⟩
theorem Z1k.len {s:St} {nv:AVal} {ns:List ND} (h:Z1k s nv ns):Z1b nv = some ns.length:=by
 rcases h with ⟨h1,rfl⟩ | ⟨b,o,c,cs,rfl,_⟩
 ·exact h1
 ·rfl
theorem Z1k.ntup {s:St} {nv:AVal} {ns:List ND} (h:Z1k s nv ns):∀ t,¬ nv = .tup t:=by
 rintro t rfl
 have:=h.len
 cases this
theorem Z1k.Za4 {s:St} {nv:AVal} {ns:List ND} (h:Z1k s nv ns):nv.cells = [nv]:=by
 have:=h.len
 cases nv <;> first | rfl | cases this
theorem Z0e.Za4 {s:St} {nv:AVal} {ns:List Int} (h:Z0e s nv ns):nv.cells = [nv]:=by
 have:=h.len
 cases nv <;> first | rfl | cases this
theorem Z2h.at {s0 s:St} {W:Pos→Prop} {nv:AVal} {ns:List ND} {m:Lets} (h:Z2h nv ns m) (hc:Ctx s0 W m s):Z1k s nv ns:=by
 rcases h with ⟨rfl,rfl,_⟩ | ⟨q,V,mr,hne,rfl,hp,hR⟩
 ·exact .inl ⟨rfl,rfl⟩
 ·have hc':=hc.perm hp
  have hV:V.length = ns.length:=by simpa using hR.len
  refine .inr ⟨q,0,.opn 2,_,rfl,hc'.oi 0 rfl,hc'.c 0 rfl,by rw [Z6b hV]; omega,fun i nd hi => ?_⟩
  obtain ⟨kv,g1,g2⟩:=hR.each (i:=i) (ks:=nd.2) (by rw [List.getElem?_map,hi]; rfl)
  obtain ⟨e1,e2⟩:=Z7g hi g1
  rw [Nat.zero_add]
  refine ⟨e1,kv,e2,?_⟩
  rcases g2 with ⟨e3,e4⟩ | ⟨q',c',e3,e4,e5⟩
  ·exact .inl ⟨e4,e3⟩
  ·rw [e4]
   exact Z5q hc'.wf (Z1l (hc'.own _ (List.mem_cons_of_mem _ e5))) c'
theorem NodesG.of {s:St} {p:Pos} {ns:List ND} (h:NodesG s p ns) (c:Cap):Z1k s (.slice p 0 ns.length c) ns:=by
 obtain ⟨cs,h1,h2,h3⟩:=h.ex
 exact .inr ⟨p,0,c,cs,rfl,h.old,h1,by omega,fun i nd hi => by
  obtain ⟨e1,kv,e2,e3⟩:=h3 i nd hi
  rw [Nat.zero_add]
  exact ⟨e1,kv,e2,e3⟩⟩
theorem Zig {cs:List AVal} {k:Nat} {a b:AVal} (h1:cs[k]? = some a) (h2:cs[k + 1]? = some b):(cs.drop k).take 2 = [a,b]:=by
 have l1:=(List.getElem?_eq_some_iff.1 h1).1
 have l2:=(List.getElem?_eq_some_iff.1 h2).1
 rw [List.drop_eq_getElem_cons l1,List.drop_eq_getElem_cons l2]
 rw [List.getElem?_eq_getElem l1] at h1
 rw [List.getElem?_eq_getElem l2] at h2
 simp [Option.some.inj h1,Option.some.inj h2]
theorem Ztt {s:St} {nv fv:AVal} {ns:List ND} {f:ND→Bool} {Q:AVal→St→Prop} (hv:Z1k s nv ns) (hmax:ns.length ≤ 2 ^ 62)
  (hf:∀ (s':St) (nd:ND) (kv:AVal) (R:AVal→St→Prop),Keeps s s'→nd ∈ ns→Z0e s' kv nd.2→(∀ s'',Keeps s' s''→R (.bool (f nd)) s'')→Z4d Tryd.prog fv [.agg [.str nd.1,kv]] s' R)
  (q:∀ (i:Int) s',Keeps s s'→(!decide (i < 0)) = ns.any f→Q (.int .i64 i) s'):Z0f Tryd.prog 115 [nv,fv] s Q:=by
 refine Z09 (Z0n (by decide)) fi115 rfl (by decide) rfl ?_
 refine Z00 ?_
 simp
 refine AM.wp_seq ?_
 refine Z00 ?_
 simp [hv.len,hv.ntup]
 refine AM.wp_block ?_
 refine AM.wp_loop (fun m t s' => ∃ i:Nat,i ≤ ns.length∧m = ns.length - i∧PT.get (posOf 0) t = some nv∧PT.get (posOf 1) t = some fv∧PT.get (posOf 7) t = some (.int .i64 ns.length)∧PT.get (posOf 8) t = some (.int .i64 i)∧Keeps s s'∧∀ j d,j < i→ns[j]? = some d→f d = false) ns.length ⟨0,by simp,by simp,by simp,by simp,by simp,by simp,Keeps.refl s,by simp⟩ ?_
 rintro m t s' ⟨i,hi,rfl,t0,t1,t7,t8,hk,hall⟩
 refine Z00 ?_
 simp [t7,t8]
 refine AM.wp_seq ?_
 refine AM.Z03 ?_
 by_cases hlt:i < ns.length
 ·obtain ⟨nd,hnd⟩:∃ nd,ns[i]? = some nd:=⟨_,List.getElem?_eq_getElem hlt⟩
  have hwr:IntKind.wrap .i64 ((i:Int) + 1) = ((i + 1:Nat):Int):=by rw [IntWalk.i64_in _ (by omega)]; omega
  rcases hv.keep hk with ⟨_,h0⟩ | ⟨b,o,c,cs,rfl,hb,hcs,hle,hel⟩
  ·subst h0
   simp at hlt
  obtain ⟨g1,kv,g2,g3⟩:=hel i nd hnd
  have hseg:=Zig g1 g2
  have hlen:o + i * 2 + 2 ≤ cs.length:=by have:=(List.getElem?_eq_some_iff.1 g2).1; omega
  simp [hlt]
  refine AM.wp_skip ?_
  simp
  refine AM.wp_seq ?_
  refine AM.wp_block ?_
  refine Z00 ?_
  simp [t8]
  refine Z00 ?_
  simp [t0,t1,hlt,hcs,hseg,hlen]
  refine hf s' nd kv _ hk (List.mem_of_getElem? hnd) g3 fun s2 hk2 => ?_
  simp
  refine AM.Z03 ?_
  cases hct:f nd with
  | true =>
   simp
   refine Z00 ?_
   simp
   refine AM.wp_ret ?_
   simp
   refine q _ _ (hk.trans hk2) ?_
   have h1:ns.any f = true:=List.any_eq_true.2 ⟨nd,List.mem_of_getElem? hnd,hct⟩
   have h2:¬ ((i:Int) < 0):=by omega
   rw [h1]
   simp [h2]
  | false =>
   simp
   refine AM.wp_skip ?_
   simp
   refine AM.wp_region ?_
   simp [t8,hwr]
   refine ⟨ns.length - (i + 1),by omega,i + 1,by omega,by omega,by simp [t0],by simp [t1],by simp [t7],by simp,hk.trans hk2,?_⟩
   intro j k l hj hd
   by_cases hji:j = i
   ·subst hji
    rw [hnd] at hd
    cases hd
    exact hct
   ·exact hall j (k,l) (by omega) hd
 ·simp [hlt]
  refine AM.wp_exit ?_
  simp
  refine Z00 ?_
  simp
  refine AM.wp_ret ?_
  simp
  refine q _ _ hk ?_
  have h1:ns.any f = false:=by
   rw [List.any_eq_false]
   intro d hd
   obtain ⟨j,hj,e⟩:=List.getElem_of_mem hd
   have:=hall j d (by omega) (by rw [List.getElem?_eq_getElem hj,e])
   simp [this]
  rw [h1]
  rfl
theorem Zn4 {s:St} {nv fv:AVal} {ns:List ND} {f:ND→Bool} {Q:AVal→St→Prop} (hv:Z1k s nv ns) (hmax:ns.length ≤ 2 ^ 62)
  (hf:∀ (s':St) (nd:ND) (kv:AVal) (R:AVal→St→Prop),Keeps s s'→nd ∈ ns→Z0e s' kv nd.2→(∀ s'',Keeps s' s''→R (.bool (f nd)) s'')→Z4d Tryd.prog fv [.agg [.str nd.1,kv]] s' R)
  (q:∀ s',Keeps s s'→Q (.bool (ns.any f)) s'):Z0f Tryd.prog 101 [nv,fv] s Q:=by
 refine Z09 (Z0n (by decide)) fi101 rfl (by decide) rfl ?_
 refine Z00 ?_
 simp
 refine Z00 ?_
 simp
 refine Z05 ?_
 refine Ztt hv hmax hf fun i s' hk e => ?_
 simp
 refine AM.wp_ret ?_
 simp
 rw [e]
 exact q _ hk
theorem Zu5 (g:ND→Bool):∀ ns:List ND,(!ns.any fun x => !g x) = ns.all g
 | [] => rfl
 | k :: r => by
  have:=Zu5 g r
  simp only [List.any_cons,List.all_cons,Bool.not_or,Bool.not_not]
  rw [this]
theorem Zf4 {s:St} {nv:AVal} {ns:List ND} {f:Nat} {a c:List AVal} {g:ND→Bool} {Q:AVal→St→Prop} (hwf:s.Wf) (hv:Z1k s nv ns) (hmax:ns.length ≤ 2 ^ 62)
  (hf:∀ (s':St) (nd:ND) (kv:AVal) (R:AVal→St→Prop),Keeps s s'→nd ∈ ns→Z0e s' kv nd.2→(∀ s'',Keeps s' s''→R (.bool (g nd)) s'')→Z4d Tryd.prog (.fn f a c) [.agg [.str nd.1,kv]] s' R)
  (q:∀ s',Keeps s s'→Q (.bool (ns.all g)) s'):Z0f Tryd.prog 90 [nv,.fn f a c] s Q:=by
 refine Z09 (Z0n (by decide)) fi90 rfl (by decide) rfl ?_
 refine Z00 ?_
 simp
 have c1:=(Ctx.start (fun _ => False) hwf).alloc (C [.fn f a c])
 generalize s.alloc (.cells [.fn f a c] false) = s1 at c1 ⊢
 generalize s.next = B at c1 ⊢
 have k1:=c1.Z0b
 refine Z00 ?_
 simp [hv.ntup]
 refine Z05 ?_
 refine Zn4 (f:=fun x => !g x) (hv.keep k1) hmax (fun s' nd kv R hk hnd hkv hR => ?_) fun s' hk => ?_
 ·refine Z05 ?_
  have hkt:=hkv.ntup
  refine Z09 (Z0n (by decide)) fi111 rfl (by decide) rfl ?_
  refine Z00 ?_
  simp
  have c2:=((Ctx.start (fun _ => False) (hk.wf c1.wf))).alloc (C [.str nd.1,kv])
  have hB:s'.cells B = some [.fn f a c]:=(hk.cells (c1.oi 0 rfl)).trans (c1.c 0 rfl)
  have hBo:s'.Old B:=hk.old (c1.oi 0 rfl)
  generalize s'.alloc (.cells [.str nd.1,kv] false) = s2 at c2 ⊢
  generalize s'.next = B2 at c2 ⊢
  have k2:=c2.Z0b
  refine Z00 ?_
  simp [(k2.cells hBo).trans hB,c2.c 0 rfl]
  refine hf s2 nd kv _ ((k1.trans hk).trans k2) hnd (hkv.keep k2) fun s3 k3 => ?_
  simp
  refine AM.wp_ret ?_
  simp
  exact hR s3 (k2.trans k3)
 ·simp
  refine AM.wp_ret ?_
  simp
  have:=q _ (k1.trans hk)
  rw [← Zu5] at this
  exact this
theorem Zr2 {s:St} {v:AVal} {ks:List Int} {f:Nat} {a c:List AVal} {g:Int→Bool} {Q:AVal→St→Prop} (hwf:s.Wf) (hv:Z0e s v ks) (hmax:ks.length ≤ 2 ^ 62)
  (hf:∀ (s':St) (x:Int) (R:AVal→St→Prop),Keeps s s'→x ∈ ks→(∀ s'',Keeps s' s''→R (.bool (g x)) s'')→Z4d Tryd.prog (.fn f a c) [.int .i64 x] s' R)
  (q:∀ s',Keeps s s'→Q (.bool (ks.all g)) s'):Z0f Tryd.prog 95 [v,.fn f a c] s Q:=by
 refine Z09 (Z0n (by decide)) fi95 rfl (by decide) rfl ?_
 refine Z00 ?_
 simp
 have c1:=(Ctx.start (fun _ => False) hwf).alloc (C [.fn f a c])
 generalize s.alloc (.cells [.fn f a c] false) = s1 at c1 ⊢
 generalize s.next = B at c1 ⊢
 have k1:=c1.Z0b
 refine Z00 ?_
 simp [hv.ntup]
 refine Z05 ?_
 refine Zir (hv.keep k1) hmax (f:=fun x => !g x) (fun s' x R hk hx hR => ?_) fun s' hk => ?_
 ·refine Z05 ?_
  have hB:s'.cells B = some [.fn f a c]:=(hk.cells (c1.oi 0 rfl)).trans (c1.c 0 rfl)
  refine Z09 (Z0n (by decide)) fi112 rfl (by decide) rfl ?_
  refine Z00 ?_
  simp
  refine Z00 ?_
  simp [hB]
  refine hf s' x _ (k1.trans hk) hx fun s3 k3 => ?_
  simp
  refine AM.wp_ret ?_
  simp
  exact hR s3 k3
 ·simp
  refine AM.wp_ret ?_
  simp
  have:=q _ (k1.trans hk)
  rw [← Zpp] at this
  exact this
def Z0z (ns:List ND) (root:Int):Int :=
 if ns.length < 1 ∨ 60 < ns.length ∨ (ns.all fun nd => decide (nd.2.length ≤ 4)) = false then 2
 else if (ns.all fun nd => Z1y nd.1) = false then 4
 else if (decide (0 ≤ root) && decide (root < ns.length)) = false ∨ (ns.all fun nd => nd.2.all fun k => decide (0 ≤ k) && decide (k < ns.length)) = false then 1
 else 0
def Zcw (ns:List ND):Prop:=∀ nd ∈ ns,nd.1.length ≤ 2 ^ 62∧nd.2.length ≤ 2 ^ 62
theorem Zl0 {s:St} {B:Pos} {nv:AVal} {ns:List ND} {rt k:Int} {Q:AVal→St→Prop} (hB:s.cells B = some [nv,.int .i64 rt]) (hv:Z1b nv = some ns.length) (q:Q (.bool (decide (0 ≤ k) && decide (k < ns.length))) s):Z0f Tryd.prog 89 [.int .i64 k,.ptr B 0] s Q:=by
 have hnt:∀ t,¬ nv = .tup t:=by
  rintro t rfl
  cases hv
 refine Z09 (Z0n (by decide)) fi89 rfl (by decide) rfl ?_
 refine Z00 ?_
 simp
 refine Z00 ?_
 by_cases h0:k < 0
 ·have h0':¬ 0 ≤ k:=by omega
  simp [h0]
  refine AM.wp_ret ?_
  simp
  simpa [h0'] using q
 ·have h0':0 ≤ k:=by omega
  simp [h0,hB,hnt,hv]
  refine AM.wp_ret ?_
  simp
  simpa [h0'] using q
theorem Zn1 {s:St} {nv:AVal} {ns:List ND} {rt:Int} {Q:AVal→St→Prop} (hwf:s.Wf) (hv:Z1k s nv ns) (hmax:ns.length ≤ 2 ^ 62) (hsm:Zcw ns)
  (q:∀ s',Keeps s s'→Q (.int .i64 (Z0z ns rt)) s'):Z0f Tryd.prog 63 [.agg [nv,.int .i64 rt]] s Q:=by
 have hnt:=hv.ntup
 have hln:=hv.len
 refine Z09 (Z0n (by decide)) fi63 rfl (by decide) rfl ?_
 refine Z00 ?_
 simp
 have c1:=(Ctx.start (fun _ => False) hwf).alloc (C [nv,.int .i64 rt])
 generalize s.alloc (.cells [nv,.int .i64 rt] false) = s1 at c1 ⊢
 generalize s.next = B1 at c1 ⊢
 refine Z00 ?_
 simp
 have c2:=(c1.alloc (C [.nilFn])).put 0 rfl (C [.fn 89 [] [.ptr B1 0]])
 simp only [List.set_cons_zero] at c2
 generalize (s1.alloc (.cells [.nilFn] false)).put s1.next (.cells [.fn 89 [] [.ptr B1 0]] false) = s2 at c2 ⊢
 generalize s1.next = B3 at c2 ⊢
 have k2:=c2.Z0b
 refine AM.wp_seq ?_
 refine AM.wp_block ?_
 refine Z00 ?_
 by_cases hA:ns.length < 1
 ·have hF:Z0z ns rt = 2:=by unfold Z0z; rw [if_pos (.inl hA)]
  rw [hF] at q
  have hA':(ns.length:Int) < 1:=by omega
  have hA0:ns.length = 0:=by omega
  simp [c2.c 1 rfl,hnt,hln,hA0]
  refine AM.Z03 ?_
  simp
  refine Z00 ?_
  simp
  refine AM.wp_ret ?_
  simp
  exact q s2 k2
 have hA':¬ (ns.length:Int) < 1:=by omega
 by_cases hB:60 < ns.length
 ·have hF:Z0z ns rt = 2:=by unfold Z0z; rw [if_pos (.inr (.inl hB))]
  rw [hF] at q
  have hB':(60:Int) < ns.length:=by omega
  simp [c2.c 1 rfl,hnt,hln,hA',hB']
  refine AM.Z03 ?_
  simp
  refine Z00 ?_
  simp
  refine AM.wp_ret ?_
  simp
  exact q s2 k2
 have hB':¬ (60:Int) < ns.length:=by omega
 simp [c2.c 1 rfl,hnt,hln,hA',hB']
 refine Z05 ?_
 refine Zf4 (g:=fun nd => decide (nd.2.length ≤ 4)) c2.wf (hv.keep k2) hmax (fun s' nd kv R hk hnd hkv hR => ?_) fun s3 k3 => ?_
 ·refine Z05 ?_
  have hkt:=hkv.ntup
  refine Z09 (Z0n (by decide)) fi91 rfl (by decide) rfl ?_
  refine Z00 ?_
  simp
  have d:=(Ctx.start (fun _ => False) (hk.wf c2.wf)).alloc (C [.str nd.1,kv])
  generalize s'.alloc (.cells [.str nd.1,kv] false) = sA at d ⊢
  generalize s'.next = BA at d ⊢
  refine Z00 ?_
  simp [d.c 0 rfl,hkt,hkv.len]
  refine AM.wp_ret ?_
  simp
  have e:(!decide ((4:Int) < (nd.2.length:Int))) = decide (nd.2.length ≤ 4):=by
   by_cases h:nd.2.length ≤ 4
   ·have h':¬ (4:Int) < nd.2.length:=by omega
    simp [h,h']
   ·have h':(4:Int) < nd.2.length:=by omega
    simp [h,h']
  have:=hR sA d.Z0b
  rw [← e] at this
  simpa using this
 have c3:=c2.keeps k3
 have K3:=k2.trans k3
 cases h4:ns.all (fun nd => decide (nd.2.length ≤ 4)) with
 | false =>
  have hF:Z0z ns rt = 2:=by unfold Z0z; rw [if_pos (.inr (.inr h4))]
  rw [hF] at q
  simp
  refine AM.Z03 ?_
  simp
  refine Z00 ?_
  simp
  refine AM.wp_ret ?_
  simp
  exact q s3 K3
 | true =>
 simp
 refine AM.Z03 ?_
 simp
 refine Z00 ?_
 simp [c3.c 1 rfl,hnt]
 refine Z05 ?_
 refine Zf4 (g:=fun nd => Z1y nd.1) c3.wf (hv.keep K3) hmax (fun s' nd kv R hk hnd hkv hR => ?_) fun s4 k4 => ?_
 ·refine Z05 ?_
  have hkt:=hkv.ntup
  refine Z09 (Z0n (by decide)) fi92 rfl (by decide) rfl ?_
  refine Z00 ?_
  simp
  have d:=(Ctx.start (fun _ => False) (hk.wf c3.wf)).alloc (C [.str nd.1,kv])
  generalize s'.alloc (.cells [.str nd.1,kv] false) = sA at d ⊢
  generalize s'.next = BA at d ⊢
  refine Z00 ?_
  simp [d.c 0 rfl]
  refine Z05 ?_
  refine Zrh (hsm nd hnd).1 fun sB kB => ?_
  simp
  refine AM.wp_ret ?_
  simp
  exact hR sB (d.Z0b.trans kB)
 have c4:=c3.keeps k4
 have K4:=K3.trans k4
 cases hN:ns.all (fun nd => Z1y nd.1) with
 | false =>
  have hF:Z0z ns rt = 4:=by unfold Z0z; rw [if_neg (fun h => h.elim hA (fun h => h.elim hB (fun h => by rw [h4] at h; cases h))),if_pos hN]
  rw [hF] at q
  simp
  refine AM.Z03 ?_
  simp
  refine Z00 ?_
  simp
  refine AM.wp_ret ?_
  simp
  exact q s4 K4
 | true =>
 simp
 refine AM.Z03 ?_
 simp
 refine Z00 ?_
 simp [c4.c 0 rfl,c4.c 1 rfl]
 refine Z05 ?_
 refine Zl0 (c4.c 1 rfl) hln ?_
 cases hr:(decide (0 ≤ rt) && decide (rt < ns.length)) with
 | false =>
  have hF:Z0z ns rt = 1:=by unfold Z0z; rw [if_neg (fun h => h.elim hA (fun h => h.elim hB (fun h => by rw [h4] at h; cases h))),if_neg (by simp [hN]),if_pos (.inl hr)]
  rw [hF] at q
  simp
  refine AM.Z03 ?_
  simp
  refine Z00 ?_
  simp
  refine AM.wp_ret ?_
  simp
  exact q s4 K4
 | true =>
 simp [c4.c 0 rfl,c4.c 1 rfl,hnt]
 refine Z05 ?_
 refine Zf4 (g:=fun nd => nd.2.all fun k => decide (0 ≤ k) && decide (k < ns.length)) c4.wf (hv.keep K4) hmax (fun s' nd kv R hk hnd hkv hR => ?_) fun s5 k5 => ?_
 ·refine Z05 ?_
  have hkt:=hkv.ntup
  refine Z09 (Z0n (by decide)) fi94 rfl (by decide) rfl ?_
  refine Z00 ?_
  simp
  have d:=(c4.keeps hk).alloc (C [.str nd.1,kv])
  have d':=(Ctx.start (fun _ => False) (hk.wf c4.wf)).alloc (C [.str nd.1,kv])
  generalize s'.alloc (.cells [.str nd.1,kv] false) = sA at d d' ⊢
  generalize s'.next = BA at d d' ⊢
  have kA:=d'.Z0b
  refine Z00 ?_
  simp [d.c 0 rfl,d.c 1 rfl,hkt]
  refine Z05 ?_
  refine Zr2 (g:=fun k => decide (0 ≤ k) && decide (k < ns.length)) d.wf (hkv.keep kA) (hsm nd hnd).2 (fun s6 x R6 k6 hx hR6 => ?_) fun s6 k6 => ?_
  ·refine Z05 ?_
   exact Zl0 ((d.keeps k6).c 2 rfl) hln (hR6 s6 (Keeps.refl _))
  ·simp
   refine AM.wp_ret ?_
   simp
   exact hR s6 (kA.trans k6)
 have K5:=K4.trans k5
 cases hK:ns.all (fun nd => nd.2.all fun k => decide (0 ≤ k) && decide (k < ns.length)) with
 | false =>
  have hF:Z0z ns rt = 1:=by unfold Z0z; rw [if_neg (fun h => h.elim hA (fun h => h.elim hB (fun h => by rw [h4] at h; cases h))),if_neg (by simp [hN]),if_pos (.inr hK)]
  rw [hF] at q
  simp
  refine AM.Z03 ?_
  simp
  refine Z00 ?_
  simp
  refine AM.wp_ret ?_
  simp
  exact q s5 K5
 | true =>
  have hF:Z0z ns rt = 0:=by unfold Z0z; rw [if_neg (fun h => h.elim hA (fun h => h.elim hB (fun h => by rw [h4] at h; cases h))),if_neg (by simp [hN]),if_neg (by simp only [hr,hK]; simp)]
  rw [hF] at q
  simp
  refine AM.Z03 ?_
  simp
  refine AM.wp_skip ?_
  simp
  refine Z00 ?_
  simp
  refine AM.wp_ret ?_
  simp
  exact q s5 K5
abbrev TV:=List ND × Int
def Z4s (s:St) (v:AVal) (ts:List TV):Prop:=(Z1b v = some 0∧ts = []) ∨
 ∃ b o c cs,v = .slice b o ts.length c∧s.Old b∧s.cells b = some cs∧o + 2 * ts.length ≤ cs.length∧∀ (i:Nat) (t:TV),ts[i]? = some t→∃ nv,cs[o + i * 2]? = some nv∧cs[o + i * 2 + 1]? = some (.int .i64 t.2)∧Z1k s nv t.1
theorem Z4s.keep {s s':St} {v:AVal} {ts:List TV} (h:Z4s s v ts) (k:Keeps s s'):Z4s s' v ts:=by
 rcases h with h | ⟨b,o,c,cs,h1,h2,h3,h4,h5⟩
 ·exact .inl h
 ·refine .inr ⟨b,o,c,cs,h1,k.old h2,(k.cells h2).trans h3,h4,fun i t hi => ?_⟩
  obtain ⟨nv,g1,g2,g3⟩:=h5 i t hi
  exact ⟨nv,g1,g2,g3.keep k⟩
theorem Z4s.len {s:St} {v:AVal} {ts:List TV} (h:Z4s s v ts):Z1b v = some ts.length:=by
 rcases h with ⟨h1,rfl⟩ | ⟨b,o,c,cs,rfl,_⟩
 ·exact h1
 ·rfl
theorem Z4s.ntup {s:St} {v:AVal} {ts:List TV} (h:Z4s s v ts):∀ t,¬ v = .tup t:=by
 rintro t rfl
 have:=h.len
 cases this
def Zpn (ts:List TV):Prop:=∀ t ∈ ts,t.1.length ≤ 2 ^ 62∧Zcw t.1
def Z6h (ts:List TV):Int:=match ts.find? (fun t => decide (Z0z t.1 t.2 ≠ 0)) with
 | some t => Z0z t.1 t.2
 | none => 0
theorem Ztu {s:St} {v:AVal} {ts:List TV} {Q:AVal→St→Prop} (hwf:s.Wf) (hv:Z4s s v ts) (hsm:Zpn ts) (hmax:ts.length ≤ 1000)
  (q:∀ (i:Int) s',Keeps s s'→((i = -1∧ts.find? (fun t => decide (Z0z t.1 t.2 ≠ 0)) = none) ∨ ∃ (j:Nat) (t:TV),i = j∧ts[j]? = some t∧ts.find? (fun t => decide (Z0z t.1 t.2 ≠ 0)) = some t)→Q (.int .i64 i) s'):Z0f Tryd.prog 113 [v,.fn 99 [] []] s Q:=by
 refine Z09 (Z0n (by decide)) fi113 rfl (by decide) rfl ?_
 refine Z00 ?_
 simp
 refine AM.wp_seq ?_
 refine Z00 ?_
 simp [hv.len,hv.ntup]
 refine AM.wp_block ?_
 refine AM.wp_loop (fun m t s' => ∃ i:Nat,i ≤ ts.length∧m = ts.length - i∧PT.get (posOf 0) t = some v∧PT.get (posOf 1) t = some (.fn 99 [] [])∧PT.get (posOf 7) t = some (.int .i64 ts.length)∧PT.get (posOf 8) t = some (.int .i64 i)∧Keeps s s'∧(ts.take i).find? (fun t => decide (Z0z t.1 t.2 ≠ 0)) = none) ts.length ⟨0,by simp,by simp,by simp,by simp,by simp,by simp,Keeps.refl s,by simp⟩ ?_
 rintro m t s' ⟨i,hi,rfl,t0,t1,t7,t8,hk,hall⟩
 refine Z00 ?_
 simp [t7,t8]
 refine AM.wp_seq ?_
 refine AM.Z03 ?_
 by_cases hlt:i < ts.length
 ·obtain ⟨tt,htt⟩:∃ tt,ts[i]? = some tt:=⟨_,List.getElem?_eq_getElem hlt⟩
  have hwr:IntKind.wrap .i64 ((i:Int) + 1) = ((i + 1:Nat):Int):=by rw [IntWalk.i64_in _ (by omega)]; omega
  rcases hv.keep hk with ⟨_,h0⟩ | ⟨b,o,c,cs,rfl,hb,hcs,hle,hel⟩
  ·subst h0
   simp at hlt
  obtain ⟨nv,g1,g2,g3⟩:=hel i tt htt
  have hseg:=Zig g1 g2
  have hlen:o + i * 2 + 2 ≤ cs.length:=by have:=(List.getElem?_eq_some_iff.1 g2).1; omega
  have hnt:=g3.ntup
  obtain ⟨hs1,hs2⟩:=hsm tt (List.mem_of_getElem? htt)
  simp [hlt]
  refine AM.wp_skip ?_
  simp
  refine AM.wp_seq ?_
  refine AM.wp_block ?_
  refine Z00 ?_
  simp [t8]
  refine Z00 ?_
  simp [t0,t1,hlt,hcs,hseg,hlen]
  refine Z05 ?_
  refine Z09 (Z0n (by decide)) fi99 rfl (by decide) rfl ?_
  refine Z00 ?_
  simp
  have d:=(Ctx.start (fun _ => False) (hk.wf hwf)).alloc (C [nv,.int .i64 tt.2])
  generalize s'.alloc (.cells [nv,.int .i64 tt.2] false) = sA at d ⊢
  generalize s'.next = BA at d ⊢
  have kA:=d.Z0b
  refine Z00 ?_
  simp [d.c 0 rfl]
  refine Z05 ?_
  refine Zn1 (rt:=tt.2) d.wf (g3.keep kA) hs1 hs2 fun sB kB => ?_
  have hkB:=(hk.trans kA).trans kB
  simp
  refine AM.wp_ret ?_
  simp
  refine AM.Z03 ?_
  by_cases hct:Z0z tt.1 tt.2 = 0
  ·simp [hct]
   refine AM.wp_skip ?_
   simp
   refine AM.wp_region ?_
   simp [t8,hwr]
   refine ⟨ts.length - (i + 1),by omega,i + 1,by omega,by omega,by simp [t0],by simp [t1],by simp [t7],by simp,hkB,?_⟩
   have:(ts.take (i + 1)).find? (fun t => decide (Z0z t.1 t.2 ≠ 0)) = none:=by
    rw [List.take_add_one,htt,List.find?_append,hall]
    simp [hct]
   simpa using this
  ·simp [hct]
   refine Z00 ?_
   simp
   refine AM.wp_ret ?_
   simp
   refine q _ _ hkB (.inr ⟨i,tt,rfl,htt,?_⟩)
   rw [← List.take_append_drop i ts,List.find?_append,hall,List.drop_eq_getElem_cons hlt]
   have e:ts[i] = tt:=by rw [List.getElem?_eq_getElem hlt] at htt; exact Option.some.inj htt
   rw [e]
   simp [hct]
 ·simp [hlt]
  refine AM.wp_exit ?_
  simp
  refine Z00 ?_
  simp
  refine AM.wp_ret ?_
  simp
  have:i = ts.length:=by omega
  subst this
  rw [List.take_length] at hall
  exact q _ _ hk (.inl ⟨rfl,hall⟩)
theorem Zio {s:St} {v:AVal} {ts:List TV} {Q:AVal→St→Prop} (hwf:s.Wf) (hv:Z4s s v ts) (hsm:Zpn ts) (hmax:ts.length ≤ 1000)
  (q:∀ s',Keeps s s'→Q (.int .i64 (Z6h ts)) s'):Z0f Tryd.prog 68 [v] s Q:=by
 have hvt:=hv.ntup
 refine Z09 (Z0n (by decide)) fi68 rfl (by decide) rfl ?_
 refine Z00 ?_
 simp
 refine Z00 ?_
 simp [hvt]
 refine Z05 ?_
 refine Z09 (Z0n (by decide)) fi98 rfl (by decide) rfl ?_
 refine Z00 ?_
 simp
 have d1:=(Ctx.start (fun _ => False) hwf).alloc (C [.nilSlice,.int .i64 0])
 generalize s.alloc (.cells [.nilSlice,.int .i64 0] false) = s1 at d1 ⊢
 generalize s.next = B4 at d1 ⊢
 refine Z00 ?_
 simp
 have d2:=d1.alloc (C [.nilSlice,.int .i64 0])
 generalize s1.alloc (.cells [.nilSlice,.int .i64 0] false) = s2 at d2 ⊢
 generalize s1.next = B6 at d2 ⊢
 have k2:=d2.Z0b
 refine Z00 ?_
 simp [hvt]
 refine Z05 ?_
 refine Ztu d2.wf (hv.keep k2) hsm hmax fun i s3 k3 hi => ?_
 have d3:=d2.keeps k3
 have K3:=k2.trans k3
 simp
 refine AM.wp_seq ?_
 refine Z00 ?_
 rcases hi with ⟨rfl,hn⟩ | ⟨j,tt,rfl,htt,hf⟩
 ·have hF:Z6h ts = 0:=by unfold Z6h; rw [hn]
  rw [hF] at q
  simp
  refine AM.Z03 ?_
  simp
  refine Z00 ?_
  simp [d3.c 0 rfl,d3.o 1 rfl]
  have d4:=d3.put 1 rfl (C [.nilSlice,.int .i64 0])
  simp only [List.set_cons_succ,List.set_cons_zero] at d4
  generalize s3.put B4 (.cells [.nilSlice,.int .i64 0] false) = s4 at d4 ⊢
  refine AM.wp_ret ?_
  simp [d4.c 1 rfl]
  have d5:=(d4.alloc (C [.nilSlice,.int .i64 0])).put 0 rfl (C [.nilSlice,.int .i64 0])
  simp only [List.set_cons_zero] at d5
  generalize (s4.alloc (.cells [.nilSlice,.int .i64 0] false)).put s4.next (.cells [.nilSlice,.int .i64 0] false) = s5 at d5 ⊢
  refine AM.wp_seq ?_
  refine Z00 ?_
  simp
  refine AM.Z03 ?_
  simp
  refine Z00 ?_
  simp
  refine AM.wp_ret ?_
  simp
  exact q s5 d5.Z0b
 ·have hF:Z6h ts = Z0z tt.1 tt.2:=by unfold Z6h; rw [hf]
  rw [hF] at q
  have hneg:¬ ((j:Int) < 0):=by omega
  have hlt:=(List.getElem?_eq_some_iff.1 htt).1
  rcases hv.keep K3 with ⟨_,h0⟩ | ⟨b,o,c,cs,rfl,hb,hcs,hle,hel⟩
  ·subst h0
   simp at hlt
  obtain ⟨nv,g1,g2,g3⟩:=hel j tt htt
  have hseg:=Zig g1 g2
  have hlen:o + j * 2 + 2 ≤ cs.length:=by have:=(List.getElem?_eq_some_iff.1 g2).1; omega
  have hnt:=g3.ntup
  have hnc:=g3.Za4
  obtain ⟨hs1,hs2⟩:=hsm tt (List.mem_of_getElem? htt)
  simp [hneg]
  refine AM.Z03 ?_
  simp
  refine AM.wp_skip ?_
  simp
  refine Z00 ?_
  simp [hlt,hcs,hseg,hlen,d3.o 1 rfl]
  have d4:=d3.put 1 rfl (C [nv,.int .i64 tt.2])
  simp only [List.set_cons_succ,List.set_cons_zero] at d4
  generalize s3.put B4 (.cells [nv,.int .i64 tt.2] false) = s4 at d4 ⊢
  refine AM.wp_ret ?_
  simp [d4.c 1 rfl]
  have d5:=(d4.alloc (C [.nilSlice,.int .i64 0])).put 0 rfl (C [nv,.int .i64 tt.2])
  simp only [List.set_cons_zero] at d5
  generalize (s4.alloc (.cells [.nilSlice,.int .i64 0] false)).put s4.next (.cells [nv,.int .i64 tt.2] false) = s5 at d5 ⊢
  generalize s4.next = B3 at d5 ⊢
  refine AM.wp_seq ?_
  refine Z00 ?_
  simp
  refine AM.Z03 ?_
  simp
  refine AM.wp_skip ?_
  simp
  refine Z00 ?_
  simp [d5.c 0 rfl]
  refine Z05 ?_
  have K5:=d5.Z0b
  have hN5:Z1k s5 nv tt.1:=by
   rcases hv.keep K5 with ⟨_,h0⟩ | ⟨b',o',c',cs',e,hb',hcs',hle',hel'⟩
   ·subst h0
    simp at hlt
   cases e
   obtain ⟨nv',e1,e2,e3⟩:=hel' j tt htt
   have:cs' = cs:=by
    have h1:s5.cells b = s.cells b:=by
     rcases hv with ⟨_,h0⟩ | ⟨b2,o2,c2,cs2,e',hb2,_⟩
     ·subst h0
      simp at hlt
     cases e'
     exact K5.cells hb2
    have h2:s3.cells b = s.cells b:=by
     rcases hv with ⟨_,h0⟩ | ⟨b2,o2,c2,cs2,e',hb2,_⟩
     ·subst h0
      simp at hlt
     cases e'
     exact K3.cells hb2
    rw [hcs'] at h1
    rw [hcs] at h2
    rw [← h2] at h1
    exact Option.some.inj h1
   subst this
   rw [g1] at e1
   cases e1
   exact e3
  refine Zn1 (rt:=tt.2) d5.wf hN5 hs1 hs2 fun s6 k6 => ?_
  simp
  refine AM.wp_ret ?_
  simp
  exact q s6 (K5.trans k6)
def addN (v:List Nat) (k:Nat):List Nat:=if k ∈ v then v else v ++ [k]
def Z0a (v:List Nat) (ks:List Nat):List Nat:=ks.foldl addN v
def runB (K:Nat→List Nat):Nat→List Nat→Nat→List Nat
 | 0,v,_ => v
 | f + 1,v,i => match v[i]? with
  | none => v
  | some a => runB K f (Z0a v (K a)) (i + 1)
def bfsF (K:Nat→List Nat) (n:Nat) (roots:List Nat):List Nat:=roots.foldl (fun v r => runB K (n + 1 - v.length) (addN v r) v.length) []
theorem Zv2 {v:List Nat} {k a:Nat} (h:a ∈ v):a ∈ addN v k:=by
 unfold addN
 split
 ·exact h
 ·exact List.mem_append_left _ h
theorem Zmr (v:List Nat) (k:Nat):∃ w,addN v k = v ++ w:=by
 unfold addN
 split
 ·exact ⟨[],by simp⟩
 ·exact ⟨[k],rfl⟩
theorem Z6f:∀ (ks v:List Nat),∃ w,Z0a v ks = v ++ w
 | [],v => ⟨[],by simp [Z0a]⟩
 | k :: ks,v => by
  obtain ⟨w,h⟩:=Zmr v k
  obtain ⟨w',h'⟩:=Z6f ks (addN v k)
  exact ⟨w ++ w',by show Z0a (addN v k) ks = _; rw [h',h,List.append_assoc]⟩
theorem Zgq {v ks:List Nat} {j k:Nat} (h:ks[j]? = some k):Z0a v (ks.take (j + 1)) = addN (Z0a v (ks.take j)) k:=by
 unfold Z0a
 rw [List.take_add_one,h,List.foldl_append]
 rfl
theorem Z8v {v:List Nat} {k:Nat} (h:v.Nodup):(addN v k).Nodup:=by
 unfold addN
 split
 ·exact h
 ·rename_i hk
  rw [List.nodup_append]
  exact ⟨h,by simp,by rintro a ha b hb rfl; simp at hb; exact hk (hb ▸ ha)⟩
theorem Zcx {v:List Nat} {k n:Nat} (h:∀ a ∈ v,a < n) (hk:k < n):∀ a ∈ addN v k,a < n:=by
 unfold addN
 split
 ·exact h
 ·intro a ha
  rcases List.mem_append.1 ha with ha | ha
  ·exact h a ha
  ·simp at ha
   omega
theorem Zab {n:Nat}:∀ {ks v:List Nat},v.Nodup→(∀ a ∈ v,a < n)→(∀ k ∈ ks,k < n)→(Z0a v ks).Nodup∧∀ a ∈ Z0a v ks,a < n
 | [],v,h1,h2,_ => ⟨h1,h2⟩
 | k :: ks,v,h1,h2,h3 => Zab (ks:=ks) (v:=addN v k) (Z8v h1) (Zcx h2 (h3 k (by simp))) (fun x hx => h3 x (by simp [hx]))
theorem Z2a:∀ {n:Nat} {v:List Nat},v.Nodup→(∀ a ∈ v,a < n)→v.length ≤ n
 | 0,v,_,h => by
  cases v with
  | nil => simp
  | cons a v => exact (Nat.not_lt_zero a (h a (by simp))).elim
 | n + 1,v,h1,h2 => by
  have ih:=Z2a (n:=n) (v:=v.erase n) (h1.erase n) (fun a ha => by
   have h3:=h2 a (List.mem_of_mem_erase ha)
   have h4:a ≠ n:=fun e => by
    subst e
    exact (List.Nodup.mem_erase_iff h1).1 ha |>.1 rfl
   omega)
  rw [List.length_erase] at ih
  split at ih <;> omega
def metL (n:Nat) (v:List Nat):List AVal:=(List.range n).map fun i => .bool (decide (i ∈ v))
theorem Z5s {n a:Nat} (v:List Nat) (h:a < n):(metL n v)[a]? = some (.bool (decide (a ∈ v))):=by
 unfold metL
 rw [List.getElem?_map,List.getElem?_range h]
 rfl
theorem Z3j (n:Nat) (v:List Nat):(metL n v).length = n:=by simp [metL]
theorem Ze0 {n a:Nat} {v:List Nat} (h:a < n) (hv:a ∉ v):lay (metL n v) a [.bool true] = metL n (addN v a):=by
 have e:addN v a = v ++ [a]:=by unfold addN; rw [if_neg hv]
 refine List.ext_getElem? fun j => ?_
 unfold lay
 by_cases hj:j < n
 ·rw [Z5s _ hj]
  rcases Nat.lt_trichotomy j a with hl | rfl | hg
  ·rw [List.append_assoc,List.getElem?_append_left (by simp [Z3j]; omega),List.getElem?_take_of_lt hl,Z5s _ hj,e]
   have:¬ j = a:=by omega
   simp [this]
  ·rw [List.append_assoc,List.getElem?_append_right (by simp [Z3j]; omega)]
   simp [Z3j,e,Nat.min_eq_left (Nat.le_of_lt h)]
  ·rw [List.getElem?_append_right (by simp [Z3j]; omega),List.getElem?_drop]
   have e2:a + [AVal.bool true].length + (j - (List.take a (metL n v) ++ [AVal.bool true]).length) = j:=by simp [Z3j]; omega
   rw [e2,Z5s _ hj,e]
   have:¬ j = a:=by omega
   simp [this]
 ·rw [List.getElem?_eq_none (by simp [Z3j]; omega),List.getElem?_eq_none (by rw [Z3j]; omega)]
def Z75 (qv:AVal) (g:List Int) (m:Lets):Prop:=(g = []∧qv = .nilSlice∧m = []) ∨ ∃ b pre,qv = .slice b pre.length g.length (.opn 1)∧m = [(b,C (ints (pre ++ g)))]
theorem Z75.len {qv:AVal} {g:List Int} {m:Lets} (h:Z75 qv g m):Z1b qv = some g.length:=by
 rcases h with ⟨rfl,rfl,_⟩ | ⟨q,_,rfl,_⟩ <;> rfl
theorem Z75.ntup {qv:AVal} {g:List Int} {m:Lets} (h:Z75 qv g m):∀ t,¬ qv = .tup t:=by
 rintro t rfl
 have:=h.len
 cases this
theorem Z75.cells {qv:AVal} {g:List Int} {m:Lets} (h:Z75 qv g m):qv.cells = [qv]:=by
 rcases h with ⟨rfl,rfl,_⟩ | ⟨q,_,rfl,_⟩ <;> rfl
theorem Zuh {s0 s:St} {W:Pos→Prop} {r pre mg:Lets} {qv:AVal} {g:List Int} {x:Int} {Q:AVal→St→Prop} (h:Ctx s0 W (pre ++ (mg ++ r)) s) (hg:Z75 qv g mg) (hs:g.length ≤ 1000)
  (q:∀ qv' mg' s',Z75 qv' (g ++ [x]) mg'→Ctx s0 W (pre ++ (mg' ++ r)) s'→Q qv' s'):appP (1,8) qv [.int .i64 x] 1 s Q:=by
 rcases hg with ⟨rfl,rfl,rfl⟩ | ⟨b,p0,rfl,rfl⟩
 ·simp only [appP,Z4a]
  rw [if_neg (by decide)]
  refine ⟨by unfold Z0j; omega,?_⟩
  have:=h.alloc (C [.int .i64 x])
  refine q (.slice s.next 0 1 (.opn 1)) [(s.next,C (ints ([] ++ [x])))] _ (.inr ⟨_,[],rfl,rfl⟩) (this.perm ?_)
  simp only [List.nil_append]
  exact List.perm_middle.symm
 ·have hb:s.own b = some (ints (p0 ++ g)):=Z1l (h.own (b,C (ints (p0 ++ g))) (by simp))
  have h1:Ctx s0 W ((b,C (ints (p0 ++ g))) :: (pre ++ r)) s:=h.perm (by simp)
  have hn:(s.put b .dead).next = s.next:=rfl
  simp only [appP,Z4a]
  rw [if_neg (by decide)]
  refine ⟨trivial,?_⟩
  rw [hb]
  simp only [Z0x]
  by_cases hl:g.length = 0
  ·rw [if_pos hl]
   have hg0:g = []:=List.length_eq_zero_iff.1 hl
   subst hg0
   refine ⟨by unfold Z0j; omega,?_⟩
   have h2:=(h1.put0 .dead).tail.alloc (C [.int .i64 x])
   refine q (.slice s.next 0 1 (.opn 1)) [(s.next,C (ints ([] ++ ([] ++ [x]))))] _ (.inr ⟨_,[],rfl,rfl⟩) (h2.perm ?_)
   rw [hn]
   exact List.perm_middle.symm
  ·have h2:=(h1.put0 .dead).tail.alloc (C (ints g ++ [.int .i64 x]))
   rw [if_neg hl,if_neg (by simp)]
   refine ⟨by simp,by unfold Z0j; omega,?_⟩
   have ht:List.take (g.length * 1) (List.drop p0.length (ints (p0 ++ g))) = ints g:=by
    unfold ints
    rw [List.map_append,List.drop_left' (by simp)]
    exact List.take_of_length_le (by simp)
   rw [ht]
   have hi:ints g ++ [AVal.int .i64 x] = ints ([] ++ (g ++ [x])):=by simp [ints]
   rw [hi] at h2 ⊢
   refine q (.slice s.next 0 (g.length + 1) (.opn 1)) [(s.next,C (ints ([] ++ (g ++ [x]))))] _ (.inr ⟨_,[],by simp,rfl⟩) (h2.perm ?_)
   rw [hn]
   exact List.perm_middle.symm
abbrev nats (v:List Nat):List Int:=v.map fun (a:Nat) => (a:Int)
theorem Zz5 {s0 s:St} {W:Pos→Prop} {n a:Nat} {v g:List Nat} {qv fv:AVal} {B7 B6 Bm B4:Pos} {pre mq m base:Lets} {J:List Nat→Lets→Prop} {Q:AVal→St→Prop}
  (hc:Ctx s0 W ((B7,C [qv]) :: (B6,C [.slice Bm 0 n (.lim n)]) :: (Bm,C (metL n v)) :: (B4,C [fv]) :: (pre ++ (mq ++ (m ++ base)))) s) (hq:Z75 qv (nats g) mq) (hg:g.length ≤ 1000) (hJ:J v m) (ha:a < n) (hft:∀ t,¬ fv = .tup t)
  (hmeet:∀ (x m:Lets) (s':St) (R:AVal→St→Prop),J v m→a ∉ v→Ctx s0 W (x ++ (m ++ base)) s'→(∀ u m' s'',J (v ++ [a]) m'→Ctx s0 W (x ++ (m' ++ base)) s''→R u s'')→Z4d Tryd.prog fv [.int .i64 a] s' R)
  (q:∀ qv' mq' m' s',Z75 qv' (nats (if a ∈ v then g else g ++ [a])) mq'→J (addN v a) m'→Ctx s0 W ((B7,C [qv']) :: (B6,C [.slice Bm 0 n (.lim n)]) :: (Bm,C (metL n (addN v a))) :: (B4,C [fv]) :: (pre ++ (mq' ++ (m' ++ base)))) s'→Q (.tup []) s') :
  Z0f Tryd.prog 97 [.int .i64 a,.ptr B6 0,.ptr B7 0,.ptr B4 0] s Q:=by
 have hget:=Z5s v ha
 refine Z09 (Z0n (by decide)) fi97 rfl (by decide) rfl ?_
 refine Z00 ?_
 simp [hc.c 1 rfl,hc.c 2 rfl,ha,hget]
 refine AM.Z03 ?_
 by_cases hv:a ∈ v
 ·simp [hv]
  refine AM.wp_skip ?_
  simp
  refine q qv mq m s (by rw [if_pos hv]; exact hq) ?_ ?_
  ·unfold addN
   rw [if_pos hv]
   exact hJ
  ·unfold addN
   rw [if_pos hv]
   exact hc
 ·have hset:=Ze0 ha hv
  have hle:a + 1 ≤ (metL n v).length:=by rw [Z3j]; omega
  simp [lay] at hset
  simp [hv]
  refine Z00 ?_
  simp [hc.c 1 rfl,hc.c 2 rfl,hc.o 2 rfl,ha,hle]
  rw [hset]
  have c1:=hc.put 2 rfl (C (metL n (addN v a)))
  simp only [List.set_cons_succ,List.set_cons_zero] at c1
  generalize s.put Bm (.cells (metL n (addN v a)) false) = s1 at c1 ⊢
  refine Z00 ?_
  simp [c1.c 0 rfl,hq.ntup,hq.cells,Z13,srcP]
  have c2:=c1.alloc (C [.int .i64 a])
  generalize s1.alloc (.cells [.int .i64 a] false) = s2 at c2 ⊢
  generalize s1.next = T at c2 ⊢
  refine Zuh (pre:=(T,C [.int .i64 a]) :: (B7,C [qv]) :: (B6,C [.slice Bm 0 n (.lim n)]) :: (Bm,C (metL n (addN v a))) :: (B4,C [fv]) :: pre) (r:=m ++ base) (by simpa using c2) hq (by simpa using hg) fun qv' mq' s3 hq' c3 => ?_
  simp only [List.cons_append] at c3
  simp [hq'.ntup,hq'.cells,c3.o 1 rfl]
  have c4:=(c3.put 1 rfl (C [qv'])).tail
  simp only [List.set_cons_succ,List.set_cons_zero] at c4
  generalize s3.put B7 (.cells [qv'] false) = s4 at c4 ⊢
  refine AM.wp_region ?_
  simp [c4.c 3 rfl,hft]
  refine hmeet ((B7,C [qv']) :: (B6,C [.slice Bm 0 n (.lim n)]) :: (Bm,C (metL n (addN v a))) :: (B4,C [fv]) :: (pre ++ mq')) m s4 _ hJ hv (by simpa using c4) fun u m' s5 hJ' c5 => ?_
  simp
  refine q qv' mq' m' s5 (by rw [if_neg hv]; simpa using hq') ?_ (by simpa using c5)
  unfold addN
  rw [if_neg hv]
  exact hJ'
def kidN (cs:List CV) (a:Nat):List Nat:=(Z29 cs a).map Int.toNat
theorem Zlz {K:Nat→List Nat} {f:Nat} {v:List Nat} {i:Nat} (h:v.length ≤ i):runB K f v i = v:=by
 cases f with
 | zero => rfl
 | succ f =>
  unfold runB
  rw [List.getElem?_eq_none h]
theorem Zm0 {K:Nat→List Nat} {n:Nat} {v:List Nat} {i a:Nat} (hi:i ≤ n) (h:v[i]? = some a):runB K (n + 1 - i) v i = runB K (n + 1 - (i + 1)) (Z0a v (K a)) (i + 1):=by
 have e:n + 1 - i = (n + 1 - (i + 1)) + 1:=by omega
 rw [e]
 show (match v[i]? with | none => v | some a => runB K (n + 1 - (i + 1)) (Z0a v (K a)) (i + 1)) = _
 rw [h]
section
variable {s0 s:St} {W:Pos→Prop} {p:Pos} {cs:List CV} {V:List AVal} {base m0:Lets} {rv:AVal} {roots:List Nat} {J:List Nat→Lets→Prop} {f:Nat} {fx fy:List AVal}
structure Leans (s0:St) (W:Pos→Prop) (p:Pos) (cs:List CV) (V:List AVal) (base:Lets) (rv:AVal) (roots:List Nat) (J:List Nat→Lets→Prop) (fv:AVal):Prop where
 len:V.length = cs.length
 max:cs.length ≤ 400
 read:∀ (x m:Lets) s',Ctx s0 W (x ++ (m ++ base)) s'→(∃ v,J v m)→s'.Old p∧s'.cells p = some (encs (rcs cs V))∧Z0e s' rv (nats roots)∧∀ (i:Nat) (d:CV),cs[i]? = some d→∃ kv,V[i]? = some kv∧Z0e s' kv d.kids
 roots_ok:∀ a ∈ roots,a < cs.length
 rlen:roots.length ≤ 400
 kids:∀ a,a < cs.length→(Z29 cs a).length ≤ 4∧∀ k ∈ Z29 cs a,0 ≤ k∧k < cs.length
 meet:∀ (a:Nat) (v:List Nat) (x m:Lets) (s':St) (R:AVal→St→Prop),J v m→a ∉ v→a < cs.length→v.Nodup→(∀ y ∈ v,y < cs.length)→Ctx s0 W (x ++ (m ++ base)) s'→(∀ u m' s'',J (v ++ [a]) m'→Ctx s0 W (x ++ (m' ++ base)) s''→R u s'')→Z4d Tryd.prog fv [.int .i64 a] s' R
def BrdI (s0:St) (W:Pos→Prop) (p:Pos) (n:Nat) (base:Lets) (J:List Nat→Lets→Prop) (fv:AVal) (B7 B6 Bm B4 B3:Pos) (v g:List Nat) (s:St):Prop :=
 ∃ qv mq m,Z75 qv (nats g) mq∧J v m∧v.Nodup∧(∀ a ∈ v,a < n)∧Ctx s0 W ((B7,C [qv]) :: (B6,C [.slice Bm 0 n (.lim n)]) :: (Bm,C (metL n v)) :: (B4,C [fv]) :: (B3,C [.slice p 0 n (.lim n)]) :: (mq ++ (m ++ base))) s
theorem Zmx {B7 B6 Bm B4 B3:Pos} {v g:List Nat} {a:Nat} {Q:AVal→St→Prop} (hL:Leans s0 W p cs V base rv roots J (.fn f fx fy)) (h:BrdI s0 W p cs.length base J (.fn f fx fy) B7 B6 Bm B4 B3 v g s) (hg:g.length ≤ 1000) (ha:a < cs.length)
  (q:∀ s',BrdI s0 W p cs.length base J (.fn f fx fy) B7 B6 Bm B4 B3 (addN v a) (if a ∈ v then g else g ++ [a]) s'→Q (.tup []) s'):Z4d Tryd.prog (.fn 97 [] [.ptr B6 0,.ptr B7 0,.ptr B4 0]) [.int .i64 a] s Q:=by
 obtain ⟨qv,mq,m,h1,h2,h3,h4,h5⟩:=h
 refine Z05 ?_
 refine Zz5 (pre:=[(B3,C [.slice p 0 cs.length (.lim cs.length)])]) (by simpa using h5) h1 hg h2 ha (by simp) (fun x m s' R hJ hv hc hR => hL.meet a v x m s' R hJ hv ha h3 h4 hc hR) fun qv' mq' m' s' g1 g2 g3 => ?_
 exact q s' ⟨qv',mq',m',g1,g2,Z8v h3,Zcx h4 ha,by simpa using g3⟩
theorem Zv7 {fr:FI} {t0:PT AVal} {B7 B6 Bm B4 B3:Pos} {v:List Nat} {i a:Nat} {Q:Ex→PT AVal→St→Prop} (hL:Leans s0 W p cs V base rv roots J (.fn f fx fy)) (h:BrdI s0 W p cs.length base J (.fn f fx fy) B7 B6 Bm B4 B3 v (v.drop i) s) (hi:v[i]? = some a)
  (t3:PT.get (posOf 3) t0 = some (.ptr B3 0)) (t7:PT.get (posOf 7) t0 = some (.ptr B7 0)) (t8:PT.get (posOf 8) t0 = some (.fn 97 [] [.ptr B6 0,.ptr B7 0,.ptr B4 0]))
  (q:∀ t s',Fr [12,32,33,34,35,36,37,38,39,40,41,42] t0 t→BrdI s0 W p cs.length base J (.fn f fx fy) B7 B6 Bm B4 B3 (Z0a v (kidN cs a)) ((Z0a v (kidN cs a)).drop i) s'→Q .normal t s'):wp Tryd.prog Zt3 fr t0 s Q:=by
 have hil:i < v.length:=(List.getElem?_eq_some_iff.1 hi).1
 obtain ⟨qv,mq,m,h1,h2,h3,h4,h5⟩:=h
 have ha:a < cs.length:=h4 a (List.mem_of_getElem? hi)
 have hcd:cs[a]? = some cs[a]:=List.getElem?_eq_getElem ha
 obtain ⟨r1,r2,_,r4⟩:=hL.read ((B7,C [qv]) :: (B6,C [.slice Bm 0 cs.length (.lim cs.length)]) :: (Bm,C (metL cs.length v)) :: (B4,C [.fn f fx fy]) :: (B3,C [.slice p 0 cs.length (.lim cs.length)]) :: mq) m s (by simpa using h5) ⟨v,h2⟩
 obtain ⟨kv,k1,k2⟩:=r4 a _ hcd
 have hko:=Z1z hcd
 obtain ⟨l4,lin⟩:=hL.kids a ha
 rw [hko] at l4 lin
 have hg2:(encs (rcs cs V))[a * 4 + 2]? = some kv:=Z4e _ a 2 _ (Z3d hcd k1) (by decide)
 have hdr:v.drop i = a :: v.drop (i + 1):=by
  rw [List.drop_eq_getElem_cons hil]
  congr 1
  have:=List.getElem?_eq_getElem hil
  rw [hi] at this
  exact (Option.some.inj this).symm
 have hq0:∃ b pre,qv = .slice b pre.length (v.drop i).length (.opn 1)∧mq = [(b,C (ints (pre ++ nats (v.drop i))))]:=by
  rcases h1 with ⟨e,_⟩ | ⟨b,pre,e1,e2⟩
  ·rw [hdr] at e
   simp at e
  ·exact ⟨b,pre,by simpa using e1,e2⟩
 obtain ⟨bq,pre,rfl,rfl⟩:=hq0
 have hqc:s.cells bq = some (ints (pre ++ nats (v.drop i))):=h5.c 5 rfl
 have hqh:(ints (pre ++ nats (v.drop i)))[pre.length]? = some (.int .i64 a):=by
  unfold ints
  rw [List.getElem?_map,List.getElem?_append_right (Nat.le_refl _),Nat.sub_self,hdr]
  rfl
 have hlen1:0 < (v.drop i).length:=by rw [hdr]; simp
 have hlen0:(0:Int) < ((v.drop i).length:Int):=by omega
 clear hdr
 generalize hgd:v.drop i = g0 at h5 hqc hqh hlen0 hlen1
 obtain ⟨qcs,hqcs⟩:∃ x,x = ints (pre ++ nats g0):=⟨_,rfl⟩
 rw [← hqcs] at hqc hqh
 refine Z00 ?_
 have hkt:=k2.ntup
 have hkl:=k2.len
 simp [t3,t7,h5.c 4 rfl,h5.c 0 rfl,hqc,hqh,hlen0,hlen1,r2,hg2,ha,hkt,hkl]
 refine AM.wp_block ?_
 refine AM.wp_loop (fun k t s' => ∃ (j:Nat),j ≤ (Z29 cs a).length∧k = (Z29 cs a).length - j∧Fr [12,32,33,34,35,36,37,38,39,40,41,42] t0 t∧PT.get (posOf 39) t = some kv∧PT.get (posOf 40) t = some (.int .i64 (Z29 cs a).length)∧PT.get (posOf 41) t = some (.int .i64 j) ∧
   BrdI s0 W p cs.length base J (.fn f fx fy) B7 B6 Bm B4 B3 (Z0a v ((kidN cs a).take j)) ((Z0a v ((kidN cs a).take j)).drop i) s') (Z29 cs a).length
  ⟨0,by simp,by simp,?_,by simp,by simp [hko],by simp,by
   have:BrdI s0 W p cs.length base J (.fn f fx fy) B7 B6 Bm B4 B3 v g0 s:=⟨_,_,m,.inr ⟨bq,pre,by simp,rfl⟩,h2,h3,h4,h5⟩
   rw [← hgd] at this
   simpa [Z0a] using this⟩ ?_
 ·intro y hy
  simp at hy
  simp [hy]
 rintro k t s' ⟨j,hj,rfl,hF,t39,t40,t41,hI⟩
 refine Z00 ?_
 simp [t40,t41]
 refine AM.wp_seq ?_
 refine AM.Z03 ?_
 by_cases hlt:j < (Z29 cs a).length
 ·have hwr:IntKind.wrap .i64 ((j:Int) + 1) = ((j + 1:Nat):Int):=by rw [hko] at hlt; rw [IntWalk.i64_in _ (by omega)]; omega
  obtain ⟨kk,hkk⟩:∃ kk,(Z29 cs a)[j]? = some kk:=⟨_,List.getElem?_eq_getElem hlt⟩
  have hkm:=List.mem_of_getElem? hkk
  obtain ⟨kk0,kk1⟩:=lin kk (hko ▸ hkm)
  obtain ⟨kn,rfl⟩:∃ kn:Nat,kk = (kn:Int):=⟨kk.toNat,by omega⟩
  have hkN:(kidN cs a)[j]? = some kn:=by unfold kidN; rw [List.getElem?_map,hkk]; rfl
  have u8:=(hF 8 (by simp)).trans t8
  obtain ⟨qv2,mq2,m2,e1,e2,e3,e4,e5⟩:=hI
  obtain ⟨_,_,_,x4⟩:=hL.read ((B7,C [qv2]) :: (B6,C [.slice Bm 0 cs.length (.lim cs.length)]) :: (Bm,C (metL cs.length (Z0a v ((kidN cs a).take j)))) :: (B4,C [.fn f fx fy]) :: (B3,C [.slice p 0 cs.length (.lim cs.length)]) :: mq2) m2 s' (by simpa using e5) ⟨_,e2⟩
  obtain ⟨kv2,y1,y2⟩:=x4 a _ hcd
  rw [k1] at y1
  cases y1
  rw [← hko] at y2
  rcases y2 with ⟨_,h0⟩ | ⟨b,o,c,cells,rfl,hb,hcs,hle,hel⟩
  ·rw [h0] at hlt
   simp at hlt
  have hgk:=hel j _ hkk
  simp [hlt]
  refine AM.wp_skip ?_
  simp
  refine AM.wp_seq ?_
  refine AM.wp_block ?_
  refine Z00 ?_
  simp [t39,t41,hlt,hcs,hgk]
  refine AM.wp_region ?_
  simp [u8]
  have hglen:((Z0a v ((kidN cs a).take j)).drop i).length ≤ 1000:=by
   have:=Z2a e3 e4
   have hm:=hL.max
   rw [List.length_drop]
   omega
  refine Zmx (a:=kn) hL ⟨qv2,mq2,m2,e1,e2,e3,e4,e5⟩ hglen (by omega) fun s3 hI3 => ?_
  have hnx:=Zgq (v:=v) hkN
  have hil2:i ≤ (Z0a v ((kidN cs a).take j)).length:=by
   obtain ⟨w,hw⟩:=Z6f ((kidN cs a).take j) v
   rw [hw,List.length_append]
   omega
  have hdn:(addN (Z0a v ((kidN cs a).take j)) kn).drop i = if kn ∈ Z0a v ((kidN cs a).take j) then (Z0a v ((kidN cs a).take j)).drop i else (Z0a v ((kidN cs a).take j)).drop i ++ [kn]:=by
   unfold addN
   split
   ·rfl
   ·rw [List.drop_append_of_le_length hil2]
  rw [← hdn,← hnx] at hI3
  simp
  refine AM.wp_region ?_
  simp [t41,hwr]
  refine ⟨(Z29 cs a).length - (j + 1),by omega,j + 1,by omega,by omega,?_,by simp [t39],by simp [t40],by simp,hI3⟩
  intro y hy
  simp at hy
  simp [hy]
  exact hF y (by simp [hy])
 ·simp [hlt]
  refine AM.wp_exit ?_
  simp
  have hje:j = (Z29 cs a).length:=by omega
  subst hje
  have htk:(kidN cs a).take (Z29 cs a).length = kidN cs a:=List.take_of_length_le (by simp [kidN])
  rw [htk] at hI
  refine q _ s' ?_ hI
  intro y hy
  simp at hy
  simp [hy]
  exact hF y (by simp [hy])
end
section
variable {s0 s:St} {W:Pos→Prop} {p:Pos} {cs:List CV} {V:List AVal} {base m0:Lets} {rv:AVal} {roots:List Nat} {J:List Nat→Lets→Prop} {f:Nat} {fx fy:List AVal}
theorem Zic (K:Nat→List Nat):∀ (f:Nat) (v:List Nat) (i:Nat),∃ w,runB K f v i = v ++ w
 | 0,v,i => ⟨[],by simp [runB]⟩
 | f + 1,v,i => by
  unfold runB
  cases v[i]? with
  | none => exact ⟨[],by simp⟩
  | some a =>
   obtain ⟨w,h⟩:=Z6f (K a) v
   obtain ⟨w',h'⟩:=Zic K f (Z0a v (K a)) (i + 1)
   refine ⟨w ++ w',?_⟩
   show runB K f (Z0a v (K a)) (i + 1) = _
   rw [h',h,List.append_assoc]
theorem Zwv {fr:FI} {t0:PT AVal} {B7 B6 Bm B4 B3:Pos} {v:List Nat} {i:Nat} {Q:Ex→PT AVal→St→Prop} (hL:Leans s0 W p cs V base rv roots J (.fn f fx fy)) (h:BrdI s0 W p cs.length base J (.fn f fx fy) B7 B6 Bm B4 B3 v (v.drop i) s) (hi:i ≤ cs.length)
  (t3:PT.get (posOf 3) t0 = some (.ptr B3 0)) (t7:PT.get (posOf 7) t0 = some (.ptr B7 0)) (t8:PT.get (posOf 8) t0 = some (.fn 97 [] [.ptr B6 0,.ptr B7 0,.ptr B4 0]))
  (q:∀ t s',Fr [12,29,32,33,34,35,36,37,38,39,40,41,42] t0 t→BrdI s0 W p cs.length base J (.fn f fx fy) B7 B6 Bm B4 B3 (runB (kidN cs) (cs.length + 1 - i) v i) [] s'→Q .normal t s'):wp Tryd.prog Zt2 fr t0 s Q:=by
 refine AM.wp_block ?_
 refine AM.wp_loop (fun k t s' => ∃ (j:Nat) (u:List Nat),j ≤ cs.length∧k = cs.length + 1 - j∧Fr [12,29,32,33,34,35,36,37,38,39,40,41,42] t0 t∧runB (kidN cs) (cs.length + 1 - i) v i = runB (kidN cs) (cs.length + 1 - j) u j ∧
   BrdI s0 W p cs.length base J (.fn f fx fy) B7 B6 Bm B4 B3 u (u.drop j) s') (cs.length + 1 - i) ⟨i,v,hi,rfl,fun y _ => rfl,rfl,h⟩ ?_
 rintro k t s' ⟨j,u,hj,rfl,hF,hrun,hI⟩
 have u3:=(hF 3 (by simp)).trans t3
 have u7:=(hF 7 (by simp)).trans t7
 have u8:=(hF 8 (by simp)).trans t8
 obtain ⟨qv,mq,m,e1,e2,e3,e4,e5⟩:=id hI
 have hul:=Z2a e3 e4
 refine AM.wp_seq ?_
 refine Z00 ?_
 have hql:=e1.len
 have hqt:=e1.ntup
 rw [List.length_map,List.length_drop] at hql
 by_cases hlt:j < u.length
 ·have hpos:0 < u.length - j:=by omega
  obtain ⟨a,ha⟩:∃ a,u[j]? = some a:=⟨_,List.getElem?_eq_getElem hlt⟩
  simp [u7,e5.c 0 rfl,hql,hqt,hpos]
  refine AM.Z03 ?_
  simp
  refine AM.wp_skip ?_
  simp
  refine AM.wp_seq ?_
  refine AM.wp_block ?_
  refine Zv7 hL hI ha (by simp [u3]) (by simp [u7]) (by simp [u8]) fun t2 s2 hF2 hI2 => ?_
  obtain ⟨qv2,mq2,m2,g1,g2,g3,g4,g5⟩:=hI2
  have w7:PT.get (posOf 7) t2 = some (.ptr B7 0):=(hF2 7 (by simp)).trans (by simp [u7])
  obtain ⟨w,hw⟩:=Z6f (kidN cs a) u
  have hjl:j < (Z0a u (kidN cs a)).length:=by rw [hw,List.length_append]; omega
  have hdr:(Z0a u (kidN cs a)).drop j = (Z0a u (kidN cs a))[j] :: (Z0a u (kidN cs a)).drop (j + 1):=List.drop_eq_getElem_cons hjl
  have hq0:∃ b pre,qv2 = .slice b pre.length ((Z0a u (kidN cs a)).length - j) (.opn 1)∧mq2 = [(b,C (ints (pre ++ nats ((Z0a u (kidN cs a)).drop j))))]:=by
   rcases g1 with ⟨e,_⟩ | ⟨b,pre,e1,e2⟩
   ·have:=congrArg List.length e
    rw [List.length_map,List.length_drop] at this
    simp at this
    omega
   ·exact ⟨b,pre,by rw [List.length_map,List.length_drop] at e1; exact e1,e2⟩
  obtain ⟨b,pre,rfl,rfl⟩:=hq0
  simp
  refine AM.wp_region ?_
  simp [w7,g5.c 0 rfl]
  refine Zfr (a:=1) (b:=(Z0a u (kidN cs a)).length - j) (p:=b) (off:=pre.length) (n:=(Z0a u (kidN cs a)).length - j) (by simp) ⟨.i64,by simp⟩ rfl (by omega) (Nat.le_refl _) ?_
  simp [w7,g5.o 0 rfl]
  have c6:=g5.put 0 rfl (C [.slice b (pre.length + 1) ((Z0a u (kidN cs a)).length - j - 1) (.opn 1)])
  simp only [List.set_cons_zero] at c6
  refine ⟨cs.length + 1 - (j + 1),by omega,j + 1,by omega,rfl,?_,Z0a u (kidN cs a),?_,?_⟩
  ·intro y hy
   simp at hy
   rw [hF2 y (by simp [hy])]
   simp [hy]
   exact hF y (by simp [hy])
  ·rw [hrun,Zm0 hj ha]
  ·refine ⟨.slice b (pre.length + 1) ((Z0a u (kidN cs a)).length - j - 1) (.opn 1),_,m2,.inr ⟨b,pre ++ [(((Z0a u (kidN cs a))[j]:Nat):Int)],?_,rfl⟩,g2,g3,g4,?_⟩
   ·rw [List.length_map,List.length_drop,List.length_append,List.length_singleton]
    rfl
   ·have e:pre ++ [(((Z0a u (kidN cs a))[j]:Nat):Int)] ++ nats ((Z0a u (kidN cs a)).drop (j + 1)) = pre ++ nats ((Z0a u (kidN cs a)).drop j):=by
     rw [hdr,List.append_assoc]
     rfl
    rw [e]
    exact c6
 ·have hz:u.length - j = 0:=by omega
  have hd0:u.drop j = []:=List.drop_eq_nil_of_le (by omega)
  simp [u7,e5.c 0 rfl,hql,hqt,hz]
  refine AM.Z03 ?_
  simp
  refine AM.wp_exit ?_
  simp
  rw [hrun,Zlz (by omega)] at q
  rw [hd0] at hI
  refine q _ s' ?_ hI
  intro y hy
  simp at hy
  simp [hy]
  exact hF y (by simp [hy])
theorem Zsj {K:Nat→List Nat} {n:Nat} (hK:∀ a,a < n→∀ k ∈ K a,k < n):∀ (f:Nat) (v:List Nat) (i:Nat),v.Nodup→(∀ a ∈ v,a < n)→(runB K f v i).Nodup∧∀ a ∈ runB K f v i,a < n
 | 0,v,i,h1,h2 => ⟨h1,h2⟩
 | f + 1,v,i,h1,h2 => by
  unfold runB
  cases hv:v[i]? with
  | none => exact ⟨h1,h2⟩
  | some a =>
   obtain ⟨h3,h4⟩:=Zab h1 h2 (hK a (h2 a (List.mem_of_getElem? hv)))
   exact Zsj hK f _ _ h3 h4
theorem Zkw {Q:AVal→St→Prop} (hL:Leans s0 W p cs V base rv roots J (.fn f fx fy)) (hc:Ctx s0 W (m0 ++ base) s) (hJ:J [] m0) (hrt:∀ t,¬ rv = .tup t)
  (q:∀ (x m:Lets) s',J (bfsF (kidN cs) cs.length roots) m→Ctx s0 W (x ++ (m ++ base)) s'→Q (.tup []) s'):Z0f Tryd.prog 66 [.agg [.slice p 0 cs.length (.lim cs.length)],.fn f fx fy,rv] s Q:=by
 have hmax:=hL.max
 refine Z09 (Z0n (by decide)) fi66 rfl (by decide) rfl ?_
 refine Z00 ?_
 simp
 have c1:=hc.alloc (C [.slice p 0 cs.length (.lim cs.length)])
 generalize s.alloc (.cells [.slice p 0 cs.length (.lim cs.length)] false) = s1 at c1 ⊢
 generalize s.next = B3 at c1 ⊢
 have c2:=c1.alloc (C [.fn f fx fy])
 generalize s1.alloc (.cells [.fn f fx fy] false) = s2 at c2 ⊢
 generalize s1.next = B4 at c2 ⊢
 have hz1:cs.length ≤ Z0j:=by unfold Z0j; omega
 refine Z00 ?_
 simp [c2.c 1 rfl,hz1]
 have c3:=c2.alloc (C (List.replicate cs.length (.bool false)))
 generalize s2.alloc (.cells (List.replicate cs.length (.bool false)) false) = s3 at c3 ⊢
 generalize s2.next = Bm at c3 ⊢
 have c4:=(c3.alloc (C [.nilSlice])).put 0 rfl (C [.slice Bm 0 cs.length (.lim cs.length)])
 simp only [List.set_cons_zero] at c4
 generalize (s3.alloc (.cells [.nilSlice] false)).put s3.next (.cells [.slice Bm 0 cs.length (.lim cs.length)] false) = s4 at c4 ⊢
 generalize s3.next = B6 at c4 ⊢
 refine Z00 ?_
 simp
 have c5:=c4.alloc (C [.nilSlice])
 generalize s4.alloc (.cells [.nilSlice] false) = s5 at c5 ⊢
 generalize s4.next = B7 at c5 ⊢
 have hm0:List.replicate cs.length (AVal.bool false) = metL cs.length []:=by
  refine List.ext_getElem? fun j => ?_
  by_cases hj:j < cs.length
  ·rw [Z5s _ hj,List.getElem?_replicate,if_pos hj]
   simp
  ·rw [List.getElem?_eq_none (by simp; omega),List.getElem?_eq_none (by rw [Z3j]; omega)]
 rw [hm0] at c5
 have hI0:BrdI s0 W p cs.length base J (.fn f fx fy) B7 B6 Bm B4 B3 [] [] s5:=by
  refine ⟨.nilSlice,[],m0,.inl ⟨rfl,rfl,rfl⟩,hJ,by simp,by simp,c5.perm ?_⟩
  refine List.Perm.cons _ (List.Perm.cons _ (List.Perm.cons _ ?_))
  exact List.Perm.refl _
 refine Z00 ?_
 simp
 obtain ⟨_,_,hrv,_⟩:=hL.read [(B7,C [.nilSlice]),(B6,C [.slice Bm 0 cs.length (.lim cs.length)]),(Bm,C (metL cs.length [])),(B4,C [.fn f fx fy]),(B3,C [.slice p 0 cs.length (.lim cs.length)])] m0 s5 (by simpa using c5) ⟨_,hJ⟩
 have hrl:=hrv.len
 have hrlen:=hL.rlen
 rw [List.length_map] at hrl
 refine Z00 ?_
 simp [hrt,hrl]
 refine AM.wp_block ?_
 refine AM.wp_loop (fun k t s' => ∃ (j:Nat),j ≤ roots.length∧k = roots.length - j∧PT.get (posOf 3) t = some (.ptr B3 0)∧PT.get (posOf 7) t = some (.ptr B7 0)∧PT.get (posOf 8) t = some (.fn 97 [] [.ptr B6 0,.ptr B7 0,.ptr B4 0])∧PT.get (posOf 18) t = some rv∧PT.get (posOf 19) t = some (.int .i64 roots.length)∧PT.get (posOf 20) t = some (.int .i64 j) ∧
   BrdI s0 W p cs.length base J (.fn f fx fy) B7 B6 Bm B4 B3 (bfsF (kidN cs) cs.length (roots.take j)) [] s') roots.length
  ⟨0,by simp,by simp,by simp,by simp,by simp,by simp,by simp,by simp,by simpa [bfsF] using hI0⟩ ?_
 rintro k t s' ⟨j,hj,rfl,t3,t7,t8,t18,t19,t20,hI⟩
 refine Z00 ?_
 simp [t19,t20]
 refine AM.wp_seq ?_
 refine AM.Z03 ?_
 by_cases hlt:j < roots.length
 ·have hwr:IntKind.wrap .i64 ((j:Int) + 1) = ((j + 1:Nat):Int):=by rw [IntWalk.i64_in _ (by omega)]; omega
  obtain ⟨a,ha⟩:∃ a,roots[j]? = some a:=⟨_,List.getElem?_eq_getElem hlt⟩
  have han:=hL.roots_ok a (List.mem_of_getElem? ha)
  obtain ⟨qv,mq,m,e1,e2,e3,e4,e5⟩:=id hI
  obtain ⟨_,_,hrv',_⟩:=hL.read ((B7,C [qv]) :: (B6,C [.slice Bm 0 cs.length (.lim cs.length)]) :: (Bm,C (metL cs.length (bfsF (kidN cs) cs.length (roots.take j)))) :: (B4,C [.fn f fx fy]) :: (B3,C [.slice p 0 cs.length (.lim cs.length)]) :: mq) m s' (by simpa using e5) ⟨_,e2⟩
  rcases hrv' with ⟨_,h0⟩ | ⟨b,o,c,cells,rfl,hb,hcs,hle,hel⟩
  ·have:roots = []:=by simpa using h0
   rw [this] at hlt
   simp at hlt
  have hgk:=hel j (a:Int) (by rw [List.getElem?_map,ha]; rfl)
  rw [List.length_map] at t18
  simp [hlt]
  refine AM.wp_skip ?_
  simp
  refine AM.wp_seq ?_
  refine AM.wp_block ?_
  refine Z00 ?_
  simp [t18,t20,hlt,hcs,hgk]
  refine Z00 ?_
  simp [t8]
  refine Zmx (a:=a) hL hI (by simp) han fun s2 hI2 => ?_
  have hul:=Z2a e3 e4
  have hdn:(addN (bfsF (kidN cs) cs.length (roots.take j)) a).drop (bfsF (kidN cs) cs.length (roots.take j)).length = if a ∈ bfsF (kidN cs) cs.length (roots.take j) then [] else [] ++ [a]:=by
   unfold addN
   split
   ·exact List.drop_eq_nil_of_le (Nat.le_refl _)
   ·rw [List.drop_left]
    rfl
  rw [← hdn] at hI2
  simp
  refine Zwv hL hI2 hul (by simp [t3]) (by simp [t7]) (by simp [t8]) fun t3' s3 hF3 hI3 => ?_
  have hfin:runB (kidN cs) (cs.length + 1 - (bfsF (kidN cs) cs.length (roots.take j)).length) (addN (bfsF (kidN cs) cs.length (roots.take j)) a) (bfsF (kidN cs) cs.length (roots.take j)).length = bfsF (kidN cs) cs.length (roots.take (j + 1)):=by
   unfold bfsF
   rw [List.take_add_one,ha,List.foldl_append]
   rfl
  rw [hfin] at hI3
  simp
  have w20:=(hF3 20 (by simp))
  simp [t20] at w20
  refine AM.wp_region ?_
  simp [w20,hwr]
  refine ⟨roots.length - (j + 1),by omega,j + 1,by omega,by omega,?_,?_,?_,?_,?_,rfl,hI3⟩
  ·rw [hF3 3 (by simp)]
   simp [t3]
  ·rw [hF3 7 (by simp)]
   simp [t7]
  ·rw [hF3 8 (by simp)]
   simp [t8]
  ·rw [hF3 18 (by simp)]
   simp [t18]
  ·rw [hF3 19 (by simp)]
   simp [t19]
 ·simp [hlt]
  refine AM.wp_exit ?_
  simp
  have hje:j = roots.length:=by omega
  subst hje
  rw [List.take_length] at hI
  obtain ⟨qv,mq,m,e1,e2,e3,e4,e5⟩:=hI
  exact q ((B7,C [qv]) :: (B6,C [.slice Bm 0 cs.length (.lim cs.length)]) :: (Bm,C (metL cs.length (bfsF (kidN cs) cs.length roots))) :: (B4,C [.fn f fx fy]) :: (B3,C [.slice p 0 cs.length (.lim cs.length)]) :: mq) m s' e2 (by simpa using e5)
end
theorem Ze4 {s0 s:St} {W:Pos→Prop} {hb:Pos} {vs:AVal} {cs:List CV} {m r:Lets} (hH:Z3s hb vs cs m) (h:Ctx s0 W (m ++ r) s):∃ p V mr,Ctx s0 W ((hb,C [.slice p 0 cs.length (.lim cs.length),vs]) :: (p,C (encs (rcs cs V))) :: (mr ++ r)) s∧Z14 (cs.map CV.kids) V mr∧V.length = cs.length∧1 ≤ cs.length∧cs.length ≤ 400 ∧
  m.Perm ((hb,C [.slice p 0 cs.length (.lim cs.length),vs]) :: (p,C (encs (rcs cs V))) :: mr):=by
 obtain ⟨p,V,mr,hp,hR,h1,h4⟩:=hH
 refine ⟨p,V,mr,h.perm ?_,hR,by simpa using hR.len,h1,h4,hp⟩
 simpa using hp.append (List.Perm.refl r)
def setH (cs:List CV) (k:Nat) (x:Int):List CV:=match cs[k]? with
 | some c => cs.set k { c with held:=x }
 | none => cs
theorem Z9t (cs:List CV) (k:Nat) (x:Int):(setH cs k x).length = cs.length:=by
 unfold setH
 split <;> simp
theorem Zm2 (cs:List CV) (k:Nat) (x:Int):(setH cs k x).map CV.kids = cs.map CV.kids:=by
 unfold setH
 split
 ·rename_i c hc
  rw [List.map_set]
  refine List.ext_getElem? fun j => ?_
  rw [List.getElem?_set]
  split
  ·rename_i e
   subst e
   have:=(List.getElem?_eq_some_iff.1 hc).1
   rw [if_pos (by simpa using this),List.getElem?_map,hc]
   rfl
  ·rfl
 ·rfl
theorem Zoa {cs:List CV} {V:List AVal} {k:Nat} {c:CV} {kv:AVal} (hc:cs[k]? = some c) (hv:V[k]? = some kv) (x:Int):(rcs cs V).set k { taken:=c.taken,name:=c.name,kv:=kv,held:=x } = rcs (setH cs k x) V:=by
 unfold setH
 rw [hc]
 simp only
 have hV:V.set k kv = V:=by
  refine List.ext_getElem? fun y => ?_
  rw [List.getElem?_set]
  by_cases e:k = y
  ·subst e
   rw [if_pos rfl,hv,if_pos (List.getElem?_eq_some_iff.1 hv).1]
  ·rw [if_neg e]
 have:=Zda (cs:=cs) (V:=V) (i:=k) (d:={ c with held:=x }) (kv:=kv)
 rw [hV] at this
 exact this
def Z73 (cs:List CV) (i:Int):Int × List CV :=
 if Z06 cs i = false then (1,cs) else match cs[i.toNat]? with
  | some c => if c.held = 1000 then (12,cs) else (0,setH cs i.toNat (IntKind.wrap .i64 (c.held + 1)))
  | none => (1,cs)
def Z7n (cs:List CV) (i:Int):Int × List CV :=
 if Z06 cs i = false then (1,cs) else match cs[i.toNat]? with
  | some c => if c.held = 0 then (6,cs) else (0,setH cs i.toNat (IntKind.wrap .i64 (c.held - 1)))
  | none => (1,cs)
section
variable {s0 s:St} {W:Pos→Prop} {hb:Pos} {vs:AVal} {cs:List CV} {m r:Lets} {Q:AVal→St→Prop}
theorem Zkq {p:Pos} {V:List AVal} {i:Int} (hw:s.Old p) (hc:s.cells p = some (encs (rcs cs V))) (hV:V.length = cs.length) (q:∀ s',Keeps s s'→Q (.bool (Z06 cs i)) s'):Z0f Tryd.prog 46 [.agg [.slice p 0 cs.length (.lim cs.length)],.int .i64 i] s Q :=
 Zwm hw hc (Z34 hV) (by rw [Zux hV]; exact q)
theorem hold_c {i:Int} (hH:Z3s hb vs cs m) (h:Ctx s0 W (m ++ r) s)
  (q:∀ m' s',Z3s hb vs (Z73 cs i).2 m'→Ctx s0 W (m' ++ r) s'→Q (.int .i64 (Z73 cs i).1) s'):Z0f Tryd.prog 27 [.ptr hb 0,.int .i64 i] s Q:=by
 obtain ⟨p,V,mr,hc,hR,hV,h1,h4⟩:=Zcd hH h
 have hno:cs.length ≠ 0:=by omega
 refine Z09 (Z0n (by decide)) fi27 rfl (by decide) rfl ?_
 refine Z00 ?_
 simp
 refine AM.wp_seq ?_
 refine AM.wp_block ?_
 refine Z00 ?_
 simp
 refine Z05 ?_
 refine Z9v (hc.c 0 rfl) rfl hno ?_
 simp
 refine AM.Z03 ?_
 simp
 refine Z00 ?_
 simp [hc.c 0 rfl]
 refine Z05 ?_
 refine Zkq (hc.oi 1 rfl) (hc.c 1 rfl) hV fun s1 k1 => ?_
 have c1:=hc.keeps k1
 cases ht:Z06 cs i with
 | false =>
  have:Z73 cs i = (1,cs):=by unfold Z73; rw [if_pos ht]
  rw [this] at q
  simp
  refine AM.Z03 ?_
  simp
  refine Z00 ?_
  simp
  refine AM.wp_ret ?_
  simp
  exact q _ _ (Z6e hR h1 h4) c1
 | true =>
  obtain ⟨h0,d,hd,_,hlt⟩:=Z21 ht
  obtain ⟨kv,hkv⟩:∃ kv,V[i.toNat]? = some kv:=⟨_,List.getElem?_eq_getElem (by omega)⟩
  have hrg:=Z3d hd hkv
  have hg3:(encs (rcs cs V))[i.toNat * 4 + 3]? = some (.int .i64 d.held):=Z4e _ i.toNat 3 _ hrg (by decide)
  have hil:i < cs.length:=by omega
  simp
  refine AM.Z03 ?_
  simp
  refine Z00 ?_
  simp [c1.c 0 rfl,c1.c 1 rfl,h0,hil,hg3]
  refine AM.Z03 ?_
  by_cases he:d.held = 1000
  ·have:Z73 cs i = (12,cs):=by unfold Z73; rw [if_neg (by simp [ht]),hd]; simp only; rw [if_pos he]
   rw [this] at q
   simp [he]
   refine Z00 ?_
   simp
   refine AM.wp_ret ?_
   simp
   exact q _ _ (Z6e hR h1 h4) c1
  ·have:Z73 cs i = (0,setH cs i.toNat (IntKind.wrap .i64 (d.held + 1))):=by unfold Z73; rw [if_neg (by simp [ht]),hd]; simp only; rw [if_neg he]
   rw [this] at q
   have hlay:=Zf1 _ i.toNat _ (IntKind.wrap .i64 (d.held + 1)) hrg
   rw [Zoa hd hkv] at hlay
   have hle:i.toNat * 4 + 3 + 1 ≤ (encs (rcs cs V)).length:=by rw [Z4f,Z34 hV]; omega
   simp [lay] at hlay
   simp [he]
   refine AM.wp_skip ?_
   simp
   refine Z00 ?_
   simp [c1.c 0 rfl,c1.c 1 rfl,c1.o 1 rfl,h0,hil,hg3,hle]
   rw [hlay]
   have c2:=c1.put 1 rfl (C (encs (rcs (setH cs i.toNat (IntKind.wrap .i64 (d.held + 1))) V)))
   simp only [List.set_cons_succ,List.set_cons_zero] at c2
   refine Z00 ?_
   simp
   refine AM.wp_ret ?_
   simp
   have hl:=Z9t cs i.toNat (IntKind.wrap .i64 (d.held + 1))
   refine q _ _ (Z6e (p:=p) (V:=V) (mr:=mr) (by rw [Zm2]; exact hR) (by simpa [hl] using h1) (by simpa [hl] using h4)) ?_
   rw [hl]
   exact c2
theorem Zti {i:Int} (hH:Z3s hb vs cs m) (h:Ctx s0 W (m ++ r) s)
  (q:∀ m' s',Z3s hb vs (Z7n cs i).2 m'→Ctx s0 W (m' ++ r) s'→Q (.int .i64 (Z7n cs i).1) s'):Z0f Tryd.prog 31 [.ptr hb 0,.int .i64 i] s Q:=by
 obtain ⟨p,V,mr,hc,hR,hV,h1,h4⟩:=Zcd hH h
 have hno:cs.length ≠ 0:=by omega
 refine Z09 (Z0n (by decide)) fi31 rfl (by decide) rfl ?_
 refine Z00 ?_
 simp
 refine AM.wp_seq ?_
 refine AM.wp_block ?_
 refine Z00 ?_
 simp
 refine Z05 ?_
 refine Z9v (hc.c 0 rfl) rfl hno ?_
 simp
 refine AM.Z03 ?_
 simp
 refine Z00 ?_
 simp [hc.c 0 rfl]
 refine Z05 ?_
 refine Zkq (hc.oi 1 rfl) (hc.c 1 rfl) hV fun s1 k1 => ?_
 have c1:=hc.keeps k1
 cases ht:Z06 cs i with
 | false =>
  have:Z7n cs i = (1,cs):=by unfold Z7n; rw [if_pos ht]
  rw [this] at q
  simp
  refine AM.Z03 ?_
  simp
  refine Z00 ?_
  simp
  refine AM.wp_ret ?_
  simp
  exact q _ _ (Z6e hR h1 h4) c1
 | true =>
  obtain ⟨h0,d,hd,_,hlt⟩:=Z21 ht
  obtain ⟨kv,hkv⟩:∃ kv,V[i.toNat]? = some kv:=⟨_,List.getElem?_eq_getElem (by omega)⟩
  have hrg:=Z3d hd hkv
  have hg3:(encs (rcs cs V))[i.toNat * 4 + 3]? = some (.int .i64 d.held):=Z4e _ i.toNat 3 _ hrg (by decide)
  have hil:i < cs.length:=by omega
  simp
  refine AM.Z03 ?_
  simp
  refine Z00 ?_
  simp [c1.c 0 rfl,c1.c 1 rfl,h0,hil,hg3]
  refine AM.Z03 ?_
  by_cases he:d.held = 0
  ·have:Z7n cs i = (6,cs):=by unfold Z7n; rw [if_neg (by simp [ht]),hd]; simp only; rw [if_pos he]
   rw [this] at q
   simp [he]
   refine Z00 ?_
   simp
   refine AM.wp_ret ?_
   simp
   exact q _ _ (Z6e hR h1 h4) c1
  ·have:Z7n cs i = (0,setH cs i.toNat (IntKind.wrap .i64 (d.held - 1))):=by unfold Z7n; rw [if_neg (by simp [ht]),hd]; simp only; rw [if_neg he]
   rw [this] at q
   have hlay:=Zf1 _ i.toNat _ (IntKind.wrap .i64 (d.held - 1)) hrg
   rw [Zoa hd hkv] at hlay
   have hle:i.toNat * 4 + 3 + 1 ≤ (encs (rcs cs V)).length:=by rw [Z4f,Z34 hV]; omega
   simp [lay] at hlay
   simp [he]
   refine AM.wp_skip ?_
   simp
   refine Z00 ?_
   simp [c1.c 0 rfl,c1.c 1 rfl,c1.o 1 rfl,h0,hil,hg3,hle]
   rw [hlay]
   have c2:=c1.put 1 rfl (C (encs (rcs (setH cs i.toNat (IntKind.wrap .i64 (d.held - 1))) V)))
   simp only [List.set_cons_succ,List.set_cons_zero] at c2
   refine Z00 ?_
   simp
   refine AM.wp_ret ?_
   simp
   have hl:=Z9t cs i.toNat (IntKind.wrap .i64 (d.held - 1))
   refine q _ _ (Z6e (p:=p) (V:=V) (mr:=mr) (by rw [Zm2]; exact hR) (by simpa [hl] using h1) (by simpa [hl] using h4)) ?_
   rw [hl]
   exact c2
theorem free_c (hH:Z3s hb vs cs m) (h:Ctx s0 W (m ++ r) s)
  (q:∀ s',Ctx s0 W (m ++ r) s'→Q (.int .i64 ((cs.length - Z15 cs:Nat):Int)) s'):Z0f Tryd.prog 18 [.ptr hb 0] s Q:=by
 obtain ⟨p,V,mr,hc,hR,hV,h1,h4⟩:=Zcd hH h
 have hno:cs.length ≠ 0:=by omega
 have hsz:Z15 cs ≤ cs.length:=List.countP_le_length
 have hwr:IntKind.wrap .i64 ((cs.length:Int) - (Z15 cs:Int)) = ((cs.length - Z15 cs:Nat):Int):=by rw [IntWalk.i64_in _ (by omega)]; omega
 refine Z09 (Z0n (by decide)) fi18 rfl (by decide) rfl ?_
 refine Z00 ?_
 simp
 refine AM.wp_seq ?_
 refine Z00 ?_
 simp
 refine Z05 ?_
 refine Z9v (hc.c 0 rfl) rfl hno ?_
 simp
 refine AM.Z03 ?_
 simp
 refine AM.wp_skip ?_
 simp
 refine Z00 ?_
 simp [hc.c 0 rfl]
 refine Z05 ?_
 refine Zqc (Zla hc hV h1 h4) fun s1 k1 => ?_
 have c1:=hc.keeps k1
 rw [Zjv,Zif hV]
 simp [c1.c 0 rfl,Zf2,hwr]
 refine AM.wp_ret ?_
 simp
 have:=q s1 (h.keeps k1)
 simpa using this
def Z2q (cs:List CV) (i:Nat):List Int:=((Z17 cs i).filter fun j => match cs[j]? with | some c => decide (0 < c.held) | none => false).map fun (j:Nat) => (j:Int)
theorem Zr6 {cs:List CV} {i:Nat} {c:CV} (h:cs[i]? = some c) (ht:c.taken = true):Z2q cs (i + 1) = Z2q cs i ++ (if 0 < c.held then [(i:Int)] else []):=by
 unfold Z2q
 rw [Zh3 h ht,List.filter_append]
 by_cases hh:0 < c.held <;> simp [h,hh]
theorem Zr7 {cs:List CV} {i:Nat} {c:CV} (h:cs[i]? = some c) (ht:c.taken = false):Z2q cs (i + 1) = Z2q cs i:=by
 unfold Z2q
 rw [Zh4 h ht]
theorem Zlb (cs:List CV) (i:Nat):(Z2q cs i).length ≤ i:=by
 unfold Z2q Z17
 rw [List.length_map]
 refine Nat.le_trans (List.length_filter_le _ _) (Nat.le_trans (List.length_filter_le _ _) (by simp))
theorem Zyz {p:Pos} {V:List AVal} {base:Lets} (hc:Ctx s0 W base s) (hV:V.length = cs.length) (h4:cs.length ≤ 400) (hp:∀ x s',Ctx s0 W (x ++ base) s'→s'.Old p∧s'.cells p = some (encs (rcs cs V)))
  (q:∀ lv mg x s',Z1a lv (Z2q cs cs.length) mg→Ctx s0 W (x ++ (mg ++ base)) s'→Q lv s'):Z0f Tryd.prog 75 [.agg [.slice p 0 cs.length (.lim cs.length)]] s Q:=by
 have hl:=Z34 hV
 refine Z09 (Z0n (by decide)) fi75 rfl (by decide) rfl ?_
 refine Z00 ?_
 simp
 have c1:=hc.alloc (C [.slice p 0 cs.length (.lim cs.length)])
 generalize s.alloc (.cells [.slice p 0 cs.length (.lim cs.length)] false) = s1 at c1 ⊢
 generalize s.next = B1 at c1 ⊢
 refine Z00 ?_
 simp
 have c2:=c1.alloc (C [.nilSlice])
 generalize s1.alloc (.cells [.nilSlice] false) = s2 at c2 ⊢
 generalize s1.next = B3 at c2 ⊢
 refine AM.wp_seq ?_
 refine Z00 ?_
 simp [c2.c 1 rfl]
 refine Z05 ?_
 refine Zee fun BB hBB => ?_
 have c3:=c2.alloc (C [.slice p 0 cs.length (.lim cs.length)])
 rw [← hBB] at c3
 generalize s2.alloc (.cells [.slice p 0 cs.length (.lim cs.length)] false) = s3 at c3 ⊢
 simp
 refine AM.wp_block ?_
 refine Zek (B:=BB) (p:=p) (l:=rcs cs V) (J:=fun i m => ∃ lv mg,Z1a lv (Z2q cs i) mg∧m = (B3,C [lv]) :: (B1,C [.slice p 0 cs.length (.lim cs.length)]) :: (mg ++ base))
  hl h4 (by simp) rfl fi75 rfl ?_ ?_ ?_ ⟨.nilSlice,[],.inl ⟨rfl,rfl,rfl⟩,rfl⟩ c3 ?_
 ·rintro i m s' ⟨lv,mg,hg,rfl⟩ hc'
  exact hp ((B3,C [lv]) :: (B1,C [.slice p 0 cs.length (.lim cs.length)]) :: mg) s' (by simpa using hc')
 ·rintro i c m hci hct ⟨lv,mg,hg,rfl⟩
  have hi:i < cs.length:=by have:=(List.getElem?_eq_some_iff.1 hci).1; rwa [hl] at this
  rw [Z3d (List.getElem?_eq_getElem hi) (List.getElem?_eq_getElem (show i < V.length by omega))] at hci
  cases hci
  exact ⟨lv,mg,by rw [Zr7 (List.getElem?_eq_getElem hi) hct]; exact hg,rfl⟩
 ·rintro i c s' m Lb X Wx hci hct ⟨lv,mg,hg,rfl⟩ hc' hW
  have hi:i < cs.length:=by have:=(List.getElem?_eq_some_iff.1 hci).1; rwa [hl] at this
  obtain ⟨_,hpc⟩:=hp ((Lb,X) :: (BB,C [.slice p 0 cs.length (.lim cs.length)]) :: (B3,C [lv]) :: (B1,C [.slice p 0 cs.length (.lim cs.length)]) :: mg) s' (by simpa using hc')
  have hg3:(encs (rcs cs V))[i * 4 + 3]? = some (.int .i64 c.held):=Z4e _ i 3 _ hci (by decide)
  rw [Z3d (List.getElem?_eq_getElem hi) (List.getElem?_eq_getElem (show i < V.length by omega))] at hci
  have hnx:=Zr6 (List.getElem?_eq_getElem hi) (by cases hci; exact hct)
  have hhe:cs[i].held = c.held:=by cases hci; rfl
  rw [hhe] at hnx
  refine AM.wp_block ?_
  refine Z00 ?_
  simp [hc'.c 3 rfl,hi,hpc,hg3]
  refine AM.Z03 ?_
  by_cases hh:0 < c.held
  ·rw [if_pos hh] at hnx
   simp [hh]
   refine AM.wp_region ?_
   simp [hc'.c 2 rfl,hg.ntup,hg.cells,Z13,srcP]
   have d2:=hc'.alloc (C [.int .i64 i])
   generalize s'.alloc (.cells [.int .i64 i] false) = sB at d2 ⊢
   generalize s'.next = T at d2 ⊢
   have hgl:=Zlb cs i
   refine Z4t (pre:=[(T,C [.int .i64 i]),(Lb,X),(BB,C [.slice p 0 cs.length (.lim cs.length)]),(B3,C [lv]),(B1,C [.slice p 0 cs.length (.lim cs.length)])]) d2 hg (by omega) fun lv' mg' sC hg' d3 => ?_
   simp at d3
   rw [← hnx] at hg'
   simp [hg'.ntup,hg'.cells,d3.o 3 rfl]
   have d4:=(d3.put 3 rfl (C [lv'])).tail
   exact hW _ _ _ ⟨lv',mg',hg',rfl⟩ d4
  ·rw [if_neg hh,List.append_nil] at hnx
   simp [hh]
   refine AM.wp_skip ?_
   simp
   refine hW _ _ _ ⟨lv,mg,by rw [hnx]; exact hg,rfl⟩ hc'
 ·rintro s' m ⟨lv,mg,hg,rfl⟩ hc'
  simp
  refine Z00 ?_
  simp [hc'.c 0 rfl,hg.ntup]
  refine AM.wp_ret ?_
  simp
  exact q lv mg [(B3,C [lv]),(B1,C [.slice p 0 cs.length (.lim cs.length)])] s' hg (by simpa using hc')
end
theorem Zhg {K:Nat→List Nat} {n:Nat} (hK:∀ a,a < n→∀ k ∈ K a,k < n):∀ (f:Nat) (v:List Nat) (i:Nat),v.Nodup→(∀ a ∈ v,a < n)→n + 1 ≤ i + f→(∀ j a,j < i→v[j]? = some a→∀ k ∈ K a,k ∈ v) →
  ∀ a ∈ runB K f v i,∀ k ∈ K a,k ∈ runB K f v i
 | 0,v,i,h1,h2,h3,h4 => by
  intro a ha k hk
  have hl:=Z2a h1 h2
  obtain ⟨j,hj⟩:=List.getElem?_of_mem ha
  have hjl:=(List.getElem?_eq_some_iff.1 hj).1
  simp only [runB] at hj hjl
  exact h4 j a (by omega) hj k hk
 | f + 1,v,i,h1,h2,h3,h4 => by
  unfold runB
  cases hv:v[i]? with
  | none =>
   intro a ha k hk
   obtain ⟨j,hj⟩:=List.getElem?_of_mem ha
   have hjl:=(List.getElem?_eq_some_iff.1 hj).1
   have hil:=List.getElem?_eq_none_iff.1 hv
   exact h4 j a (by simp only at hjl; omega) hj k hk
  | some b =>
   have hb:=h2 b (List.mem_of_getElem? hv)
   obtain ⟨h5,h6⟩:=Zab h1 h2 (hK b hb)
   refine Zhg hK f (Z0a v (K b)) (i + 1) h5 h6 (by omega) ?_
   intro j a hj ha k hk
   obtain ⟨w,hw⟩:=Z6f (K b) v
   have hil:=(List.getElem?_eq_some_iff.1 hv).1
   by_cases e:j = i
   ·subst e
    have hab:a = b:=by
     rw [hw,List.getElem?_append_left hil,hv] at ha
     exact (Option.some.inj ha).symm
    subst hab
    have key:∀ (ks v:List Nat) (k:Nat),k ∈ ks→k ∈ Z0a v ks:=by
     intro ks
     induction ks with
     | nil => intro v k h; cases h
     | cons x ks ih =>
      intro v k h
      show k ∈ Z0a (addN v x) ks
      rcases List.mem_cons.1 h with rfl | h
      ·obtain ⟨w',hw'⟩:=Z6f ks (addN v k)
       rw [hw']
       refine List.mem_append_left _ ?_
       unfold addN
       split
       ·assumption
       ·simp
      ·exact ih _ _ h
    exact key _ _ _ hk
   ·have ha':v[j]? = some a:=by
     rw [hw,List.getElem?_append_left (by omega)] at ha
     exact ha
    have:=h4 j a (by omega) ha' k hk
    rw [hw]
    exact List.mem_append_left _ this
theorem Zib {K:Nat→List Nat} {P:Nat→Prop} (hP:∀ a,P a→∀ k ∈ K a,P k):∀ (f:Nat) (v:List Nat) (i:Nat),(∀ a ∈ v,P a)→∀ a ∈ runB K f v i,P a
 | 0,v,i,h => h
 | f + 1,v,i,h => by
  unfold runB
  cases hv:v[i]? with
  | none => exact h
  | some b =>
   refine Zib hP f _ _ ?_
   have hb:=h b (List.mem_of_getElem? hv)
   have key:∀ (ks v:List Nat),(∀ a ∈ v,P a)→(∀ k ∈ ks,P k)→∀ a ∈ Z0a v ks,P a:=by
    intro ks
    induction ks with
    | nil => intro v h _; exact h
    | cons x ks ih =>
     intro v h h'
     refine ih (addN v x) ?_ (fun k hk => h' k (by simp [hk]))
     unfold addN
     split
     ·exact h
     ·intro a ha
      rcases List.mem_append.1 ha with ha | ha
      ·exact h a ha
      ·simp at ha
       rw [ha]
       exact h' x (by simp)
   exact key _ _ h (hP b hb)
theorem Zdm {K:Nat→List Nat} {n:Nat} (hK:∀ a,a < n→∀ k ∈ K a,k < n):∀ (roots:List Nat),(∀ r ∈ roots,r < n) →
  (bfsF K n roots).Nodup∧(∀ a ∈ bfsF K n roots,a < n)∧(∀ a ∈ bfsF K n roots,∀ k ∈ K a,k ∈ bfsF K n roots)∧(∀ r ∈ roots,r ∈ bfsF K n roots)∧∀ (P:Nat→Prop),(∀ a,P a→∀ k ∈ K a,P k)→(∀ r ∈ roots,P r)→∀ a ∈ bfsF K n roots,P a:=by
 have step:∀ (roots done v:List Nat),v.Nodup→(∀ a ∈ v,a < n)→(∀ a ∈ v,∀ k ∈ K a,k ∈ v)→(∀ r ∈ done,r ∈ v)→(∀ r ∈ roots,r < n)→(∀ (P:Nat→Prop),(∀ a,P a→∀ k ∈ K a,P k)→(∀ r ∈ done,P r)→∀ a ∈ v,P a) →
   (roots.foldl (fun v r => runB K (n + 1 - v.length) (addN v r) v.length) v).Nodup∧(∀ a ∈ roots.foldl (fun v r => runB K (n + 1 - v.length) (addN v r) v.length) v,a < n)∧(∀ a ∈ roots.foldl (fun v r => runB K (n + 1 - v.length) (addN v r) v.length) v,∀ k ∈ K a,k ∈ roots.foldl (fun v r => runB K (n + 1 - v.length) (addN v r) v.length) v) ∧
   (∀ r ∈ done ++ roots,r ∈ roots.foldl (fun v r => runB K (n + 1 - v.length) (addN v r) v.length) v)∧∀ (P:Nat→Prop),(∀ a,P a→∀ k ∈ K a,P k)→(∀ r ∈ done ++ roots,P r)→∀ a ∈ roots.foldl (fun v r => runB K (n + 1 - v.length) (addN v r) v.length) v,P a:=by
  intro roots
  induction roots with
  | nil =>
   intro done v h1 h2 h3 h4 _ h6
   exact ⟨h1,h2,h3,by simpa using h4,fun P hP hr => h6 P hP (by simpa using hr)⟩
  | cons r roots ih =>
   intro done v h1 h2 h3 h4 h5 h6
   have hr:=h5 r (by simp)
   have hl:=Z2a h1 h2
   have a1:=Z8v (k:=r) h1
   have a2:=Zcx h2 hr
   obtain ⟨b1,b2⟩:=Zsj hK (n + 1 - v.length) (addN v r) v.length a1 a2
   have b3:=Zhg hK (n + 1 - v.length) (addN v r) v.length a1 a2 (by omega) (by
    intro j a hj ha k hk
    obtain ⟨w,hw⟩:=Zmr v r
    rw [hw,List.getElem?_append_left hj] at ha
    rw [hw]
    exact List.mem_append_left _ (h3 a (List.mem_of_getElem? ha) k hk))
   obtain ⟨w,hw⟩:=Zic K (n + 1 - v.length) (addN v r) v.length
   have hrm:r ∈ addN v r:=by
    unfold addN
    split
    ·assumption
    ·simp
   have:=ih (done ++ [r]) (runB K (n + 1 - v.length) (addN v r) v.length) b1 b2 b3 (by
    intro x hx
    rw [hw]
    refine List.mem_append_left _ ?_
    rcases List.mem_append.1 hx with hx | hx
    ·exact Zv2 (h4 x hx)
    ·simp at hx
     rw [hx]
     exact hrm) (fun x hx => h5 x (by simp [hx])) (by
    intro P hP hd
    refine Zib hP _ _ _ ?_
    have hv:=h6 P hP (fun x hx => hd x (by simp [hx]))
    unfold addN
    split
    ·exact hv
    ·intro a ha
     rcases List.mem_append.1 ha with ha | ha
     ·exact hv a ha
     ·simp at ha
      rw [ha]
      exact hd r (by simp))
   simpa using this
 intro roots hr
 have:=step roots [] [] (by simp) (by simp) (by simp) (by simp) hr (by simp)
 simpa [bfsF] using this
def Z3y (cls:List Int) (nd:ND):ND:=(nd.1,nd.2.map fun k => (cls[k.toNat]?).getD 0)
def Z2e (cls:List Int) (nds:List ND) (out:List ND) (a:Nat):List ND:=match cls[a]?,nds[a]? with
 | some c,some nd => if c < out.length then out else out ++ [Z3y cls nd]
 | _,_ => out
def outF (cls:List Int) (nds:List ND) (l:List Nat):List ND:=l.foldl (Z2e cls nds) []
noncomputable def Z44 (cs:List CV) (i:Nat):List ND:=outF (clsF (Z0d cs) (bfsF (kidN cs) cs.length [i])) (Z0d cs) (bfsF (kidN cs) cs.length [i])
noncomputable def getF (cs:List CV) (i:Int):Int × List ND :=
 if Z06 cs i = false then (1,[]) else if 60 < (Z44 cs i.toNat).length then (2,[]) else (0,Z44 cs i.toNat)
theorem Zkc {cs:List CV} (h:HOk cs) {a:Nat} (ha:Z06 cs (a:Int) = true):∀ k ∈ kidN cs a,Z06 cs (k:Int) = true:=by
 obtain ⟨_,d,hd,ht,_⟩:=Z21 ha
 rw [Int.toNat_natCast] at hd
 intro k hk
 unfold kidN at hk
 rw [Z1z hd] at hk
 obtain ⟨x,hx,rfl⟩:=List.mem_map.1 hk
 have h1:=h.kids d (List.mem_of_getElem? hd) ht x hx
 have h0:=(Z21 h1).1
 rw [Int.toNat_of_nonneg h0]
 exact h1
theorem Z2b {cs:List CV} {k:Nat} (h:Z06 cs (k:Int) = true):k < cs.length:=by
 obtain ⟨_,_,_,_,hlt⟩:=Z21 h
 simpa using hlt
structure HOk2 (cs:List CV):Prop extends HOk cs where
 free:∀ c ∈ cs,c.taken = false→c.kids = []
theorem HOk2.Zpz {cs:List CV} (h:HOk2 cs):∀ a,a < cs.length→∀ k ∈ kidN cs a,k < cs.length:=by
 intro a ha k hk
 have hd:cs[a]? = some cs[a]:=List.getElem?_eq_getElem ha
 cases ht:cs[a].taken with
 | true => exact Z2b (Zkc h.toHOk (by rw [Z1g hd]; exact ht) k hk)
 | false =>
  unfold kidN at hk
  rw [Z1z hd,h.free _ (List.getElem_mem ha) ht] at hk
  simp at hk
theorem Z8w {cs:List CV} (h:HOk2 cs) {roots:List Nat} (hr:∀ r ∈ roots,Z06 cs (r:Int) = true):Closed (Z0d cs) (bfsF (kidN cs) cs.length roots)∧(bfsF (kidN cs) cs.length roots).Nodup∧(∀ a ∈ bfsF (kidN cs) cs.length roots,Z06 cs (a:Int) = true)∧∀ r ∈ roots,r ∈ bfsF (kidN cs) cs.length roots:=by
 obtain ⟨h1,h2,h3,h4,h5⟩:=Zdm (n:=cs.length) (h.Zpz) roots (fun r hx => Z2b (hr r hx))
 have h6:=h5 (fun a => Z06 cs (a:Int) = true) (fun a ha => Zkc h.toHOk ha) hr
 refine ⟨⟨fun a ha => by rw [Z10]; exact h2 a ha,fun a ha x hx => ?_⟩,h1,h6,h4⟩
 have hd:cs[a]? = some (cs[a]'(h2 a ha)):=List.getElem?_eq_getElem (h2 a ha)
 have ht:=h6 a ha
 rw [Z1g hd] at ht
 rw [Z2k hd,if_pos ht] at hx
 cases hx
 refine ⟨h.kids4 _ (List.getElem_mem _),fun k hk => h3 a ha _ ?_⟩
 unfold kidN
 rw [Z1z hd]
 exact List.mem_map.2 ⟨k,hk,rfl⟩
theorem Z96 {s0 s:St} {W:Pos→Prop} {L mr:Lets} {p:Pos} {cs:List CV} {V:List AVal} (h:Ctx s0 W L s) (hp:(p,C (encs (rcs cs V))) ∈ L) (hR:Z14 (cs.map CV.kids) V mr) (hmr:∀ x ∈ mr,x ∈ L) :
  s.Old p∧s.cells p = some (encs (rcs cs V))∧∀ (i:Nat) (d:CV),cs[i]? = some d→∃ kv,V[i]? = some kv∧Z0e s kv d.kids:=by
 refine ⟨h.ob hp,Z0i (Z1l (h.own _ hp)),fun i d hd => ?_⟩
 obtain ⟨kv,g1,g2⟩:=hR.each (i:=i) (ks:=d.kids) (by rw [List.getElem?_map,hd]; rfl)
 refine ⟨kv,g1,?_⟩
 rcases g2 with ⟨e1,e2⟩ | ⟨q,c,e1,e2,e3⟩
 ·exact .inl ⟨e2,e1⟩
 ·rw [e2]
  exact Z5q h.wf (Z1l (h.own _ (hmr _ e3))) c
theorem Znm {s0 s:St} {W:Pos→Prop} {B6:Pos} {lv:AVal} {v:List Nat} {a:Nat} {mg pre r:Lets} {Q:AVal→St→Prop} (hc:Ctx s0 W (pre ++ ((B6,C [lv]) :: (mg ++ r))) s) (hg:Z1a lv (nats v) mg) (hl:v.length ≤ 1000)
  (q:∀ lv' mg' s',Z1a lv' (nats (v ++ [a])) mg'→Ctx s0 W (pre ++ ((B6,C [lv']) :: (mg' ++ r))) s'→Q (.tup []) s'):Z0f Tryd.prog 67 [.int .i64 a,.ptr B6 0] s Q:=by
 have hc0:Ctx s0 W ((B6,C [lv]) :: (pre ++ (mg ++ r))) s:=hc.perm List.perm_middle
 refine Z09 (Z0n (by decide)) fi67 rfl (by decide) rfl ?_
 refine AM.wp_region ?_
 simp [hc0.c 0 rfl,hg.ntup,hg.cells,Z13,srcP]
 have c1:=hc0.alloc (C [.int .i64 a])
 generalize s.alloc (.cells [.int .i64 a] false) = s1 at c1 ⊢
 generalize s.next = T at c1 ⊢
 refine Z4t (pre:=(T,C [.int .i64 a]) :: (B6,C [lv]) :: pre) (by simpa using c1) hg (by simpa using hl) fun lv' mg' s2 hg' c2 => ?_
 simp only [List.cons_append] at c2
 simp [hg'.ntup,hg'.cells,c2.o 1 rfl]
 have c3:=(c2.put 1 rfl (C [lv'])).tail
 simp only [List.set_cons_zero] at c3
 refine q lv' mg' _ ?_ (c3.perm List.perm_middle.symm)
 simpa using hg'
section
variable {sc s:St} {fr:FI} {t0:PT AVal} {cls:List Int} {nds:List ND} {pn Bx:Pos} {n:Nat} {cv nv0:AVal} {r:Lets} {Q:Ex→PT AVal→St→Prop}
theorem Zvg {B13:Pos} {nd:ND} {a:Nat} {nm:List UInt8} {c1:Cap} (hN:Z1k sc (.slice pn 0 n c1) nds) (hnl:nds.length = n) (hC:Z0e sc cv cls) (hcl:cls.length = n) (hnd:nds[a]? = some nd) (h4:nd.2.length ≤ 4) (hin:∀ k ∈ nd.2,0 ≤ k∧k < n)
  (hc:Ctx sc (fun _ => False) ((B13,C [.str nm,.nilSlice]) :: r) s) (t7:PT.get (posOf 7) t0 = some (.slice pn 0 n c1)) (t12:PT.get (posOf 12) t0 = some (.int .i64 a)) (t9:PT.get (posOf 9) t0 = some cv) (t13:PT.get (posOf 13) t0 = some (.ptr B13 0))
  (q:∀ t s' kv mg,Fr [15,77,78,79,80,83,84,85,86,87,88,89,90,91] t0 t→Z1a kv (Z3y cls nd).2 mg→Ctx sc (fun _ => False) ((B13,C [.str nm,kv]) :: (mg ++ r)) s'→Q .normal t s'):wp Tryd.prog Zsq fr t0 s Q:=by
 have han:a < n:=by have:=(List.getElem?_eq_some_iff.1 hnd).1; omega
 have hN':=hN.keep hc.Z0b
 rcases hN' with ⟨e,_⟩ | ⟨b,o,c,cells,e,hb,hcs,hle,hel⟩
 ·have:n = 0:=by simpa using e
  omega
 cases e
 obtain ⟨_,kv0,e1,e2⟩:=hel a nd hnd
 rw [Nat.zero_add] at e1
 refine Z00 ?_
 simp [t7,t12,han,hcs,e1,e2.ntup,e2.len]
 refine AM.wp_block ?_
 refine AM.wp_loop (fun m t s' => ∃ (j:Nat) (kv:AVal) (mg:Lets),j ≤ nd.2.length∧m = nd.2.length - j∧Fr [15,77,78,79,80,83,84,85,86,87,88,89,90,91] t0 t∧PT.get (posOf 77) t = some kv0∧PT.get (posOf 78) t = some (.int .i64 nd.2.length)∧PT.get (posOf 79) t = some (.int .i64 j) ∧
   Z1a kv ((nd.2.take j).map fun k => (cls[k.toNat]?).getD 0) mg∧Ctx sc (fun _ => False) ((B13,C [.str nm,kv]) :: (mg ++ r)) s') nd.2.length ⟨0,.nilSlice,[],by simp,by simp,?_,by simp,by simp,by simp,.inl ⟨by simp,rfl,rfl⟩,hc⟩ ?_
 ·intro y hy
  simp at hy
  simp [hy]
 rintro m t s' ⟨j,kv,mg,hj,rfl,hF,t77,t78,t79,hg,hc'⟩
 refine Z00 ?_
 simp [t78,t79]
 refine AM.wp_seq ?_
 refine AM.Z03 ?_
 by_cases hlt:j < nd.2.length
 ·have hwr:IntKind.wrap .i64 ((j:Int) + 1) = ((j + 1:Nat):Int):=by rw [IntWalk.i64_in _ (by omega)]; omega
  obtain ⟨k,hk⟩:∃ k,nd.2[j]? = some k:=⟨_,List.getElem?_eq_getElem hlt⟩
  obtain ⟨k0,k1⟩:=hin k (List.mem_of_getElem? hk)
  obtain ⟨x,hx⟩:∃ x,cls[k.toNat]? = some x:=⟨_,List.getElem?_eq_getElem (by omega)⟩
  have u9:=(hF 9 (by simp)).trans t9
  have u13:=(hF 13 (by simp)).trans t13
  rcases (hC.keep hc'.Z0b) with ⟨_,h0⟩ | ⟨b2,o2,c2,cells2,rfl,hb2,hcs2,hle2,hel2⟩
  ·rw [h0] at hcl
   simp at hcl
   omega
  have hgx:=hel2 _ _ hx
  have hkN:=hN.keep hc'.Z0b
  rcases hkN with ⟨e,_⟩ | ⟨b3,o3,c3,cells3,e,hb3,hcs3,hle3,hel3⟩
  ·have:nds.length = 0:=by simpa using e
   omega
  cases e
  obtain ⟨_,kv3,e3,e4⟩:=hel3 a nd hnd
  rw [Nat.zero_add] at e3
  have hkv3:kv3 = kv0:=by
   have h5:s'.cells pn = s.cells pn:=by
    rcases hN with ⟨e,_⟩ | ⟨b4,_,_,_,e,hb4,_⟩
    ·have:nds.length = 0:=by simpa using e
     omega
    cases e
    rw [hc'.Zeu (fun h => h) hb4,hc.Zeu (fun h => h) hb4]
   rw [hcs,hcs3] at h5
   cases h5
   rw [e1] at e3
   exact (Option.some.inj e3).symm
  subst hkv3
  rcases e4 with ⟨_,h0⟩ | ⟨b5,o5,c5,cells5,rfl,hb5,hcs5,hle5,hel5⟩
  ·rw [h0] at hlt
   simp at hlt
  have hgk:=hel5 _ _ hk
  have hkn:k < (cls.length:Int):=by omega
  simp [hlt]
  refine AM.wp_skip ?_
  simp
  refine AM.wp_seq ?_
  refine AM.wp_block ?_
  refine Z00 ?_
  simp [t77,t79,hlt,hcs5,hgk]
  refine AM.wp_region ?_
  have hns:s'.obj s'.next = none:=hc'.wf _ (Z08 _)
  simp [u9,u13,hc'.c 0 rfl,hg.ntup,hg.cells,k0,hkn,hcs2,hgx,hns,Z13,srcP]
  have d2:=hc'.alloc (C [.int .i64 x])
  generalize s'.alloc (.cells [.int .i64 x] false) = sB at d2 ⊢
  generalize s'.next = T at d2 ⊢
  have hgl:((nd.2.take j).map fun k => (cls[k.toNat]?).getD 0).length ≤ 1000:=by simp; omega
  refine Z4t (pre:=[(T,C [.int .i64 x]),(B13,C [.str nm,kv])]) d2 hg hgl fun kv' mg' sC hg' d3 => ?_
  simp only [List.cons_append,List.nil_append] at d3
  simp [hg'.ntup,hg'.cells,d3.o 1 rfl]
  have d4:=(d3.put 1 rfl (C [.str nm,kv'])).tail
  simp only [List.set_cons_zero] at d4
  have hnx:((nd.2.take j).map fun k => (cls[k.toNat]?).getD 0) ++ [x] = (nd.2.take (j + 1)).map fun k => (cls[k.toNat]?).getD 0:=by
   rw [List.take_add_one,hk,List.map_append]
   simp [hx]
  rw [hnx] at hg'
  refine AM.wp_region ?_
  simp [t79,hwr]
  refine ⟨nd.2.length - (j + 1),by omega,j + 1,by omega,by omega,?_,by simp [t77],by simp [t78],by simp,kv',mg',by simpa using hg',d4⟩
  intro y hy
  simp at hy
  simp [hy]
  exact hF y (by simp [hy])
 ·simp [hlt]
  refine AM.wp_exit ?_
  simp
  have hje:j = nd.2.length:=by omega
  subst hje
  rw [List.take_length] at hg
  refine q _ s' kv mg ?_ hg hc'
  intro y hy
  simp at hy
  simp [hy]
  exact hF y (by simp [hy])
end
theorem Zls {cls:List Int} {nds:List ND} {l:List Nat} {i a:Nat} (h:l[i]? = some a):outF cls nds (l.take (i + 1)) = Z2e cls nds (outF cls nds (l.take i)) a:=by
 unfold outF
 rw [List.take_add_one,h,List.foldl_append]
 rfl
theorem Zi4 (cls:List Int) (nds:List ND):∀ (l:List Nat),(outF cls nds l).length ≤ l.length:=by
 have key:∀ (l:List Nat) (out:List ND),(l.foldl (Z2e cls nds) out).length ≤ out.length + l.length:=by
  intro l
  induction l with
  | nil => intro out; simp
  | cons a l ih =>
   intro out
   have h1:=ih (Z2e cls nds out a)
   have h2:(Z2e cls nds out a).length ≤ out.length + 1:=by
    unfold Z2e
    split
    ·split
     ·omega
     ·simp
    ·omega
   simp only [List.foldl_cons,List.length_cons]
   omega
 intro l
 have:=key l []
 simpa [outF] using this
theorem Zft (cls:List Int) (nds:List ND) (l:List Nat) (i:Nat):(outF cls nds (l.take i)).length ≤ (outF cls nds l).length:=by
 have key:∀ (l:List Nat) (out:List ND),out.length ≤ (l.foldl (Z2e cls nds) out).length:=by
  intro l
  induction l with
  | nil => intro out; simp
  | cons a l ih =>
   intro out
   have h1:=ih (Z2e cls nds out a)
   have h2:out.length ≤ (Z2e cls nds out a).length:=by
    unfold Z2e
    split
    ·split
     ·omega
     ·simp
    ·omega
   simp only [List.foldl_cons]
   omega
 have h:=key (l.drop i) (outF cls nds (l.take i))
 unfold outF at h ⊢
 rw [← List.foldl_append,List.take_append_drop] at h
 exact h
theorem get_c {s0 s:St} {W:Pos→Prop} {hb:Pos} {vs:AVal} {cs:List CV} {m r:Lets} {i:Int} {Q:AVal→St→Prop} (hH:Z3s hb vs cs m) (h:Ctx s0 W (m ++ r) s) (hO:HOk2 cs)
  (q:∀ nv mn s',Z2h nv (getF cs i).2 mn→Ctx s0 W (mn ++ (m ++ r)) s'→Q (.tup [.agg [nv,.int .i64 0],.int .i64 (getF cs i).1]) s'):Z0f Tryd.prog 22 [.ptr hb 0,.int .i64 i] s Q:=by
 obtain ⟨p,V,mr,hc,hR,hV,h1,h4,hP⟩:=Ze4 hH h
 have hl:=Z34 hV
 have hno:cs.length ≠ 0:=by omega
 have hpm:m.Perm ((hb,C [.slice p 0 cs.length (.lim cs.length),vs]) :: (p,C (encs (rcs cs V))) :: mr):=hP
 have hback:∀ {x:Lets} {s':St},Ctx s0 W (x ++ ((hb,C [.slice p 0 cs.length (.lim cs.length),vs]) :: (p,C (encs (rcs cs V))) :: (mr ++ r))) s'→Ctx s0 W (x ++ (m ++ r)) s':=by
  intro x s' hx
  refine hx.perm ((List.Perm.refl x).append ?_)
  have:=hpm.symm.append (List.Perm.refl r)
  simpa using this
 refine Z09 (Z0n (by decide)) fi22 rfl (by decide) rfl ?_
 refine Z00 ?_
 simp
 have c1:=hc.alloc (C [.nilSlice,.int .i64 0])
 generalize s.alloc (.cells [.nilSlice,.int .i64 0] false) = s1 at c1 ⊢
 generalize s.next = B4 at c1 ⊢
 refine AM.wp_seq ?_
 refine AM.wp_block ?_
 refine Z00 ?_
 simp
 refine Z05 ?_
 refine Z9v (c1.c 1 rfl) rfl hno ?_
 simp
 refine AM.Z03 ?_
 simp
 refine Z00 ?_
 simp [c1.c 1 rfl]
 refine Z05 ?_
 refine Zkq (c1.oi 2 rfl) (c1.c 2 rfl) hV fun s2 k2 => ?_
 have c2:=c1.keeps k2
 cases ht:Z06 cs i with
 | false =>
  have:getF cs i = (1,[]):=by unfold getF; rw [if_pos ht]
  rw [this] at q
  simp
  refine AM.Z03 ?_
  simp
  refine Z00 ?_
  simp [c2.o 0 rfl]
  have c3:=c2.put 0 rfl (C [.nilSlice,.int .i64 0])
  simp only [List.set_cons_zero] at c3
  generalize s2.put B4 (.cells [.nilSlice,.int .i64 0] false) = s3 at c3 ⊢
  refine AM.wp_ret ?_
  simp [c3.c 0 rfl]
  exact q .nilSlice [] s3 (.inl ⟨rfl,rfl,rfl⟩) (hback (x:=[]) c3.tail)
 | true =>
 obtain ⟨h0,d,hd,hdt,hlt⟩:=Z21 ht
 obtain ⟨i,rfl⟩:∃ k:Nat,i = (k:Int):=⟨i.toNat,by omega⟩
 rw [Int.toNat_natCast] at hd hlt
 have hgF:getF cs (i:Int) = if 60 < (Z44 cs i).length then (2,[]) else (0,Z44 cs i):=by unfold getF; rw [if_neg (by simp [ht]),Int.toNat_natCast]
 rw [hgF] at q
 unfold Z44 at q
 obtain ⟨hC,hnd,hall,hroot⟩:=Z8w hO (roots:=[i]) (by simpa using ht)
 simp
 refine AM.Z03 ?_
 simp
 refine AM.wp_skip ?_
 simp
 refine Z00 ?_
 simp
 have c3:=c2.alloc (C [.nilSlice])
 generalize s2.alloc (.cells [.nilSlice] false) = s3 at c3 ⊢
 generalize s2.next = B6 at c3 ⊢
 refine Z00 ?_
 simp [c3.c 2 rfl]
 have c4:=c3.alloc (C [.int .i64 i])
 generalize s3.alloc (.cells [.int .i64 i] false) = s4 at c4 ⊢
 generalize s3.next = T at c4 ⊢
 refine Z05 ?_
 have c4':Ctx s0 W ([(B6,C [.nilSlice])] ++ ((T,C [.int .i64 i]) :: (B4,C [.nilSlice,.int .i64 0]) :: (hb,C [.slice p 0 cs.length (.lim cs.length),vs]) :: (p,C (encs (rcs cs V))) :: (mr ++ r))) s4:=c4.perm (List.Perm.swap _ _ _)
 refine Zkw (V:=V) (J:=fun v m => ∃ lv mg,Z1a lv (nats v) mg∧m = (B6,C [lv]) :: mg) (roots:=[i]) (rv:=.slice T 0 1 (.lim 1)) (f:=67) (fx:=[]) (fy:=[.ptr B6 0])
  ⟨hV,h4,?_,by simpa using hlt,by simp,fun a ha => ?_,?_⟩ c4' ⟨.nilSlice,[],.inl ⟨rfl,rfl,rfl⟩,rfl⟩ (by simp) ?_
 ·rintro x m' s' hx _
  obtain ⟨r1,r2,r3⟩:=Z96 (p:=p) (cs:=cs) (V:=V) hx (by simp) hR (fun y hy => by simp [hy])
  refine ⟨r1,r2,?_,r3⟩
  have hT:s'.own T = some (ints [(i:Int)]):=Z1l (hx.own (T,C [.int .i64 i]) (by simp))
  exact Z5q hx.wf hT (.lim 1)
 ·have hcd:cs[a]? = some cs[a]:=List.getElem?_eq_getElem ha
  rw [Z1z hcd]
  refine ⟨hO.kids4 _ (List.getElem_mem ha),fun k hk => ?_⟩
  cases hta:cs[a].taken with
  | true =>
   obtain ⟨k0,_,_,_,k1⟩:=Z21 (hO.kids _ (List.getElem_mem ha) hta k hk)
   exact ⟨k0,by omega⟩
  | false =>
   rw [hO.free _ (List.getElem_mem ha) hta] at hk
   cases hk
 ·rintro a v x m' s' R ⟨lv,mg,hg,rfl⟩ hav han hvn hvlt hx hq
  refine Z05 ?_
  have hvl:v.length ≤ 1000:=by have:=Z2a hvn hvlt; omega
  refine Znm (pre:=x) (r:=(T,C [.int .i64 i]) :: (B4,C [.nilSlice,.int .i64 0]) :: (hb,C [.slice p 0 cs.length (.lim cs.length),vs]) :: (p,C (encs (rcs cs V))) :: (mr ++ r)) (by simpa using hx) hg hvl fun lv' mg' s'' hg' hx' => ?_
  exact hq _ _ _ ⟨lv',mg',hg',rfl⟩ (by simpa using hx')
 ·rintro x m' s5 ⟨lv,mg,hg,rfl⟩ hx
  have c5:=hx.sub (List.sublist_append_right x _)
  simp only [List.cons_append] at c5
  have c5:=c5.perm (m':=(B6,C [lv]) :: (T,C [.int .i64 i]) :: (B4,C [.nilSlice,.int .i64 0]) :: (hb,C [.slice p 0 cs.length (.lim cs.length),vs]) :: (p,C (encs (rcs cs V))) :: (mg ++ (mr ++ r))) (by
   refine List.Perm.cons _ ?_
   have:=List.perm_append_comm (l₁:=mg) (l₂:=[(T,C [.int .i64 i]),(B4,C [.nilSlice,.int .i64 0]),(hb,C [.slice p 0 cs.length (.lim cs.length),vs]),(p,C (encs (rcs cs V)))])
   have:=this.append (List.Perm.refl (mr ++ r))
   simpa using this)
  generalize hbf:bfsF (kidN cs) cs.length [i] = L at hC hnd hall hroot hg q
  have hLl:L.length ≤ cs.length:=Z2a hnd (fun a ha => Z2b (hall a ha))
  simp
  refine Z00 ?_
  simp [c5.c 3 rfl]
  refine Z05 ?_
  have hobs:∀ {s':St},Ctx s0 W ((B6,C [lv]) :: (T,C [.int .i64 i]) :: (B4,C [.nilSlice,.int .i64 0]) :: (hb,C [.slice p 0 cs.length (.lim cs.length),vs]) :: (p,C (encs (rcs cs V))) :: (mg ++ (mr ++ r))) s'→∀ j c,(rcs cs V)[j]? = some c→Z0e s' c.kv (Z29 cs j):=by
   intro s' hc' j c hj
   obtain ⟨_,_,r3⟩:=Z96 (p:=p) (cs:=cs) (V:=V) hc' (by simp) hR (fun y hy => by simp [hy])
   have hjl:j < cs.length:=by have:=(List.getElem?_eq_some_iff.1 hj).1; rwa [hl] at this
   obtain ⟨kv,e1,e2⟩:=r3 j _ (List.getElem?_eq_getElem hjl)
   rw [Z3d (List.getElem?_eq_getElem hjl) e1] at hj
   cases hj
   rw [Z1z (List.getElem?_eq_getElem hjl)]
   exact e2
  refine Zyv (K:=Z29 cs) hl c5.wf (c5.oi 4 rfl) (c5.c 4 rfl) h4 (hobs c5) fun pn lv2 s6 k6 hN _ => ?_
  rw [Zz6 hV] at hN
  have c6:=c5.keeps k6
  simp
  refine Z00 ?_
  simp [c6.c 0 rfl,hg.ntup]
  refine Z05 ?_
  have hlv6:Z0e s6 lv (nats L):=(hg.row.kid fun y hy => c6.own y (by simp [hy])).ints c6.wf
  have hkidsG:∀ (a:Nat) nd,(Z0d cs)[a]? = some nd→nd.2.length ≤ 4∧∀ k ∈ nd.2,0 ≤ k∧k < (Z0d cs).length:=hO.toHOk.Zdu
  refine Zl1 (Z10 cs) c6.wf hN (by omega) hlv6 (by omega) hC hkidsG fun Bx s7 k7 hBx hox => ?_
  have hcl:=Zbp hC
  rw [Z10] at hcl
  generalize clsF (Z0d cs) L = cls at hox hcl q
  have c7:=c6.keeps k7
  have hN7:Z1k s7 (.slice pn 0 cs.length (.lim cs.length)) (Z0d cs):=by
   have:=(hN.keep k7).of (.lim cs.length)
   rwa [Z10] at this
  have hC7:Z0e s7 (.slice Bx 0 cs.length (.lim cs.length)) cls:=by
   have:=Z5q c7.wf hox (.lim cs.length)
   rwa [hcl] at this
  have hL7:Z0e s7 lv (nats L):=hlv6.keep k7
  simp
  refine Z00 ?_
  simp
  have d0:=(Ctx.start (fun _ => False) c7.wf).alloc (C [.nilSlice,.int .i64 0])
  generalize s7.alloc (.cells [.nilSlice,.int .i64 0] false) = s8 at d0 ⊢
  generalize s7.next = B10 at d0 ⊢
  refine AM.wp_seq ?_
  refine Z00 ?_
  have k8:=d0.Z0b
  simp [(k8.cells (c7.oi 0 rfl)).trans (c7.c 0 rfl),hg.ntup,hL7.len]
  have hout:∀ {nv:AVal} {mn:Lets} {s':St},Ctx s7 (fun _ => False) ((B10,C [nv,.int .i64 0]) :: mn) s'→Ctx s0 W ((B4,C [.nilSlice,.int .i64 0]) :: (B10,C [nv,.int .i64 0]) :: (mn ++ ((B6,C [lv]) :: (T,C [.int .i64 i]) :: (hb,C [.slice p 0 cs.length (.lim cs.length),vs]) :: (p,C (encs (rcs cs V))) :: (mg ++ (mr ++ r))))) s':=by
   intro nv mn s' hd
   have:=Ctx.on (m:=[]) (by simpa using c7) (m':=(B10,C [nv,.int .i64 0]) :: mn) (by simpa using hd)
   refine this.perm ?_
   have h2:((B10,C [nv,.int .i64 0]) :: mn ++ ((B6,C [lv]) :: (T,C [.int .i64 i]) :: (B4,C [.nilSlice,.int .i64 0]) :: (hb,C [.slice p 0 cs.length (.lim cs.length),vs]) :: (p,C (encs (rcs cs V))) :: (mg ++ (mr ++ r)))) = (((B10,C [nv,.int .i64 0]) :: mn) ++ [(B6,C [lv]),(T,C [.int .i64 i])]) ++ (B4,C [.nilSlice,.int .i64 0]) :: ((hb,C [.slice p 0 cs.length (.lim cs.length),vs]) :: (p,C (encs (rcs cs V))) :: (mg ++ (mr ++ r))):=by simp
   rw [h2]
   refine List.perm_middle.trans ?_
   simp
  have hend:∀ {nv:AVal} {x:Lets} {b4 b10:Pos × AObj} {s':St},Ctx s0 W (b4 :: b10 :: (x ++ ((B6,C [lv]) :: (T,C [.int .i64 i]) :: (hb,C [.slice p 0 cs.length (.lim cs.length),vs]) :: (p,C (encs (rcs cs V))) :: (mg ++ (mr ++ r))))) s'→Ctx s0 W (x ++ (m ++ r)) s':=by
   intro nv x b4 b10 s' hx'
   refine hback (hx'.sub (.cons _ (.cons _ ((List.Sublist.refl x).append (.cons _ (.cons _ (.cons_cons _ (.cons_cons _ (List.sublist_append_right mg _)))))))))
  refine AM.wp_block ?_
  refine AM.wp_loop (fun k t s' => ∃ (j:Nat) (nv:AVal) (mn:Lets),j ≤ L.length∧k = L.length - j∧PT.get (posOf 4) t = some (.ptr B4 0)∧PT.get (posOf 7) t = some (.slice pn 0 cs.length (.lim cs.length))∧PT.get (posOf 9) t = some (.slice Bx 0 cs.length (.lim cs.length))∧PT.get (posOf 10) t = some (.ptr B10 0) ∧
    PT.get (posOf 48) t = some lv∧PT.get (posOf 49) t = some (.int .i64 L.length)∧PT.get (posOf 50) t = some (.int .i64 j)∧Z2h nv (outF cls (Z0d cs) (L.take j)) mn∧(outF cls (Z0d cs) (L.take j)).length ≤ 60∧Ctx s7 (fun _ => False) ((B10,C [nv,.int .i64 0]) :: mn) s') L.length
   ⟨0,.nilSlice,[],by simp,by simp,by simp,by simp,by simp,by simp,by simp,by simp,by simp,.inl ⟨by simp [outF],rfl,rfl⟩,by simp [outF],d0⟩ ?_
  rintro k t s' ⟨j,nv,mn,hj,rfl,t4,t7,t9,t10,t48,t49,t50,hM,h60,hd'⟩
  refine Z00 ?_
  simp [t49,t50]
  refine AM.wp_seq ?_
  refine AM.Z03 ?_
  by_cases hlt:j < L.length
  ·have hwr:IntKind.wrap .i64 ((j:Int) + 1) = ((j + 1:Nat):Int):=by rw [IntWalk.i64_in _ (by omega)]; omega
   obtain ⟨a,ha⟩:∃ a,L[j]? = some a:=⟨_,List.getElem?_eq_getElem hlt⟩
   have hat:=hall a (List.mem_of_getElem? ha)
   have han:=Z2b hat
   have hda:cs[a]? = some cs[a]:=List.getElem?_eq_getElem han
   have htk:cs[a].taken = true:=by rw [Z1g hda] at hat; exact hat
   have hga:(Z0d cs)[a]? = some (cs[a].name,cs[a].kids):=by rw [Z2k hda,if_pos htk]
   obtain ⟨x,hxx⟩:∃ x,cls[a]? = some x:=⟨_,List.getElem?_eq_getElem (by omega)⟩
   have hnx:=Zls (cls:=cls) (nds:=Z0d cs) ha
   have hst:Z2e cls (Z0d cs) (outF cls (Z0d cs) (L.take j)) a = if x < (outF cls (Z0d cs) (L.take j)).length then outF cls (Z0d cs) (L.take j) else outF cls (Z0d cs) (L.take j) ++ [Z3y cls (cs[a].name,cs[a].kids)]:=by
    unfold Z2e
    rw [hxx,hga]
   rw [hst] at hnx
   rcases hL7.keep hd'.Z0b with ⟨_,e0⟩ | ⟨bl,ol,cl,cellsl,rfl,hbl,hcsl,hlel,hell⟩
   ·have:L = []:=by simpa using e0
    rw [this] at hlt
    simp at hlt
   rw [List.length_map] at t48
   have hgl:=hell j (a:Int) (by rw [List.getElem?_map,ha]; rfl)
   rcases hC7.keep hd'.Z0b with ⟨e0,_⟩ | ⟨bx,ox,cx,cellsx,ex,hbx,hcsx,hlex,helx⟩
   ·have:cs.length = 0:=by simpa using e0
    omega
   have hbx':Bx = bx:=(AVal.slice.inj ex).1
   have hox':0 = ox:=(AVal.slice.inj ex).2.1
   subst hbx' hox'
   have hgx:=helx a x hxx
   rw [Nat.zero_add] at hgx
   rcases hN7.keep hd'.Z0b with ⟨e0,_⟩ | ⟨bn,on,cn,cellsn,en,hbn,hcsn,hlen,heln⟩
   ·have:cs.length = 0:=by simpa using e0
    omega
   have hbn':pn = bn:=(AVal.slice.inj en).1
   have hon':0 = on:=(AVal.slice.inj en).2.1
   subst hbn' hon'
   obtain ⟨hgn,_⟩:=heln a _ hga
   rw [Nat.zero_add] at hgn
   simp [hlt]
   refine AM.wp_skip ?_
   simp
   refine AM.wp_seq ?_
   refine AM.wp_block ?_
   refine Z00 ?_
   simp [t48,t50,hlt,hcsl,hgl]
   refine AM.wp_seq ?_
   refine Z00 ?_
   simp [t9,t10,han,hcsx,hgx,hd'.c 0 rfl,hM.ntup,hM.len]
   refine AM.Z03 ?_
   by_cases hxl:x < ((outF cls (Z0d cs) (L.take j)).length:Int)
   ·rw [if_pos hxl] at hnx
    simp [hxl]
    refine AM.wp_exit ?_
    simp
    refine AM.wp_region ?_
    simp [t50,hwr]
    refine ⟨L.length - (j + 1),by omega,j + 1,by omega,by omega,by simp [t4],by simp [t7],by simp [t9],by simp [t10],by simp [t48],by simp [t49],by simp,nv,mn,by rw [hnx]; exact hM,by rw [hnx]; exact h60,hd'⟩
   ·rw [if_neg hxl] at hnx
    simp [hxl]
    refine AM.wp_skip ?_
    simp
    refine AM.wp_seq ?_
    refine Z00 ?_
    simp [t10,hd'.c 0 rfl,hM.ntup,hM.len]
    refine AM.Z03 ?_
    by_cases h6:(outF cls (Z0d cs) (L.take j)).length = 60
    ·have hgt:60 < (outF cls (Z0d cs) L).length:=by
      have:=Zft cls (Z0d cs) L (j + 1)
      rw [hnx] at this
      simp at this
      omega
     rw [if_pos hgt] at q
     have h6':((outF cls (Z0d cs) (L.take j)).length:Int) = 60:=by omega
     simp [h6,h6']
     refine Z00 ?_
     have e1:=hout hd'
     simp [t4,e1.o 0 rfl]
     have e2:=e1.put 0 rfl (C [.nilSlice,.int .i64 0])
     simp only [List.set_cons_zero] at e2
     generalize s'.put B4 (.cells [.nilSlice,.int .i64 0] false) = s9 at e2 ⊢
     refine AM.wp_ret ?_
     simp [t4,e2.c 0 rfl]
     refine q .nilSlice [] s9 (.inl ⟨rfl,rfl,rfl⟩) ?_
     have:=(hend (nv:=nv) (x:=mn) e2)
     exact this.sub (List.sublist_append_right mn _)
    ·have h6':¬ ((outF cls (Z0d cs) (L.take j)).length:Int) = 60:=by omega
     simp [h6,h6']
     refine AM.wp_skip ?_
     simp
     refine Z00 ?_
     simp [t7,han,hcsn,hgn]
     have d1:=(hd'.alloc (C [.str [],.nilSlice])).put 0 rfl (C [.str cs[a].name,.nilSlice])
     simp only [List.set_cons_zero] at d1
     generalize (s'.alloc (.cells [.str [],.nilSlice] false)).put s'.next (.cells [.str cs[a].name,.nilSlice] false) = sA at d1 ⊢
     generalize s'.next = B13 at d1 ⊢
     refine AM.wp_seq ?_
     obtain ⟨hk4,hkin⟩:=hkidsG a _ hga
     rw [Z10] at hkin
     refine Zvg (nd:=(cs[a].name,cs[a].kids)) (a:=a) (B13:=B13) (nm:=cs[a].name) (pn:=pn) (n:=cs.length) (c1:=.lim cs.length) (cv:=.slice Bx 0 cs.length (.lim cs.length)) hN7 (Z10 cs) hC7 hcl hga hk4 hkin d1 (by simp [t7]) (by simp) (by simp [t9]) (by simp) fun t2 sB kv mk hF2 hgk d2 => ?_
     simp
     have w10:PT.get (posOf 10) t2 = some (.ptr B10 0):=(hF2 10 (by simp)).trans (by simp [t10])
     have w13:PT.get (posOf 13) t2 = some (.ptr B13 0):=(hF2 13 (by simp)).trans (by simp)
     have d3:=d2.perm (m':=(B13,C [.str cs[a].name,kv]) :: (B10,C [nv,.int .i64 0]) :: (mk ++ mn)) (List.Perm.cons _ List.perm_middle)
     refine AM.wp_region ?_
     simp [w10,w13,d3.c 0 rfl,d3.c 1 rfl,hM.ntup,hM.cells,hgk.ntup,hgk.cells,Z13,srcP]
     have d4:=d3.alloc (C [.str cs[a].name,kv])
     generalize sB.alloc (.cells [.str cs[a].name,kv] false) = sC at d4 ⊢
     generalize sB.next = T2 at d4 ⊢
     refine Zfh (pre:=[(T2,C [.str cs[a].name,kv]),(B13,C [.str cs[a].name,kv]),(B10,C [nv,.int .i64 0])]) (mk:=mk) (mn:=mn) (r:=[]) (ns:=outF cls (Z0d cs) (L.take j)) (ks:=(Z3y cls (cs[a].name,cs[a].kids)).2) (by simpa using d4) hM hgk.row (by omega) fun nv' mn' sD hM' d5 => ?_
     have hM':Z2h nv' (outF cls (Z0d cs) (L.take (j + 1))) mn':=by rw [hnx]; exact hM'
     simp only [List.cons_append,List.nil_append,List.append_nil] at d5
     simp [hM'.ntup,hM'.cells,d5.o 2 rfl]
     have d6:=(d5.put 2 rfl (C [nv',.int .i64 0])).tail.tail
     simp only [List.set_cons_succ,List.set_cons_zero] at d6
     refine AM.wp_region ?_
     have w50:=(hF2 50 (by simp))
     simp [t50] at w50
     simp [w50,hwr]
     refine ⟨L.length - (j + 1),by omega,j + 1,by omega,by omega,?_,?_,?_,by simp [w10],?_,?_,rfl,nv',mn',hM',?_,d6⟩
     ·rw [hF2 4 (by simp)]; simp [t4]
     ·rw [hF2 7 (by simp)]; simp [t7]
     ·rw [hF2 9 (by simp)]; simp [t9]
     ·rw [hF2 48 (by simp)]; simp [t48]
     ·rw [hF2 49 (by simp)]; simp [t49]
     ·rw [hnx]
      simp
      omega
  ·simp [hlt]
   refine AM.wp_exit ?_
   simp
   have hje:j = L.length:=by omega
   subst hje
   rw [List.take_length] at hM h60
   rw [if_neg (by omega)] at q
   have e1:=hout hd'
   refine Z00 ?_
   simp [t4,t10,e1.c 1 rfl,e1.o 0 rfl,hM.ntup,hM.cells]
   have e2:=e1.put 0 rfl (C [nv,.int .i64 0])
   simp only [List.set_cons_zero] at e2
   generalize s'.put B4 (.cells [nv,.int .i64 0] false) = s9 at e2 ⊢
   refine AM.wp_ret ?_
   simp [t4,e2.c 0 rfl]
   exact q nv mn s9 hM (hend (nv:=nv) e2)
def kidG (ns:List ND) (a:Nat):List Nat:=match ns[a]? with
 | some nd => nd.2.map Int.toNat
 | none => []
theorem Zbx {ns:List ND} {a:Nat} {nd:ND} (h:ns[a]? = some nd):kidG ns a = nd.2.map Int.toNat:=by unfold kidG; rw [h]
def GrOk (ns:List ND):Prop:=∀ nd ∈ ns,nd.2.length ≤ 4∧∀ k ∈ nd.2,0 ≤ k∧k < ns.length
theorem GrOk.Z9k {ns:List ND} (h:GrOk ns):∀ a,a < ns.length→∀ k ∈ kidG ns a,k < ns.length:=by
 intro a ha k hk
 rw [Zbx (List.getElem?_eq_getElem ha)] at hk
 obtain ⟨x,hx,rfl⟩:=List.mem_map.1 hk
 have:=(h _ (List.getElem_mem ha)).2 x hx
 omega
section
variable {s0 s:St} {fr:FI} {t0:PT AVal} {ns:List ND} {nv lv rv:AVal} {n:Nat} {Bm:Pos} {v:List Nat} {mg:Lets} {Q:Ex→PT AVal→St→Prop}
theorem Zuz {i a:Nat} (hN:Z1k s0 nv ns) (hO:GrOk ns) (hmax:ns.length ≤ 1000) (hg:Z1a lv (nats v) mg) (hnd:v.Nodup) (hlt:∀ x ∈ v,x < ns.length) (hi:v[i]? = some a)
  (hc:Ctx s0 (fun _ => False) ((Bm,C (metL ns.length v)) :: mg) s)
  (t0':PT.get (posOf 0) t0 = some nv) (t5:PT.get (posOf 5) t0 = some (.slice Bm 0 ns.length (.lim ns.length))) (t6:PT.get (posOf 6) t0 = some lv) (t9:PT.get (posOf 9) t0 = some (.int .i64 i))
  (q:∀ t s' lv' mg',Fr [6,11,48,49,50,51,58] t0 t→PT.get (posOf 6) t = some lv'→Z1a lv' (nats (Z0a v (kidG ns a))) mg'→Ctx s0 (fun _ => False) ((Bm,C (metL ns.length (Z0a v (kidG ns a)))) :: mg') s'→Q .normal t s'):wp Tryd.prog Zt5 fr t0 s Q:=by
 have hil:i < v.length:=(List.getElem?_eq_some_iff.1 hi).1
 have ha:=hlt a (List.mem_of_getElem? hi)
 have hnda:ns[a]? = some ns[a]:=List.getElem?_eq_getElem ha
 obtain ⟨h4,hin⟩:=hO _ (List.getElem_mem ha)
 have hkg:=Zbx hnda
 rcases hN.keep hc.Z0b with ⟨_,e⟩ | ⟨b,o,c,cs,rfl,hb,hcs,hle,hel⟩
 ·rw [e] at ha
  simp at ha
 obtain ⟨_,kv,g2,g3⟩:=hel a _ hnda
 rcases hg with ⟨e,_⟩ | ⟨qb,hne,rfl,rfl⟩
 ·have:v = []:=by simpa using e
  rw [this] at hil
  simp at hil
 have hvq:(ints (nats v))[i]? = some (.int .i64 a):=by unfold ints; rw [List.getElem?_map,List.getElem?_map,hi]; rfl
 obtain ⟨iv,hiv⟩:∃ x,x = ints (nats v):=⟨_,rfl⟩
 have hq:=hc.c 1 rfl
 rw [← hiv] at hvq hq
 rw [List.length_map] at t6
 refine Z00 ?_
 simp [t0',t6,t9,hil,hq,hvq,ha,hcs,g2,g3.ntup,g3.len]
 refine AM.wp_block ?_
 refine AM.wp_loop (fun m t s' => ∃ (j:Nat) (lv':AVal) (mg':Lets),j ≤ ns[a].2.length∧m = ns[a].2.length - j∧Fr [6,11,48,49,50,51,58] t0 t∧PT.get (posOf 6) t = some lv'∧PT.get (posOf 48) t = some kv∧PT.get (posOf 49) t = some (.int .i64 ns[a].2.length)∧PT.get (posOf 50) t = some (.int .i64 j) ∧
   Z1a lv' (nats (Z0a v ((kidG ns a).take j))) mg'∧(Z0a v ((kidG ns a).take j)).Nodup∧(∀ x ∈ Z0a v ((kidG ns a).take j),x < ns.length)∧Ctx s0 (fun _ => False) ((Bm,C (metL ns.length (Z0a v ((kidG ns a).take j)))) :: mg') s') ns[a].2.length
  ⟨0,.slice qb 0 v.length (.opn 1),[(qb,C (ints (nats v)))],by simp,by simp,?_,by simp [t6],by simp,by simp,by simp,.inr ⟨qb,by simpa [Z0a] using hne,by simp [Z0a],by simp [Z0a]⟩,by simpa [Z0a] using hnd,by simpa [Z0a] using hlt,by simpa [Z0a] using hc⟩ ?_
 ·intro y hy
  simp at hy
  simp [hy]
 rintro m t s' ⟨j,lv',mg',hj,rfl,hF,t6',t48,t49,t50,hg',hnd',hlt',hc'⟩
 refine Z00 ?_
 simp [t49,t50]
 refine AM.wp_seq ?_
 refine AM.Z03 ?_
 by_cases hlj:j < ns[a].2.length
 ·have hwr:IntKind.wrap .i64 ((j:Int) + 1) = ((j + 1:Nat):Int):=by rw [IntWalk.i64_in _ (by omega)]; omega
  obtain ⟨kk,hkk⟩:∃ kk,ns[a].2[j]? = some kk:=⟨_,List.getElem?_eq_getElem hlj⟩
  obtain ⟨kk0,kk1⟩:=hin kk (List.mem_of_getElem? hkk)
  obtain ⟨kn,rfl⟩:∃ kn:Nat,kk = (kn:Int):=⟨kk.toNat,by omega⟩
  have hkn:kn < ns.length:=by omega
  have hkN:(kidG ns a)[j]? = some kn:=by rw [hkg,List.getElem?_map,hkk]; rfl
  have u5:=(hF 5 (by simp)).trans t5
  rcases hN.keep hc'.Z0b with ⟨_,e⟩ | ⟨b',o',c',cs',e,hb',hcs',hle',hel'⟩
  ·rw [e] at ha
   simp at ha
  cases e
  obtain ⟨_,kv',e2,e3⟩:=hel' a _ hnda
  have hcs2:cs' = cs:=by
   rcases hN with ⟨_,e⟩ | ⟨b3,o3,c3,cs3,e,hb3,hcs3,_⟩
   ·rw [e] at ha
    simp at ha
   cases e
   have h1:=hc'.Z0b.cells hb3
   have h2:=hc.Z0b.cells hb3
   rw [hcs'] at h1
   rw [hcs] at h2
   rw [← h2] at h1
   exact Option.some.inj h1
  subst hcs2
  rw [g2] at e2
  cases e2
  rcases e3 with ⟨_,h0⟩ | ⟨b4,o4,c4,cells4,rfl,hb4,hcs4,hle4,hel4⟩
  ·rw [h0] at hlj
   simp at hlj
  have hgk:=hel4 j _ hkk
  have hmet:=Z5s (Z0a v ((kidG ns a).take j)) hkn
  have hnx:=Zgq (v:=v) hkN
  simp [hlj]
  refine AM.wp_skip ?_
  simp
  refine AM.wp_seq ?_
  refine AM.wp_block ?_
  refine Z00 ?_
  simp [t48,t50,hlj,hcs4,hgk]
  refine Z00 ?_
  simp [u5,hkn,hc'.c 0 rfl,hmet]
  refine AM.Z03 ?_
  have hvl:=Z2a hnd' hlt'
  by_cases hm:kn ∈ Z0a v ((kidG ns a).take j)
  ·have hadd:addN (Z0a v ((kidG ns a).take j)) kn = Z0a v ((kidG ns a).take j):=by unfold addN; rw [if_pos hm]
   rw [hadd] at hnx
   simp [hm]
   refine AM.wp_skip ?_
   simp
   refine AM.wp_region ?_
   simp [t50,hwr]
   refine ⟨ns[a].2.length - (j + 1),by omega,j + 1,by omega,by omega,?_,lv',by simp [t6'],by simp [t48],by simp [t49],by simp,mg',by rw [hnx]; exact hg',by rw [hnx]; exact hnd',by rw [hnx]; exact hlt',by rw [hnx]; exact hc'⟩
   intro y hy
   simp at hy
   simp [hy]
   exact hF y (by simp [hy])
  ·have hadd:addN (Z0a v ((kidG ns a).take j)) kn = Z0a v ((kidG ns a).take j) ++ [kn]:=by unfold addN; rw [if_neg hm]
   have hset:=Ze0 hkn hm
   have hle5:kn + 1 ≤ (metL ns.length (Z0a v ((kidG ns a).take j))).length:=by rw [Z3j]; omega
   have hnd2:=Z8v (k:=kn) hnd'
   have hlt2:=Zcx hlt' hkn
   rw [← hnx] at hset hnd2 hlt2
   simp [lay] at hset
   simp [hm]
   refine Z00 ?_
   simp [u5,hkn,hc'.o 0 rfl,hle5]
   rw [hset]
   have d1:=hc'.put 0 rfl (C (metL ns.length (Z0a v ((kidG ns a).take (j + 1)))))
   simp only [List.set_cons_zero] at d1
   generalize s'.put Bm (.cells (metL ns.length (Z0a v ((kidG ns a).take (j + 1)))) false) = s1 at d1 ⊢
   refine AM.wp_region ?_
   simp [t6',hg'.ntup,Z13,srcP]
   have d2:=d1.alloc (C [.int .i64 kn])
   generalize s1.alloc (.cells [.int .i64 kn] false) = s2 at d2 ⊢
   generalize s1.next = T at d2 ⊢
   refine Z4t (pre:=[(T,C [.int .i64 kn]),(Bm,C (metL ns.length (Z0a v ((kidG ns a).take (j + 1)))))]) (r:=[]) (by simpa using d2) hg' (by simp; omega) fun lv2 mg2 s3 hg2 d3 => ?_
   simp only [List.cons_append,List.nil_append,List.append_nil] at d3
   have hg2':Z1a lv2 (nats (Z0a v ((kidG ns a).take (j + 1)))) mg2:=by
    rw [hnx,hadd]
    simpa using hg2
   refine AM.wp_region ?_
   simp [t50,hwr]
   refine ⟨ns[a].2.length - (j + 1),by omega,j + 1,by omega,by omega,?_,by simp [t48],by simp [t49],by simp,mg2,hg2',hnd2,hlt2,d3.tail⟩
   intro y hy
   simp at hy
   simp [hy]
   exact hF y (by simp [hy])
 ·simp [hlj]
  refine AM.wp_exit ?_
  simp
  have hje:j = ns[a].2.length:=by omega
  subst hje
  have htk:(kidG ns a).take ns[a].2.length = kidG ns a:=List.take_of_length_le (by rw [hkg]; simp)
  rw [htk] at hg' hc'
  refine q _ s' lv' mg' ?_ (by simp [t6']) hg' hc'
  intro y hy
  simp at hy
  simp [hy]
  exact hF y (by simp [hy])
end
end Go.Proofs
end
