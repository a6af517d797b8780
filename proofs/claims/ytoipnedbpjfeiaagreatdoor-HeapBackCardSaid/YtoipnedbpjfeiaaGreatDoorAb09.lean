/- Parts of the proof: OpenB, Can1, Can2, Hp1, Hp2, Hp3, Tgt, Hp4, Hp5, Hp6, Hp7, CodesK, Kit1, Kit2, Kit3, Fil1, Fil2, Fil3. -/
import Derived.Test.YtoipnedbpjfeiaaGreatDoorAb08
set_option linter.all false
set_option linter.unusedSectionVars false
set_option linter.unusedSimpArgs false
set_option linter.unusedVariables false
section
open Go Go.AM
namespace Go.Proofs
set_option maxRecDepth 100000
theorem c3:Tryz.prog.cellsOf 3 = 1:=by kernel_rfl
theorem c9:Tryz.prog.cellsOf 9 = 1:=by kernel_rfl
theorem c25:Tryz.prog.cellsOf 25 = 1:=by kernel_rfl
theorem c26:Tryz.prog.cellsOf 26 = 1:=by kernel_rfl
theorem c28:Tryz.prog.cellsOf 28 = 2:=by kernel_rfl
theorem c69:Tryz.prog.cellsOf 69 = 2:=by kernel_rfl
theorem c30:Tryz.prog.cellsOf 30 = 8:=by kernel_rfl
section
variable {H:Type} {enc:TypeId × Value→H} {W:World} {N fuel:Nat} {cs:List Value} {x:DataW H × List MemPlace}
theorem Z7f {α:Type} {l:List α} {n i:Nat} (h:l.length = n) (hi:i < n):∃ y,l[i]? = some y:=⟨_,List.getElem?_eq_getElem (by omega)⟩
theorem Zi7 {α:Type} {s:St} {e:TypeId} {k:Nat} {v:Value} {a:AVal} {elems:List (DataW H × List MemPlace)} (R:α→List AVal→Prop) (hc1:Tryz.prog.cellsOf e = k) (hs:s = stW W N) (he:∀ n vs x l,DataW.trod enc Tryz.prog W 0 (fun _ => true) true n e vs = some x→vs.mapM (Z3o W N) = some l→∃ y,R y l)
  (h:SliceW Tryz.prog enc W (fun _ => true) true N e v a elems):∃ ys:List α,ys.length ≤ 2 ^ 63 - 1∧((Z18 a = some 0∧ys = []) ∨ ∃ b c cells,a = .slice b 0 ys.length c∧s.Old b∧s.cells b = some cells∧ys.length * k ≤ cells.length∧∀ (i:Nat) y,ys[i]? = some y→R y ((cells.drop (i * k)).take k)):=by
 subst hs
 cases h with
 | nil => exact ⟨[],by simp,.inl ⟨rfl,rfl⟩⟩
 | empty => exact ⟨[],by simp,.inl ⟨rfl,rfl⟩⟩
 | @row b o len cap n _ cells hb ho hcells hlen hc0 hcap hmax hcs hel =>
  rw [hc1] at hcs
  have hone:∀ i,i < len→∃ y:α,R y ((cells.drop (i * k)).take k):=by
   intro i hi
   obtain ⟨vs,x,l,h1,_,h3,h4⟩:=hel i hi
   obtain ⟨y,hy⟩:=he n vs x l h1 h3
   rw [hc1] at h4
   exact ⟨y,by rw [h4]; exact hy⟩
  obtain ⟨ys,hys,hl⟩:∃ ys:List α,(∀ (i:Nat) (y:α),ys[i]? = some y→R y ((cells.drop (i * k)).take k))∧ys.length = len:=by
   have key:∀ n,n ≤ len→∃ ys:List α,(∀ (i:Nat) (y:α),ys[i]? = some y→R y ((cells.drop (i * k)).take k))∧ys.length = n:=by
    intro n
    induction n with
    | zero => exact fun _ => ⟨[],by simp,rfl⟩
    | succ n ih =>
     intro hk
     obtain ⟨ys,h1,h2⟩:=ih (by omega)
     obtain ⟨y,hy⟩:=hone n (by omega)
     refine ⟨ys ++ [y],fun i z hz => ?_,by simp [h2]⟩
     rw [List.getElem?_append] at hz
     split at hz
     ·exact h1 i z hz
     ·rename_i hi
      have:i = n:=by
       have:=(List.getElem?_eq_some_iff.1 hz).1
       simp at this
       omega
      subst this
      simp [h2] at hz
      subst hz
      exact hy
   exact key len (Nat.le_refl _)
  refine ⟨ys,by unfold maxLen at hmax; omega,.inr ⟨nameOf N b o,.lim cap,cells,by simp [hl],?_,hcells,by rw [hl]; exact hcs,hys⟩⟩
  unfold St.cells at hcells
  cases hob:(stW W N).obj (nameOf N b o) with
  | none => rw [hob] at hcells; cases hcells
  | some y => exact Z3c (Zoz (w:=W) (N:=N)) hob
theorem open_ints (hN:Big W N) (h:DataW.trod enc Tryz.prog W 0 (fun _ => true) true fuel 25 cs = some x):∃ v a ks,cs = [v]∧Z3o W N v = some a∧Z0e (stW W N) a ks:=by
 obtain ⟨v,a,elems,rfl,hs⟩:=Zah hN Tryz.underlying25 (by rw [c3]; decide) (fun n vs x h => by
  obtain ⟨k,rfl,_,_⟩:=DataW.trod_int Tryz.underlying3 h
  exact ⟨[.int .i64 k],rfl⟩) h
 obtain ⟨ks,_,hk⟩:=Zi7 (s:=stW W N) (fun (k:Int) l => l = [.int .i64 k]) c3 rfl (fun n vs x l h1 h2 => by
  obtain ⟨k,rfl,_,_⟩:=DataW.trod_int Tryz.underlying3 h1
  refine ⟨k,?_⟩
  simp [List.mapM_cons,Z3o] at h2
  exact h2.symm) hs
 refine ⟨v,a,ks,rfl,hs.conv,?_⟩
 rcases hk with h | ⟨b,c,cells,h1,h2,h3,h4,h5⟩
 ·exact .inl h
 ·refine .inr ⟨b,0,c,cells,h1,h2,h3,by omega,fun i k hi => ?_⟩
  have:=congrArg (fun l => l[0]?) (h5 i k hi)
  simpa using this
theorem Zlq (hN:Big W N) (h:DataW.trod enc Tryz.prog W 0 (fun _ => true) true fuel 69 cs = some x):∃ (nd:ND) (kv:AVal),cs.mapM (Z3o W N) = some [.str nd.1,kv]∧Z0e (stW W N) kv nd.2:=by
 obtain ⟨xs,n,_,_,hl,hx,hf⟩:=DataW.trod_struct Tryz.underlying69 h
 rw [c69] at hl
 match cs,hl with
 | [c0,c1],_ =>
  have h0:DataW.trod enc Tryz.prog W 0 (fun _ => true) true n 9 (([c0,c1].drop 0).take (Tryz.prog.cellsOf 9)) = xs[0]?:=hf 0 _ rfl
  have h1:DataW.trod enc Tryz.prog W 0 (fun _ => true) true n 25 (([c0,c1].drop 1).take (Tryz.prog.cellsOf 25)) = xs[1]?:=hf 1 _ rfl
  obtain ⟨y0,e0⟩:=Z7f hx (show 0 < 2 by decide)
  obtain ⟨y1,e1⟩:=Z7f hx (show 1 < 2 by decide)
  rw [e0,c9] at h0
  rw [e1,c25] at h1
  obtain ⟨s,e2,_,_⟩:=DataW.trod_string Tryz.underlying9 h0
  obtain ⟨v,a,ks,e3,hc,hm⟩:=open_ints hN h1
  simp at e2 e3
  subst e2 e3
  exact ⟨(s.data.toList,ks),a,by simp [List.mapM_cons,hc]; rfl,hm⟩
theorem Zt3 (hN:Big W N) (h:DataW.trod enc Tryz.prog W 0 (fun _ => true) true fuel 26 cs = some x):∃ v a ns,cs = [v]∧Z3o W N v = some a∧Z78 (stW W N) a ns∧ns.length ≤ 2 ^ 63 - 1:=by
 obtain ⟨v,a,elems,rfl,hs⟩:=Zah hN Tryz.underlying26 (by rw [c69]; decide) (fun n vs x h => by
  obtain ⟨nd,kv,h1,_⟩:=Zlq hN h
  exact ⟨_,h1⟩) h
 obtain ⟨ns,hn,hk⟩:=Zi7 (s:=stW W N) (fun (nd:ND) l => ∃ kv,l = [.str nd.1,kv]∧Z0e (stW W N) kv nd.2) c69 rfl (fun n vs x l h1 h2 => by
  obtain ⟨nd,kv,h3,h4⟩:=Zlq hN h1
  rw [h3] at h2
  cases h2
  exact ⟨nd,kv,rfl,h4⟩) hs
 refine ⟨v,a,ns,rfl,hs.conv,?_,hn⟩
 rcases hk with h | ⟨b,c,cells,h1,h2,h3,h4,h5⟩
 ·exact .inl h
 ·by_cases hne:ns = []
  ·subst hne
   exact .inl ⟨by rw [h1]; rfl,rfl⟩
  ·refine .inr ⟨b,c,h1,Zlm (c:=c) hne (.inr ⟨b,0,c,cells,rfl,h2,h3,by omega,fun i nd hi => ?_⟩)⟩
   obtain ⟨kv,e1,e2⟩:=h5 i nd hi
   have g0:=congrArg (fun l => l[0]?) e1
   have g1:=congrArg (fun l => l[1]?) e1
   exact ⟨by simpa using g0,kv,by simpa [Nat.add_comm,Nat.add_left_comm] using g1,e2⟩
theorem Zr8 (hN:Big W N) (h:DataW.trod enc Tryz.prog W 0 (fun _ => true) true fuel 30 cs = some x):∃ l o,cs.mapM (Z3o W N) = some l∧OpAt (stW W N) l o:=by
 obtain ⟨xs,n,_,_,hl,hx,hf⟩:=DataW.trod_struct Tryz.underlying30 h
 rw [c30] at hl
 match cs,hl with
 | [c0,c1,c2,c3',c4,c5,c6,c7],_ =>
  have h0:DataW.trod enc Tryz.prog W 0 (fun _ => true) true n 3 (([c0,c1,c2,c3',c4,c5,c6,c7].drop 0).take (Tryz.prog.cellsOf 3)) = xs[0]?:=hf 0 _ rfl
  obtain ⟨y0,e0⟩:=Z7f hx (show 0 < 7 by decide)
  rw [e0,c3] at h0
  have h1:DataW.trod enc Tryz.prog W 0 (fun _ => true) true n 9 (([c0,c1,c2,c3',c4,c5,c6,c7].drop 1).take (Tryz.prog.cellsOf 9)) = xs[1]?:=hf 1 _ rfl
  obtain ⟨y1,e1⟩:=Z7f hx (show 1 < 7 by decide)
  rw [e1,c9] at h1
  have h2:DataW.trod enc Tryz.prog W 0 (fun _ => true) true n 25 (([c0,c1,c2,c3',c4,c5,c6,c7].drop 2).take (Tryz.prog.cellsOf 25)) = xs[2]?:=hf 2 _ rfl
  obtain ⟨y2,e2⟩:=Z7f hx (show 2 < 7 by decide)
  rw [e2,c25] at h2
  have h3:DataW.trod enc Tryz.prog W 0 (fun _ => true) true n 3 (([c0,c1,c2,c3',c4,c5,c6,c7].drop 3).take (Tryz.prog.cellsOf 3)) = xs[3]?:=hf 3 _ rfl
  obtain ⟨y3,e3⟩:=Z7f hx (show 3 < 7 by decide)
  rw [e3,c3] at h3
  have h4:DataW.trod enc Tryz.prog W 0 (fun _ => true) true n 3 (([c0,c1,c2,c3',c4,c5,c6,c7].drop 4).take (Tryz.prog.cellsOf 3)) = xs[4]?:=hf 4 _ rfl
  obtain ⟨y4,e4⟩:=Z7f hx (show 4 < 7 by decide)
  rw [e4,c3] at h4
  have h5:DataW.trod enc Tryz.prog W 0 (fun _ => true) true n 3 (([c0,c1,c2,c3',c4,c5,c6,c7].drop 5).take (Tryz.prog.cellsOf 3)) = xs[5]?:=hf 5 _ rfl
  obtain ⟨y5,e5⟩:=Z7f hx (show 5 < 7 by decide)
  rw [e5,c3] at h5
  have h6:DataW.trod enc Tryz.prog W 0 (fun _ => true) true n 28 (([c0,c1,c2,c3',c4,c5,c6,c7].drop 6).take (Tryz.prog.cellsOf 28)) = xs[6]?:=hf 6 _ rfl
  obtain ⟨y6,e6⟩:=Z7f hx (show 6 < 7 by decide)
  rw [e6,c28] at h6
  obtain ⟨k,g0,_,_⟩:=DataW.trod_int Tryz.underlying3 h0
  obtain ⟨s,g1,_,_⟩:=DataW.trod_string Tryz.underlying9 h1
  obtain ⟨v,kids,ks,g2,gk,gl⟩:=open_ints hN h2
  obtain ⟨a,g3,_,_⟩:=DataW.trod_int Tryz.underlying3 h3
  obtain ⟨b,g4,_,_⟩:=DataW.trod_int Tryz.underlying3 h4
  obtain ⟨c,g5,_,_⟩:=DataW.trod_int Tryz.underlying3 h5
  obtain ⟨zs,n2,_,_,_,hz,hg⟩:=DataW.trod_struct Tryz.underlying28 h6
  have i0:DataW.trod enc Tryz.prog W 0 (fun _ => true) true n2 26 (([c6,c7].drop 0).take (Tryz.prog.cellsOf 26)) = zs[0]?:=hg 0 _ rfl
  have i1:DataW.trod enc Tryz.prog W 0 (fun _ => true) true n2 3 (([c6,c7].drop 1).take (Tryz.prog.cellsOf 3)) = zs[1]?:=hg 1 _ rfl
  obtain ⟨z0,f0⟩:=Z7f hz (show 0 < 2 by decide)
  obtain ⟨z1,f1⟩:=Z7f hz (show 1 < 2 by decide)
  rw [f0,c26] at i0
  rw [f1,c3] at i1
  obtain ⟨u,nodes,ns,g6,gc,gn,gm⟩:=Zt3 hN i0
  obtain ⟨r,g7,_,_⟩:=DataW.trod_int Tryz.underlying3 i1
  simp at g0 g1 g2 g3 g4 g5 g6 g7
  subst g0 g1 g2 g3 g4 g5 g6 g7
  refine ⟨[.int .i64 k,.str s.data.toList,kids,.int .i64 a,.int .i64 b,.int .i64 c,nodes,.int .i64 r],⟨k,s.data.toList,ks.length,a,b,c,ns,r⟩,?_,kids,nodes,rfl,gl.len,gn,gm⟩
  simp [List.mapM_cons,gk,gc]
  rfl
theorem Zxi (hN:Big W N) (h:DataW.trod enc Tryz.prog W 0 (fun _ => true) true fuel 23 cs = some x):∃ v a os,cs = [v]∧Z3o W N v = some a∧Z8g (stW W N) a os:=by
 obtain ⟨v,a,elems,rfl,hs⟩:=Zah hN Tryz.underlying23 (by rw [c30]; decide) (fun n vs x h => by
  obtain ⟨l,o,h1,_⟩:=Zr8 hN h
  exact ⟨_,h1⟩) h
 obtain ⟨os,_,hk⟩:=Zi7 (s:=stW W N) (fun (o:OpV) l => OpAt (stW W N) l o) c30 rfl (fun n vs x l h1 h2 => by
  obtain ⟨l',o,h3,h4⟩:=Zr8 hN h1
  rw [h3] at h2
  cases h2
  exact ⟨o,h4⟩) hs
 exact ⟨v,a,os,rfl,hs.conv,hk⟩
end
inductive UT where
 | cut
 | node (nm:List UInt8) (kids:List UT)
def UT.name:UT→List UInt8
 | .cut => []
 | .node nm _ => nm
def UT.kids:UT→List UT
 | .cut => []
 | .node _ ks => ks
def unf (nds:List ND):Nat→Nat→UT
 | 0,_ => .cut
 | d + 1,a => match nds[a]? with
  | none => .cut
  | some nd => .node nd.1 (nd.2.map fun k => unf nds d k.toNat)
abbrev Lab:=Nat→UT
def lab (nds:List ND) (a:Nat):Lab:=fun d => unf nds d a
theorem Z8r {nds:List ND} {a:Nat} {nd:ND} (h:nds[a]? = some nd) (d:Nat):unf nds (d + 1) a = .node nd.1 (nd.2.map fun k => unf nds d k.toNat):=by
 simp [unf,h]
def Zsl (b:Lab):List Lab:=(List.range (b 1).kids.length).map fun j d => ((b (d + 1)).kids[j]?).getD .cut
theorem Zap {nds:List ND} {a:Nat} {nd:ND} (h:nds[a]? = some nd):Zsl (lab nds a) = nd.2.map fun k => lab nds k.toNat:=by
 refine List.ext_getElem? fun j => ?_
 have h1:(lab nds a 1).kids.length = nd.2.length:=by
  show (unf nds 1 a).kids.length = _
  rw [Z8r h]
  simp [UT.kids]
 unfold Zsl
 rw [h1]
 by_cases hj:j < nd.2.length
 ·rw [List.getElem?_map,List.getElem?_range hj,List.getElem?_map,List.getElem?_eq_getElem hj]
  simp only [Option.map_some]
  congr 1
  funext d
  show (((unf nds (d + 1) a).kids)[j]?).getD .cut = _
  rw [Z8r h]
  simp [UT.kids,hj]
  rfl
 ·rw [List.getElem?_eq_none (by simpa using hj),List.getElem?_eq_none (by simpa using hj)]
def lname (b:Lab):List UInt8:=(b 1).name
theorem Zcn {nds:List ND} {a:Nat} {nd:ND} (h:nds[a]? = some nd):lname (lab nds a) = nd.1:=by
 show (unf nds 1 a).name = _
 rw [Z8r h]
 rfl
theorem Zr0 {nds:List ND} {r:Nat}:∀ {x y:List Int},x.length = y.length→(∀ (j:Nat) (k m:Int),x[j]? = some k→y[j]? = some m→unf nds r k.toNat = unf nds r m.toNat)→x.map (fun k => unf nds r k.toNat) = y.map fun k => unf nds r k.toNat
 | [],[],_,_ => rfl
 | k :: x,m :: y,hl,h => by
  rw [List.map_cons,List.map_cons,h 0 k m rfl rfl,Zr0 (x:=x) (y:=y) (by simpa using hl) (fun j k m a b => h (j + 1) k m (by simpa using a) (by simpa using b))]
 | [],_ :: _,hl,_ => by simp at hl
 | _ :: _,[],hl,_ => by simp at hl
theorem Zgx {nds:List ND} {L:List Nat} (hC:Closed nds L):∀ (r a b:Nat),a ∈ L→b ∈ L→(sim nds r a b ↔ unf nds r a = unf nds r b)
 | 0,a,b,_,_ => by simp [sim,unf]
 | r + 1,a,b,ha,hb => by
  have hx:nds[a]? = some (nds[a]'(hC.lt a ha)):=List.getElem?_eq_getElem _
  have hy:nds[b]? = some (nds[b]'(hC.lt b hb)):=List.getElem?_eq_getElem _
  generalize nds[a]'(hC.lt a ha) = x at hx
  generalize nds[b]'(hC.lt b hb) = y at hy
  obtain ⟨_,hkx⟩:=hC.kids a ha _ hx
  obtain ⟨_,hky⟩:=hC.kids b hb _ hy
  rw [Z8r hx,Z8r hy]
  constructor
  ·rintro ⟨x',y',hx',hy',e1,e2,e3⟩
   rw [hx] at hx'
   rw [hy] at hy'
   cases hx'
   cases hy'
   rw [e1,Zr0 e2 fun j k m hk hm => (Zgx hC r _ _ (hkx k (List.mem_of_getElem? hk)) (hky m (List.mem_of_getElem? hm))).1 (e3 j k m hk hm)]
  ·intro h
   injection h with e1 e2
   have hl:x.2.length = y.2.length:=by simpa using congrArg List.length e2
   refine ⟨x,y,hx,hy,e1,hl,fun j k m hk hm => (Zgx hC r _ _ (hkx k (List.mem_of_getElem? hk)) (hky m (List.mem_of_getElem? hm))).2 ?_⟩
   have:=congrArg (fun l => l[j]?) e2
   simpa [hk,hm] using this
theorem Zkt {nds:List ND} {L:List Nat} (hC:Closed nds L) {a b:Nat} (ha:a ∈ L) (hb:b ∈ L):(∀ r,sim nds r a b) ↔ lab nds a = lab nds b:=by
 constructor
 ·intro h
  funext r
  exact (Zgx hC r a b ha hb).1 (h r)
 ·intro h r
  exact (Zgx hC r a b ha hb).2 (congrFun h r)
section
open Classical
variable {α β κ:Type}
noncomputable def addB (v:List β) (k:β):List β:=if k ∈ v then v else v ++ [k]
noncomputable def Z64 (v:List β) (ks:List β):List β:=ks.foldl addB v
noncomputable def dd (l:List β):List β:=Z64 [] l
theorem Zwg (v:List β) (k:β):∃ w,addB v k = v ++ w:=by
 unfold addB
 split
 ·exact ⟨[],by simp⟩
 ·exact ⟨[k],rfl⟩
theorem Zez:∀ (ks v:List β),∃ w,Z64 v ks = v ++ w
 | [],v => ⟨[],by simp [Z64]⟩
 | k :: ks,v => by
  obtain ⟨w1,h1⟩:=Zwg v k
  obtain ⟨w2,h2⟩:=Zez ks (addB v k)
  exact ⟨w1 ++ w2,by show Z64 (addB v k) ks = _; rw [h2,h1,List.append_assoc]⟩
theorem Zx5 {v:List β} {k x:β}:x ∈ addB v k ↔ x ∈ v ∨ x = k:=by
 unfold addB
 split
 ·rename_i h
  constructor
  ·exact .inl
  ·rintro (h' | rfl)
   ·exact h'
   ·exact h
 ·simp
theorem Zlg {x:β}:∀ {ks v:List β},x ∈ Z64 v ks ↔ x ∈ v ∨ x ∈ ks
 | [],v => by simp [Z64]
 | k :: ks,v => by
  show x ∈ Z64 (addB v k) ks ↔ _
  rw [Zlg (ks:=ks),Zx5,List.mem_cons,or_assoc]
theorem mem_dd {x:β} {l:List β}:x ∈ dd l ↔ x ∈ l:=by
 unfold dd
 rw [Zlg]
 simp
theorem Zmm (v ks ls:List β):Z64 v (ks ++ ls) = Z64 (Z64 v ks) ls:=by
 unfold Z64
 rw [List.foldl_append]
theorem Zl2 (l m:List β):dd (l ++ m) = Z64 (dd l) m:=Zmm _ _ _
theorem Zqm (l:List β) (x:β):dd (l ++ [x]) = addB (dd l) x:=Zl2 l [x]
end
theorem Zrj {nds nds':List ND} {R:Nat→Nat→Prop} (h:∀ a b,R a b→∃ x y,nds[a]? = some x∧nds'[b]? = some y∧x.1 = y.1∧x.2.length = y.2.length∧∀ (j:Nat) (k m:Int),x.2[j]? = some k→y.2[j]? = some m→R k.toNat m.toNat) :
  ∀ (d a b:Nat),R a b→unf nds d a = unf nds' d b
 | 0,a,b,_ => rfl
 | d + 1,a,b,hab => by
  obtain ⟨x,y,hx,hy,e1,e2,e3⟩:=h a b hab
  rw [Z8r hx,Z8r hy,e1]
  congr 1
  refine List.ext_getElem? fun j => ?_
  rw [List.getElem?_map,List.getElem?_map]
  by_cases hj:j < x.2.length
  ·rw [List.getElem?_eq_getElem hj,List.getElem?_eq_getElem (show j < y.2.length by omega)]
   simp only [Option.map_some]
   rw [Zrj h d _ _ (e3 j _ _ (List.getElem?_eq_getElem hj) (List.getElem?_eq_getElem (show j < y.2.length by omega)))]
  ·rw [List.getElem?_eq_none (by omega),List.getElem?_eq_none (by omega)]; rfl
theorem Zdk {nds nds':List ND} {R:Nat→Nat→Prop} (h:∀ a b,R a b→∃ x y,nds[a]? = some x∧nds'[b]? = some y∧x.1 = y.1∧x.2.length = y.2.length∧∀ (j:Nat) (k m:Int),x.2[j]? = some k→y.2[j]? = some m→R k.toNat m.toNat)
  {a b:Nat} (hab:R a b):lab nds a = lab nds' b:=funext fun d => Zrj h d a b hab
section
open Classical
variable {β:Type}
noncomputable def idxB (b:β):List β→Nat
 | [] => 0
 | x :: l => if x = b then 0 else idxB b l + 1
theorem Zqv {b:β}:∀ {l:List β},b ∈ l→idxB b l < l.length
 | [],h => by cases h
 | x :: l,h => by
  unfold idxB
  split
  ·simp
  ·rename_i hx
   rcases List.mem_cons.1 h with rfl | h
   ·exact (hx rfl).elim
   ·have:=Zqv h
    simp
    omega
theorem Zqu {b:β} {m:List β}:∀ {l:List β},b ∈ l→idxB b (l ++ m) = idxB b l
 | [],h => by cases h
 | x :: l,h => by
  rw [List.cons_append]
  unfold idxB
  split
  ·rfl
  ·rename_i hx
   rcases List.mem_cons.1 h with rfl | h
   ·exact (hx rfl).elim
   ·rw [Zqu h]
theorem Znj {b:β} {m:List β}:∀ {l:List β},b ∉ l→idxB b (l ++ m) = l.length + idxB b m
 | [],_ => by simp
 | x :: l,h => by
  rw [List.cons_append]
  conv => lhs; unfold idxB
  split
  ·rename_i hx
   exact (h (by simp [hx])).elim
  ·rw [Znj (fun hm => h (by simp [hm])),List.length_cons]
   omega
theorem Znh {b:β}:∀ {l:List β},b ∈ l→l[idxB b l]? = some b
 | [],h => by cases h
 | x :: l,h => by
  unfold idxB
  split
  ·rename_i hx
   rw [hx]; rfl
  ·rename_i hx
   rcases List.mem_cons.1 h with rfl | h
   ·exact (hx rfl).elim
   ·simpa using Znh h
theorem Zni {α μ:Type} {f:α→β} {g:α→μ} {a:α}:∀ {l:List α},(∀ e ∈ l,(f e = f a ↔ g e = g a))→idxB (f a) (l.map f) = idxB (g a) (l.map g)
 | [],_ => rfl
 | e :: l,h => by
  rw [List.map_cons,List.map_cons]
  unfold idxB
  have:=h e (by simp)
  by_cases he:f e = f a
  ·rw [if_pos he,if_pos (this.1 he)]
  ·rw [if_neg he,if_neg (fun hg => he (this.2 hg)),Zni fun x hx => h x (by simp [hx])]
noncomputable def Z5c {α:Type} (f:α→β) (l:List α):List α:=l.foldl (fun v a => if f a ∈ v.map f then v else v ++ [a]) []
theorem Za9 {α:Type} (f:α→β) (l:List α) (a:α):Z5c f (l ++ [a]) = if f a ∈ (Z5c f l).map f then Z5c f l else Z5c f l ++ [a]:=by
 unfold Z5c
 rw [List.foldl_append]
 rfl
theorem Zj6 {α:Type} (f:α→β) (l:List α):(Z5c f l).map f = dd (l.map f):=by
 induction l using Zbw with
 | nil => rfl
 | append_singleton l a ih =>
  rw [Za9,List.map_append,List.map_cons,List.map_nil,Zqm,← ih]
  unfold addB
  split
  ·rfl
  ·rw [List.map_append]; rfl
theorem Ze5 {α:Type} (f:α→β) (l:List α):∀ x ∈ Z5c f l,x ∈ l:=by
 induction l using Zbw with
 | nil => intro x hx; cases hx
 | append_singleton l a ih =>
  intro x hx
  rw [Za9] at hx
  split at hx
  ·exact List.mem_append_left _ (ih x hx)
  ·rcases List.mem_append.1 hx with hx | hx
   ·exact List.mem_append_left _ (ih x hx)
   ·exact List.mem_append_right _ hx
theorem Zpk {α μ:Type} {f:α→β} {g:α→μ} (l:List α):(∀ a ∈ l,∀ b ∈ l,(f a = f b ↔ g a = g b))→Z5c f l = Z5c g l:=by
 induction l using Zbw with
 | nil => intro _; rfl
 | append_singleton l a ih =>
  intro h
  have e:=ih fun x hx y hy => h x (by simp [hx]) y (by simp [hy])
  rw [Za9,Za9,← e]
  have:f a ∈ (Z5c f l).map f ↔ g a ∈ (Z5c f l).map g:=by
   rw [List.mem_map,List.mem_map]
   constructor
   ·rintro ⟨x,hx,hf⟩
    exact ⟨x,hx,(h x (by simp [Ze5 f l x hx]) a (by simp)).1 hf⟩
   ·rintro ⟨x,hx,hf⟩
    exact ⟨x,hx,(h x (by simp [Ze5 f l x hx]) a (by simp)).2 hf⟩
  by_cases hm:f a ∈ (Z5c f l).map f
  ·rw [if_pos hm,if_pos (this.1 hm)]
  ·rw [if_neg hm,if_neg (fun hg => hm (this.2 hg))]
theorem Zx0 {α μ:Type} {f:α→β} {g:α→μ} {l:List α} (h:∀ a ∈ l,∀ b ∈ l,(f a = f b ↔ g a = g b)) {a:α} (ha:a ∈ l):idxB (f a) (dd (l.map f)) = idxB (g a) (dd (l.map g)):=by
 rw [← Zj6 f l,← Zj6 g l,← Zpk l h]
 exact Zni fun e he => h e (Ze5 f l e he) a ha
end
theorem Zlb (f:Nat→Key):∀ (L:List Nat) (D:List Key),Z17 f D L = Z64 D (L.map f)
 | [],D => rfl
 | a :: L,D => by
  show Z17 f (addK D (f a)) L = Z64 (addB D (f a)) (L.map f)
  rw [Zlb f L]
  congr 1
  unfold addK addB
  by_cases h:f a ∈ D
  ·rw [if_pos h,if_pos h]
  ·rw [if_neg h,if_neg h]
theorem Zje {b:Key}:∀ (l:List Key),l.idxOf b = idxB b l
 | [] => rfl
 | x :: l => by
  rw [List.idxOf_cons]
  unfold idxB
  by_cases h:x = b
  ·rw [if_pos h]; simp [h]
  ·rw [if_neg h,← Zje l]
   have:(x == b) = false:=by simpa using h
   rw [this]
   rfl
theorem Zgh {nds:List ND} {L:List Nat} (hC:Closed nds L) {a:Nat} (ha:a ∈ L):(clsF nds L)[a]? = some ((idxB (lab nds a) (dd (L.map (lab nds))):Nat):Int):=by
 obtain ⟨f,hf,hs⟩:=Zn0 hC
 rw [hf a ha,Zje,Zlb]
 have:idxB (f a) (dd (L.map f)) = idxB (lab nds a) (dd (L.map (lab nds))):=Zx0 (fun x hx y hy => (hs x hx y hy).trans (Zkt hC hx hy)) ha
 rw [← this]
 rfl
noncomputable def canN (D:List Lab) (b:Lab):ND:=(lname b,(Zsl b).map fun x => ((idxB x D:Nat):Int))
noncomputable def canD (D:List Lab):List ND:=D.map (canN D)
theorem Zvh {nds:List ND} {L:List Nat} (hC:Closed nds L) {a:Nat} {nd:ND} (ha:a ∈ L) (h:nds[a]? = some nd):Z59 (clsF nds L) nd = canN (dd (L.map (lab nds))) (lab nds a):=by
 unfold Z59 canN
 rw [Zcn h,Zap h,List.map_map]
 congr 1
 refine List.map_congr_left fun k hk => ?_
 rw [Zgh hC ((hC.kids a ha nd h).2 k hk)]
 rfl
theorem out_can {nds:List ND} {L:List Nat} (hC:Closed nds L):outF (clsF nds L) nds L = canD (dd (L.map (lab nds))):=by
 have key:∀ (P S:List Nat),L = P ++ S→outF (clsF nds L) nds P = (dd (P.map (lab nds))).map (canN (dd (L.map (lab nds)))):=by
  intro P
  induction P using Zbw with
  | nil => intro S _; rfl
  | append_singleton P x ih =>
   intro S hS
   have ihp:=ih (x :: S) (by rw [hS]; simp)
   have hx:x ∈ L:=by rw [hS]; simp
   have hnd:nds[x]? = some (nds[x]'(hC.lt x hx)):=List.getElem?_eq_getElem _
   have e1:outF (clsF nds L) nds (P ++ [x]) = Z2t (clsF nds L) nds (outF (clsF nds L) nds P) x:=by unfold outF; rw [List.foldl_append]; rfl
   rw [e1,ihp]
   unfold Z2t
   rw [Zgh hC hx,hnd]
   simp only
   rw [Zvh hC hx hnd]
   obtain ⟨T,hT⟩:=Zez ((x :: S).map (lab nds)) (dd (P.map (lab nds)))
   have hD:dd (L.map (lab nds)) = dd (P.map (lab nds)) ++ T:=by
    rw [hS,List.append_assoc,List.map_append,Zl2]
    exact hT
   rw [List.map_append,List.map_cons,List.map_nil,Zqm,List.length_map]
   unfold addB
   by_cases hm:lab nds x ∈ dd (P.map (lab nds))
   ·rw [if_pos hm,hD,Zqu hm,if_pos (by have:=Zqv hm; omega)]
   ·rw [if_neg hm]
    have:¬ ((idxB (lab nds x) (dd (L.map (lab nds))):Nat):Int) < ((dd (P.map (lab nds))).length:Nat):=by
     rw [hD,Znj hm]
     omega
    rw [if_neg this,List.map_append]
    rfl
 exact key L [] (by simp)
noncomputable abbrev lb (cs:List CV) (a:Nat):Lab:=lab (Z11 cs) a
theorem Zqi {nds:List ND} {L:List Nat} {a:Nat} (hC:Closed nds L) (ha:a < nds.length) (h:a ∉ L):(clsF nds L)[a]? = some (-1):=by
 obtain ⟨R,h1,_⟩:=Z9o hC
 rw [h1]
 exact Zfv nds L R a ha h
theorem Ze1 {nds:List ND} {L:List Nat} {a b:Nat} (hC:Closed nds L) (ha:a ∈ L) (hb:b ∈ L):(clsF nds L)[a]? = (clsF nds L)[b]? ↔ lab nds a = lab nds b:=(Zdz hC ha hb).trans (Zkt hC ha hb)
noncomputable abbrev clsH (cs:List CV):List Int:=clsF (Z11 cs) (Z1f cs cs.length)
theorem Zgn {cs:List CV} {a:Nat}:a ∈ Z1f cs cs.length ↔ Z07 cs (a:Int) = true:=by
 rw [Z4o]
 exact ⟨fun h => h.2,fun h => ⟨Z1y h,h⟩⟩
theorem Z92 {cs:List CV} (h:HOk cs) {a:Nat} (ha:Z07 cs (a:Int) = true) :
  ∃ j:Nat,toC (clsH cs) (a:Int) = j∧j ≤ a∧Z07 cs (j:Int) = true∧lb cs j = lb cs a∧∀ j',j' < j→Z07 cs (j':Int) = true→lb cs j' ≠ lb cs a:=by
 have hL:=Zgn.2 ha
 have hc:=Zgh h.closed hL
 obtain ⟨j,h1,h2,h3,h4⟩:=Zp1 hc
 have hlt:=Z1y ha
 have hj:j ∈ Z1f cs cs.length:=Classical.byContradiction fun hn => by
  have:=Zqi h.closed (a:=j) (by rw [Z1s]; omega) hn
  rw [h3] at this
  injection this with this
  omega
 refine ⟨j,h1,h2,Zgn.1 hj,(Ze1 h.closed hj hL).1 (h3.trans hc.symm),fun j' hj' ht e => ?_⟩
 have:=(Ze1 h.closed (Zgn.2 ht) hL).2 e
 rw [hc] at this
 exact h4 j' _ hj' this rfl
theorem Zy4 {cs:List CV} (h:HOk cs) {a j:Nat} (ha:Z07 cs (a:Int) = true) (hj:Z07 cs (j:Int) = true) (hl:lb cs j = lb cs a) (hm:∀ j',j' < j→Z07 cs (j':Int) = true→lb cs j' ≠ lb cs a):toC (clsH cs) (a:Int) = j:=by
 obtain ⟨j0,h1,h2,h3,h4,h5⟩:=Z92 h ha
 rw [h1]
 rcases Nat.lt_trichotomy j0 j with h6 | h6 | h6
 ·exact (hm j0 h6 h3 h4).elim
 ·rw [h6]
 ·exact (h5 j h6 hj hl).elim
theorem Zgy {cs:List CV} (h:HOk cs) {a:Nat} (ha:Z07 cs (a:Int) = true):toC (clsH cs) (toC (clsH cs) (a:Int)) = toC (clsH cs) (a:Int):=by
 obtain ⟨j0,h1,h2,h3,h4,h5⟩:=Z92 h ha
 rw [h1]
 exact Zy4 h h3 h3 rfl (fun j' hj' ht e => h5 j' hj' ht (e.trans h4))
theorem Z4w {cs:List CV} {a:Nat} (ha:Z07 cs (a:Int) = true):∃ c,cs[a]? = some c∧c.taken = true∧(Z11 cs)[a]? = some (c.name,c.kids):=by
 obtain ⟨_,d,hd,ht,_⟩:=Z22 ha
 rw [Int.toNat_natCast] at hd
 refine ⟨d,hd,ht,?_⟩
 rw [Z39 hd,if_pos ht]
theorem Zao {cs:List CV} (h:HOk cs) {a:Nat} {c:CV} {k:Int} (hc:cs[a]? = some c) (ht:c.taken = true) (hk:k ∈ c.kids):Z07 cs ((k.toNat:Nat):Int) = true∧0 ≤ k:=by
 have h1:=h.kids c (List.mem_of_getElem? hc) ht k hk
 have h0:=(Z22 h1).1
 rw [Int.toNat_of_nonneg h0]
 exact ⟨h1,h0⟩
theorem Zms {cs:List CV} (ts:List ND) (hO:HOk cs) {a:Nat} (ha:Z07 cs (a:Int) = true):lab (bigG cs ts) a = lb cs a:=by
 refine Zdk (R:=fun x y => x = y∧Z07 cs (x:Int) = true) ?_ ⟨rfl,ha⟩
 rintro x y ⟨rfl,hx⟩
 obtain ⟨c,h1,h2,h3⟩:=Z4w hx
 refine ⟨_,_,by rw [Zf2 (Z1y hx)]; exact h3,h3,rfl,rfl,fun j k m hk hm => ?_⟩
 rw [hk] at hm
 cases hm
 exact ⟨rfl,(Zao hO h1 h2 (List.mem_of_getElem? hk)).1⟩
theorem Zmt (cs:List CV) {ts:List ND} (hT:GrOk ts) {i:Nat} (hi:i < ts.length):lab (bigG cs ts) (cs.length + i) = lab ts i:=by
 refine Zdk (R:=fun x y => x = cs.length + y∧y < ts.length) ?_ ⟨rfl,hi⟩
 rintro x y ⟨rfl,hy⟩
 have hg:ts[y]? = some ts[y]:=List.getElem?_eq_getElem hy
 refine ⟨Z5s cs.length ts[y],ts[y],by rw [Zf3,hg]; rfl,hg,rfl,by simp [Z5s],fun j k m hk hm => ?_⟩
 have hm2:(Z5s cs.length ts[y]).2[j]? = some ((cs.length:Int) + m):=by
  unfold Z5s
  simp only
  rw [List.getElem?_map,hm]
  rfl
 rw [hm2] at hk
 cases hk
 have:=(hT _ (List.getElem_mem hy)).2 m (List.mem_of_getElem? hm)
 omega
theorem Zjb {cs:List CV} {ts:List ND} (hO:HOk cs) (hT:GrOk ts) {i:Nat} (hi:i < ts.length):∃ v:Int,(Z24 cs ts)[i]? = some v ∧
  ((v = -1∧∀ j:Nat,Z07 cs (j:Int) = true→lb cs j ≠ lab ts i) ∨ ∃ j:Nat,v = j∧Z07 cs (j:Int) = true∧lb cs j = lab ts i∧∀ j',j' < j→Z07 cs (j':Int) = true→lb cs j' ≠ lab ts i):=by
 obtain ⟨hC,_⟩:=Zu1 hO hT
 have hmn:cs.length + i ∈ bigL cs ts:=Z9y.2 (.inr (by omega))
 have hc:=Zgh hC hmn
 have hcl:(clsF (bigG cs ts) (bigL cs ts)).length = cs.length + ts.length:=by rw [Ze0 hC,Zc0]
 have hmc:∀ j:Nat,Z07 cs (j:Int) = true→j ∈ bigL cs ts:=fun j hj => Z9y.2 (.inl ⟨Z1y hj,hj⟩)
 have hkey:∀ j:Nat,j < cs.length→((clsF (bigG cs ts) (bigL cs ts))[j]? = (clsF (bigG cs ts) (bigL cs ts))[cs.length + i]? ↔ Z07 cs (j:Int) = true∧lb cs j = lab ts i):=by
  intro j hj
  by_cases ht:Z07 cs (j:Int) = true
  ·rw [Ze1 hC (hmc j ht) hmn,Zms ts hO ht,Zmt cs hT hi]
   exact ⟨fun e => ⟨ht,e⟩,fun e => e.2⟩
  ·have hn:j ∉ bigL cs ts:=fun hm => by
    rcases Z9y.1 hm with ⟨_,h⟩ | ⟨h,_⟩
    ·exact ht h
    ·omega
   rw [Zqi hC (by rw [Zc0]; omega) hn,hc]
   constructor
   ·intro e
    injection e with e
    omega
   ·intro e
    exact (ht e.1).elim
 generalize hcls:clsF (bigG cs ts) (bigL cs ts) = cls at hc hcl hkey
 generalize hx:((idxB (lab (bigG cs ts) (cs.length + i)) (dd ((bigL cs ts).map (lab (bigG cs ts)))):Nat):Int) = x at hc
 have hv:(Z24 cs ts)[i]? = some (Z3f (fun d => decide (x = d)) (cls.take cs.length)):=by
  unfold Z24
  rw [List.getElem?_map,List.getElem?_range hi,hcls]
  simp only [Option.map_some]
  rw [hc]
  rfl
 refine ⟨_,hv,?_⟩
 have hat:∀ (j:Nat) (d:Int),(cls.take cs.length)[j]? = some d→j < cs.length∧cls[j]? = some d:=by
  intro j d h
  rw [List.getElem?_take] at h
  split at h
  ·exact ⟨by assumption,h⟩
  ·cases h
 by_cases hex:∃ j,j < cs.length∧cls[j]? = some x
 ·-- the least such place
  have hmin:∃ j,j < cs.length∧cls[j]? = some x∧∀ j',j' < j→cls[j']? ≠ some x:=by
   obtain ⟨j,h1,h2⟩:=hex
   revert h1 h2
   refine Nat.strongRecOn (motive:=fun j => j < cs.length→cls[j]? = some x→_) j fun n ih h1 h2 => ?_
   by_cases hl:∃ j',j' < n∧cls[j']? = some x
   ·obtain ⟨j',h3,h4⟩:=hl
    exact ih j' h3 (by omega) h4
   ·exact ⟨n,h1,h2,fun j' hj' e => hl ⟨j',hj',e⟩⟩
  obtain ⟨j,h1,h2,h3⟩:=hmin
  have e:Z3f (fun d => decide (x = d)) (cls.take cs.length) = j:=Zcj (i:=j) (k:=x) (fun j' d hj hd => by
   obtain ⟨_,h5⟩:=hat j' d hd
   simp only [decide_eq_false_iff_not]
   rintro rfl
   exact h3 j' hj h5) (by rw [List.getElem?_take,if_pos h1]; exact h2) (by simp)
  rw [e]
  obtain ⟨t1,t2⟩:=(hkey j h1).1 (h2.trans hc.symm)
  refine .inr ⟨j,rfl,t1,t2,fun j' hj' ht' e' => h3 j' hj' ?_⟩
  rw [(hkey j' (by omega)).2 ⟨ht',e'⟩,hc]
 ·have e:Z3f (fun d => decide (x = d)) (cls.take cs.length) = -1:=Zd4 fun j d _ hd => by
   obtain ⟨h4,h5⟩:=hat j d hd
   simp only [decide_eq_false_iff_not]
   rintro rfl
   exact hex ⟨j,h4,h5⟩
  rw [e]
  refine .inl ⟨rfl,fun j hj e' => hex ⟨j,Z1y hj,?_⟩⟩
  rw [(hkey j (Z1y hj)).2 ⟨hj,e'⟩,hc]
theorem Zv6 {ns:List ND} (h:GrOk ns) {r:Nat} (hr:r < ns.length):lab (Z1q ns r) 0 = lab ns r:=by
 obtain ⟨hC,hnd,hlt,hroot⟩:=Zfi h (roots:=[r]) (by simpa using hr)
 have hpre:∃ w,bfsF (kidG ns) ns.length [r] = r :: w:=by
  have h1:bfsF (kidG ns) ns.length [r] = runB (kidG ns) (ns.length + 1) [r] 0:=rfl
  obtain ⟨w,hw⟩:=Zie (kidG ns) (ns.length + 1) [r] 0
  exact ⟨w,by rw [h1,hw]; rfl⟩
 have hL:Z1q ns r = canD (dd ((bfsF (kidG ns) ns.length [r]).map (lab ns))):=out_can hC
 generalize bfsF (kidG ns) ns.length [r] = L at hC hroot hpre hL
 rw [hL]
 obtain ⟨w,rfl⟩:=hpre
 have hD0:(dd ((r :: w).map (lab ns)))[0]? = some (lab ns r):=by
  have e:dd ((r :: w).map (lab ns)) = Z64 [lab ns r] (w.map (lab ns)):=by
   show Z64 (addB [] (lab ns r)) (w.map (lab ns)) = _
   congr 1
  obtain ⟨T,hT⟩:=Zez (w.map (lab ns)) [lab ns r]
  rw [e,hT]
  rfl
 generalize hD:dd ((r :: w).map (lab ns)) = D at hD0
 refine Zdk (R:=fun x y => D[x]? = some (lab ns y)∧y ∈ r :: w) ?_ ⟨hD0,by simp⟩
 rintro x y ⟨hx,hy⟩
 have hg:ns[y]? = some (ns[y]'(hC.lt y hy)):=List.getElem?_eq_getElem _
 refine ⟨canN D (lab ns y),_,by unfold canD; rw [List.getElem?_map,hx]; rfl,hg,by unfold canN; rw [Zcn hg],by unfold canN; rw [Zap hg]; simp,fun j k m hk hm => ?_⟩
 have hmL:=(hC.kids y hy _ hg).2 m (List.mem_of_getElem? hm)
 unfold canN at hk
 simp only at hk
 rw [Zap hg,List.map_map,List.getElem?_map,hm] at hk
 simp only [Option.map_some,Option.some.injEq,Function.comp] at hk
 rw [← hk,Int.toNat_natCast]
 refine ⟨Znh ?_,hmL⟩
 rw [← hD]
 exact mem_dd.2 (List.mem_map.2 ⟨m.toNat,hmL,rfl⟩)
theorem Znn {nds nds':List ND} {a b:Nat} {x y:ND} (hx:nds[a]? = some x) (hy:nds'[b]? = some y) (h:lab nds a = lab nds' b) :
  x.1 = y.1∧x.2.length = y.2.length∧∀ (j:Nat) (k m:Int),x.2[j]? = some k→y.2[j]? = some m→lab nds k.toNat = lab nds' m.toNat:=by
 have h1:=Zcn hx
 have h2:=Zap hx
 rw [h,Zcn hy] at h1
 rw [h,Zap hy] at h2
 refine ⟨h1.symm,by simpa using (congrArg List.length h2).symm,fun j k m hk hm => ?_⟩
 have:=congrArg (fun l => l[j]?) h2
 simpa [hk,hm] using this.symm
def Zdd (T:Int→Bool) (c:CV):Prop:=c = Z1r ∨ (c.taken = true∧c.kids.length ≤ 4∧(∀ k ∈ c.kids,T k = true)∧Z2k c.name = true∧0 ≤ c.held∧c.held ≤ 1000)
def HG (cs:List CV):Prop:=∀ c ∈ cs,Zdd (Z07 cs) c
theorem HG.ok {cs:List CV} (h:HG cs):HOk2 cs:=by
 refine ⟨⟨fun c hc => ?_,fun c hc ht => ?_⟩,fun c hc ht => ?_⟩
 ·rcases h c hc with rfl | ⟨_,h4,_⟩
  ·simp [Z1r]
  ·exact h4
 ·rcases h c hc with rfl | ⟨_,_,h4,_⟩
  ·simp [Z1r]
  ·exact h4
 ·rcases h c hc with rfl | ⟨h4,_⟩
  ·rfl
  ·rw [h4] at ht
   cases ht
theorem Zdd.mono {T T':Int→Bool} {c:CV} (h:Zdd T c) (hT:∀ k,T k = true→T' k = true):Zdd T' c:=by
 rcases h with h | ⟨h1,h2,h3,h4⟩
 ·exact .inl h
 ·exact .inr ⟨h1,h2,fun k hk => hT k (h3 k hk),h4⟩
theorem HG.set {cs:List CV} {i:Nat} {d:CV} (h:HG cs) (hT:∀ k,Z07 cs k = true→Z07 (cs.set i d) k = true) (hd:Zdd (Z07 (cs.set i d)) d):HG (cs.set i d):=by
 intro c hc
 rcases List.mem_or_eq_of_mem_set hc with hc | rfl
 ·exact (h c hc).mono hT
 ·exact hd
theorem Zd1 {cs:List CV} {i:Nat} {d:CV} (hi:i < cs.length) (k:Int):Z07 (cs.set i d) k = if k = (i:Int) then d.taken else Z07 cs k:=by
 unfold Z07
 by_cases h:k = (i:Int)
 ·subst h
  simp [hi]
 ·rw [if_neg h]
  by_cases h0:0 ≤ k
  ·have:i ≠ k.toNat:=by omega
   rw [List.getElem?_set_ne this]
  ·simp [h0]
theorem Zow {cs:List CV} {a:Nat} {d e:CV} (h:HG cs) (ha:cs[a]? = some d) (hd:d.taken = false) (he:e.taken = true) (hk:Zdd (Z07 (cs.set a e)) e):HG (cs.set a e)∧(∀ k,Z07 cs k = true→Z07 (cs.set a e) k = true):=by
 have hal:a < cs.length:=(List.getElem?_eq_some_iff.1 ha).1
 have hT:∀ k,Z07 cs k = true→Z07 (cs.set a e) k = true:=fun k hk => by
  rw [Zd1 hal]
  split
  ·exact he
  ·exact hk
 exact ⟨h.set hT hk,hT⟩
theorem Zvd {cs:List CV} (h:HG cs) (nm:List UInt8) (ks:List Int):HG (mkF cs nm ks).2.2∧(mkF cs nm ks).2.2.length = cs.length:=by
 unfold mkF
 split
 ·exact ⟨h,rfl⟩
 ·rename_i h1
  split
  ·exact ⟨h,rfl⟩
  ·rename_i h2
   split
   ·exact ⟨h,rfl⟩
   ·rename_i h3
    split
    ·exact ⟨h,rfl⟩
    ·rename_i h4
     rcases Zaa cs with hf | ⟨a,d,hf,ha,hd⟩
     ·omega
     ·rw [hf]
      simp only [Int.toNat_natCast,List.length_set,and_true]
      have hal:a < cs.length:=(List.getElem?_eq_some_iff.1 ha).1
      refine (Zow (e:=⟨true,nm,ks,0⟩) h ha hd rfl (.inr ⟨rfl,by show ks.length ≤ 4; omega,fun k hk => ?_,by simpa using h1,Int.le_refl 0,by show (0:Int) ≤ 1000; decide⟩)).1
      rw [Zd1 hal]
      split
      ·rfl
      ·simp only [Bool.not_eq_false,List.all_eq_true] at h3
       exact h3 k hk
theorem Zk1 {cs:List CV} {i:Nat} {c d:CV} (hc:cs[i]? = some c) (ht:d.taken = c.taken) (k:Int):Z07 (cs.set i d) k = Z07 cs k:=by
 have hi:i < cs.length:=(List.getElem?_eq_some_iff.1 hc).1
 rw [Zd1 hi]
 split
 ·rename_i h
  rw [h,Z14 hc,ht]
 ·rfl
theorem Zrg {cs:List CV} (h:HG cs) (i j k:Int):HG (tieF cs i j k).2∧(tieF cs i j k).2.length = cs.length:=by
 unfold tieF
 split
 ·rename_i h1
  obtain ⟨e1,e2,e3,e4⟩:=h1
  obtain ⟨_,d,hd,ht,_⟩:=Z22 e1
  rw [hd]
  simp only [List.length_set,and_true]
  have hT:=Zk1 (cs:=cs) (d:={ d with kids:=d.kids.set j.toNat k }) hd rfl
  refine h.set (fun x hx => by rw [hT]; exact hx) ?_
  rcases h d (List.mem_of_getElem? hd) with h2 | ⟨g1,g2,g3,g4⟩
  ·rw [h2] at ht
   cases ht
  ·refine .inr ⟨g1,by simpa using g2,fun x hx => ?_,g4⟩
   rw [hT]
   rcases List.mem_or_eq_of_mem_set hx with hx | rfl
   ·exact g3 x hx
   ·exact e2
 ·exact ⟨h,rfl⟩
theorem setH_ok {cs:List CV} (h:HG cs) {i:Nat} {x:Int} (hx:0 ≤ x∧x ≤ 1000) (ht:Z07 cs (i:Int) = true):HG (setH cs i x):=by
 unfold setH
 split
 ·rename_i c hc
  have hT:=Zk1 (cs:=cs) (d:={ c with held:=x }) hc rfl
  refine h.set (fun y hy => by rw [hT]; exact hy) ?_
  rw [Z14 hc] at ht
  rcases h c (List.mem_of_getElem? hc) with h2 | ⟨g1,g2,g3,g4,_⟩
  ·rw [h2] at ht
   cases ht
  ·exact .inr ⟨g1,g2,fun y hy => by rw [hT]; exact g3 y hy,g4,hx.1,hx.2⟩
 ·exact h
theorem Zng {cs:List CV} (h:HG cs) (i:Int):HG (Z7w cs i).2∧(Z7w cs i).2.length = cs.length:=by
 unfold Z7w
 split
 ·exact ⟨h,rfl⟩
 ·rename_i h1
  have h1:Z07 cs i = true:=by simpa using h1
  obtain ⟨h0,d,hd,ht,_⟩:=Z22 h1
  rw [hd]
  simp only
  split
  ·exact ⟨h,rfl⟩
  ·rename_i h2
   refine ⟨?_,Zou _ _ _⟩
   rcases h d (List.mem_of_getElem? hd) with h3 | ⟨g1,g2,g3,g4,g5,g6⟩
   ·rw [h3] at ht
    cases ht
   ·rw [IntWalk.i64_in _ (by omega)]
    exact setH_ok h (by omega) (by rw [Int.toNat_of_nonneg h0]; exact h1)
structure AllP (L:List ND) (th:List Int) (cs c:List CV) (f:List Int) (i:Nat):Prop where
 len:c.length = cs.length
 flen:f.length = L.length
 good:HG c
 keep:∀ a:Nat,Z07 cs (a:Int) = true→c[a]? = cs[a]?
 mono:∀ k,Z07 cs k = true→Z07 c k = true
 cell:∀ (j:Nat) (nd:ND),j < i→L[j]? = some nd→(th[j]?).getD 0 < 0→∃ a:Nat,f[j]? = some (a:Int)∧Z07 cs (a:Int) = false∧c[a]? = some ⟨true,nd.1,[],0⟩
 inj:∀ (j j':Nat),j < i→j' < i→(th[j]?).getD 0 < 0→(th[j']?).getD 0 < 0→f[j]? = f[j']?→j = j'
 rest:∀ j,(i ≤ j ∨ 0 ≤ (th[j]?).getD 0)→f[j]? = th[j]?
 only:∀ a:Nat,Z07 c (a:Int) = true→Z07 cs (a:Int) = true ∨ ∃ j,j < i∧(th[j]?).getD 0 < 0∧f[j]? = some (a:Int)
theorem Zhp {L:List ND} {th:List Int} {cs:List CV} (h:HG cs) (hth:th.length = L.length) (hnm:∀ nd ∈ L,Z2k nd.1 = true):∀ (i:Nat),i ≤ L.length→∀ c f,Z3j L th cs i = some (c,f)→AllP L th cs c f i
 | 0,_,c,f,e => by
  simp only [Z3j,Option.some.injEq,Prod.mk.injEq] at e
  obtain ⟨rfl,rfl⟩:=e
  exact ⟨rfl,hth,h,fun _ _ => rfl,fun _ h => h,fun j nd hj => by omega,fun j j' hj => by omega,fun _ _ => rfl,fun a ha => .inl ha⟩
 | i + 1,hi,c,f,e => by
  unfold Z3j at e
  cases hp:Z3j L th cs i with
  | none => rw [hp] at e; cases e
  | some x =>
   obtain ⟨c0,f0⟩:=x
   have H:=Zhp h hth hnm i (by omega) c0 f0 hp
   rw [hp] at e
   simp only at e
   by_cases ht:0 ≤ (th[i]?).getD 0
   ·rw [if_pos ht] at e
    cases e
    refine ⟨H.len,H.flen,H.good,H.keep,H.mono,fun j nd hj hnd hn => ?_,fun j j' hj hj' hn hn' e => ?_,fun j hj => ?_,fun a ha => ?_⟩
    ·by_cases e:j = i
     ·subst e; omega
     ·exact H.cell j nd (by omega) hnd hn
    ·by_cases e1:j = i
     ·subst e1; omega
     ·by_cases e2:j' = i
      ·subst e2; omega
      ·exact H.inj j j' (by omega) (by omega) hn hn' e
    ·refine H.rest j ?_
     rcases hj with hj | hj
     ·exact .inl (by omega)
     ·exact .inr hj
    ·rcases H.only a ha with h | ⟨j,h1,h2,h3⟩
     ·exact .inl h
     ·exact .inr ⟨j,by omega,h2,h3⟩
   ·rw [if_neg ht] at e
    rcases Zaa c0 with hf | ⟨a,d,hf,ha,hd⟩
    ·rw [hf] at e
     rw [if_pos (by omega)] at e
     cases e
    ·rw [hf,if_neg (by omega)] at e
     simp only [Option.some.injEq,Prod.mk.injEq,Int.toNat_natCast] at e
     obtain ⟨rfl,rfl⟩:=e
     have hil:i < L.length:=hi
     obtain ⟨nd0,hnd0⟩:∃ nd,L[i]? = some nd:=⟨_,List.getElem?_eq_getElem hil⟩
     rw [hnd0]
     simp only [Option.getD_some]
     have hal:a < c0.length:=(List.getElem?_eq_some_iff.1 ha).1
     have hfi:i < f0.length:=by rw [H.flen]; exact hil
     have hna:Z07 c0 (a:Int) = false:=by rw [Z14 ha]; exact hd
     have hncs:Z07 cs (a:Int) = false:=by
      cases hq:Z07 cs (a:Int) with
      | false => rfl
      | true => rw [H.mono _ hq] at hna; cases hna
     have hgn:=hnm nd0 (List.mem_of_getElem? hnd0)
     obtain ⟨hg1,hT⟩:=Zow (e:=⟨true,nd0.1,[],0⟩) H.good ha hd rfl (.inr ⟨rfl,Nat.zero_le 4,by simp,hgn,Int.le_refl 0,by show (0:Int) ≤ 1000; decide⟩)
     have hne:∀ {b:Nat} {nm:List UInt8},c0[b]? = some ⟨true,nm,[],0⟩→a ≠ b:=by
      rintro b nm hb rfl
      rw [ha] at hb
      cases hb
      cases hd
     have hnef:∀ (j:Nat),j < i→(th[j]?).getD 0 < 0→f0[j]? ≠ some (a:Int):=by
      intro j hj hn e
      obtain ⟨nd,hnd⟩:∃ nd,L[j]? = some nd:=⟨_,List.getElem?_eq_getElem (by omega)⟩
      obtain ⟨b,h1,_,h3⟩:=H.cell j nd hj hnd hn
      rw [h1] at e
      have:a = b:=by
       injection e with e
       omega
      exact hne h3 this
     refine ⟨by rw [List.length_set]; exact H.len,by rw [List.length_set]; exact H.flen,hg1,fun b hb => ?_,fun k hk => hT k (H.mono k hk),fun j nd hj hnd hn => ?_,fun j j' hj hj' hn hn' e => ?_,fun j hj => ?_,fun b hb => ?_⟩
     ·rw [List.getElem?_set_ne]
      ·exact H.keep b hb
      ·rintro rfl
       rw [hncs] at hb
       cases hb
     ·by_cases e:j = i
      ·subst e
       rw [hnd0] at hnd
       cases hnd
       exact ⟨a,by simp [hfi],hncs,by simp [hal]⟩
      ·obtain ⟨b,h1,h2,h3⟩:=H.cell j nd (by omega) hnd hn
       exact ⟨b,by rw [List.getElem?_set_ne (by omega)]; exact h1,h2,by rw [List.getElem?_set_ne (hne h3)]; exact h3⟩
     ·by_cases e1:j = i
      ·by_cases e2:j' = i
       ·omega
       ·exfalso
        subst e1
        rw [List.getElem?_set_ne (show j ≠ j' by omega)] at e
        simp only [List.getElem?_set_self hfi] at e
        exact hnef j' (by omega) hn' e.symm
      ·by_cases e2:j' = i
       ·exfalso
        subst e2
        rw [List.getElem?_set_ne (show j' ≠ j by omega)] at e
        simp only [List.getElem?_set_self hfi] at e
        exact hnef j (by omega) hn e
       ·rw [List.getElem?_set_ne (show i ≠ j by omega),List.getElem?_set_ne (show i ≠ j' by omega)] at e
        exact H.inj j j' (by omega) (by omega) hn hn' e
     ·by_cases e:j = i
      ·subst e
       rcases hj with hj | hj
       ·omega
       ·exact (ht hj).elim
      ·rw [List.getElem?_set_ne (by omega)]
       refine H.rest j ?_
       rcases hj with hj | hj
       ·exact .inl (by omega)
       ·exact .inr hj
     ·rw [Zd1 hal] at hb
      split at hb
      ·rename_i e
       have:b = a:=by omega
       subst this
       exact .inr ⟨i,by omega,by omega,by simp [hfi]⟩
      ·rcases H.only b hb with h | ⟨j,h1,h2,h3⟩
       ·exact .inl h
       ·exact .inr ⟨j,by omega,h2,by rw [List.getElem?_set_ne (by omega)]; exact h3⟩
theorem Zhx {L:List ND} {th f:List Int} {cs c:List CV} {l:Nat} (hl:L.length = l) (H:AllP L th cs c f l):∀ i,i ≤ l→∀ a:Nat,
  ((∀ j,j < l→(th[j]?).getD 0 < 0→f[j]? ≠ some (a:Int))→(Z27 L th f c i)[a]? = c[a]?) ∧
  ∀ (j:Nat) (nd:ND),L[j]? = some nd→(th[j]?).getD 0 < 0→f[j]? = some (a:Int)→(Z27 L th f c i)[a]? = some ⟨true,nd.1,if j < i then Z1u f nd.2 else [],0⟩
 | 0,_,a => by
  refine ⟨fun _ => rfl,fun j nd hnd hn hf => ?_⟩
  obtain ⟨b,h1,_,h3⟩:=H.cell j nd (by rw [← hl]; exact (List.getElem?_eq_some_iff.1 hnd).1) hnd hn
  rw [hf] at h1
  have:a = b:=by
   injection h1 with h1
   omega
  subst this
  rw [if_neg (by omega)]
  exact h3
 | i + 1,hi,a => by
  obtain ⟨g1,g2⟩:=Zhx hl H i (by omega) a
  have hil:i < L.length:=by omega
  obtain ⟨nd0,hnd0⟩:∃ nd,L[i]? = some nd:=⟨_,List.getElem?_eq_getElem hil⟩
  unfold Z27
  by_cases ht:0 ≤ (th[i]?).getD 0
  ·rw [if_pos ht]
   refine ⟨g1,fun j nd hnd hn hf => ?_⟩
   rw [g2 j nd hnd hn hf]
   have:j ≠ i:=by rintro rfl; omega
   by_cases e:j < i
   ·rw [if_pos e,if_pos (by omega)]
   ·rw [if_neg e,if_neg (by omega)]
  ·rw [if_neg ht]
   obtain ⟨b,h1,_,_⟩:=H.cell i nd0 (by omega) hnd0 (by omega)
   have h2b:=(Zhx hl H i (by omega) b).2 i nd0 hnd0 (by omega) h1
   rw [if_neg (by omega)] at h2b
   rw [h1,hnd0]
   simp only [Option.getD_some,Int.toNat_natCast]
   unfold setK
   rw [h2b]
   simp only
   have hbl:b < (Z27 L th f c i).length:=(List.getElem?_eq_some_iff.1 h2b).1
   refine ⟨fun hno => ?_,fun j nd hnd hn hf => ?_⟩
   ·rw [List.getElem?_set_ne]
    ·exact g1 hno
    ·rintro rfl
     exact hno i (by omega) (by omega) h1
   ·by_cases e:j = i
    ·subst e
     rw [hf] at h1
     have:a = b:=by
      injection h1 with h1
      omega
     subst this
     rw [hnd0] at hnd
     cases hnd
     rw [List.getElem?_set_self hbl,if_pos (by omega)]
    ·have hab:b ≠ a:=by
      rintro rfl
      exact e (H.inj j i (by rw [← hl]; exact (List.getElem?_eq_some_iff.1 hnd).1) (by omega) hn (by omega) (hf.trans h1.symm))
     rw [List.getElem?_set_ne hab,g2 j nd hnd hn hf]
     by_cases e2:j < i
     ·rw [if_pos e2,if_pos (by omega)]
     ·rw [if_neg e2,if_neg (by omega)]
structure Grown (cs c:List CV):Prop where
 good:HG c
 len:c.length = cs.length
 keep:∀ a:Nat,Z07 cs (a:Int) = true→c[a]? = cs[a]?
 new:∀ (a:Nat) (d:CV),Z07 cs (a:Int) = false→c[a]? = some d→d.held = 0
theorem HG.free0 {cs:List CV} (h:HG cs) {a:Nat} {d:CV} (hd:cs[a]? = some d) (ht:Z07 cs (a:Int) = false):d = Z1r:=by
 rw [Z14 hd] at ht
 rcases h d (List.mem_of_getElem? hd) with e | ⟨e,_⟩
 ·exact e
 ·rw [ht] at e; cases e
theorem Grown.refl {cs:List CV} (h:HG cs):Grown cs cs:=⟨h,rfl,fun _ _ => rfl,fun a d ht hd => by rw [h.free0 hd ht]; rfl⟩
theorem Zno {ns:List ND} (h:GrOk ns) {r:Nat} (hr:r < ns.length) {P:List UInt8→Prop} (hn:∀ nd ∈ ns,P nd.1):∀ nd ∈ Z1q ns r,P nd.1:=by
 intro nd hnd
 unfold Z1q at hnd
 obtain ⟨a,x,_,h2,rfl⟩:=Zi8 hnd
 exact hn x (List.mem_of_getElem? h2)
structure PutOk (cs:List CV) (L:List ND) (th f:List Int) (c:List CV):Prop extends Grown cs c where
 at':∀ j,j < L.length→∃ a:Nat,f[j]? = some (a:Int)∧Z07 c (a:Int) = true∧lb c a = lab L j
 only:∀ a:Nat,Z07 c (a:Int) = true→Z07 cs (a:Int) = true ∨ ∃ j,j < L.length∧(th[j]?).getD 0 < 0∧f[j]? = some (a:Int)
theorem fill_ok {cs c:List CV} {L:List ND} {f:List Int} (hG:HG cs) (hL:GrOk L) (hnm:∀ nd ∈ L,Z2k nd.1 = true) (H:AllP L (Z24 cs L) cs c f L.length):PutOk cs L (Z24 cs L) f (Z27 L (Z24 cs L) f c L.length):=by
 have hO:=hG.ok
 have hA:=fun i hi a => Zhx (c:=c) rfl H i hi a
 have hlen:(Z27 L (Z24 cs L) f c L.length).length = c.length:=Z8v _ _ _ _ _
 have hfr:∀ (a:Nat),((∀ j,j < L.length→((Z24 cs L)[j]?).getD 0 < 0→f[j]? ≠ some (a:Int))→(Z27 L (Z24 cs L) f c L.length)[a]? = c[a]?) ∧
   ∀ (j:Nat) (nd:ND),L[j]? = some nd→((Z24 cs L)[j]?).getD 0 < 0→f[j]? = some (a:Int)→(Z27 L (Z24 cs L) f c L.length)[a]? = some ⟨true,nd.1,Z1u f nd.2,0⟩:=fun a => by
  obtain ⟨g1,g2⟩:=hA L.length (Nat.le_refl _) a
  refine ⟨g1,fun j nd hnd hn hf => ?_⟩
  rw [g2 j nd hnd hn hf,if_pos (List.getElem?_eq_some_iff.1 hnd).1]
 generalize Z27 L (Z24 cs L) f c L.length = e at hfr hlen
 clear hA
 have hat:∀ j,j < L.length→(((Z24 cs L)[j]?).getD 0 < 0∧∃ a nd,f[j]? = some ((a:Nat):Int)∧Z07 cs (a:Int) = false∧L[j]? = some nd∧e[a]? = some ⟨true,nd.1,Z1u f nd.2,0⟩) ∨
   (0 ≤ ((Z24 cs L)[j]?).getD 0∧∃ a:Nat,f[j]? = some (a:Int)∧Z07 cs (a:Int) = true∧lb cs a = lab L j):=by
  intro j hj
  obtain ⟨v,hv,h⟩:=Zjb hO.toHOk hL hj
  rcases h with ⟨rfl,_⟩ | ⟨a,rfl,h1,h2,_⟩
  ·left
   have hn:((Z24 cs L)[j]?).getD 0 < 0:=by rw [hv]; decide
   obtain ⟨nd,hnd⟩:∃ nd,L[j]? = some nd:=⟨_,List.getElem?_eq_getElem hj⟩
   obtain ⟨a,g1,g2,_⟩:=H.cell j nd hj hnd hn
   exact ⟨hn,a,nd,g1,g2,hnd,(hfr a).2 j nd hnd hn g1⟩
  ·right
   have hn:0 ≤ ((Z24 cs L)[j]?).getD 0:=by rw [hv]; simp
   refine ⟨hn,a,?_,h1,h2⟩
   rw [H.rest j (.inr hn),hv]
 have hold:∀ a:Nat,Z07 cs (a:Int) = true→e[a]? = cs[a]?:=by
  intro a ha
  rw [(hfr a).1,H.keep a ha]
  intro j hj hn hf
  rcases hat j hj with ⟨_,b,nd,g1,g2,_⟩ | ⟨h0,_⟩
  ·rw [hf] at g1
   have:a = b:=by
    injection g1 with g1
    omega
   subst this
   rw [ha] at g2
   cases g2
  ·omega
 have htk:∀ j,j < L.length→∃ a:Nat,f[j]? = some (a:Int)∧Z07 e (a:Int) = true:=by
  intro j hj
  rcases hat j hj with ⟨_,a,nd,g1,_,_,g4⟩ | ⟨_,a,g1,g2,_⟩
  ·exact ⟨a,g1,by rw [Z14 g4]⟩
  ·obtain ⟨d,hd,ht,_⟩:=Z4w g2
   exact ⟨a,g1,by rw [Z14 ((hold a g2).trans hd)]; exact ht⟩
 have hmono:∀ k,Z07 cs k = true→Z07 e k = true:=by
  intro k hk
  have h0:=(Z22 hk).1
  obtain ⟨x,rfl⟩:∃ x:Nat,k = x:=⟨k.toNat,by omega⟩
  obtain ⟨d,hd,ht,_⟩:=Z4w hk
  rw [Z14 ((hold x hk).trans hd)]
  exact ht
 have hsame:∀ (a:Nat) (x:CV),c[a]? = some x→x.taken = false→e[a]? = c[a]?:=by
  intro a x hx ht
  refine (hfr a).1 fun j hj hn hf => ?_
  obtain ⟨nd,hnd⟩:∃ nd,L[j]? = some nd:=⟨_,List.getElem?_eq_getElem hj⟩
  obtain ⟨b,g1,_,g3⟩:=H.cell j nd hj hnd hn
  rw [hf] at g1
  have:a = b:=by
   injection g1 with g1
   omega
  subst this
  rw [hx] at g3
  cases g3
  cases ht
 have hgood:HG e:=by
  intro d hd
  obtain ⟨a,ha⟩:=List.getElem?_of_mem hd
  have hal:a < c.length:=by rw [← hlen]; exact (List.getElem?_eq_some_iff.1 ha).1
  have hca:c[a]? = some c[a]:=List.getElem?_eq_getElem hal
  cases ht:c[a].taken with
  | false =>
   rw [hsame a _ hca ht,hca] at ha
   cases ha
   rcases H.good _ (List.getElem_mem hal) with h | ⟨h,_⟩
   ·exact .inl h
   ·rw [ht] at h; cases h
  | true =>
   rcases H.only a (by rw [Z14 hca]; exact ht) with h | ⟨j,hj,hn,hf⟩
   ·rw [hold a h] at ha
    exact (hG d (List.mem_of_getElem? ha)).mono hmono
   ·obtain ⟨nd,hnd⟩:∃ nd,L[j]? = some nd:=⟨_,List.getElem?_eq_getElem hj⟩
    rw [(hfr a).2 j nd hnd hn hf] at ha
    cases ha
    obtain ⟨hk4,hkin⟩:=hL nd (List.mem_of_getElem? hnd)
    refine .inr ⟨rfl,by simpa [Z1u] using hk4,fun k hk => ?_,hnm nd (List.mem_of_getElem? hnd),Int.le_refl 0,by show (0:Int) ≤ 1000; decide⟩
    obtain ⟨m,hm,rfl⟩:=List.mem_map.1 hk
    have:=hkin m hm
    obtain ⟨b,g1,g2⟩:=htk m.toNat (by omega)
    rw [g1]
    exact g2
 have hGr:Grown cs e:=⟨hgood,hlen.trans H.len,hold,fun a d hna had => by
  have hal:a < c.length:=by rw [← hlen]; exact (List.getElem?_eq_some_iff.1 had).1
  have hca:c[a]? = some c[a]:=List.getElem?_eq_getElem hal
  cases ht:c[a].taken with
  | false =>
   rw [hsame a _ hca ht,hca] at had
   cases had
   rcases H.good _ (List.getElem_mem hal) with h | ⟨h,_⟩
   ·rw [h]; rfl
   ·rw [ht] at h; cases h
  | true =>
   rcases H.only a (by rw [Z14 hca]; exact ht) with h | ⟨j,hj,hn,hf⟩
   ·rw [hna] at h; cases h
   ·obtain ⟨nd,hnd⟩:∃ nd,L[j]? = some nd:=⟨_,List.getElem?_eq_getElem hj⟩
    rw [(hfr a).2 j nd hnd hn hf] at had
    cases had
    rfl⟩
 refine ⟨hGr,fun j hj => ?_,fun a ha => ?_⟩
 ·obtain ⟨a,g1,g2⟩:=htk j hj
  refine ⟨a,g1,g2,?_⟩
  refine Zdk (R:=fun x y => y < L.length∧(f[y]? = some (x:Int) ∨ (Z07 cs (x:Int) = true∧lb cs x = lab L y))) ?_ ⟨hj,.inl g1⟩
  rintro x y ⟨hy,hxy⟩
  have hg:L[y]? = some L[y]:=List.getElem?_eq_getElem hy
  have hkin:=(hL _ (List.getElem_mem hy)).2
  have hold':Z07 cs (x:Int) = true→lb cs x = lab L y→∃ u v,(Z11 e)[x]? = some u∧L[y]? = some v∧u.1 = v.1∧u.2.length = v.2.length ∧
    ∀ (j:Nat) (k m:Int),u.2[j]? = some k→v.2[j]? = some m→m.toNat < L.length∧(f[m.toNat]? = some ((k.toNat:Nat):Int) ∨ (Z07 cs ((k.toNat:Nat):Int) = true∧lb cs k.toNat = lab L m.toNat)):=by
   intro hx hl
   obtain ⟨d,h1,h2,h3⟩:=Z4w hx
   obtain ⟨e1,e2,e3⟩:=Znn h3 hg hl
   refine ⟨_,_,by rw [Z39 ((hold x hx).trans h1),if_pos h2],hg,e1,e2,fun j k m hk hm => ⟨?_,.inr ⟨?_,e3 j k m hk hm⟩⟩⟩
   ·have:=hkin m (List.mem_of_getElem? hm)
    omega
   ·exact (Zao hO.toHOk h1 h2 (List.mem_of_getElem? hk)).1
  rcases hxy with hf | ⟨hx,hl⟩
  ·rcases hat y hy with ⟨hn,b,nd,k1,k2,k3,k4⟩ | ⟨h0,b,k1,k2,k3⟩
   ·rw [hf] at k1
    have:x = b:=by
     injection k1 with k1
     omega
    subst this
    rw [hg] at k3
    cases k3
    refine ⟨(L[y].1,Z1u f L[y].2),L[y],by rw [Z39 k4,if_pos rfl],hg,rfl,by simp [Z1u],fun j k m hk hm => ?_⟩
    have hm':=hkin m (List.mem_of_getElem? hm)
    refine ⟨by omega,.inl ?_⟩
    obtain ⟨z,z1,z2⟩:=htk m.toNat (by omega)
    unfold Z1u at hk
    simp only at hk
    rw [List.getElem?_map,hm] at hk
    simp only [Option.map_some,Option.some.injEq] at hk
    rw [z1] at hk
    simp only [Option.getD_some] at hk
    rw [← hk,z1]
    simp
   ·rw [hf] at k1
    have:x = b:=by
     injection k1 with k1
     omega
    subst this
    exact hold' k2 k3
  ·exact hold' hx hl
 ·have hal:a < c.length:=by rw [← hlen]; exact Z1y ha
  have hca:c[a]? = some c[a]:=List.getElem?_eq_getElem hal
  cases ht:c[a].taken with
  | false =>
   obtain ⟨d,hd,hdt,_⟩:=Z4w ha
   rw [hsame a _ hca ht,hca] at hd
   cases hd
   rw [ht] at hdt
   cases hdt
  | true => exact H.only a (by rw [Z14 hca]; exact ht)
theorem Zsc {cs:List CV} (h:Z5q cs < 0):∀ c ∈ cs,c.taken = true:=by
 intro c hc
 unfold Z5q at h
 split at h
 ·omega
 ·rename_i hn
  have:=List.findIdx?_eq_none_iff.1 hn c hc
  simpa using this
theorem Zw3 {cs:List CV} {a:Nat} {d e:CV} (ha:cs[a]? = some d) (hd:d.taken = false) (he:e.taken = true):Z35 (cs.set a e) = Z35 cs + 1:=by
 have hal:a < cs.length:=(List.getElem?_eq_some_iff.1 ha).1
 have h1:cs[a] = d:=(List.getElem?_eq_some_iff.1 ha).2
 unfold Z35
 rw [List.countP_set hal,h1,hd,he]
 simp
theorem Ztc {cs:List CV} (h:∀ c ∈ cs,c.taken = true):Z35 cs = cs.length:=by
 unfold Z35
 exact List.countP_eq_length.2 h
theorem Zdv {L:List ND} {th:List Int} {cs:List CV}:∀ (i:Nat) c f,Z3j L th cs i = some (c,f)→Z35 cs ≤ Z35 c∧Z35 c ≤ Z35 cs + i
 | 0,c,f,e => by
  simp only [Z3j,Option.some.injEq,Prod.mk.injEq] at e
  obtain ⟨rfl,rfl⟩:=e
  omega
 | i + 1,c,f,e => by
  unfold Z3j at e
  cases hp:Z3j L th cs i with
  | none => rw [hp] at e; cases e
  | some x =>
   obtain ⟨c0,f0⟩:=x
   obtain ⟨h1,h2⟩:=Zdv i c0 f0 hp
   rw [hp] at e
   simp only at e
   by_cases ht:0 ≤ (th[i]?).getD 0
   ·rw [if_pos ht] at e
    cases e
    omega
   ·rw [if_neg ht] at e
    rcases Zaa c0 with hf | ⟨a,d,hf,ha,hd⟩
    ·rw [hf] at e
     rw [if_pos (by omega)] at e
     cases e
    ·rw [hf,if_neg (by omega)] at e
     simp only [Option.some.injEq,Prod.mk.injEq,Int.toNat_natCast] at e
     obtain ⟨rfl,rfl⟩:=e
     rw [Zw3 (e:=⟨true,((L[i]?).getD ([],[])).1,[],0⟩) ha hd rfl]
     omega
theorem Zin {L:List ND} {th:List Int} {cs:List CV} (h:HG cs) (hth:th.length = L.length) (hnm:∀ nd ∈ L,Z2k nd.1 = true):∀ (i:Nat),i ≤ L.length→Z3j L th cs i = none→cs.length < Z35 cs + i
 | 0,_,e => by cases e
 | i + 1,hi,e => by
  unfold Z3j at e
  cases hp:Z3j L th cs i with
  | none =>
   have:=Zin h hth hnm i (by omega) hp
   omega
  | some x =>
   obtain ⟨c0,f0⟩:=x
   have H:=Zhp h hth hnm i (by omega) c0 f0 hp
   obtain ⟨h1,h2⟩:=Zdv i c0 f0 hp
   rw [hp] at e
   simp only at e
   by_cases ht:0 ≤ (th[i]?).getD 0
   ·rw [if_pos ht] at e
    cases e
   ·rw [if_neg ht] at e
    by_cases hf:Z5q c0 < 0
    ·have:=Ztc (Zsc hf)
     have:=H.len
     omega
    ·rw [if_neg hf] at e
     cases e
theorem Ze4 (L:List ND) (th f:List Int) (cs:List CV):∀ i,Z35 (Z27 L th f cs i) = Z35 cs
 | 0 => rfl
 | i + 1 => by
  unfold Z27
  split
  ·exact Ze4 L th f cs i
  ·rw [← Ze4 L th f cs i]
   unfold setK
   split
   ·rename_i c hc
    obtain ⟨hl,h1⟩:=List.getElem?_eq_some_iff.1 hc
    unfold Z35
    rw [List.countP_set hl,h1]
    have:0 < List.countP (fun c => c.taken) (Z27 L th f cs i) ∨ c.taken = false:=by
     cases ht:c.taken with
     | false => exact .inr rfl
     | true => exact .inl (List.countP_pos_iff.2 ⟨c,List.mem_of_getElem? hc,ht⟩)
    rcases this with h | h
    ·cases ht:c.taken <;> simp <;> omega
    ·simp [h]
   ·rfl
inductive PutIs (cs:List CV) (ns:List ND) (r:Nat) (x:Int × Int × List CV):Prop where
 | full (h:x = (0,12,cs)) (hno:∀ j:Nat,Z07 cs (j:Int) = true→lb cs j ≠ lab ns r) (hs:cs.length < Z35 cs + (Z1q ns r).length)
 | there (a:Nat) (h:x = ((a:Int),0,cs)) (ht:Z07 cs (a:Int) = true) (hl:lb cs a = lab ns r) (hm:∀ j:Nat,j < a→Z07 cs (j:Int) = true→lb cs j ≠ lab ns r)
 | fresh (a:Nat) (f:List Int) (c:List CV) (h:x = ((a:Int),0,c)) (hp:PutOk cs (Z1q ns r) (Z24 cs (Z1q ns r)) f c) (hf:f[0]? = some (a:Int)) (ht:Z07 c (a:Int) = true) (hl:lb c a = lab ns r) (hno:∀ j:Nat,Z07 cs (j:Int) = true→lb cs j ≠ lab ns r)
   (hs:Z35 cs ≤ Z35 c∧Z35 c ≤ Z35 cs + (Z1q ns r).length)
theorem Zvw {cs:List CV} {ns:List ND} {root:Int} (hG:HG cs) (hz:Z1m ns root = 0):PutIs cs ns root.toNat (putF cs ns root):=by
 obtain ⟨o1,o2,hGO,hnm,r0,r1⟩:=Zf7 hz
 have hr:root.toNat < ns.length:=by omega
 obtain ⟨hGL,hL1,hL2⟩:=Zle (r:=root.toNat) hGO hr
 have hll:=Zv6 hGO hr
 have hnL:=Zno (P:=fun x => Z2k x = true) hGO hr hnm
 have hfl:=Zj9 cs (Z1q ns root.toNat)
 obtain ⟨v,hv,hvs⟩:=Zjb hG.ok.toHOk hGL (i:=0) (by omega)
 have hP:putF cs ns root = if 0 ≤ v then ((v,(0:Int),cs):Int × Int × List CV) else match Z3j (Z1q ns root.toNat) (Z24 cs (Z1q ns root.toNat)) cs (Z1q ns root.toNat).length with
  | none => ((0:Int),(12:Int),cs)
  | some (c,f) => ((f[0]?).getD (0:Int),(0:Int),Z27 (Z1q ns root.toNat) (Z24 cs (Z1q ns root.toNat)) f c (Z1q ns root.toNat).length):=by
  unfold putF
  rw [if_neg (by simpa using hz),hv]
  simp only [Option.getD_some] <;> rfl
 rw [hP]
 rw [hll] at hvs
 rcases hvs with ⟨rfl,hno⟩ | ⟨a,rfl,h1,h2,h3⟩
 ·rw [if_neg (by decide)]
  cases hal:Z3j (Z1q ns root.toNat) (Z24 cs (Z1q ns root.toNat)) cs (Z1q ns root.toNat).length with
  | none => exact .full rfl hno (Zin hG hfl hnL _ (Nat.le_refl _) hal)
  | some x =>
   obtain ⟨c,f⟩:=x
   have H:=Zhp hG hfl hnL _ (Nat.le_refl _) c f hal
   have hp:=fill_ok hG hGL hnL H
   obtain ⟨a,g1,g2,g3⟩:=hp.at' 0 (by omega)
   rw [hll] at g3
   refine .fresh a f _ ?_ hp g1 g2 g3 hno ?_
   ·simp only
    rw [g1]
    rfl
   ·rw [Ze4]
    exact Zdv _ c f hal
 ·rw [if_pos (by omega)]
  exact .there a rfl h1 h2 h3
theorem Zxp {cs:List CV} {ns:List ND} {root:Int} (hz:Z1m ns root ≠ 0):putF cs ns root = (0,Z1m ns root,cs):=by
 unfold putF
 rw [if_pos hz]
theorem Zra {cs:List CV} (hG:HG cs) (ns:List ND) (root:Int):Grown cs (putF cs ns root).2.2:=by
 by_cases hz:Z1m ns root = 0
 ·rcases Zvw hG hz with ⟨h,_,_⟩ | ⟨a,h,_,_,_⟩ | ⟨a,f,c,h,hp,_,_,_,_,_⟩
  ·rw [h]; exact Grown.refl hG
  ·rw [h]; exact Grown.refl hG
  ·rw [h]; exact hp.toGrown
 ·rw [Zxp hz]
  exact Grown.refl hG
def Z3l (cs:List CV) (a:Nat):Int:=match cs[a]? with
 | some c => c.held
 | none => 0
theorem Z49 {cs:List CV} {a:Nat} {c:CV} (h:cs[a]? = some c):Z3l cs a = c.held:=by unfold Z3l; rw [h]
def tot:List CV→Int
 | [] => 0
 | c :: r => c.held + tot r
theorem Zko:∀ {cs:List CV} {a:Nat} {c d:CV},cs[a]? = some c→tot (cs.set a d) = tot cs - c.held + d.held
 | [],a,c,d,h => by simp at h
 | x :: cs,0,c,d,h => by
  simp at h
  subst h
  simp only [List.set_cons_zero,tot]
  omega
 | x :: cs,a + 1,c,d,h => by
  simp only [List.set_cons_succ,tot]
  rw [Zko (cs:=cs) (a:=a) (c:=c) (by simpa using h)]
  omega
theorem Zwa:∀ {cs:List CV} {a:Nat} {c:CV},(∀ x ∈ cs,0 ≤ x.held)→cs[a]? = some c→c.held ≤ tot cs∧0 ≤ tot cs
 | [],a,c,_,h => by simp at h
 | x :: cs,0,c,hp,h => by
  simp at h
  subst h
  have h0:=hp x (by simp)
  simp only [tot]
  have:0 ≤ tot cs:=by
   have:∀ l:List CV,(∀ x ∈ l,0 ≤ x.held)→0 ≤ tot l:=by
    intro l
    induction l with
    | nil => intro _; decide
    | cons y l ih =>
     intro hl
     have:=hl y (by simp)
     have:=ih fun z hz => hl z (by simp [hz])
     simp only [tot]
     omega
   exact this cs fun y hy => hp y (by simp [hy])
  omega
 | x :: cs,a + 1,c,hp,h => by
  have h0:=hp x (by simp)
  have:=Zwa (cs:=cs) (a:=a) (c:=c) (fun y hy => hp y (by simp [hy])) (by simpa using h)
  simp only [tot]
  omega
theorem HG.held {cs:List CV} (h:HG cs):∀ c ∈ cs,0 ≤ c.held∧c.held ≤ 1000:=by
 intro c hc
 rcases h c hc with rfl | ⟨_,_,_,_,h5⟩
 ·decide
 ·exact h5
def Z6b (cls:List Int) (d:CV):CV:=if d.taken = true then { d with kids:=d.kids.map (toC cls) } else d
theorem mvC_get {cls:List Int} {cs:List CV} {a:Nat} {d:CV} (h:cs[a]? = some d):(Z57 cls cs)[a]? = some (Z6b cls d):=by
 unfold Z57
 rw [List.getElem?_map,h]
 rfl
theorem Zd7 (cls:List Int) (d:CV):(Z6b cls d).held = d.held:=by unfold Z6b; split <;> rfl
theorem Zp2 (cls:List Int):∀ cs:List CV,tot (Z57 cls cs) = tot cs
 | [] => rfl
 | d :: cs => by
  have h1:Z57 cls (d :: cs) = Z6b cls d :: Z57 cls cs:=rfl
  rw [h1]
  simp only [tot]
  rw [Zp2 cls cs,Zd7]
def gs (cs:List CV):List Int→Int
 | [] => 0
 | g :: r => Z3l cs g.toNat + gs cs r
theorem Zqs (cs:List CV) (g:Int):∀ l,gs cs (l ++ [g]) = gs cs l + Z3l cs g.toNat
 | [] => by simp [gs]
 | x :: l => by simp only [List.cons_append,gs]; rw [Zqs cs g l]; omega
theorem Zk8 {cs ds:List CV}:∀ {l:List Int},(∀ g ∈ l,Z3l cs g.toNat = Z3l ds g.toNat)→gs cs l = gs ds l
 | [],_ => rfl
 | x :: l,h => by
  simp only [gs]
  rw [h x (by simp),Zk8 fun g hg => h g (by simp [hg])]
theorem Zrh:∀ (l:List Int) (cs:List CV),l.Nodup→(∀ g ∈ l,0 ≤ g∧g.toNat < cs.length)→tot (relC cs l) = tot cs - gs cs l
 | [],cs,_,_ => by simp [relC,gs]
 | g :: l,cs,hn,hl => by
  rw [List.nodup_cons] at hn
  obtain ⟨g0,g1⟩:=hl g (by simp)
  show tot (relC (cs.set g.toNat Z1r) l) = _
  rw [Zrh l (cs.set g.toNat Z1r) hn.2 (fun x hx => by rw [List.length_set]; exact hl x (by simp [hx])),Zko (List.getElem?_eq_getElem g1)]
  have e1:gs (cs.set g.toNat Z1r) l = gs cs l:=Zk8 fun x hx => by
   have hne:g.toNat ≠ x.toNat:=by
    intro e
    have:=(hl x (by simp [hx])).1
    have:g = x:=by omega
    exact hn.1 (this ▸ hx)
   unfold Z3l
   rw [List.getElem?_set_ne hne]
  rw [e1]
  simp only [gs]
  rw [Z49 (List.getElem?_eq_getElem g1)]
  show tot cs - _ + 0 - _ = _
  omega
theorem Zdq : ∀ (l : List Int) (cs : List CV) (a : Nat), (∀ g ∈ l, 0 ≤ g) → (relC cs l)[a]? = if (a : Int) ∈ l ∧ a < cs.length then some Z1r else cs[a]?
  | [], cs, a, _ => by simp [relC]
  | g :: l, cs, a, h => by
    show (relC (cs.set g.toNat Z1r) l)[a]? = _
    rw [Zdq l _ a fun x hx => h x (by simp [hx]), List.length_set]
    have g0 := h g (by simp)
    by_cases hl : (a : Int) ∈ l ∧ a < cs.length
    · rw [if_pos hl, if_pos ⟨by simp [hl.1], hl.2⟩]
    · rw [if_neg hl, List.getElem?_set]
      by_cases e : g.toNat = a
      · rw [if_pos e]
        by_cases hal : a < cs.length
        · rw [if_pos (by omega), if_pos ⟨by have : (a : Int) = g := by omega
                                            rw [this]; simp, hal⟩]
        · rw [if_neg (by omega), if_neg (fun h => hal h.2), List.getElem?_eq_none (by omega)]
      · rw [if_neg e, if_neg]
        rintro ⟨h1, h2⟩
        rcases List.mem_cons.1 h1 with h1 | h1
        · omega
        · exact hl ⟨h1, h2⟩
structure HeldI (cls:List Int) (cs:List CV) (i:Nat):Prop where
 shape:∀ (a:Nat) (d:CV),cs[a]? = some d→∃ h:Int,(Z0l cls cs i)[a]? = some { Z6b cls d with held:=h }∧d.held ≤ h∧h ≤ 1000 * (i + 1)
 tot:tot (Z0l cls cs i) = tot cs + gs cs (Z1e cls cs i)
 gone:∀ (a:Nat) (d:CV),cs[a]? = some d→d.taken = true→toC cls (a:Int) ≠ (a:Int)→Z3l (Z0l cls cs i) a = d.held
 free:∀ (a:Nat) (d:CV),cs[a]? = some d→d.taken = false→(Z0l cls cs i)[a]? = some d
 into:∀ (x:Nat) (d:CV),x < i→cs[x]? = some d→d.taken = true→toC cls (x:Int) ≠ (x:Int)→d.held ≤ Z3l (Z0l cls cs i) (toC cls (x:Int)).toNat
theorem Znf {cls:List Int} {cs:List CV} (hG:HG cs) (hlen:cs.length ≤ 400) (htc:∀ a:Nat,Z07 cs (a:Int) = true→∃ j:Nat,toC cls (a:Int) = j∧Z07 cs (j:Int) = true∧toC cls (j:Int) = j):∀ i,i ≤ cs.length→HeldI cls cs i
 | 0,_ => by
  have hmv:∀ (a:Nat) (d:CV),cs[a]? = some d→(Z0l cls cs 0)[a]? = some (Z6b cls d):=fun a d h => mvC_get h
  refine ⟨fun a d h => ⟨d.held,?_,Int.le_refl _,?_⟩,?_,fun a d h _ _ => ?_,fun a d h hf => ?_,fun x d hx => by omega⟩
  ·rw [hmv a d h,← Zd7 cls d]
  ·have:=(hG.held d (List.mem_of_getElem? h)).2
   omega
  ·show Go.Proofs.tot (Z57 cls cs) = _
   rw [Zp2]
   have:Z1e cls cs 0 = []:=rfl
   rw [this]
   simp [gs]
  ·rw [Z49 (hmv a d h),Zd7]
  ·rw [hmv a d h]
   unfold Z6b
   rw [if_neg (by rw [hf]; decide)]
 | i + 1,hi => by
  have H:=Znf hG hlen htc i (by omega)
  obtain ⟨c,hc⟩:∃ c,cs[i]? = some c:=⟨_,List.getElem?_eq_getElem (by omega)⟩
  have hch:=hG.held c (List.mem_of_getElem? hc)
  by_cases hg:c.taken = true∧toC cls (i:Int) ≠ (i:Int)
  ·obtain ⟨j,hj,hjt,hjj⟩:=htc i (by rw [Z14 hc]; exact hg.1)
   have hjl:=Z1y hjt
   obtain ⟨dj,hdj,hdjt,_⟩:=Z4w hjt
   obtain ⟨h,h1,h2,h3⟩:=H.shape j dj hdj
   have hdj0:=(hG.held dj (List.mem_of_getElem? hdj)).1
   have hji:j ≠ i:=fun e => hg.2 (by rw [hj,e])
   have hw:IntKind.wrap .i64 (h + c.held) = h + c.held:=IntWalk.i64_in _ (by omega)
   have hstep:Z0l cls cs (i + 1) = (Z0l cls cs i).set j { Z6b cls dj with held:=h + c.held }:=by
    rw [Z0l,hc]
    simp only
    rw [if_pos hg,hj,Int.toNat_natCast]
    unfold addH
    rw [h1]
    simp only
    rw [hw]
   have hjl2:j < (Z0l cls cs i).length:=by rw [Z2r]; exact hjl
   refine ⟨fun a d had => ?_,?_,fun a d had ht hne => ?_,fun a d had hf => ?_,fun x d hx hxd ht hne => ?_⟩
   ·by_cases e:j = a
    ·subst e
     rw [hdj] at had
     cases had
     refine ⟨h + c.held,by rw [hstep,List.getElem?_set_self hjl2],by omega,by omega⟩
    ·obtain ⟨h',g1,g2,g3⟩:=H.shape a d had
     exact ⟨h',by rw [hstep,List.getElem?_set_ne e]; exact g1,g2,by omega⟩
   ·rw [hstep,Zko h1,H.tot,Zh8 hc hg.1 hg.2,Zqs,Int.toNat_natCast,Z49 hc]
    simp only
    omega
   ·have e:j ≠ a:=by
     rintro rfl
     exact hne hjj
    rw [← H.gone a d had ht hne,hstep]
    unfold Z3l
    rw [List.getElem?_set_ne e]
   ·have e:j ≠ a:=by
     rintro rfl
     rw [hdj] at had
     cases had
     rw [hf] at hdjt
     cases hdjt
    rw [hstep,List.getElem?_set_ne e]
    exact H.free a d had hf
   ·by_cases e:x = i
    ·subst e
     rw [hc] at hxd
     cases hxd
     rw [hj,Int.toNat_natCast,hstep,Z49 (List.getElem?_set_self hjl2)]
     simp only
     omega
    ·have h4:=H.into x d (by omega) hxd ht hne
     refine Int.le_trans h4 ?_
     rw [hstep]
     unfold Z3l
     by_cases e2:j = (toC cls (x:Int)).toNat
     ·rw [← e2,List.getElem?_set_self hjl2,h1]
      simp only
      omega
     ·rw [List.getElem?_set_ne e2]
      exact Int.le_refl _
  ·have hstep:Z0l cls cs (i + 1) = Z0l cls cs i:=by
    rw [Z0l,hc]
    simp only
    rw [if_neg hg]
   have hgone:Z1e cls cs (i + 1) = Z1e cls cs i:=by
    cases ht:c.taken with
    | false => exact Zh9 hc ht
    | true => exact Zha hc ht (Classical.byContradiction fun hn => hg ⟨ht,hn⟩)
   refine ⟨fun a d had => ?_,by rw [hstep,hgone]; exact H.tot,fun a d had ht hne => by rw [hstep]; exact H.gone a d had ht hne,fun a d had hf => by rw [hstep]; exact H.free a d had hf,fun x d hx hxd ht hne => ?_⟩
   ·obtain ⟨h',g1,g2,g3⟩:=H.shape a d had
    exact ⟨h',by rw [hstep]; exact g1,g2,by omega⟩
   ·rw [hstep]
    refine H.into x d ?_ hxd ht hne
    have:x ≠ i:=by
     rintro rfl
     rw [hc] at hxd
     cases hxd
     exact hg ⟨ht,hne⟩
    omega
structure MergeIs (cs c:List CV):Prop where
 good:HG c
 len:c.length = cs.length
 tot:tot c = tot cs
 take:∀ a:Nat,Z07 c (a:Int) = true ↔ Z07 cs (a:Int) = true∧toC (clsH cs) (a:Int) = a
 lab:∀ a:Nat,Z07 c (a:Int) = true→lb c a = lb cs a
 goes:∀ a:Nat,Z07 cs (a:Int) = true→∃ j:Nat,toC (clsH cs) (a:Int) = j∧j ≤ a∧Z07 c (j:Int) = true∧lb c j = lb cs a∧Z3l cs a ≤ Z3l c j
theorem Zns {cs:List CV} (hG:HG cs) (hlen:cs.length ≤ 400) (ht:tot cs ≤ 1000 ∨ (Z0l (clsH cs) cs cs.length).any (fun c => decide (1000 < c.held)) = false):∃ many c,Z7i cs = (many,0,c)∧MergeIs cs c:=by
 have hO:=hG.ok.toHOk
 have htc:∀ a:Nat,Z07 cs (a:Int) = true→∃ j:Nat,toC (clsH cs) (a:Int) = j∧Z07 cs (j:Int) = true∧toC (clsH cs) (j:Int) = j:=fun a ha => by
  obtain ⟨j,h1,h2,h3,_⟩:=Z92 hO ha
  refine ⟨j,h1,h3,?_⟩
  have:=Zgy hO ha
  rwa [h1] at this
 have H:=Znf hG hlen htc cs.length (Nat.le_refl _)
 have hgm:∀ a:Nat,(a:Int) ∈ Z1e (clsH cs) cs cs.length ↔ Z07 cs (a:Int) = true∧toC (clsH cs) (a:Int) ≠ a:=fun a => by
  rw [Z9a]
  constructor
  ·rintro ⟨_,_,h1,h2⟩
   exact ⟨h1,h2⟩
  ·rintro ⟨h1,h2⟩
   have:=Z1y h1
   exact ⟨by omega,by omega,h1,h2⟩
 have hg0:∀ g ∈ Z1e (clsH cs) cs cs.length,0 ≤ g:=fun g hg => (Z9a.1 hg).1
 have hl:(Z0l (clsH cs) cs cs.length).length = cs.length:=Z2r _ _ _
 have hrel:=Zrh (Z1e (clsH cs) cs cs.length) (Z0l (clsH cs) cs cs.length) (Zne _ _ _) (fun g hg => by
  obtain ⟨h1,h2,_⟩:=Z9a.1 hg
  rw [hl]
  omega)
 have hgs:gs (Z0l (clsH cs) cs cs.length) (Z1e (clsH cs) cs cs.length) = gs cs (Z1e (clsH cs) cs cs.length):=Zk8 fun g hg => by
  obtain ⟨h1,h2,h3,h4⟩:=Z9a.1 hg
  have e:((g.toNat:Nat):Int) = g:=by omega
  obtain ⟨d,hd,htk,_⟩:=Z4w (cs:=cs) (a:=g.toNat) (by rw [e]; exact h3)
  rw [H.gone g.toNat d hd htk (by rw [e]; exact h4),Z49 hd]
 have hget:∀ (a:Nat) (d:CV),cs[a]? = some d→∃ h:Int,d.held ≤ h∧(relC (Z0l (clsH cs) cs cs.length) (Z1e (clsH cs) cs cs.length))[a]? = some (if d.taken = true∧toC (clsH cs) (a:Int) ≠ a then Z1r else { Z6b (clsH cs) d with held:=h }):=by
  intro a d hd
  obtain ⟨h,g1,g2,_⟩:=H.shape a d hd
  refine ⟨h,g2,?_⟩
  rw [Zdq _ _ a hg0,hl]
  have hal:a < cs.length:=(List.getElem?_eq_some_iff.1 hd).1
  have:=hgm a
  rw [Z14 hd] at this
  by_cases hb:d.taken = true∧toC (clsH cs) (a:Int) ≠ a
  ·rw [if_pos ⟨this.2 hb,hal⟩,if_pos hb]
  ·rw [if_neg (fun hm => hb (this.1 hm.1)),if_neg hb,g1]
 have hkeep:∀ a:Nat,Z07 cs (a:Int) = true∧toC (clsH cs) (a:Int) ≠ a ∨ (relC (Z0l (clsH cs) cs cs.length) (Z1e (clsH cs) cs cs.length))[a]? = (Z0l (clsH cs) cs cs.length)[a]?:=by
  intro a
  by_cases hb:Z07 cs (a:Int) = true∧toC (clsH cs) (a:Int) ≠ a
  ·exact .inl hb
  ·right
   rw [Zdq _ _ a hg0,if_neg (fun hm => hb ((hgm a).1 hm.1))]
 have hlen2:(relC (Z0l (clsH cs) cs cs.length) (Z1e (clsH cs) cs cs.length)).length = cs.length:=by rw [Zc9,hl]
 have htot2:tot (relC (Z0l (clsH cs) cs cs.length) (Z1e (clsH cs) cs cs.length)) = tot cs:=by rw [hrel,hgs,H.tot]; omega
 have hpos2:∀ x ∈ relC (Z0l (clsH cs) cs cs.length) (Z1e (clsH cs) cs cs.length),0 ≤ x.held:=by
  intro x hx
  obtain ⟨a,ha⟩:=List.getElem?_of_mem hx
  obtain ⟨d,hd⟩:∃ d,cs[a]? = some d:=⟨_,List.getElem?_eq_getElem (by rw [← hlen2]; exact (List.getElem?_eq_some_iff.1 ha).1)⟩
  obtain ⟨h,h1,h2⟩:=hget a d hd
  have:=(hG.held d (List.mem_of_getElem? hd)).1
  rw [h2] at ha
  cases ha
  split
  ·decide
  ·show 0 ≤ h
   omega
 have hno:(Z0l (clsH cs) cs cs.length).any (fun c => decide (1000 < c.held)) = false:=by
  rcases ht with ht | ht
  case inr => exact ht
  rw [List.any_eq_false]
  intro x hx
  obtain ⟨a,ha⟩:=List.getElem?_of_mem hx
  obtain ⟨d,hd⟩:∃ d,cs[a]? = some d:=⟨_,List.getElem?_eq_getElem (by rw [← hl]; exact (List.getElem?_eq_some_iff.1 ha).1)⟩
  have hdh:=hG.held d (List.mem_of_getElem? hd)
  by_cases hb:d.taken = true∧toC (clsH cs) (a:Int) ≠ a
  ·have:=H.gone a d hd hb.1 hb.2
   rw [Z49 ha] at this
   simp only [decide_eq_true_eq]
   omega
  ·have hr:=Zdq (Z1e (clsH cs) cs cs.length) (Z0l (clsH cs) cs cs.length) a hg0
   rw [if_neg,ha] at hr
   ·have:=(Zwa hpos2 hr).1
    rw [htot2] at this
    simp only [decide_eq_true_eq]
    omega
   ·rintro ⟨hm,_⟩
    have:=(hgm a).1 hm
    rw [Z14 hd] at this
    exact hb this
 have hm:Z7i cs = (((Z1e (clsH cs) cs cs.length).length:Int),0,relC (Z0l (clsH cs) cs cs.length) (Z1e (clsH cs) cs cs.length)):=by
  unfold Z7i
  rw [if_neg (by rw [hno]; decide)]
 refine ⟨_,_,hm,?_⟩
 generalize relC (Z0l (clsH cs) cs cs.length) (Z1e (clsH cs) cs cs.length) = c at hget hkeep hlen2 htot2 hpos2
 have htake:∀ a:Nat,Z07 c (a:Int) = true ↔ Z07 cs (a:Int) = true∧toC (clsH cs) (a:Int) = a:=by
  intro a
  by_cases hal:a < cs.length
  ·have hd:cs[a]? = some cs[a]:=List.getElem?_eq_getElem hal
   obtain ⟨h,_,h2⟩:=hget a _ hd
   rw [Z14 h2,Z14 hd]
   by_cases hb:cs[a].taken = true∧toC (clsH cs) (a:Int) ≠ a
   ·rw [if_pos hb]
    constructor
    ·intro e; cases e
    ·rintro ⟨_,e⟩; exact (hb.2 e).elim
   ·rw [if_neg hb]
    have:(Z6b (clsH cs) cs[a]).taken = cs[a].taken:=by unfold Z6b; split <;> rfl
    show (Z6b (clsH cs) cs[a]).taken = true ↔ _
    rw [this]
    exact ⟨fun ht => ⟨ht,Classical.byContradiction fun hn => hb ⟨ht,hn⟩⟩,fun h => h.1⟩
  ·have h1:Z07 c (a:Int) = false:=by
    cases e:Z07 c (a:Int) with
    | false => rfl
    | true => have:=Z1y e; omega
   have h2:Z07 cs (a:Int) = false:=by
    cases e:Z07 cs (a:Int) with
    | false => rfl
    | true => have:=Z1y e; omega
   rw [h1,h2]
   simp
 have hkept:∀ a:Nat,Z07 c (a:Int) = true→∃ d h,cs[a]? = some d∧d.taken = true∧d.held ≤ h∧c[a]? = some ⟨true,d.name,d.kids.map (toC (clsH cs)),h⟩:=by
  intro a ha
  obtain ⟨h1,h2⟩:=(htake a).1 ha
  obtain ⟨d,hd,htk,_⟩:=Z4w h1
  obtain ⟨h,g1,g2⟩:=hget a d hd
  rw [if_neg (fun hb => hb.2 h2)] at g2
  refine ⟨d,h,hd,htk,g1,?_⟩
  rw [g2]
  unfold Z6b
  rw [if_pos htk]
  simp [htk]
 have htoc:∀ k:Int,Z07 cs k = true→Z07 c (toC (clsH cs) k) = true:=by
  intro k hk
  have h0:=(Z22 hk).1
  have e:((k.toNat:Nat):Int) = k:=by omega
  obtain ⟨j,h1,_,h3,_⟩:=Z92 hO (a:=k.toNat) (by rw [e]; exact hk)
  rw [e] at h1
  rw [h1]
  refine (htake j).2 ⟨h3,?_⟩
  have:=Zgy hO (a:=k.toNat) (by rw [e]; exact hk)
  rw [e,h1] at this
  exact this
 have hlab:∀ a:Nat,Z07 c (a:Int) = true→lb c a = lb cs a:=by
  intro a ha
  refine Zdk (R:=fun x y => Z07 c (x:Int) = true∧Z07 cs (y:Int) = true∧lb cs x = lb cs y) ?_ ⟨ha,((htake a).1 ha).1,rfl⟩
  rintro x y ⟨hx,hy,hxy⟩
  obtain ⟨d,h,hd,htk,_,hcx⟩:=hkept x hx
  obtain ⟨e,he,het,hey⟩:=Z4w hy
  have hdx:(Z11 cs)[x]? = some (d.name,d.kids):=by rw [Z39 hd,if_pos htk]
  obtain ⟨e1,e2,e3⟩:=Znn hdx hey hxy
  refine ⟨(d.name,d.kids.map (toC (clsH cs))),_,by rw [Z39 hcx,if_pos rfl],hey,e1,by simpa using e2,fun j k m hk hm => ?_⟩
  simp only at hk
  rw [List.getElem?_map] at hk
  cases hkd:d.kids[j]? with
  | none => rw [hkd] at hk; cases hk
  | some k' =>
   rw [hkd] at hk
   simp only [Option.map_some,Option.some.injEq] at hk
   obtain ⟨k1,k2⟩:=Zao hO hd htk (List.mem_of_getElem? hkd)
   have m1:=(Zao hO he het (List.mem_of_getElem? hm)).1
   have e4:((k'.toNat:Nat):Int) = k':=by omega
   obtain ⟨z,z1,_,z3,z4,_⟩:=Z92 hO k1
   rw [e4,hk] at z1
   have hzc:=htoc k' (by rw [← e4]; exact k1)
   rw [hk] at hzc
   rw [z1] at hzc ⊢
   rw [Int.toNat_natCast]
   exact ⟨hzc,m1,z4.trans (e3 j k' m hkd hm)⟩
 refine ⟨fun x hx => ?_,hlen2,htot2,htake,hlab,fun a ha => ?_⟩
 ·obtain ⟨a,hxa⟩:=List.getElem?_of_mem hx
  cases htk:Z07 c (a:Int) with
  | true =>
   have hle:x.held ≤ 1000:=by
    rcases hkeep a with ⟨_,hb⟩ | hk2
    ·exact absurd ((htake a).1 htk).2 hb
    ·rw [hxa] at hk2
     have:=List.any_eq_false.1 hno x (List.mem_of_getElem? hk2.symm)
     simpa using this
   obtain ⟨d,h,hd,hdt,hdh,hca⟩:=hkept a htk
   rw [hxa] at hca
   cases hca
   rcases hG d (List.mem_of_getElem? hd) with e | ⟨g1,g2,g3,g4,g5,_⟩
   ·rw [e] at hdt; cases hdt
   ·simp only at hle
    refine .inr ⟨rfl,by simpa using g2,fun k hk => ?_,g4,by show 0 ≤ h; omega,by show h ≤ 1000; omega⟩
    obtain ⟨k',hk',rfl⟩:=List.mem_map.1 hk
    exact htoc k' (g3 k' hk')
  | false =>
   obtain ⟨d,hd⟩:∃ d,cs[a]? = some d:=⟨_,List.getElem?_eq_getElem (by rw [← hlen2]; exact (List.getElem?_eq_some_iff.1 hxa).1)⟩
   by_cases hb:d.taken = true∧toC (clsH cs) (a:Int) ≠ a
   ·obtain ⟨h,h1,h2⟩:=hget a d hd
    rw [hxa,if_pos hb] at h2
    exact .inl (Option.some.inj h2)
   ·have hdf:d.taken = false:=by
     cases hdt:d.taken with
     | false => rfl
     | true =>
      have:=(htake a).2 ⟨by rw [Z14 hd]; exact hdt,Classical.byContradiction fun hn => hb ⟨hdt,hn⟩⟩
      rw [htk] at this
      cases this
    rcases hkeep a with ⟨h1,_⟩ | h1
    ·rw [Z14 hd,hdf] at h1
     cases h1
    ·rw [hxa,H.free a d hd hdf] at h1
     cases h1
     rcases hG x (List.mem_of_getElem? hd) with e | ⟨g1,_⟩
     ·exact .inl e
     ·rw [hdf] at g1; cases g1
 ·obtain ⟨j,h1,h2,h3,h4,_⟩:=Z92 hO ha
  have hcj:Z07 c (j:Int) = true:=(htake j).2 ⟨h3,by have:=Zgy hO ha; rwa [h1] at this⟩
  refine ⟨j,h1,h2,hcj,(hlab j hcj).trans h4,?_⟩
  obtain ⟨d,hd,htk,_⟩:=Z4w ha
  obtain ⟨e,h,he,_,heh,hcje⟩:=hkept j hcj
  have hjj:toC (clsH cs) (j:Int) = j:=by have:=Zgy hO ha; rwa [h1] at this
  have hk:c[j]? = (Z0l (clsH cs) cs cs.length)[j]?:=by
   rcases hkeep j with ⟨_,h⟩ | h
   ·exact (h hjj).elim
   ·exact h
  have hcc:Z3l c j = Z3l (Z0l (clsH cs) cs cs.length) j:=by unfold Z3l; rw [hk]
  rw [hcc,Z49 hd]
  by_cases haj:toC (clsH cs) (a:Int) = a
  ·have:a = j:=by omega
   subst this
   obtain ⟨h',g1,g2,_⟩:=H.shape a d hd
   rw [Z49 g1]
   exact g2
  ·have:=H.into a d (Z1y ha) hd htk haj
   rwa [h1,Int.toNat_natCast] at this
theorem Zvb {cs:List CV} (hG:HG cs) (hlen:cs.length ≤ 400):HG (Z7i cs).2.2∧(Z7i cs).2.2.length = cs.length:=by
 cases hc:(Z0l (clsH cs) cs cs.length).any (fun c => decide (1000 < c.held)) with
 | false =>
  obtain ⟨many,c,e,h⟩:=Zns hG hlen (.inr hc)
  rw [e]
  exact ⟨h.good,h.len⟩
 | true =>
  have e:Z7i cs = (0,12,cs):=by
   unfold Z7i
   exact if_pos hc
  rw [e]
  exact ⟨hG,rfl⟩
theorem Zfl {cs:List CV} (hO:HOk2 cs):Closed (Z11 cs) (Z16 cs)∧(∀ a ∈ Z16 cs,Z07 cs (a:Int) = true)∧(∀ a ∈ Z16 cs,∀ k ∈ kidN cs a,k ∈ Z16 cs)∧∀ a:Nat,Z07 cs (a:Int) = true→0 < Z3l cs a→a ∈ Z16 cs:=by
 have hr:∀ r ∈ (Z2c cs cs.length).map Int.toNat,Z07 cs (r:Int) = true:=by
  intro r hr
  obtain ⟨k,hk,rfl⟩:=List.mem_map.1 hr
  obtain ⟨h0,_,h2⟩:=Z8w hk
  rwa [Int.toNat_of_nonneg h0]
 obtain ⟨h1,_,h3,h4⟩:=Ziq hO hr
 refine ⟨h1,h3,fun a ha k hk => ?_,fun a ha hh => h4 a ?_⟩
 ·obtain ⟨d,hd,ht,hg⟩:=Z4w (h3 a ha)
  unfold kidN at hk
  rw [Z1d hd] at hk
  obtain ⟨x,hx,rfl⟩:=List.mem_map.1 hk
  exact (h1.kids a ha _ hg).2 x hx
 ·refine List.mem_map.2 ⟨(a:Int),?_,by simp⟩
  unfold Z2c
  refine List.mem_map.2 ⟨a,List.mem_filter.2 ⟨Zgn.2 ha,?_⟩,rfl⟩
  obtain ⟨d,hd,_⟩:=Z4w ha
  rw [Z49 hd] at hh
  rw [hd]
  simpa using hh
structure SweepIs (cs c:List CV):Prop where
 good:HG c
 len:c.length = cs.length
 tot:tot c ≤ tot cs
 take:∀ a:Nat,Z07 c (a:Int) = true ↔ Z07 cs (a:Int) = true∧a ∈ Z16 cs
 keep:∀ a:Nat,Z07 c (a:Int) = true→c[a]? = cs[a]?
theorem Zq4 {cs:List CV} (hG:HG cs):SweepIs cs (Zg9 cs).2.2:=by
 obtain ⟨r1,r2,r3,r4⟩:=Zfl hG.ok
 have hu0:∀ g ∈ Z3m cs (Z16 cs) cs.length,0 ≤ g:=fun g hg => (Zgb.1 hg).1
 have hum:∀ a:Nat,(a:Int) ∈ Z3m cs (Z16 cs) cs.length ↔ Z07 cs (a:Int) = true∧a ∉ Z16 cs:=fun a => by
  rw [Zgb]
  constructor
  ·rintro ⟨_,_,h1,h2⟩
   exact ⟨h1,by simpa using h2⟩
  ·rintro ⟨h1,h2⟩
   have:=Z1y h1
   exact ⟨by omega,by omega,h1,by simpa using h2⟩
 show SweepIs cs (relC cs (Z3m cs (Z16 cs) cs.length))
 have hget:∀ a:Nat,(Z07 cs (a:Int) = true∧a ∉ Z16 cs∧(relC cs (Z3m cs (Z16 cs) cs.length))[a]? = some Z1r) ∨ (¬ (Z07 cs (a:Int) = true∧a ∉ Z16 cs)∧(relC cs (Z3m cs (Z16 cs) cs.length))[a]? = cs[a]?):=by
  intro a
  rw [Zdq _ _ a hu0]
  by_cases hb:Z07 cs (a:Int) = true∧a ∉ Z16 cs
  ·left
   exact ⟨hb.1,hb.2,by rw [if_pos ⟨(hum a).2 hb,Z1y hb.1⟩]⟩
  ·right
   exact ⟨hb,by rw [if_neg (fun hm => hb ((hum a).1 hm.1))]⟩
 have hlen:(relC cs (Z3m cs (Z16 cs) cs.length)).length = cs.length:=Zc9 _ _
 generalize relC cs (Z3m cs (Z16 cs) cs.length) = c at hget hlen
 have htake:∀ a:Nat,Z07 c (a:Int) = true ↔ Z07 cs (a:Int) = true∧a ∈ Z16 cs:=by
  intro a
  rcases hget a with ⟨h1,h2,h3⟩ | ⟨h1,h2⟩
  ·rw [Z14 h3]
   simp [Z1r,h2]
  ·have e:Z07 c (a:Int) = Z07 cs (a:Int):=by unfold Z07; simp [h2]
   rw [e]
   exact ⟨fun h => ⟨h,Classical.byContradiction fun hn => h1 ⟨h,hn⟩⟩,fun h => h.1⟩
 have hkeep:∀ a:Nat,Z07 c (a:Int) = true→c[a]? = cs[a]?:=by
  intro a ha
  rcases hget a with ⟨h1,h2,h3⟩ | ⟨h1,h2⟩
  ·exact (h2 ((htake a).1 ha).2).elim
  ·exact h2
 refine ⟨fun x hx => ?_,hlen,?_,htake,hkeep⟩
 ·obtain ⟨a,hxa⟩:=List.getElem?_of_mem hx
  cases ht:Z07 c (a:Int) with
  | false =>
   rcases hget a with ⟨_,_,h3⟩ | ⟨_,h2⟩
   ·rw [hxa] at h3
    exact .inl (Option.some.inj h3)
   ·rw [h2] at hxa
    rw [Z14 (h2.trans hxa)] at ht
    rcases hG x (List.mem_of_getElem? hxa) with h | ⟨h,_⟩
    ·exact .inl h
    ·rw [ht] at h; cases h
  | true =>
   obtain ⟨h1,h2⟩:=(htake a).1 ht
   rw [hkeep a ht] at hxa
   rcases hG x (List.mem_of_getElem? hxa) with h | ⟨g1,g2,g3,g4⟩
   ·exact .inl h
   ·refine .inr ⟨g1,g2,fun k hk => ?_,g4⟩
    obtain ⟨k1,k0⟩:=Zao hG.ok.toHOk hxa g1 hk
    have hkr:k.toNat ∈ Z16 cs:=r3 a h2 _ (by unfold kidN; rw [Z1d hxa]; exact List.mem_map.2 ⟨k,hk,rfl⟩)
    have:=(htake k.toNat).2 ⟨k1,hkr⟩
    rwa [Int.toNat_of_nonneg k0] at this
 ·have hle:∀ a,a < c.length→Z3l c a ≤ Z3l cs a:=by
   intro a ha
   rcases hget a with ⟨_,_,h3⟩ | ⟨_,h2⟩
   ·have hd:cs[a]? = some (cs[a]'(by rw [← hlen]; exact ha)):=List.getElem?_eq_getElem _
    rw [Z49 h3,Z49 hd]
    exact (hG.held _ (List.getElem_mem _)).1
   ·unfold Z3l
    rw [h2]
    exact Int.le_refl _
  have:∀ (l m:List CV),l.length = m.length→(∀ a,a < l.length→Z3l l a ≤ Z3l m a)→Go.Proofs.tot l ≤ Go.Proofs.tot m:=by
   intro l
   induction l with
   | nil =>
    intro m hl _
    cases m with
    | nil => exact Int.le_refl _
    | cons _ _ => simp at hl
   | cons x l ih =>
    intro m hl h
    cases m with
    | nil => simp at hl
    | cons y m =>
     have h0:=h 0 (by simp)
     have:=ih m (by simpa using hl) (fun a ha => by
      have:=h (a + 1) (by simpa using ha)
      simpa [Z3l] using this)
     simp [Z3l] at h0
     simp only [Go.Proofs.tot]
     omega
  exact this c cs hlen hle
structure PackIs (cs c:List CV) (v:List Nat):Prop where
 good:HG c
 len:c.length = cs.length
 nodup:v.Nodup
 mem:∀ a ∈ v,Z07 cs (a:Int) = true
 kids:∀ a ∈ v,∀ k ∈ kidN cs a,k ∈ v
 cell:∀ (j a:Nat),v[j]? = some a→∃ d,cs[a]? = some d∧d.taken = true∧c[j]? = some { d with kids:=d.kids.map fun k => ((v.idxOf k.toNat:Nat):Int) }
 free:∀ j,v.length ≤ j→j < cs.length→c[j]? = some Z1r
theorem Zt8 {cs:List CV} (hG:HG cs):PackIs cs (Zml cs).2 (Z16 cs):=by
 obtain ⟨r1,r2,r3,r4⟩:=Zfl hG.ok
 have hnd:(Z16 cs).Nodup:=(Ziq hG.ok (roots:=(Z2c cs cs.length).map Int.toNat) (fun r hr => by
  obtain ⟨k,hk,rfl⟩:=List.mem_map.1 hr
  obtain ⟨h0,_,h2⟩:=Z8w hk
  rwa [Int.toNat_of_nonneg h0])).2.1
 show PackIs cs (Z45 (outL cs.length (Z16 cs)) (Z1o cs (Z16 cs))) (Z16 cs)
 generalize Z16 cs = v at r1 r2 r3 r4 hnd
 have hvn:v.length ≤ cs.length:=Z34 hnd fun a ha => Z1y (r2 a ha)
 have hcell:∀ (j a:Nat),v[j]? = some a→∃ d,cs[a]? = some d∧d.taken = true∧(Z45 (outL cs.length v) (Z1o cs v))[j]? = some { d with kids:=d.kids.map fun k => ((v.idxOf k.toNat:Nat):Int) }:=by
  intro j a hj
  have ha:=List.mem_of_getElem? hj
  have hjl:=(List.getElem?_eq_some_iff.1 hj).1
  obtain ⟨d,hd,ht,_⟩:=Z4w (r2 a ha)
  refine ⟨d,hd,ht,?_⟩
  have h1:(Z1o cs v)[j]? = some d:=by
   unfold Z1o
   rw [List.getElem?_append_left (by rw [Z6n]; exact hjl)]
   unfold pick
   rw [List.getElem?_map,hj]
   simp [hd]
  rw [Zb7 h1,if_pos ht]
  congr 1
  have:d.kids.map (toP (outL cs.length v)) = d.kids.map fun k => ((v.idxOf k.toNat:Nat):Int):=List.map_congr_left fun k hk => by
   have hkv:k.toNat ∈ v:=r3 a ha _ (by unfold kidN; rw [Z1d hd]; exact List.mem_map.2 ⟨k,hk,rfl⟩)
   unfold toP
   rw [Zed v (Z1y (r2 _ hkv)),if_pos hkv]
   rfl
  rw [this]
 have hfree:∀ j,v.length ≤ j→j < cs.length→(Z45 (outL cs.length v) (Z1o cs v))[j]? = some Z1r:=by
  intro j h1 h2
  have h3:(Z1o cs v)[j]? = some Z1r:=by
   unfold Z1o
   rw [List.getElem?_append_right (by rw [Z6n]; exact h1),Z6n,List.getElem?_replicate,if_pos (by omega)]
  rw [Zb7 h3]
  rfl
 have hlen:(Z45 (outL cs.length v) (Z1o cs v)).length = cs.length:=by rw [Z93,Zct hvn]
 generalize Z45 (outL cs.length v) (Z1o cs v) = c at hcell hfree hlen
 refine ⟨fun x hx => ?_,hlen,hnd,r2,r3,hcell,hfree⟩
 obtain ⟨j,hj⟩:=List.getElem?_of_mem hx
 have hjl:j < cs.length:=by rw [← hlen]; exact (List.getElem?_eq_some_iff.1 hj).1
 by_cases hjv:j < v.length
 ·have hja:v[j]? = some v[j]:=List.getElem?_eq_getElem hjv
  obtain ⟨d,hd,ht,hc⟩:=hcell j _ hja
  rw [hj] at hc
  cases hc
  rcases hG d (List.mem_of_getElem? hd) with e | ⟨g1,g2,g3,g4⟩
  ·rw [e] at ht; cases ht
  ·refine .inr ⟨g1,by simpa using g2,fun k hk => ?_,g4⟩
   obtain ⟨k',hk',rfl⟩:=List.mem_map.1 hk
   have hkv:k'.toNat ∈ v:=r3 _ (List.getElem_mem hjv) _ (by unfold kidN; rw [Z1d hd]; exact List.mem_map.2 ⟨k',hk',rfl⟩)
   have h5:=List.idxOf_lt_length_of_mem hkv
   obtain ⟨e,_,he,hce⟩:=hcell (v.idxOf k'.toNat) k'.toNat (by rw [List.getElem?_eq_getElem h5,List.getElem_idxOf h5])
   rw [Z14 hce]
   exact he
 ·rw [hfree j (by omega) hjl] at hj
  cases hj
  exact .inl rfl
end Go.Proofs
end
section
open Go Go.AM
namespace Go.Proofs
def c100_1:MCode:=.region [Yo (.int .u64 0)] [Cs 2]
def c100_4:MCode:=.region [Cm 0,Yf 0,Yc 0 0,Ya 0,Yl (Yq 0),Yh .gtr (Yq 0) (Ck 0)] [Cs 8,none,none,none,none,none]
def c100_7:MCode:=.region [Cm 0,Yf 0,Yc 2 0,Ya 0,Cm 0,Yf 0,Yc 0 0,Ya 0,Cm 0,Yf 0,Yc 1 0,Ya 0,Cm 0,Yf 0,Yc 0 0,Ya 0,Yl (Yq 0),Yh .rem (Yq 5) (Yq 0),Ye 1 1 (Yq 10) (Yq 0),Ya 0,Cr (.conv (.int .u64) (Yq 0)),Cr (.bin .add .other none (Yq 0) (.cst (.int .u64 1))),Yh .add (Yq 18) (Yq 0),Yf 22,Yc 2 0,Yk 1 (Yq 0) (Yq 2)] [none,Cs 33,Cs 32,Cs 31,Cs 30,Cs 29,Cs 28,Cs 27,Cs 26,Cs 25,Cs 24,Cs 23,Cs 22,Cs 21,Cs 20,Cs 19,Cs 18,Cs 17,Cs 16,Cs 15,Cs 14,Cs 13,Cs 12,Cs 11,Cs 10,Cs 9]
def c100_8:MCode:=.region [Cm 0,Yf 0,Yc 1 0,Ya 0,Yh .add (Yq 0) (Ck 1),Yf 4,Yc 1 0,Yk 1 (Yq 0) (Yq 2)] [none,none,none,none,none,none,none,none]
def c100_6:MCode:=.seq c100_7 c100_8
def c100_5:MCode:=.cond (Cp 8) c100_6 .skip
def c100_3:MCode:=.seq c100_4 c100_5
def Zyd:MCode:=.region [Cm 0,Yf 0,Yc 2 0,Ya 0,Cm 0,Yf 0,Yc 2 0,Ya 0,Cr (.bin .shl .other none (Yq 0) (.cst (.int .u64 13))),Yh .xor (Yq 5) (Yq 0),Yf 9,Yc 2 0,Yk 1 (Yq 0) (Yq 2)] [none,Cs 52,Cs 51,Cs 50,Cs 49,Cs 48,Cs 47,Cs 46,Cs 45,Cs 44,Cs 43,Cs 42,Cs 41]
def Zyf:MCode:=.region [Cm 0,Yf 0,Yc 2 0,Ya 0,Cm 0,Yf 0,Yc 2 0,Ya 0,Cr (.bin .shr .other none (Yq 0) (.cst (.int .u64 7))),Yh .xor (Yq 5) (Yq 0),Yf 9,Yc 2 0,Yk 1 (Yq 0) (Yq 2)] [none,Cs 64,Cs 63,Cs 62,Cs 61,Cs 60,Cs 59,Cs 58,Cs 57,Cs 56,Cs 55,Cs 54,Cs 53]
def Zyh:MCode:=.region [Cm 0,Yf 0,Yc 2 0,Ya 0,Cm 0,Yf 0,Yc 2 0,Ya 0,Cr (.bin .shl .other none (Yq 0) (.cst (.int .u64 17))),Yh .xor (Yq 5) (Yq 0),Yf 9,Yc 2 0,Yk 1 (Yq 0) (Yq 2)] [none,Cs 76,Cs 75,Cs 74,Cs 73,Cs 72,Cs 71,Cs 70,Cs 69,Cs 68,Cs 67,Cs 66,Cs 65]
def Zyj:MCode:=.region [Cm 0,Yf 0,Yc 2 0,Ya 0,Cr (.bin .mul .other none (Yq 0) (.cst (.int .u64 2685821657736338717))),Cr (.bin .shr .other none (Yq 0) (.cst (.int .u64 33))),C0] [Cs 2,none,none,none,none,none,none]
def Zyi:MCode:=.seq Zyj .ret
def Zyg:MCode:=.seq Zyh Zyi
def Zye:MCode:=.seq Zyf Zyg
def Zu4:MCode:=.seq Zyd Zye
def c100_2:MCode:=.seq c100_3 Zu4
def c100_0:MCode:=.seq c100_1 c100_2
theorem fi100:funInfo Tryz.prog 100 = some { code:=c100_0,ntmps:=83,nargs:=1,ps:=[66,67,69,70,71,72,73,68,65,75,74,76,54,55,57,58,59,60,61,56,53,63,62,64,42,43,45,46,47,48,49,44,41,51,50,52,10,11,13,14,15,17,18,19,21,22,23,24,25,20,26,16,27,28,29,30,12,9,32,31,33,8,0,2],res:=[.tmp 2] }:=by kernel_rfl
def c41_1:MCode:=.region [Yp 0] [Cs 4]
def c41_3:MCode:=.region [Cm 0,Ym 100 [(Yq 0)],Cm 1,Cr (.mnmx true [(Ck 1),(Yq 0)]),Cr (.conv (.int .u64) (Yq 0)),Yh .rem (Yq 3) (Yq 0),Cr (.conv (.int .i64) (Yq 0)),C0] [Cs 4,none,none,none,none,none,none,none]
def c41_2:MCode:=.seq c41_3 .ret
def c41_0:MCode:=.seq c41_1 c41_2
theorem fi41:funInfo Tryz.prog 41 = some { code:=c41_0,ntmps:=12,nargs:=2,ps:=[1,0,4],res:=[.tmp 4] }:=by kernel_rfl
def c40_1:MCode:=.region [Yp 0] [Cs 6]
def c40_3:MCode:=.region [Cm 1,Cm 0,Cm 2,Cm 1,Yh .sub (Yq 1) (Yq 0),Yh .add (Yq 0) (Ck 1),Ym 41 [(Yq 4),(Yq 0)],Yh .add (Yq 6) (Yq 0),C0] [Cs 6,none,none,none,none,none,none,none,none]
def c40_2:MCode:=.seq c40_3 .ret
def c40_0:MCode:=.seq c40_1 c40_2
theorem fi40:funInfo Tryz.prog 40 = some { code:=c40_0,ntmps:=15,nargs:=3,ps:=[2,0,1,6],res:=[.tmp 6] }:=by kernel_rfl
def c101_1:MCode:=.region [Cr (.alloc (some [(.str []),(.str []),(.str [])]))] [Cs 2]
def c101_3:MCode:=.region [Cr (.build (some [(0,(1,(.cst (.str [97])))),(1,(1,(.cst (.str [110,105,108])))),(2,(1,(.cst (.str [98]))))]) (some [(.str []),(.str []),(.str [])])),Cr (.build (some [(0,(1,(.cst (.str [115])))),(1,(1,(.cst (.str [117])))),(2,(1,(.cst (.str [116]))))]) (some [(.str []),(.str []),(.str [])])),Cr (.build (some [(0,(1,(.cst (.str [99,111,110,115])))),(1,(1,(.cst (.str [112])))),(2,(1,(.cst (.str [113]))))]) (some [(.str []),(.str []),(.str [])])),Cr (.build (some [(0,(3,(Yq 2))),(3,(3,(Yq 1))),(6,(3,(Yq 0)))]) (some [(.str []),(.str []),(.str []),(.str []),(.str []),(.str []),(.str []),(.str []),(.str [])])),Cm 0,Cr (.index .arr (some (3,(3,(some 3)))) (Yq 1) (Yq 0)),Yk 3 (Cp 2) (Yq 0)] [none,none,none,none,none,none,none]
def c101_2:MCode:=.seq c101_3 .ret
def c101_0:MCode:=.seq c101_1 c101_2
theorem fi101:funInfo Tryz.prog 101 = some { code:=c101_0,ntmps:=9,nargs:=1,ps:=[0,2],res:=[.cell 2 137] }:=by kernel_rfl
def c12_1:MCode:=.region [Yo .nilPtr] [Cs 2]
def c12_3:MCode:=.region [Cm 0,Cm 0,Yl (Yq 0),Cr (.conv (.int .u64) (Yq 0)),Cr (.bin .add .other none (.cst (.int .u64 11400714819323198485)) (Yq 0)),Cr (.build (some [(0,(1,(Yq 4))),(2,(1,(Yq 0)))]) (some [.nilSlice,(.int .i64 0),(.int .u64 0)])),Cr (.box (Yq 0)),C0] [Cs 2,none,none,none,none,none,none,none]
def c12_2:MCode:=.seq c12_3 .ret
def c12_0:MCode:=.seq c12_1 c12_2
theorem fi12:funInfo Tryz.prog 12 = some { code:=c12_0,ntmps:=10,nargs:=1,ps:=[0,2],res:=[.tmp 2] }:=by kernel_rfl
def c42_1:MCode:=.region [Cr (.alloc (some [.nilSlice,(.int .i64 0)]))] [Cs 4]
def c42_3:MCode:=.region [Cm 0,Cm 1,Cr (.mnmx false [(Yq 0),(Ck 60)]),Ym 40 [(Yq 2),(Ck 1),(Yq 0)],C0] [Cs 5,none,none,none,none]
def c42_5:MCode:=.region [Cm 0,Cm 5,Ym 41 [(Yq 1),(Yq 0)],Cr (.build (some [(1,(1,(Yq 0)))]) (some [.nilSlice,(.int .i64 0)])),Cr (.alloc (some [.nilSlice,(.int .i64 0)])),Yk 2 (Yq 0) (Yq 1)] [none,Cs 6,none,none,none,none]
def c42_7:MCode:=.region [Cm 0,Ym 40 [(Yq 0),(Ck 1),(Ck 3)],C0] [Cs 7,none,none]
def c42_10:MCode:=.region [Cm 5,Yp 0] [Cs 21,Cs 20]
def c42_14:MCode:=.region [Yh .lss (Cp 21) (Cp 20)] [Cs 22]
def c42_16:MCode:=.cond (Cp 22) .skip (.exit 0)
def c42_20:MCode:=.region [Cm 0,Ym 40 [(Yq 0),(Ck 0),(Ck 2)],C0] [Cs 8,none,none]
def c42_22:MCode:=.region [Cm 8,Ym 101 [(Yq 0)],Cm 0,Cm 7,Ym 41 [(Yq 1),(Yq 0)],Cr (.index .arr (some (3,(1,none))) (Yq 3) (Yq 0)),Cr (.build (some [(0,(1,(Yq 0)))]) (some [(.str []),.nilSlice])),Cr (.alloc (some [(.str []),.nilSlice])),Yk 2 (Yq 0) (Yq 1)] [none,Cs 9,none,none,none,none,none,none,none]
def c42_25:MCode:=.region [Cm 8,Yp 0] [Cs 33,Cs 32]
def c42_29:MCode:=.region [Yh .lss (Cp 33) (Cp 32)] [Cs 34]
def c42_31:MCode:=.cond (Cp 34) .skip (.exit 2)
def c42_34:MCode:=.region [Yd 1 9,Ya 0,Cm 0,Cm 5,Ym 41 [(Yq 1),(Yq 0)],.chk none (.load (some none) (Yq 4)) (some (Yq 3)),.fresh,Cr (.buildSlice (some (1,8)) (some [(.int .i64 0)]) 1 [(0,(Yq 0))]),Cr (.append (some (1,8)) (Yq 4) (Yq 0)),Yd 1 9,Yk 1 (Yq 0) (Yq 1)] [none,Cs 42,Cs 41,Cs 40,Cs 39,Cs 38,Cs 37,Cs 36,Cs 35]
def c42_33:MCode:=.block 3 c42_34
def c42_35:MCode:=.region [Yh .add (Cp 33) (Ck 1),C0] [Cs 33,none]
def c42_32:MCode:=.seq c42_33 c42_35
def c42_30:MCode:=.seq c42_31 c42_32
def c42_28:MCode:=.seq c42_29 c42_30
def c42_27:MCode:=.loop c42_28
def c42_26:MCode:=.block 2 c42_27
def Zub:MCode:=.seq c42_25 c42_26
def c42_36:MCode:=.region [Yd 0 6,Ya 0,Yr 2 (Cp 9),Cr (.buildSlice (some (2,40)) (some [(.str []),.nilSlice]) 1 [(0,(Yq 0))]),Cr (.append (some (2,40)) (Yq 2) (Yq 0)),Yd 0 6,Yk 1 (Yq 0) (Yq 1)] [none,none,none,none,none,none,none]
def c42_23:MCode:=.seq Zub c42_36
def c42_21:MCode:=.seq c42_22 c42_23
def c42_19:MCode:=.seq c42_20 c42_21
def c42_18:MCode:=.block 1 c42_19
def c42_37:MCode:=.region [Yh .add (Cp 21) (Ck 1),C0] [Cs 21,none]
def c42_17:MCode:=.seq c42_18 c42_37
def c42_15:MCode:=.seq c42_16 c42_17
def c42_13:MCode:=.seq c42_14 c42_15
def c42_12:MCode:=.loop c42_13
def c42_11:MCode:=.block 0 c42_12
def c42_9:MCode:=.seq c42_10 c42_11
def c42_39:MCode:=.region [Yr 2 (Cp 6),Yk 2 (Cp 4) (Yq 0)] [none,none]
def c42_38:MCode:=.seq c42_39 .ret
def c42_8:MCode:=.seq c42_9 c42_38
def c42_6:MCode:=.seq c42_7 c42_8
def c42_4:MCode:=.seq c42_5 c42_6
def c42_2:MCode:=.seq c42_3 c42_4
def c42_0:MCode:=.seq c42_1 c42_2
theorem fi42:funInfo Tryz.prog 42 = some { code:=c42_0,ntmps:=52,nargs:=2,ps:=[6,35,38,37,39,40,36,9,41,42,34,32,33,7,8,22,20,21,5,1,0,4],res:=[.cell 4 28] }:=by kernel_rfl
def c11_1:MCode:=.region [Yo .nilPtr,Yo (.bool false)] [Cs 5,Cs 4]
def c11_3:MCode:=.region [Cm 0,Cm 1,Ym 40 [(Yq 1),(Ck 4),(Yq 0)],C0] [Cs 6,none,none,none]
def c11_5:MCode:=.region [Cm 6,Ym 29 [(Yq 0)],C0,Yg 0 0,Yg 1 1,Yn 1,Yn 1] [Cs 8,Cs 7,none,none,none,none,none]
def c11_8:MCode:=.region [Cm 8,Yh .neq (Yq 0) (Ck 0),C0,Yi 0 (.move (Cp 7)),Yi 1 (.bin .eql .ptr none (Yq 0) (.cst .nilPtr)),Cr (.pick (Yq 2) (.cst (.bool true)) (Yq 0))] [Cs 26,none,none,none,none,none]
def c11_11:MCode:=.region [Yo .nilPtr,Yo (.bool false)] [Cs 5,Cs 4]
def c11_10:MCode:=.seq c11_11 .ret
def c11_9:MCode:=.cond (Cp 26) c11_10 .skip
def c11_7:MCode:=.seq c11_8 c11_9
def c11_13:MCode:=.region [Cr (.build (some [(0,(1,(.cst (.str [97])))),(1,(1,(.cst (.str [110,105,108]))))]) (some [(.str []),(.str [])])),Cr (.build (some [(0,(1,(.cst (.str [115])))),(1,(1,(.cst (.str [117]))))]) (some [(.str []),(.str [])])),Cr (.build (some [(0,(1,(.cst (.str [99,111,110,115])))),(1,(1,(.cst (.str [112]))))]) (some [(.str []),(.str [])])),Cr (.build (some [(0,(2,(Yq 2))),(2,(2,(Yq 1))),(4,(2,(Yq 0)))]) (some [(.str []),(.str []),(.str []),(.str []),(.str []),(.str [])])),Cr (.alloc (some [(.str []),(.str []),(.str []),(.str []),(.str []),(.str [])])),Yk 6 (Yq 0) (Yq 1)] [none,Cs 9,none,none,none,none]
def c11_16:MCode:=.region [Cm 0,Cm 6,Yh .mul (Ck 2) (Yq 0),Ym 41 [(Yq 2),(Yq 0)],Yp 0] [Cs 35,Cs 34,none,none,none]
def c11_20:MCode:=.region [Yh .lss (Cp 35) (Cp 34)] [Cs 36]
def c11_22:MCode:=.cond (Cp 36) .skip (.exit 0)
def c11_26:MCode:=.region [Cm 7,Ym 25 [(Yq 0)],C0] [Cs 10,none,none]
def c11_28:MCode:=.region [Cm 0,Ym 41 [(Yq 0),(Ck 5)]] [Cs 40,none]
def c11_31:MCode:=.region [Yh .eql (Cp 40) (Ck 0),C0] [Cs 64,none]
def c11_33:MCode:=.region [Cm 7,Cm 0,Ym 42 [(Yq 0),(Ck 4)],Ym 21 [(Yq 2),(Yq 0)]] [none,none,none,none]
def c11_35:MCode:=.region [Yh .eql (Cp 40) (Ck 1),C0] [Cs 70,none]
def c11_37:MCode:=.region [Cm 7,Cm 0,Cm 6,Ym 41 [(Yq 1),(Yq 0)],Cm 0,Ym 41 [(Yq 0),(Ck 2)],Cm 0,Cm 6,Ym 41 [(Yq 1),(Yq 0)],Ym 17 [(Yq 8),(Yq 5),(Yq 3),(Yq 0)]] [none,none,none,none,none,none,none,none,none,none]
def c11_39:MCode:=.region [Yh .eql (Cp 40) (Ck 2),C0] [Cs 82,none]
def c11_41:MCode:=.region [Cm 7,Cm 0,Cm 6,Ym 41 [(Yq 1),(Yq 0)],Ym 22 [(Yq 3),(Yq 0)]] [none,none,none,none,none]
def c11_43:MCode:=.region [Cm 0,Ym 41 [(Yq 0),(Ck 3)],C0] [Cs 11,none,none]
def c11_46:MCode:=.region [Cm 10,Yh .eql (Yq 0) (Ck 0)] [Cs 44,none]
def c11_48:MCode:=.region [Yp 0] [Cs 11]
def c11_47:MCode:=.cond (Cp 44) c11_48 .skip
def c11_45:MCode:=.seq c11_46 c11_47
def c11_50:MCode:=.region [Yo .nilSlice] [Cs 12]
def c11_53:MCode:=.region [Cm 11,Yp 0] [Cs 46,Cs 45]
def c11_57:MCode:=.region [Yh .lss (Cp 46) (Cp 45)] [Cs 47]
def c11_59:MCode:=.cond (Cp 47) .skip (.exit 3)
def c11_62:MCode:=.region [Cm 12,Cm 0,Cm 6,Ym 41 [(Yq 1),(Yq 0)],Cr (.buildSlice (some (1,8)) (some [(.int .i64 0)]) 1 [(0,(Yq 0))]),Cr (.append (some (1,8)) (Yq 4) (Yq 0)),C0] [Cs 12,none,none,none,none,none,none]
def c11_61:MCode:=.block 4 c11_62
def c11_63:MCode:=.region [Yh .add (Cp 46) (Ck 1),C0] [Cs 46,none]
def c11_60:MCode:=.seq c11_61 c11_63
def c11_58:MCode:=.seq c11_59 c11_60
def c11_56:MCode:=.seq c11_57 c11_58
def c11_55:MCode:=.loop c11_56
def c11_54:MCode:=.block 3 c11_55
def Zu7:MCode:=.seq c11_53 c11_54
def c11_64:MCode:=.region [Cm 7,Cm 11,Cm 0,Cr (.indexAddr .arr none (some (3,2)) (Cp 9) (Yq 1)),Cm 12,Ym 41 [(Yq 2),(Ck 2)],Cr (.indexAddr .arr none (some (2,1)) (Yq 2) (Yq 0)),Ya 0,Ym 16 [(Yq 7),(Yq 0),(Yq 3)]] [none,Cs 61,Cs 60,Cs 58,Cs 62,Cs 59,Cs 57,Cs 56,Cs 55]
def c11_51:MCode:=.seq Zu7 c11_64
def Zu6:MCode:=.seq c11_50 c11_51
def c11_44:MCode:=.seq c11_45 Zu6
def c11_42:MCode:=.seq c11_43 c11_44
def c11_40:MCode:=.cond (Cp 82) c11_41 c11_42
def c11_38:MCode:=.seq c11_39 c11_40
def c11_36:MCode:=.cond (Cp 70) c11_37 c11_38
def c11_34:MCode:=.seq c11_35 c11_36
def c11_32:MCode:=.cond (Cp 64) c11_33 c11_34
def c11_30:MCode:=.seq c11_31 c11_32
def c11_29:MCode:=.block 2 c11_30
def c11_27:MCode:=.seq c11_28 c11_29
def c11_25:MCode:=.seq c11_26 c11_27
def Zu5:MCode:=.block 1 c11_25
def c11_65:MCode:=.region [Yh .add (Cp 35) (Ck 1),C0] [Cs 35,none]
def c11_23:MCode:=.seq Zu5 c11_65
def c11_21:MCode:=.seq c11_22 c11_23
def c11_19:MCode:=.seq c11_20 c11_21
def c11_18:MCode:=.loop c11_19
def c11_17:MCode:=.block 0 c11_18
def c11_15:MCode:=.seq c11_16 c11_17
def c11_67:MCode:=.region [Cm 7,C0,Yo (.bool true)] [Cs 5,Cs 4,none]
def c11_66:MCode:=.seq c11_67 .ret
def c11_14:MCode:=.seq c11_15 c11_66
def c11_12:MCode:=.seq c11_13 c11_14
def c11_6:MCode:=.seq c11_7 c11_12
def c11_4:MCode:=.seq c11_5 c11_6
def c11_2:MCode:=.seq c11_3 c11_4
def c11_0:MCode:=.seq c11_1 c11_2
theorem fi11:funInfo Tryz.prog 11 = some { code:=c11_0,ntmps:=91,nargs:=2,ps:=[57,56,9,58,59,60,62,61,55,12,47,45,46,11,44,10,82,70,64,40,36,34,35,26,7,8,6,1,0,4,5],res:=[.tmp 4,.tmp 5] }:=by kernel_rfl
end Go.Proofs
end
section
open Go Go.AM
namespace Go.Proofs
set_option maxRecDepth 100000
def Z36 (s0:St) (W:Pos→Prop) (bv:AVal) (bs:List Int):Prop:=(Z18 bv = some 0∧bs = []) ∨
 ∃ b o c cs,bv = .slice b o bs.length c∧¬ W b∧s0.Old b∧s0.cells b = some cs∧o + bs.length ≤ cs.length∧∀ (i:Nat) (k:Int),bs[i]? = some k→cs[o + i]? = some (.int .u8 k)
theorem Z36.len {s0:St} {W:Pos→Prop} {bv:AVal} {bs:List Int} (h:Z36 s0 W bv bs):Z18 bv = some bs.length:=by
 rcases h with ⟨h1,rfl⟩ | ⟨b,o,c,cs,rfl,_⟩
 ·exact h1
 ·rfl
theorem Z36.ntup {s0:St} {W:Pos→Prop} {bv:AVal} {bs:List Int} (h:Z36 s0 W bv bs):∀ t,¬ bv = .tup t:=by
 rintro t rfl
 have:=h.len
 cases this
theorem Z36.cells {s0:St} {W:Pos→Prop} {bv:AVal} {bs:List Int} (h:Z36 s0 W bv bs):bv.cells = [bv]:=by
 have:=h.len
 cases bv <;> first | rfl | cases this
structure SK where
 nx:Nat
 st:Int
def xorI (a b:Int):Int:=IntKind.u64.wrap (BitVec.ofInt IntKind.u64.bits a ^^^ BitVec.ofInt IntKind.u64.bits b).toNat
def shlI (a b:Int):Int:=IntKind.u64.wrap (a * 2 ^ min b.toNat IntKind.u64.bits)
def shrI (a b:Int):Int:=a.fdiv (2 ^ min b.toNat IntKind.u64.bits)
section
variable {a b:Int} {Q:AVal→Prop}
@[simp ↓] theorem intP_xorU:intP .xor .u64 a b Q = Q (.int .u64 (xorI a b)):=propext ⟨fun h => h,fun h => h⟩
@[simp ↓] theorem intP_shlU:intP .shl .u64 a b Q = (0 ≤ b∧Q (.int .u64 (shlI a b))):=propext ⟨fun h => h,fun h => h⟩
@[simp ↓] theorem intP_shrU:intP .shr .u64 a b Q = (0 ≤ b∧Q (.int .u64 (shrI a b))):=propext ⟨fun h => h,fun h => h⟩
end
theorem u64_low (n:Int):0 ≤ IntKind.u64.wrap n:=by rw [IntKind.wrap_u64]; omega
theorem Zxy {a b:Int} (h:0 ≤ a):0 ≤ shrI a b:=by
 unfold shrI
 rw [Int.fdiv_eq_ediv_of_nonneg _ (Int.pow_nonneg (by decide))]
 exact Int.ediv_nonneg h (Int.pow_nonneg (by decide))
def Zbm (bs:List Int) (k:SK):SK:=if bs = [] then k else ⟨k.nx + 1,IntKind.u64.wrap (k.st + IntKind.u64.wrap (IntKind.u64.wrap ((bs[k.nx % bs.length]?).getD 0) + 1))⟩
def mixA (st:Int):Int:=xorI st (shlI st 13)
def mixB (st:Int):Int:=xorI st (shrI st 7)
def mixC (st:Int):Int:=xorI st (shlI st 17)
def mixS (st:Int):Int:=mixC (mixB (mixA st))
def Ziv (bs:List Int) (k:SK):Int × SK:=(shrI (IntKind.u64.wrap (mixS (Zbm bs k).st * 2685821657736338717)) 33,⟨(Zbm bs k).nx,mixS (Zbm bs k).st⟩)
theorem Zqn:∃ f:List Int→SK→Int × SK,f = Ziv:=⟨_,rfl⟩
noncomputable def Zcg:List Int→SK→Int × SK:=Classical.choose Zqn
theorem Zht:Zcg = Ziv:=Classical.choose_spec Zqn
theorem Zun (bs:List Int) (k:SK):0 ≤ (Zcg bs k).1:=by rw [Zht]; exact Zxy (u64_low _)
theorem Zn4 (bs:List Int) (k:SK):(Zcg bs k).2.nx ≤ k.nx + 1:=by
 rw [Zht]
 unfold Ziv Zbm
 split <;> simp
section
variable {s0 s:St} {W:Pos→Prop} {Bs:Pos} {bv:AVal} {bs:List Int} {k:SK} {r:Lets} {Q:AVal→St→Prop}
abbrev Z1a (bv:AVal) (k:SK):AObj:=C [bv,.int .i64 k.nx,.int .u64 k.st]
theorem draw_c (hB:Z36 s0 W bv bs) (h:Ctx s0 W ((Bs,Z1a bv k) :: r) s) (hn:k.nx < 2 ^ 62)
  (q:∀ s',Ctx s0 W ((Bs,Z1a bv (Zcg bs k).2) :: r) s'→Q (.int .u64 (Zcg bs k).1) s'):Z0c Tryz.prog 100 [.ptr Bs 0] s Q:=by
 have hbt:=hB.ntup
 have hbl:=hB.len
 refine Z08 (Z0d (by decide)) fi100 rfl (by decide) rfl ?_
 refine Z00 ?_
 simp
 refine AM.wp_seq ?_
 refine Z00 ?_
 simp [h.c 0 rfl,hbl]
 have main:∀ (t:PT AVal) (s:St) (k':SK),PT.get (posOf 0) t = some (.ptr Bs 0)→Zbm bs k = k'→Ctx s0 W ((Bs,Z1a bv k') :: r) s→wp Tryz.prog Zu4 { fn:=100,ntmps:=83,ps:=[66,67,69,70,71,72,73,68,65,75,74,76,54,55,57,58,59,60,61,56,53,63,62,64,42,43,45,46,47,48,49,44,41,51,50,52,10,11,13,14,15,17,18,19,21,22,23,24,25,20,26,16,27,28,29,30,12,9,32,31,33,8,0,2],round:=none } t s fun e t s' => match e with
   | .exit _ => False
   | _ => resP Tryz.prog t s' [.tmp 2] fun l => Q (retV l) s':=by
  intro t s k' t0 hk c0
  refine Z00 ?_
  simp [t0,c0.c 0 rfl,c0.o 0 rfl]
  have c1:=c0.put 0 rfl (Z1a bv ⟨k'.nx,mixA k'.st⟩)
  simp only [List.set_cons_zero] at c1
  rw [show xorI k'.st (shlI k'.st 13) = mixA k'.st from rfl]
  generalize s.put Bs (.cells [bv,.int .i64 k'.nx,.int .u64 (mixA k'.st)] false) = s1 at c1 ⊢
  refine Z00 ?_
  simp [t0,c1.c 0 rfl,c1.o 0 rfl]
  have c2:=c1.put 0 rfl (Z1a bv ⟨k'.nx,mixB (mixA k'.st)⟩)
  simp only [List.set_cons_zero] at c2
  rw [show xorI (mixA k'.st) (shrI (mixA k'.st) 7) = mixB (mixA k'.st) from rfl]
  generalize s1.put Bs (.cells [bv,.int .i64 k'.nx,.int .u64 (mixB (mixA k'.st))] false) = s2 at c2 ⊢
  refine Z00 ?_
  simp [t0,c2.c 0 rfl,c2.o 0 rfl]
  have c3:=c2.put 0 rfl (Z1a bv ⟨k'.nx,mixS k'.st⟩)
  simp only [List.set_cons_zero] at c3
  rw [show xorI (mixB (mixA k'.st)) (shlI (mixB (mixA k'.st)) 17) = mixS k'.st from rfl]
  generalize s2.put Bs (.cells [bv,.int .i64 k'.nx,.int .u64 (mixS k'.st)] false) = s3 at c3 ⊢
  refine Z00 ?_
  simp [t0,c3.c 0 rfl]
  refine AM.wp_ret ?_
  simp
  have:=q s3
  rw [Zht] at this
  unfold Ziv at this
  rw [hk] at this
  exact this c3
 refine AM.Z04 ?_
 by_cases hz:bs = []
 ·have hs:Zbm bs k = k:=by unfold Zbm; rw [if_pos hz]
  simp [hz]
  refine AM.wp_skip ?_
  simp
  exact main _ _ k (by simp) hs h
 ·have hpos:0 < bs.length:=List.length_pos_iff.2 hz
  have hs:Zbm bs k = ⟨k.nx + 1,IntKind.u64.wrap (k.st + IntKind.u64.wrap (IntKind.u64.wrap ((bs[k.nx % bs.length]?).getD 0) + 1))⟩:=by unfold Zbm; rw [if_neg hz]
  rcases hB with ⟨_,h0⟩ | ⟨b,o,c,cs,rfl,hb1,hb2,hb3,hb4,hb5⟩
  ·exact (hz h0).elim
  have hml:k.nx % bs.length < bs.length:=Nat.mod_lt _ hpos
  obtain ⟨x,hx⟩:∃ x,bs[k.nx % bs.length]? = some x:=⟨_,List.getElem?_eq_getElem hml⟩
  have hgx:=hb5 _ _ hx
  have hcs:s.cells b = some cs:=(h.Zuk hb1 hb2).trans hb3
  have hm:((k.nx:Int)).tmod (bs.length:Int) = ((k.nx % bs.length:Nat):Int):=by
   rw [Int.tmod_eq_emod_of_nonneg (by omega)]
   omega
  have hwr:IntKind.wrap .i64 ((k.nx:Int) + 1) = ((k.nx + 1:Nat):Int):=by rw [IntWalk.i64_in _ (by omega)]; omega
  rw [hx] at hs
  simp only [Option.getD_some] at hs
  have hlt2:((k.nx % bs.length:Nat):Int) < (bs.length:Int):=by omega
  have h02:(0:Int) ≤ ((k.nx % bs.length:Nat):Int):=by omega
  have hbi:¬ (bs.length:Int) = 0:=by omega
  have hp2:(0:Int) < (bs.length:Int):=by omega
  generalize k.nx % bs.length = j at hgx hm hml hlt2 h02 hx
  simp [hpos]
  refine Z00 ?_
  simp [h.c 0 rfl,hcs,hm,hz,hml,hgx,h.o 0 rfl]
  have c1:=h.put 0 rfl (Z1a (.slice b o bs.length c) ⟨k.nx,IntKind.u64.wrap (k.st + IntKind.u64.wrap (IntKind.u64.wrap x + 1))⟩)
  simp only [List.set_cons_zero] at c1
  generalize IntKind.u64.wrap (k.st + IntKind.u64.wrap (IntKind.u64.wrap x + 1)) = y at c1 hs ⊢
  generalize s.put Bs (.cells [.slice b o bs.length c,.int .i64 k.nx,.int .u64 y] false) = s1 at c1 ⊢
  refine AM.wp_region ?_
  simp [c1.c 0 rfl,c1.o 0 rfl,hwr]
  have c2:=c1.put 0 rfl (Z1a (.slice b o bs.length c) ⟨k.nx + 1,y⟩)
  simp only [List.set_cons_zero] at c2
  refine main _ _ ⟨k.nx + 1,y⟩ (by simp) hs ?_
  rw [show Z1a (.slice b o bs.length c) ⟨k.nx + 1,y⟩ = C [.slice b o bs.length c,.int .i64 ((k.nx:Int) + 1),.int .u64 y] from by simp [Z1a]] at c2 ⊢
  exact c2
noncomputable def Z0r (bs:List Int) (n:Int) (k:SK):Int × SK:=((Zcg bs k).1.tmod (max 1 n),(Zcg bs k).2)
theorem Z46 (bs:List Int) (n:Int) (k:SK):0 ≤ (Z0r bs n k).1∧(Z0r bs n k).1 < max 1 n:=by
 unfold Z0r
 have h1:=Zun bs k
 have h2:0 < max 1 n:=by omega
 rw [Int.tmod_eq_emod_of_nonneg h1]
 exact ⟨Int.emod_nonneg _ (by omega),Int.emod_lt_of_pos _ h2⟩
theorem Z2e (bs:List Int) (n:Int) (k:SK):(Z0r bs n k).2.nx ≤ k.nx + 1:=Zn4 bs k
theorem Z4v {n:Int} (hB:Z36 s0 W bv bs) (h:Ctx s0 W ((Bs,Z1a bv k) :: r) s) (hn:k.nx < 2 ^ 62) (hm:n ≤ 2 ^ 62)
  (q:∀ s',Ctx s0 W ((Bs,Z1a bv (Z0r bs n k).2) :: r) s'→Q (.int .i64 (Z0r bs n k).1) s'):Z0c Tryz.prog 41 [.ptr Bs 0,.int .i64 n] s Q:=by
 refine Z08 (Z0d (by decide)) fi41 rfl (by decide) rfl ?_
 refine Z00 ?_
 simp
 refine Z00 ?_
 simp
 refine Z02 ?_
 refine draw_c hB h hn fun s1 c1 => ?_
 simp
 have hb:=Z46 bs n k
 have e1:IntKind.u64.wrap (max 1 n) = max 1 n:=IntWalk.u64_in _ (by omega)
 have e2:IntKind.wrap .i64 (Z0r bs n k).1 = (Z0r bs n k).1:=IntWalk.i64_in _ (by omega)
 have e3:¬ max 1 n = 0:=by omega
 refine Zlp (k:=.i64) (k':=.i64) (a:=1) (b:=n) (by simp) (by simp) ?_
 simp [e1,e3]
 have e4:(Zcg bs k).1.tmod (max 1 n) = (Z0r bs n k).1:=rfl
 rw [e4,e2]
 refine AM.wp_ret ?_
 simp
 exact q s1 c1
noncomputable def Z5m (bs:List Int) (lo hi:Int) (k:SK):Int × SK:=(lo + (Z0r bs (hi - lo + 1) k).1,(Z0r bs (hi - lo + 1) k).2)
theorem Z4q (bs:List Int) (lo hi:Int) (k:SK):lo ≤ (Z5m bs lo hi k).1∧(Z5m bs lo hi k).1 ≤ max lo hi:=by
 have:=Z46 bs (hi - lo + 1) k
 unfold Z5m
 omega
theorem Z7a (bs:List Int) (lo hi:Int) (k:SK):(Z5m bs lo hi k).2.nx ≤ k.nx + 1:=Zn4 bs k
theorem Zgg {lo hi:Int} (hB:Z36 s0 W bv bs) (h:Ctx s0 W ((Bs,Z1a bv k) :: r) s) (hn:k.nx < 2 ^ 62) (hlo:0 ≤ lo∧lo ≤ 1000) (hhi:0 ≤ hi∧hi ≤ 1000)
  (q:∀ s',Ctx s0 W ((Bs,Z1a bv (Z5m bs lo hi k).2) :: r) s'→Q (.int .i64 (Z5m bs lo hi k).1) s'):Z0c Tryz.prog 40 [.ptr Bs 0,.int .i64 lo,.int .i64 hi] s Q:=by
 have e1:IntKind.wrap .i64 (hi - lo) = hi - lo:=IntWalk.i64_in _ (by omega)
 have e2:IntKind.wrap .i64 (hi - lo + 1) = hi - lo + 1:=IntWalk.i64_in _ (by omega)
 have hb:=Z46 bs (hi - lo + 1) k
 have e3:IntKind.wrap .i64 (lo + (Z0r bs (hi - lo + 1) k).1) = lo + (Z0r bs (hi - lo + 1) k).1:=IntWalk.i64_in _ (by omega)
 refine Z08 (Z0d (by decide)) fi40 rfl (by decide) rfl ?_
 refine Z00 ?_
 simp
 refine Z00 ?_
 simp [e1,e2]
 refine Z02 ?_
 refine Z4v hB h hn (by omega) fun s1 c1 => ?_
 simp [e3]
 refine AM.wp_ret ?_
 simp
 exact q s1 c1
def Zej (bs:List Int):SK:=⟨0,IntKind.u64.wrap (11400714819323198485 + IntKind.u64.wrap bs.length)⟩
theorem Zur (hB:Z36 s0 W bv bs) (h:Ctx s0 W r s)
  (q:∀ Bs s',Ctx s0 W ((Bs,Z1a bv (Zej bs)) :: r) s'→Q (.ptr Bs 0) s'):Z0c Tryz.prog 12 [bv] s Q:=by
 have hbt:=hB.ntup
 have hbl:=hB.len
 have hbc:=hB.cells
 refine Z08 (Z0d (by decide)) fi12 rfl (by decide) rfl ?_
 refine Z00 ?_
 simp
 refine Z00 ?_
 simp [hbl,hbt,hbc]
 refine AM.wp_ret ?_
 simp
 exact q _ _ (h.alloc (Z1a bv (Zej bs)))
end
attribute [irreducible] Zej
def Zfs (k:Int):List (List UInt8):=if k = 0 then [[97],[110,105,108],[98]] else if k = 1 then [[115],[117],[116]] else [[99,111,110,115],[112],[113]]
theorem Zxa {s:St} {k:Int} {Q:AVal→St→Prop} (h0:0 ≤ k) (h2:k ≤ 2) (q:∀ s',Keeps s s'→Q (.agg ((Zfs k).map .str)) s'):Z0c Tryz.prog 101 [.int .i64 k] s Q:=by
 refine Z08 (Z0d (by decide)) fi101 rfl (by decide) rfl ?_
 refine Z00 ?_
 simp
 have hk:k = 0 ∨ k = 1 ∨ k = 2:=by omega
 have hl:Z4i Tryz.prog 137 = some (some 3):=by kernel_rfl
 have hK:∀ x:List AVal,Keeps s ((s.alloc (.cells [.str [],.str [],.str []] false)).put s.next (.cells x false)):=fun x => (Keeps.alloc _ _).put _ (Z0b _) (Z1b _ _)
 refine Z00 ?_
 rcases hk with rfl | rfl | rfl
 all_goals
  simp
  refine AM.wp_ret ?_
  simp [hl]
  exact q _ (hK _)
noncomputable def Z10 (bs:List Int) (n:Int):Nat→SK→List Int × SK
 | 0,k => ([],k)
 | j + 1,k => ((Z10 bs n j k).1 ++ [(Z0r bs n (Z10 bs n j k).2).1],(Z0r bs n (Z10 bs n j k).2).2)
noncomputable def Ze9 (bs:List Int) (n kinds:Int) (k:SK):ND × SK :=
 let a:=Z5m bs 0 2 k
 let b:=Z0r bs kinds a.2
 let c:=Z10 bs n a.1.toNat b.2
 ((((Zfs a.1)[b.1.toNat]?).getD [],c.1),c.2)
noncomputable def Z2w (bs:List Int) (n kinds:Int):Nat→SK→List ND × SK
 | 0,k => ([],k)
 | j + 1,k => ((Z2w bs n kinds j k).1 ++ [(Ze9 bs n kinds (Z2w bs n kinds j k).2).1],(Ze9 bs n kinds (Z2w bs n kinds j k).2).2)
noncomputable def Z65 (bs:List Int) (nodes:Int) (k:SK):(List ND × Int) × SK :=
 let a:=Z5m bs 1 (min nodes 60) k
 let b:=Z0r bs a.1 a.2
 let c:=Z5m bs 1 3 b.2
 let x:=Z2w bs a.1 c.1 a.1.toNat c.2
 ((x.1,b.1),x.2)
theorem Zeu (bs:List Int) (n:Int) (j:Nat) (k:SK):Z10 bs n (j + 1) k = ((Z10 bs n j k).1 ++ [(Z0r bs n (Z10 bs n j k).2).1],(Z0r bs n (Z10 bs n j k).2).2):=rfl
theorem Z7c (bs:List Int) (n:Int):∀ (j:Nat) (k:SK),(Z10 bs n j k).1.length = j
 | 0,k => rfl
 | j + 1,k => by
  unfold Z10
  simp [Z7c bs n j k]
theorem Z5y (bs:List Int) (n:Int):∀ (j:Nat) (k:SK),(Z10 bs n j k).2.nx ≤ k.nx + j
 | 0,k => by simp [Z10]
 | j + 1,k => by
  unfold Z10
  have:=Z5y bs n j k
  have:=Z2e bs n (Z10 bs n j k).2
  simp only
  omega
theorem Zh5 (bs:List Int) {n:Int} (hn:1 ≤ n):∀ (j:Nat) (k:SK),∀ x ∈ (Z10 bs n j k).1,0 ≤ x∧x < n
 | 0,k => by simp [Z10]
 | j + 1,k => by
  unfold Z10
  intro x hx
  rcases List.mem_append.1 hx with hx | hx
  ·exact Zh5 bs hn j k x hx
  ·simp at hx
   rw [hx]
   have:=Z46 bs n (Z10 bs n j k).2
   omega
theorem Zi0 (bs:List Int) (n kinds:Int) (k:SK):∃ a b c,a = Z5m bs 0 2 k∧b = Z0r bs kinds a.2∧c = Z10 bs n a.1.toNat b.2∧Ze9 bs n kinds k = ((((Zfs a.1)[b.1.toNat]?).getD [],c.1),c.2):=⟨_,_,_,rfl,rfl,rfl,rfl⟩
theorem Zxe (bs:List Int) (n kinds:Int) (k:SK):(Ze9 bs n kinds k).2.nx ≤ k.nx + 4:=by
 obtain ⟨a,b,c,ha,hb,hc,e⟩:=Zi0 bs n kinds k
 have h1:=Z7a bs 0 2 k
 have h4:=Z4q bs 0 2 k
 rw [← ha] at h1 h4
 have h2:=Z2e bs kinds a.2
 rw [← hb] at h2
 have h3:=Z5y bs n a.1.toNat b.2
 rw [← hc] at h3
 rw [e]
 show c.2.nx ≤ _
 omega
theorem Zhh (bs:List Int) (n kinds:Int) (j:Nat) (k:SK):Z2w bs n kinds (j + 1) k = ((Z2w bs n kinds j k).1 ++ [(Ze9 bs n kinds (Z2w bs n kinds j k).2).1],(Ze9 bs n kinds (Z2w bs n kinds j k).2).2):=by rw [Z2w]
theorem Zlk (bs:List Int) (n kinds:Int):∀ (j:Nat) (k:SK),(Z2w bs n kinds j k).2.nx ≤ k.nx + 4 * j:=by
 intro j k
 induction j with
 | zero => exact Nat.le_refl _
 | succ j ih =>
  have h2:=Zxe bs n kinds (Z2w bs n kinds j k).2
  rw [Zhh]
  revert ih h2
  generalize Z2w bs n kinds j k = y
  generalize Ze9 bs n kinds y.2 = x
  intro ih h2
  show x.2.nx ≤ _
  omega
theorem Zea (bs:List Int) (n kinds:Int):∀ (j:Nat) (k:SK),(Z2w bs n kinds j k).1.length = j
 | 0,k => rfl
 | j + 1,k => by
  unfold Z2w
  simp [Zea bs n kinds j k]
theorem Zii (bs:List Int) (nodes:Int) (k:SK):∃ a b c x,a = Z5m bs 1 (min nodes 60) k∧b = Z0r bs a.1 a.2∧c = Z5m bs 1 3 b.2∧x = Z2w bs a.1 c.1 a.1.toNat c.2∧Z65 bs nodes k = ((x.1,b.1),x.2):=⟨_,_,_,_,rfl,rfl,rfl,rfl,rfl⟩
theorem Zy5 (bs:List Int) {nodes:Int} (k:SK):(Z65 bs nodes k).2.nx ≤ k.nx + 243:=by
 obtain ⟨a,b,c,x,ha,hb,hc,hx,e⟩:=Zii bs nodes k
 have h1:=Z7a bs 1 (min nodes 60) k
 have h4:=Z4q bs 1 (min nodes 60) k
 rw [← ha] at h1 h4
 have h2:=Z2e bs a.1 a.2
 rw [← hb] at h2
 have h3:=Z7a bs 1 3 b.2
 rw [← hc] at h3
 have h5:=Zlk bs a.1 c.1 a.1.toNat c.2
 rw [← hx] at h5
 rw [e]
 show x.2.nx ≤ _
 omega
theorem Zjl {k:Int} {i:Nat} (h:i < 3):∃ nm,(Zfs k)[i]? = some nm∧Z2k nm = true∧nm.length ≤ 4:=by
 have hi:i = 0 ∨ i = 1 ∨ i = 2:=by omega
 unfold Zfs
 split
 ·rcases hi with rfl | rfl | rfl <;> exact ⟨_,rfl,rfl,by decide⟩
 ·split
  ·rcases hi with rfl | rfl | rfl <;> exact ⟨_,rfl,rfl,by decide⟩
  ·rcases hi with rfl | rfl | rfl <;> exact ⟨_,rfl,rfl,by decide⟩
theorem Zll (bs:List Int) {n kinds:Int} (hn:1 ≤ n) (hk:1 ≤ kinds∧kinds ≤ 3):∀ (j:Nat) (k:SK),∀ nd ∈ (Z2w bs n kinds j k).1,nd.2.length ≤ 2∧(∀ x ∈ nd.2,0 ≤ x∧x < n)∧Z2k nd.1 = true∧nd.1.length ≤ 4
 | 0,k => by simp [Z2w]
 | j + 1,k => by
  unfold Z2w
  intro nd hnd
  rcases List.mem_append.1 hnd with h | h
  ·exact Zll bs hn hk j k nd h
  ·simp at h
   rw [h]
   generalize (Z2w bs n kinds j k).2 = k1
   obtain ⟨a,b,c,ha,hb,hc,e⟩:=Zi0 bs n kinds k1
   have h1:=Z4q bs 0 2 k1
   rw [← ha] at h1
   have h2:=Z46 bs kinds a.2
   rw [← hb] at h2
   obtain ⟨nm,e1,e2,e3⟩:=Zjl (k:=a.1) (i:=b.1.toNat) (by omega)
   have h3:=Z7c bs n a.1.toNat b.2
   have h4:=Zh5 bs hn a.1.toNat b.2
   rw [← hc] at h3 h4
   rw [e,e1]
   exact ⟨by show c.1.length ≤ 2; omega,h4,e2,e3⟩
theorem Zy6 (bs:List Int) {nodes:Int} (h1:1 ≤ nodes) (k:SK):GrOk (Z65 bs nodes k).1.1∧(∀ nd ∈ (Z65 bs nodes k).1.1,Z2k nd.1 = true∧nd.1.length ≤ 4)∧1 ≤ (Z65 bs nodes k).1.1.length∧((Z65 bs nodes k).1.1.length:Int) ≤ min nodes 60∧0 ≤ (Z65 bs nodes k).1.2∧(Z65 bs nodes k).1.2 < (Z65 bs nodes k).1.1.length:=by
 obtain ⟨a,b,c,x,ha,hb,hc,hx,e⟩:=Zii bs nodes k
 have h4:=Z4q bs 1 (min nodes 60) k
 rw [← ha] at h4
 have h2:=Z46 bs a.1 a.2
 rw [← hb] at h2
 have h3:=Z4q bs 1 3 b.2
 rw [← hc] at h3
 have hN:=Zll bs (n:=a.1) (kinds:=c.1) (by omega) (by omega) a.1.toNat c.2
 have hL:=Zea bs a.1 c.1 a.1.toNat c.2
 rw [← hx] at hN hL
 rw [e]
 refine ⟨fun nd hnd => ?_,fun nd hnd => (hN nd hnd).2.2,by show 1 ≤ x.1.length; omega,by show (x.1.length:Int) ≤ _; omega,h2.1,by show b.1 < x.1.length; omega⟩
 obtain ⟨e1,e2,_⟩:=hN nd hnd
 refine ⟨by omega,fun y hy => ?_⟩
 have:=e2 y hy
 show 0 ≤ y∧y < (x.1.length:Int)
 omega
section
variable {s0 s:St} {W:Pos→Prop} {Bs:Pos} {bv:AVal} {bs:List Int} {k:SK} {r:Lets} {fr:FI} {t0:PT AVal}
theorem Zwb {Q:Ex→PT AVal→St→Prop} {B9:Pos} {nm:List UInt8} {n:Int} {c:Nat} (hB:Z36 s0 W bv bs) (hn:k.nx + 4 < 2 ^ 62) (hc2:c ≤ 2) (hnn:n ≤ 60)
  (hc:Ctx s0 W ((B9,C [.str nm,.nilSlice]) :: (Bs,Z1a bv k) :: r) s)
  (u0:PT.get (posOf 0) t0 = some (.ptr Bs 0)) (u5:PT.get (posOf 5) t0 = some (.int .i64 n)) (u8:PT.get (posOf 8) t0 = some (.int .i64 c)) (u9:PT.get (posOf 9) t0 = some (.ptr B9 0))
  (q:∀ t s' kv mg,Fr [32,33,34,35,36,37,38,39,40,41,42] t0 t→Z23 kv (Z10 bs n c k).1 mg→Ctx s0 W ((B9,C [.str nm,kv]) :: (Bs,Z1a bv (Z10 bs n c k).2) :: (mg ++ r)) s'→Q .normal t s'):wp Tryz.prog Zub fr t0 s Q:=by
 refine Z00 ?_
 simp [u8]
 refine AM.wp_block ?_
 refine AM.wp_loop (fun m t s' => ∃ (j:Nat) (kv:AVal) (mg:Lets),j ≤ c∧m = c - j∧Fr [32,33,34,35,36,37,38,39,40,41,42] t0 t∧PT.get (posOf 32) t = some (.int .i64 c)∧PT.get (posOf 33) t = some (.int .i64 j)∧Z23 kv (Z10 bs n j k).1 mg ∧
   Ctx s0 W ((B9,C [.str nm,kv]) :: (Bs,Z1a bv (Z10 bs n j k).2) :: (mg ++ r)) s') c ⟨0,.nilSlice,[],by simp,by simp,?_,by simp,by simp,.inl ⟨rfl,rfl,rfl⟩,hc⟩ ?_
 ·intro y hy
  simp at hy
  simp [hy]
 rintro m t s' ⟨j,kv,mg,hj,rfl,hF,t32,t33,hg,d⟩
 refine Z00 ?_
 simp [t32,t33]
 refine AM.wp_seq ?_
 refine AM.Z04 ?_
 by_cases hlt:j < c
 ·have hwr:IntKind.wrap .i64 ((j:Int) + 1) = ((j + 1:Nat):Int):=by rw [IntWalk.i64_in _ (by omega)]; omega
  have v0:=(hF 0 (by simp)).trans u0
  have v5:=(hF 5 (by simp)).trans u5
  have v9:=(hF 9 (by simp)).trans u9
  have hnx:=Z5y bs n j k
  have hjl:=Z7c bs n j k
  simp [hlt]
  refine AM.wp_skip ?_
  simp
  refine AM.wp_seq ?_
  refine AM.wp_block ?_
  refine AM.wp_region ?_
  simp [v0,v5,v9,d.c 0 rfl]
  refine Z02 ?_
  have hnext:=Zeu bs n j k
  have d1:=d.perm (m':=(Bs,Z1a bv (Z10 bs n j k).2) :: (B9,C [.str nm,kv]) :: (mg ++ r)) (List.Perm.swap _ _ _)
  generalize Z10 bs n j k = X at hg d1 hnx hjl hnext
  refine Z4v hB d1 (by omega) (by omega) fun s1 d2 => ?_
  have hkv8:Z2l 8 kv kv = true:=by
   rcases hg with ⟨_,rfl,_⟩ | ⟨q,_,rfl,_⟩
   ·simp [Z2l]
   ·simp [Z2l,Zch]
  have hns:s1.obj s1.next = none:=d2.wf _ (Z0b _)
  generalize Z0r bs n X.2 = Y at hnext d2 ⊢
  simp [d2.c 1 rfl,hkv8,hns,hg.ntup,Z20,srcP]
  have d3:=d2.alloc (C [.int .i64 Y.1])
  generalize s1.alloc (.cells [.int .i64 Y.1] false) = s2 at d3 ⊢
  generalize s1.next = T at d3 ⊢
  refine Z6w (pre:=[(T,C [.int .i64 Y.1]),(Bs,Z1a bv Y.2),(B9,C [.str nm,kv])]) d3 hg (by omega) fun kv' mg' s3 hg' d4 => ?_
  simp only [List.cons_append,List.nil_append] at d4
  simp [v9,hg'.ntup,hg'.cells,d4.o 2 rfl]
  have d5:=(d4.put 2 rfl (C [.str nm,kv'])).tail
  simp only [List.set_cons_zero,List.set_cons_succ] at d5
  refine AM.wp_region ?_
  simp [t33,hwr]
  refine ⟨c - (j + 1),by omega,j + 1,by omega,by omega,?_,by simp [t32],by simp,kv',mg',by rw [hnext]; exact hg',?_⟩
  ·intro y hy
   simp at hy
   simp [hy]
   exact hF y (by simp [hy])
  ·rw [hnext]
   exact d5.perm (List.Perm.swap _ _ _)
 ·simp [hlt]
  refine AM.wp_exit ?_
  simp
  have hje:j = c:=by omega
  subst hje
  refine q _ s' kv mg ?_ hg d
  intro y hy
  simp at hy
  simp [hy]
  exact hF y (by simp [hy])
theorem tree_c {Q:AVal→St→Prop} {nodes:Int} (hB:Z36 s0 W bv bs) (h:Ctx s0 W ((Bs,Z1a bv k) :: r) s) (hn:k.nx + 1000 < 2 ^ 62) (h1:1 ≤ nodes) (h2:nodes ≤ 60)
  (q:∀ nv mn s',Z5k nv (Z65 bs nodes k).1.1 mn→Ctx s0 W ((Bs,Z1a bv (Z65 bs nodes k).2) :: (mn ++ r)) s'→Q (.agg [nv,.int .i64 (Z65 bs nodes k).1.2]) s'):Z0c Tryz.prog 42 [.ptr Bs 0,.int .i64 nodes] s Q:=by
 refine Z08 (Z0d (by decide)) fi42 rfl (by decide) rfl ?_
 refine Z00 ?_
 simp
 have c0:=h.alloc (C [.nilSlice,.int .i64 0])
 generalize s.alloc (.cells [.nilSlice,.int .i64 0] false) = sA at c0 ⊢
 generalize s.next = B4 at c0 ⊢
 have c0:=c0.perm (m':=(Bs,Z1a bv k) :: (B4,C [.nilSlice,.int .i64 0]) :: r) (List.Perm.swap _ _ _)
 refine Z00 ?_
 simp
 refine Zlp (k:=.i64) (k':=.i64) (a:=nodes) (b:=60) (by simp) (by simp) ?_
 simp
 refine Z02 ?_
 obtain ⟨a,b,c,X,ha,hb,hcc,hX,htr⟩:=Zii bs nodes k
 have e1:=Z7a bs 1 (min nodes 60) k
 have e2:=Z4q bs 1 (min nodes 60) k
 rw [← ha] at e1 e2
 rw [htr] at q
 simp only at q
 refine Zgg hB c0 (by omega) (by omega) (by omega) fun s1 c1 => ?_
 rw [← ha] at c1 ⊢
 simp
 refine Z00 ?_
 simp
 refine Z02 ?_
 have e3:=Z2e bs a.1 a.2
 rw [← hb] at e3
 refine Z4v hB c1 (by omega) (by omega) fun s2 c2 => ?_
 rw [← hb] at c2 ⊢
 simp
 have c3:=(c2.alloc (C [.nilSlice,.int .i64 0])).put 0 rfl (C [.nilSlice,.int .i64 b.1])
 simp only [List.set_cons_zero] at c3
 generalize (s2.alloc (.cells [.nilSlice,.int .i64 0] false)).put s2.next (.cells [.nilSlice,.int .i64 b.1] false) = s3 at c3 ⊢
 generalize s2.next = B6 at c3 ⊢
 have c3:=c3.perm (m':=(Bs,Z1a bv b.2) :: (B6,C [.nilSlice,.int .i64 b.1]) :: (B4,C [.nilSlice,.int .i64 0]) :: r) (List.Perm.swap _ _ _)
 refine Z00 ?_
 simp
 refine Z02 ?_
 have e4:=Z7a bs 1 3 b.2
 have e5:=Z4q bs 1 3 b.2
 rw [← hcc] at e4 e5
 refine Zgg hB c3 (by omega) (by omega) (by omega) fun s4 c4 => ?_
 rw [← hcc] at c4 ⊢
 simp
 refine AM.wp_seq ?_
 refine Z00 ?_
 simp
 obtain ⟨n,hna⟩:∃ n:Nat,a.1 = (n:Int):=⟨a.1.toNat,by omega⟩
 rw [hna] at hX e2 ⊢
 rw [Int.toNat_natCast] at hX
 rw [hX] at q
 refine AM.wp_block ?_
 refine AM.wp_loop (fun m t s' => ∃ (i:Nat) (nv:AVal) (mn:Lets),i ≤ n∧m = n - i∧PT.get (posOf 0) t = some (.ptr Bs 0)∧PT.get (posOf 4) t = some (.ptr B4 0)∧PT.get (posOf 5) t = some (.int .i64 n)∧PT.get (posOf 6) t = some (.ptr B6 0)∧PT.get (posOf 7) t = some (.int .i64 c.1) ∧
   PT.get (posOf 20) t = some (.int .i64 n)∧PT.get (posOf 21) t = some (.int .i64 i)∧Z5k nv (Z2w bs n c.1 i c.2).1 mn ∧
   Ctx s0 W ((Bs,Z1a bv (Z2w bs n c.1 i c.2).2) :: (B6,C [nv,.int .i64 b.1]) :: (B4,C [.nilSlice,.int .i64 0]) :: (mn ++ r)) s') n
   ⟨0,.nilSlice,[],by simp,by simp,by simp,by simp,by simp,by simp,by simp,by simp,by simp,.inl ⟨rfl,rfl,rfl⟩,c4⟩ ?_
 rintro m t s' ⟨i,nv,mn,hi,rfl,t0,t4,t5,t6,t7,t20,t21,hN,d⟩
 refine Z00 ?_
 simp [t20,t21]
 refine AM.wp_seq ?_
 refine AM.Z04 ?_
 by_cases hlt:i < n
 ·have hwr:IntKind.wrap .i64 ((i:Int) + 1) = ((i + 1:Nat):Int):=by rw [IntWalk.i64_in _ (by omega)]; omega
  have hnx:=Zlk bs n c.1 i c.2
  have hil:=Zea bs n c.1 i c.2
  have hnext:=Zhh bs n c.1 i c.2
  simp [hlt]
  refine AM.wp_skip ?_
  simp
  refine AM.wp_seq ?_
  refine AM.wp_block ?_
  refine Z00 ?_
  generalize Z2w bs n c.1 i c.2 = X at hnx hil hnext hN d
  simp [t0]
  refine Z02 ?_
  have f1:=Z7a bs 0 2 X.2
  have f2:=Z4q bs 0 2 X.2
  obtain ⟨A,Bw,Dk,hA,hBw,hDk,hnode⟩:=Zi0 bs n c.1 X.2
  rw [← hA] at f1 f2
  refine Zgg hB d (by omega) (by omega) (by omega) fun s5 d5 => ?_
  rw [← hA] at d5 ⊢
  simp
  refine Z00 ?_
  simp [t0,t7]
  refine Z02 ?_
  refine Zxa (by omega) (by omega) fun s6 k6 => ?_
  have d6:=d5.keeps k6
  simp [t0,t7]
  refine Z02 ?_
  have f3:=Z2e bs c.1 A.2
  have f4:=Z46 bs c.1 A.2
  rw [← hBw] at f3 f4
  refine Z4v hB d6 (by omega) (by omega) fun s7 d7 => ?_
  rw [← hBw] at d7 ⊢
  obtain ⟨nm,g1,g2,g3⟩:=Zjl (k:=A.1) (i:=Bw.1.toNat) (by omega)
  have hB1:Bw.1 < 3:=by omega
  rw [g1] at hnode
  simp only [Option.getD_some] at hnode
  simp [g1,f4.1,hB1]
  have d8:=(d7.alloc (C [.str [],.nilSlice])).put 0 rfl (C [.str nm,.nilSlice])
  simp only [List.set_cons_zero] at d8
  generalize (s7.alloc (.cells [.str [],.nilSlice] false)).put s7.next (.cells [.str nm,.nilSlice] false) = s8 at d8 ⊢
  generalize s7.next = B9 at d8 ⊢
  obtain ⟨cc,hcc⟩:∃ cc:Nat,A.1 = (cc:Int):=⟨A.1.toNat,by omega⟩
  rw [hcc] at hDk f2 ⊢
  rw [Int.toNat_natCast] at hDk
  refine AM.wp_seq ?_
  refine Zwb (c:=cc) (n:=n) hB (by omega) (by omega) (by omega) d8 (by simp [t0]) (by simp [t5]) (by simp) (by simp) fun t2 s9 kv mg hF hg d9 => ?_
  have v0:PT.get (posOf 0) t2 = some (.ptr Bs 0):=(hF 0 (by simp)).trans (by simp [t0])
  have v4:PT.get (posOf 4) t2 = some (.ptr B4 0):=(hF 4 (by simp)).trans (by simp [t4])
  have v5:PT.get (posOf 5) t2 = some (.int .i64 n):=(hF 5 (by simp)).trans (by simp [t5])
  have v6:PT.get (posOf 6) t2 = some (.ptr B6 0):=(hF 6 (by simp)).trans (by simp [t6])
  have v7:PT.get (posOf 7) t2 = some (.int .i64 c.1):=(hF 7 (by simp)).trans (by simp [t7])
  have v9:PT.get (posOf 9) t2 = some (.ptr B9 0):=(hF 9 (by simp)).trans (by simp)
  have v20:PT.get (posOf 20) t2 = some (.int .i64 n):=(hF 20 (by simp)).trans (by simp [t20])
  have v21:PT.get (posOf 21) t2 = some (.int .i64 i):=(hF 21 (by simp)).trans (by simp [t21])
  rw [← hDk] at hg d9
  have d9:=d9.perm (m':=(B9,C [.str nm,kv]) :: (Bs,Z1a bv Dk.2) :: (B6,C [nv,.int .i64 b.1]) :: (B4,C [.nilSlice,.int .i64 0]) :: (mg ++ (mn ++ r))) (Z0n fun y => by
   simp only [Z0j,Z0i,Z0z]
   omega)
  simp
  refine AM.wp_region ?_
  simp [v6,v9,d9.c 0 rfl,d9.c 2 rfl,hg.ntup,hg.cells,hN.ntup,Z20,srcP]
  have d10:=d9.alloc (C [.str nm,kv])
  generalize s9.alloc (.cells [.str nm,kv] false) = s10 at d10 ⊢
  generalize s9.next = T at d10 ⊢
  have d11:=d10.perm (m':=[(T,C [.str nm,kv]),(B9,C [.str nm,kv]),(Bs,Z1a bv Dk.2),(B6,C [nv,.int .i64 b.1]),(B4,C [.nilSlice,.int .i64 0])] ++ (mg ++ (mn ++ r))) (by simp)
  refine Zvi d11 hN hg.row (by omega) fun nv' mn' s11 hN' d12 => ?_
  simp only [List.cons_append,List.nil_append] at d12
  simp [hN'.ntup,hN'.cells,d12.o 3 rfl]
  have d13:=(d12.put 3 rfl (C [nv',.int .i64 b.1])).tail.tail
  simp only [List.set_cons_zero,List.set_cons_succ] at d13
  refine AM.wp_region ?_
  simp [v21,hwr]
  refine ⟨n - (i + 1),by omega,i + 1,by omega,by omega,by simp [v0],by simp [v4],by simp [v5],by simp [v6],by simp [v7],by simp [v20],by simp,nv',mn',by rw [hnext,hnode]; exact hN',?_⟩
  rw [hnext,hnode]
  exact d13
 ·simp [hlt]
  refine AM.wp_exit ?_
  simp
  have hie:i = n:=by omega
  subst hie
  have hls:Z4i Tryz.prog 28 = some (some 2):=by kernel_rfl
  refine Z00 ?_
  simp [t4,t6,d.c 1 rfl,d.o 2 rfl]
  have d1:=d.put 2 rfl (C [nv,.int .i64 b.1])
  simp only [List.set_cons_zero,List.set_cons_succ] at d1
  generalize s'.put B4 (.cells [nv,.int .i64 b.1] false) = s5 at d1 ⊢
  refine AM.wp_ret ?_
  simp [hls,t4,d1.c 2 rfl]
  refine q nv mn s5 hN ((d1.perm (m':=((Bs,Z1a bv (Z2w bs i c.1 i c.2).2) :: (mn ++ r)) ++ [(B6,C [nv,.int .i64 b.1]),(B4,C [nv,.int .i64 b.1])]) (Z0n fun y => ?_)).sub (List.sublist_append_left _ _))
  simp only [Z0j,Z0i,Z0z]
  omega
end
def nm6:List (List UInt8):=[[97],[110,105,108],[115],[117],[99,111,110,115],[112]]
noncomputable def Z8k (bs:List Int) (n:Int) (cs:List CV) (k:SK):List CV × SK :=
 if (Z0r bs 5 k).1 = 0 then
  ((putF cs (Z65 bs 4 (Z0r bs 5 k).2).1.1 (Z65 bs 4 (Z0r bs 5 k).2).1.2).2.2,(Z65 bs 4 (Z0r bs 5 k).2).2)
 else if (Z0r bs 5 k).1 = 1 then
  let x:=Z0r bs n (Z0r bs 5 k).2
  let y:=Z0r bs 2 x.2
  let z:=Z0r bs n y.2
  ((tieF cs x.1 y.1 z.1).2,z.2)
 else if (Z0r bs 5 k).1 = 2 then
  ((Z7w cs (Z0r bs n (Z0r bs 5 k).2).1).2,(Z0r bs n (Z0r bs 5 k).2).2)
 else
  let m:=Z0r bs 3 (Z0r bs 5 k).2
  let kk:=if Z35 cs = 0 then 0 else m.1
  let d:=Z10 bs n kk.toNat m.2
  let w:=Z0r bs 2 d.2
  ((mkF cs ((nm6[(kk * 2 + w.1).toNat]?).getD []) d.1).2.2,w.2)
theorem Zdc (bs:List Int) (n:Int) (cs:List CV) (k:SK):∃ a,a = Z0r bs 5 k ∧
  ((a.1 = 0∧∃ t,t = Z65 bs 4 a.2∧Z8k bs n cs k = ((putF cs t.1.1 t.1.2).2.2,t.2)) ∨
   (a.1 ≠ 0∧a.1 = 1∧∃ x y z,x = Z0r bs n a.2∧y = Z0r bs 2 x.2∧z = Z0r bs n y.2∧Z8k bs n cs k = ((tieF cs x.1 y.1 z.1).2,z.2)) ∨
   (a.1 ≠ 0∧a.1 ≠ 1∧a.1 = 2∧∃ x,x = Z0r bs n a.2∧Z8k bs n cs k = ((Z7w cs x.1).2,x.2)) ∨
   (a.1 ≠ 0∧a.1 ≠ 1∧a.1 ≠ 2∧∃ m kk d w,m = Z0r bs 3 a.2∧kk = (if Z35 cs = 0 then (0:Int) else m.1)∧d = Z10 bs n kk.toNat m.2∧w = Z0r bs 2 d.2∧Z8k bs n cs k = ((mkF cs ((nm6[(kk * 2 + w.1).toNat]?).getD []) d.1).2.2,w.2))):=by
 refine ⟨_,rfl,?_⟩
 unfold Z8k
 by_cases h0:(Z0r bs 5 k).1 = 0
 ·exact .inl ⟨h0,_,rfl,by rw [if_pos h0]⟩
 ·by_cases h1:(Z0r bs 5 k).1 = 1
  ·exact .inr (.inl ⟨h0,h1,_,_,_,rfl,rfl,rfl,by rw [if_neg h0,if_pos h1]⟩)
  ·by_cases h2:(Z0r bs 5 k).1 = 2
   ·exact .inr (.inr (.inl ⟨h0,h1,h2,_,rfl,by rw [if_neg h0,if_neg h1,if_pos h2]⟩))
   ·exact .inr (.inr (.inr ⟨h0,h1,h2,_,_,_,_,rfl,rfl,rfl,rfl,by rw [if_neg h0,if_neg h1,if_neg h2]⟩))
noncomputable def Z37 (bs:List Int) (n:Int):Nat→List CV × SK→List CV × SK
 | 0,x => x
 | i + 1,x => Z8k bs n (Z37 bs n i x).1 (Z37 bs n i x).2
theorem Zca (bs:List Int) (n:Int) (i:Nat) (x:List CV × SK):Z37 bs n (i + 1) x = Z8k bs n (Z37 bs n i x).1 (Z37 bs n i x).2:=by rw [Z37]
noncomputable def Z9s (bs:List Int) (cells:Int) (k:SK):List CV × SK :=
 let a:=Z5m bs 4 cells k
 let b:=Z0r bs (2 * a.1) a.2
 Z37 bs a.1 b.1.toNat (List.replicate a.1.toNat Z1r,b.2)
theorem Ziz (bs:List Int) (cells:Int) (k:SK):∃ a b,a = Z5m bs 4 cells k∧b = Z0r bs (2 * a.1) a.2∧Z9s bs cells k = Z37 bs a.1 b.1.toNat (List.replicate a.1.toNat Z1r,b.2):=⟨_,_,rfl,rfl,rfl⟩
theorem kk_in {cs:List CV} {bs:List Int} {k:SK} {m:Int × SK} {kk:Int} (hm:m = Z0r bs 3 k) (hk:kk = (if Z35 cs = 0 then (0:Int) else m.1)):0 ≤ kk∧kk ≤ 2:=by
 have:=Z46 bs 3 k
 rw [← hm] at this
 split at hk <;> omega
theorem Zy0 (bs:List Int) (n:Int) (cs:List CV) (k:SK):(Z8k bs n cs k).2.nx ≤ k.nx + 250:=by
 obtain ⟨a,ha,h⟩:=Zdc bs n cs k
 have h1:=Z2e bs 5 k
 rw [← ha] at h1
 rcases h with ⟨_,t,ht,e⟩ | ⟨_,_,x,y,z,hx,hy,hz,e⟩ | ⟨_,_,_,x,hx,e⟩ | ⟨_,_,_,m,kk,d,w,hm,hk,hd,hw,e⟩
 ·rw [e]
  have:=Zy5 bs (nodes:=4) a.2
  rw [← ht] at this
  show t.2.nx ≤ _
  omega
 ·rw [e]
  have g1:=Z2e bs n a.2
  rw [← hx] at g1
  have g2:=Z2e bs 2 x.2
  rw [← hy] at g2
  have g3:=Z2e bs n y.2
  rw [← hz] at g3
  show z.2.nx ≤ _
  omega
 ·rw [e]
  have g1:=Z2e bs n a.2
  rw [← hx] at g1
  show x.2.nx ≤ _
  omega
 ·rw [e]
  have g1:=Z2e bs 3 a.2
  rw [← hm] at g1
  have g2:=Z5y bs n kk.toNat m.2
  rw [← hd] at g2
  have g3:=Z2e bs 2 d.2
  rw [← hw] at g3
  have g4:=kk_in hm hk
  show w.2.nx ≤ _
  omega
theorem Zy1 (bs:List Int) (n:Int) {cs:List CV} (hG:HG cs) (k:SK):HG (Z8k bs n cs k).1∧(Z8k bs n cs k).1.length = cs.length:=by
 obtain ⟨a,ha,h⟩:=Zdc bs n cs k
 rcases h with ⟨_,t,ht,e⟩ | ⟨_,_,x,y,z,hx,hy,hz,e⟩ | ⟨_,_,_,x,hx,e⟩ | ⟨_,_,_,m,kk,d,w,hm,hk,hd,hw,e⟩
 ·rw [e]
  have:=Zra hG t.1.1 t.1.2
  exact ⟨this.good,this.len⟩
 ·rw [e]
  exact Zrg hG _ _ _
 ·rw [e]
  exact Zng hG _
 ·rw [e]
  exact Zvd hG _ _
theorem Zjx (bs:List Int) (n:Int):∀ (i:Nat) (x:List CV × SK),(Z37 bs n i x).2.nx ≤ x.2.nx + 250 * i
 | 0,x => Nat.le_refl _
 | i + 1,x => by
  have h1:=Zjx bs n i x
  have h2:=Zy0 bs n (Z37 bs n i x).1 (Z37 bs n i x).2
  rw [Zca]
  omega
theorem Zeg (bs:List Int) (n:Int) {cs:List CV} (hG:HG cs):∀ (i:Nat) (k:SK),HG (Z37 bs n i (cs,k)).1∧(Z37 bs n i (cs,k)).1.length = cs.length
 | 0,k => ⟨hG,rfl⟩
 | i + 1,k => by
  obtain ⟨h1,h2⟩:=Zeg bs n hG i k
  rw [Zca]
  obtain ⟨h3,h4⟩:=Zy1 bs n h1 (Z37 bs n i (cs,k)).2
  exact ⟨h3,h4.trans h2⟩
theorem Zqq (n:Nat):HG (List.replicate n Z1r):=by
 intro c hc
 exact .inl (List.eq_of_mem_replicate hc)
theorem Zsa (bs:List Int) {cells:Int} (h4:4 ≤ cells) (k:SK):HG (Z9s bs cells k).1∧4 ≤ (Z9s bs cells k).1.length∧((Z9s bs cells k).1.length:Int) ≤ cells:=by
 obtain ⟨a,b,ha,hb,e⟩:=Ziz bs cells k
 have h1:=Z4q bs 4 cells k
 rw [← ha] at h1
 rw [e]
 obtain ⟨g1,g2⟩:=Zeg bs a.1 (Zqq a.1.toNat) b.1.toNat b.2
 rw [List.length_replicate] at g2
 exact ⟨g1,by omega,by omega⟩
section
variable {s0 s:St} {W:Pos→Prop} {Bs hb B9:Pos} {bv vs:AVal} {bs:List Int} {k:SK} {r:Lets} {fr:FI} {t0:PT AVal} {Q:Ex→PT AVal→St→Prop}
theorem Zus {n:Int} {c:Nat} (hB:Z36 s0 W bv bs) (hn:k.nx + 4 < 2 ^ 62) (hc2:c ≤ 2) (hnn:n ≤ 60) (hc:Ctx s0 W ((Bs,Z1a bv k) :: r) s)
  (u0:PT.get (posOf 0) t0 = some (.ptr Bs 0)) (u6:PT.get (posOf 6) t0 = some (.int .i64 n)) (u11:PT.get (posOf 11) t0 = some (.int .i64 c)) (u12:PT.get (posOf 12) t0 = some .nilSlice)
  (q:∀ t s' kv mg,Fr [12,45,46,47] t0 t→PT.get (posOf 12) t = some kv→Z23 kv (Z10 bs n c k).1 mg→Ctx s0 W ((Bs,Z1a bv (Z10 bs n c k).2) :: (mg ++ r)) s'→Q .normal t s'):wp Tryz.prog Zu7 fr t0 s Q:=by
 refine Z00 ?_
 simp [u11]
 refine AM.wp_block ?_
 refine AM.wp_loop (fun m t s' => ∃ (j:Nat) (kv:AVal) (mg:Lets),j ≤ c∧m = c - j∧Fr [12,45,46,47] t0 t∧PT.get (posOf 45) t = some (.int .i64 c)∧PT.get (posOf 46) t = some (.int .i64 j)∧PT.get (posOf 12) t = some kv∧Z23 kv (Z10 bs n j k).1 mg ∧
   Ctx s0 W ((Bs,Z1a bv (Z10 bs n j k).2) :: (mg ++ r)) s') c ⟨0,.nilSlice,[],by simp,by simp,?_,by simp,by simp,by simp [u12],.inl ⟨rfl,rfl,rfl⟩,hc⟩ ?_
 ·intro y hy
  simp at hy
  simp [hy]
 rintro m t s' ⟨j,kv,mg,hj,rfl,hF,t45,t46,t12,hg,d⟩
 refine Z00 ?_
 simp [t45,t46]
 refine AM.wp_seq ?_
 refine AM.Z04 ?_
 by_cases hlt:j < c
 ·have hwr:IntKind.wrap .i64 ((j:Int) + 1) = ((j + 1:Nat):Int):=by rw [IntWalk.i64_in _ (by omega)]; omega
  have v0:=(hF 0 (by simp)).trans u0
  have v6:=(hF 6 (by simp)).trans u6
  have hnx:=Z5y bs n j k
  have hjl:=Z7c bs n j k
  simp [hlt]
  refine AM.wp_skip ?_
  simp
  refine AM.wp_seq ?_
  refine AM.wp_block ?_
  refine AM.wp_region ?_
  simp [v0,v6,t12]
  refine Z02 ?_
  have hnext:=Zeu bs n j k
  generalize Z10 bs n j k = X at hg d hnx hjl hnext
  refine Z4v hB d (by omega) (by omega) fun s1 d2 => ?_
  generalize Z0r bs n X.2 = Y at hnext d2 ⊢
  simp [hg.ntup,Z20,srcP]
  have d3:=d2.alloc (C [.int .i64 Y.1])
  generalize s1.alloc (.cells [.int .i64 Y.1] false) = s2 at d3 ⊢
  generalize s1.next = T at d3 ⊢
  refine Z6w (pre:=[(T,C [.int .i64 Y.1]),(Bs,Z1a bv Y.2)]) d3 hg (by omega) fun kv' mg' s3 hg' d4 => ?_
  simp only [List.cons_append,List.nil_append] at d4
  refine AM.wp_region ?_
  simp [t46,hwr]
  refine ⟨c - (j + 1),by omega,j + 1,by omega,by omega,?_,by simp [t45],by simp,mg',by rw [hnext]; exact hg',?_⟩
  ·intro y hy
   simp at hy
   simp [hy]
   exact hF y (by simp [hy])
  ·rw [hnext]
   exact d4.tail
 ·simp [hlt]
  refine AM.wp_exit ?_
  simp
  have hje:j = c:=by omega
  subst hje
  refine q _ s' kv mg ?_ (by simp [t12]) hg d
  intro y hy
  simp at hy
  simp [hy]
  exact hF y (by simp [hy])
theorem nm6_get {kk w:Int} (hk:0 ≤ kk∧kk ≤ 2) (hw:0 ≤ w∧w ≤ 1):∃ nm,nm6[(kk * 2 + w).toNat]? = some nm∧(nm6.map AVal.str)[kk.toNat * 2 + w.toNat]? = some (.str nm)∧nm.length ≤ 2 ^ 62:=by
 have h1:kk = 0 ∨ kk = 1 ∨ kk = 2:=by omega
 have h2:w = 0 ∨ w = 1:=by omega
 rcases h1 with rfl | rfl | rfl <;> rcases h2 with rfl | rfl <;> exact ⟨_,rfl,rfl,by decide⟩
theorem Zl6 {cs:List CV} {m:Lets} {n:Int} {kn:Nat} {d:List Int × SK} {ww:Int × SK} (hB:Z36 s0 W bv bs) (hn:k.nx + 100 < 2 ^ 62) (hnn:n ≤ 24) (hkn:kn ≤ 2) (hd:d = Z10 bs n kn k) (hw:ww = Z0r bs 2 d.2) (hH:Z26 hb vs cs m)
  (hc:Ctx s0 W ((Bs,Z1a bv k) :: (m ++ ((B9,C (nm6.map .str)) :: r))) s)
  (u0:PT.get (posOf 0) t0 = some (.ptr Bs 0)) (u6:PT.get (posOf 6) t0 = some (.int .i64 n)) (u7:PT.get (posOf 7) t0 = some (.ptr hb 0)) (u9:PT.get (posOf 9) t0 = some (.ptr B9 0)) (u11:PT.get (posOf 11) t0 = some (.int .i64 kn))
  (q:∀ t s' m',PT.get (posOf 0) t = some (.ptr Bs 0)→PT.get (posOf 6) t = some (.int .i64 n)→PT.get (posOf 7) t = some (.ptr hb 0)→PT.get (posOf 9) t = some (.ptr B9 0)→PT.get (posOf 34) t = PT.get (posOf 34) t0→PT.get (posOf 35) t = PT.get (posOf 35) t0 →
   Z26 hb vs (mkF cs ((nm6[((kn:Int) * 2 + ww.1).toNat]?).getD []) d.1).2.2 m'→Ctx s0 W ((Bs,Z1a bv ww.2) :: (m' ++ ((B9,C (nm6.map .str)) :: r))) s'→Q .normal t s'):wp Tryz.prog Zu6 fr t0 s Q:=by
 have g3:=Z5y bs n kn k
 have g5:=Z7c bs n kn k
 rw [← hd] at g3 g5
 have g4:=Z46 bs 2 d.2
 rw [← hw] at g4
 refine Z00 ?_
 simp
 refine AM.wp_seq ?_
 refine Zus (c:=kn) (n:=n) hB (by omega) hkn (by omega) hc (by simp [u0]) (by simp [u6]) (by simp [u11]) (by simp) fun t s1 kv mg hF t12 hg c1 => ?_
 rw [← hd] at hg c1
 have v0:PT.get (posOf 0) t = some (.ptr Bs 0):=(hF 0 (by simp)).trans (by simp [u0])
 have v6:PT.get (posOf 6) t = some (.int .i64 n):=(hF 6 (by simp)).trans (by simp [u6])
 have v7:PT.get (posOf 7) t = some (.ptr hb 0):=(hF 7 (by simp)).trans (by simp [u7])
 have v9:PT.get (posOf 9) t = some (.ptr B9 0):=(hF 9 (by simp)).trans (by simp [u9])
 have v11:PT.get (posOf 11) t = some (.int .i64 kn):=(hF 11 (by simp)).trans (by simp [u11])
 have v34:PT.get (posOf 34) t = PT.get (posOf 34) t0:=(hF 34 (by simp)).trans (by simp)
 have v35:PT.get (posOf 35) t = PT.get (posOf 35) t0:=(hF 35 (by simp)).trans (by simp)
 obtain ⟨nm,n1,n2,n3⟩:=nm6_get (kk:=kn) (w:=ww.1) (by omega) (by omega)
 rw [n1] at q
 simp only [Option.getD_some] at q
 have hk3:(kn:Int) < 3:=by omega
 have hw2:ww.1 < 2:=by omega
 simp only [andThen]
 refine AM.wp_region ?_
 simp [v0,v7,v9,v11,t12,hk3]
 refine Z02 ?_
 refine Z4v hB c1 (by omega) (by decide) fun s2 c2 => ?_
 rw [← hw] at c2 ⊢
 have hB9:s2.cells B9 = some (nm6.map .str):=Z0a (Z13 (c2.own (B9,C (nm6.map .str)) (by simp)))
 have n2':(nm6.map AVal.str)[kn * 2 + ww.1.toNat]? = some (.str nm):=by simpa using n2
 generalize nm6.map AVal.str = NS at hB9 n2' c2 q
 simp [v0,v7,v9,v11,t12,hk3,hw2,g4.1,hB9,n2']
 refine Z02 ?_
 have c3:=c2.perm (m':=m ++ ((Bs,Z1a bv ww.2) :: (B9,C NS) :: (mg ++ r))) (Z0n fun y => by
  simp only [Z0j,Z0i,Z0z]
  omega)
 refine Zv9 hH c3 n3 ((hg.row.kid fun y hy => c2.own y (by simp [hy])).ints c2.wf) (by omega) fun m' s4 hH' c4 => ?_
 simp
 refine q _ s4 m' (by simp [v0]) (by simp [v6]) (by simp [v7]) (by simp [v9]) (by simp [v34]) (by simp [v35]) hH' ((c4.perm (m':=((Bs,Z1a bv ww.2) :: (m' ++ ((B9,C NS) :: r))) ++ mg) (Z0n fun y => ?_)).sub (List.sublist_append_left _ _))
 simp only [Z0j,Z0i,Z0z]
 omega
theorem Zs9 {cs:List CV} {m:Lets} {n:Int} (hB:Z36 s0 W bv bs) (hn:k.nx + 1300 < 2 ^ 62) (hnn:n ≤ 24) (hG:HG cs) (hH:Z26 hb vs cs m)
  (hc:Ctx s0 W ((Bs,Z1a bv k) :: (m ++ ((B9,C (nm6.map .str)) :: r))) s)
  (u0:PT.get (posOf 0) t0 = some (.ptr Bs 0)) (u6:PT.get (posOf 6) t0 = some (.int .i64 n)) (u7:PT.get (posOf 7) t0 = some (.ptr hb 0)) (u9:PT.get (posOf 9) t0 = some (.ptr B9 0))
  (q:∀ t s' m',PT.get (posOf 0) t = some (.ptr Bs 0)→PT.get (posOf 6) t = some (.int .i64 n)→PT.get (posOf 7) t = some (.ptr hb 0)→PT.get (posOf 9) t = some (.ptr B9 0)→PT.get (posOf 34) t = PT.get (posOf 34) t0→PT.get (posOf 35) t = PT.get (posOf 35) t0 →
   Z26 hb vs (Z8k bs n cs k).1 m'→Ctx s0 W ((Bs,Z1a bv (Z8k bs n cs k).2) :: (m' ++ ((B9,C (nm6.map .str)) :: r))) s'→Q .normal t s'):wp Tryz.prog Zu5 fr t0 s Q:=by
 obtain ⟨a,ha,hstep⟩:=Zdc bs n cs k
 have ha1:=Z2e bs 5 k
 rw [← ha] at ha1
 refine AM.wp_block ?_
 refine Z00 ?_
 simp [u7]
 refine Z02 ?_
 have c0:=hc.perm (m':=m ++ ((Bs,Z1a bv k) :: (B9,C (nm6.map .str)) :: r)) (Z0n fun y => by
  simp only [Z0j,Z0i,Z0z]
  omega)
 refine size_c hH c0 fun s1 c1 => ?_
 have c1:=c1.perm (m':=(Bs,Z1a bv k) :: (m ++ ((B9,C (nm6.map .str)) :: r))) (Z0n fun y => by
  simp only [Z0j,Z0i,Z0z]
  omega)
 simp
 refine Z00 ?_
 simp [u0]
 refine Z02 ?_
 refine Z4v hB c1 (by omega) (by decide) fun s2 c2 => ?_
 rw [← ha] at c2 ⊢
 simp
 refine AM.wp_block ?_
 refine Z00 ?_
 simp
 refine AM.Z04 ?_
 rcases hstep with ⟨h0,t,ht,e⟩ | ⟨h0,h1,x,y,z,hx,hy,hz,e⟩ | ⟨h0,h1,h2,x,hx,e⟩ | ⟨h0,h1,h2,mm,kk,d,w,hm,hk,hd,hw,e⟩
 ·rw [e] at q
  simp [h0]
  refine AM.wp_region ?_
  simp [u0,u7]
  refine Z02 ?_
  refine tree_c hB c2 (by omega) (by decide) (by decide) fun nv mn s3 hN c3 => ?_
  obtain ⟨o1,o2,o3,o4,_⟩:=Zy6 bs (nodes:=4) (by decide) a.2
  rw [← ht] at hN c3 o1 o2 o3 o4 ⊢
  simp
  refine Z02 ?_
  have c4:=c3.perm (m':=m ++ ((Bs,Z1a bv t.2) :: (B9,C (nm6.map .str)) :: (mn ++ r))) (Z0n fun y => by
   simp only [Z0j,Z0i,Z0z]
   omega)
  have c5:=c3.sub (m':=mn) ((List.sublist_append_left mn _).trans (List.sublist_cons_self _ _))
  refine put_c hH c4 hG.ok.toHOk (hN.at0 c5) (fun nd hnd => ⟨by have:=(o2 nd hnd).2; omega,by have:=(o1 nd hnd).1; omega⟩) (by omega) fun m' s4 hH' c6 => ?_
  simp
  refine q _ s4 m' (by simp [u0]) (by simp [u6]) (by simp [u7]) (by simp [u9]) (by simp) (by simp) hH' ((c6.perm (m':=((Bs,Z1a bv t.2) :: (m' ++ ((B9,C (nm6.map .str)) :: r))) ++ mn) (Z0n fun y => ?_)).sub (List.sublist_append_left _ _))
  simp only [Z0j,Z0i,Z0z]
  omega
 ·rw [e] at q
  have g1:=Z2e bs n a.2
  rw [← hx] at g1
  have g2:=Z2e bs 2 x.2
  rw [← hy] at g2
  simp [h1]
  refine Z00 ?_
  simp
  refine AM.Z04 ?_
  simp [h1]
  refine AM.wp_region ?_
  simp [u0,u6,u7]
  refine Z02 ?_
  refine Z4v hB c2 (by omega) (by omega) fun s3 c3 => ?_
  rw [← hx] at c3 ⊢
  simp [u0,u6,u7]
  refine Z02 ?_
  refine Z4v hB c3 (by omega) (by omega) fun s4 c4 => ?_
  rw [← hy] at c4 ⊢
  simp [u0,u6,u7]
  refine Z02 ?_
  refine Z4v hB c4 (by omega) (by omega) fun s5 c5 => ?_
  rw [← hz] at c5 ⊢
  simp
  refine Z02 ?_
  have c6:=c5.perm (m':=m ++ ((Bs,Z1a bv z.2) :: (B9,C (nm6.map .str)) :: r)) (Z0n fun y => by
   simp only [Z0j,Z0i,Z0z]
   omega)
  refine tie_c hH c6 fun m' s6 hH' c7 => ?_
  simp
  refine q _ s6 m' (by simp [u0]) (by simp [u6]) (by simp [u7]) (by simp [u9]) (by simp) (by simp) hH' (c7.perm (Z0n fun y => ?_))
  simp only [Z0j,Z0i,Z0z]
  omega
 ·rw [e] at q
  simp [h2]
  refine Z00 ?_
  simp
  refine AM.Z04 ?_
  simp [h2]
  refine Z00 ?_
  simp
  refine AM.Z04 ?_
  simp [h2]
  refine AM.wp_region ?_
  simp [u0,u6,u7]
  refine Z02 ?_
  refine Z4v hB c2 (by omega) (by omega) fun s3 c3 => ?_
  rw [← hx] at c3 ⊢
  simp
  refine Z02 ?_
  have c6:=c3.perm (m':=m ++ ((Bs,Z1a bv x.2) :: (B9,C (nm6.map .str)) :: r)) (Z0n fun y => by
   simp only [Z0j,Z0i,Z0z]
   omega)
  refine Zux hH c6 fun m' s6 hH' c7 => ?_
  simp
  refine q _ s6 m' (by simp [u0]) (by simp [u6]) (by simp [u7]) (by simp [u9]) (by simp) (by simp) hH' (c7.perm (Z0n fun y => ?_))
  simp only [Z0j,Z0i,Z0z]
  omega
 ·rw [e] at q
  have g1:=Z2e bs 3 a.2
  rw [← hm] at g1
  have g2:=kk_in hm hk
  have g3:=Z5y bs n kk.toNat mm.2
  rw [← hd] at g3
  have g4:=Z46 bs 2 d.2
  rw [← hw] at g4
  simp [h0]
  refine Z00 ?_
  simp
  refine AM.Z04 ?_
  simp [h1]
  refine Z00 ?_
  simp
  refine AM.Z04 ?_
  simp [h2]
  refine Z00 ?_
  simp [u0]
  refine Z02 ?_
  refine Z4v hB c2 (by omega) (by omega) fun s3 c3 => ?_
  rw [← hm] at c3 ⊢
  simp
  obtain ⟨kn,hkn⟩:∃ kn:Nat,kk = kn:=⟨kk.toNat,by omega⟩
  have hd':d = Z10 bs n kn mm.2:=by rw [hd,hkn,Int.toNat_natCast]
  rw [hkn] at q
  refine AM.wp_seq ?_
  refine Z00 ?_
  simp
  refine AM.Z04 ?_
  by_cases hs:Z35 cs = 0
  ·rw [if_pos hs] at hk
   simp [hs]
   refine AM.wp_region ?_
   simp
   refine Zl6 (kn:=kn) hB (by omega) hnn (by omega) hd' hw hH c3 (by simp [u0]) (by simp [u6]) (by simp [u7]) (by simp [u9]) (by simp; omega) fun t s4 m' e0 e6 e7 e9 e34 e35 hH' c4 => ?_
   exact q _ s4 m' e0 e6 e7 e9 (e34.trans (by simp)) (e35.trans (by simp)) hH' c4
  ·rw [if_neg hs] at hk
   simp [hs]
   refine AM.wp_skip ?_
   simp
   refine Zl6 (kn:=kn) hB (by omega) hnn (by omega) hd' hw hH c3 (by simp [u0]) (by simp [u6]) (by simp [u7]) (by simp [u9]) (by simp; omega) fun t s4 m' e0 e6 e7 e9 e34 e35 hH' c4 => ?_
   exact q _ s4 m' e0 e6 e7 e9 (e34.trans (by simp)) (e35.trans (by simp)) hH' c4
end
section
variable {s0 s:St} {W:Pos→Prop} {Bs:Pos} {bv:AVal} {bs:List Int} {k:SK} {r:Lets} {Q:AVal→St→Prop}
theorem Zn9 {cells:Int} (hB:Z36 s0 W bv bs) (h:Ctx s0 W ((Bs,Z1a bv k) :: r) s) (hn:k.nx + 20000 < 2 ^ 62) (h4:4 ≤ cells) (h24:cells ≤ 24)
  (q:∀ hb m s',Z26 hb .nilSlice (Z9s bs cells k).1 m→Ctx s0 W ((Bs,Z1a bv (Z9s bs cells k).2) :: (m ++ r)) s'→Q (.tup [.ptr hb 0,.bool true]) s'):Z0c Tryz.prog 11 [.ptr Bs 0,.int .i64 cells] s Q:=by
 obtain ⟨a,b,ha,hb,hf⟩:=Ziz bs cells k
 have a1:=Z4q bs 4 cells k
 have a2:=Z7a bs 4 cells k
 rw [← ha] at a1 a2
 have b1:=Z46 bs (2 * a.1) a.2
 have b2:=Z2e bs (2 * a.1) a.2
 rw [← hb] at b1 b2
 rw [hf] at q
 have e1:IntKind.wrap .i64 (2 * a.1) = 2 * a.1:=IntWalk.i64_in _ (by omega)
 refine Z08 (Z0d (by decide)) fi11 rfl (by decide) rfl ?_
 refine Z00 ?_
 simp
 refine Z00 ?_
 simp
 refine Z02 ?_
 refine Zgg hB h (by omega) (by omega) (by omega) fun s1 c1 => ?_
 rw [← ha] at c1 ⊢
 simp
 refine Z00 ?_
 simp
 refine Z02 ?_
 refine new_c c1 (by omega) (by omega) fun hp m s2 hH c2 => ?_
 simp
 refine AM.wp_seq ?_
 refine Z00 ?_
 simp
 refine AM.Z04 ?_
 simp
 refine AM.wp_skip ?_
 simp
 refine Z00 ?_
 simp
 have c3:=(c2.alloc (C [.str [],.str [],.str [],.str [],.str [],.str []])).put 0 rfl (C (nm6.map .str))
 simp only [List.set_cons_zero] at c3
 generalize hs3:(s2.alloc (.cells [.str [],.str [],.str [],.str [],.str [],.str []] false)).put s2.next (C (nm6.map .str)) = s3 at c3
 have hs3':(s2.alloc (.cells [.str [],.str [],.str [],.str [],.str [],.str []] false)).put s2.next (.cells [.str [97],.str [110,105,108],.str [115],.str [117],.str [99,111,110,115],.str [112]] false) = s3:=hs3
 rw [hs3']
 clear hs3 hs3'
 generalize s2.next = B9 at c3 ⊢
 have c4:=c3.perm (m':=(Bs,Z1a bv a.2) :: (m ++ ((B9,C (nm6.map .str)) :: r))) (Z0n fun y => by
  simp only [Z0j,Z0i,Z0z]
  omega)
 refine AM.wp_seq ?_
 refine Z00 ?_
 simp [e1]
 refine Z02 ?_
 refine Z4v hB c4 (by omega) (by omega) fun s5 c5 => ?_
 rw [← hb] at c5 ⊢
 simp
 obtain ⟨N,hN⟩:∃ N:Nat,b.1 = N:=⟨b.1.toNat,by omega⟩
 rw [hN] at q b1 ⊢
 rw [Int.toNat_natCast] at q
 refine AM.wp_block ?_
 refine AM.wp_loop (fun x t s' => ∃ (i:Nat) (m':Lets),i ≤ N∧x = N - i∧PT.get (posOf 0) t = some (.ptr Bs 0)∧PT.get (posOf 6) t = some (.int .i64 a.1)∧PT.get (posOf 7) t = some (.ptr hp 0)∧PT.get (posOf 9) t = some (.ptr B9 0)∧PT.get (posOf 34) t = some (.int .i64 N)∧PT.get (posOf 35) t = some (.int .i64 i) ∧
   Z26 hp .nilSlice (Z37 bs a.1 i (List.replicate a.1.toNat Z1r,b.2)).1 m'∧Ctx s0 W ((Bs,Z1a bv (Z37 bs a.1 i (List.replicate a.1.toNat Z1r,b.2)).2) :: (m' ++ ((B9,C (nm6.map .str)) :: r))) s') N
   ⟨0,m,by simp,by simp,by simp,by simp,by simp,by simp,by simp,by simp,hH,c5⟩ ?_
 rintro x t s' ⟨i,m',hi,rfl,t0,t6,t7,t9,t34,t35,hH',d⟩
 refine Z00 ?_
 simp [t34,t35]
 refine AM.wp_seq ?_
 refine AM.Z04 ?_
 by_cases hlt:i < N
 ·have hwr:IntKind.wrap .i64 ((i:Int) + 1) = ((i + 1:Nat):Int):=by rw [IntWalk.i64_in _ (by omega)]; omega
  obtain ⟨g1,g2⟩:=Zeg bs a.1 (Zqq a.1.toNat) i b.2
  have g3:=Zjx bs a.1 i (List.replicate a.1.toNat Z1r,b.2)
  have hnext:=Zca bs a.1 i (List.replicate a.1.toNat Z1r,b.2)
  simp only at g3
  simp [hlt]
  refine AM.wp_skip ?_
  simp
  refine AM.wp_seq ?_
  generalize Z37 bs a.1 i (List.replicate a.1.toNat Z1r,b.2) = X at hH' d g1 g2 g3 hnext
  refine Zs9 (n:=a.1) hB (by omega) (by omega) g1 hH' d (by simp [t0]) (by simp [t6]) (by simp [t7]) (by simp [t9]) fun t2 s6 m2 v0 v6 v7 v9 v34 v35 hH2 d2 => ?_
  have v34:PT.get (posOf 34) t2 = some (.int .i64 N):=v34.trans (by simp [t34])
  have v35:PT.get (posOf 35) t2 = some (.int .i64 i):=v35.trans (by simp [t35])
  simp only [andThen]
  refine AM.wp_region ?_
  simp [v35,hwr]
  exact ⟨N - (i + 1),by omega,i + 1,by omega,by omega,by simp [v0],by simp [v6],by simp [v7],by simp [v9],by simp [v34],by simp,m2,by rw [hnext]; exact hH2,by rw [hnext]; exact d2⟩
 ·simp [hlt]
  refine AM.wp_exit ?_
  simp
  have hie:i = N:=by omega
  subst hie
  refine Z00 ?_
  simp [t7]
  refine AM.wp_ret ?_
  simp
  refine q hp m' s' hH' ((d.perm (m':=((Bs,Z1a bv (Z37 bs a.1 i (List.replicate a.1.toNat Z1r,b.2)).2) :: (m' ++ r)) ++ [(B9,C (nm6.map .str))]) (Z0n fun y => ?_)).sub (List.sublist_append_left _ _))
  simp only [Z0j,Z0i,Z0z]
  omega
end
end Go.Proofs
end
