/- Parts of the proof: Put1, Hp1, Hp2, Hp3, Tgt, Hp4, Hp5, Ti1, Sh1, CodesK, CodesT, Pm1, Put2, Put3, Put4. -/
import Derived.Test.YtoipnedbpjfeiaaDoorAu07
set_option linter.all false
set_option linter.unusedSectionVars false
set_option linter.unusedSimpArgs false
set_option linter.unusedVariables false
section
open Go Go.AM
namespace Go.Proofs
set_option maxRecDepth 100000
def Z3f (L:List ND) (th:List Int) (cs:List CV):Nat→Option (List CV × List Int)
 | 0 => some (cs,th)
 | i + 1 => match Z3f L th cs i with
  | none => none
  | some x => if 0 ≤ (th[i]?).getD 0 then some x else if Z7a x.1 < 0 then none else some (x.1.set (Z7a x.1).toNat ⟨true,((L[i]?).getD ([],[])).1,[],0⟩,x.2.set i (Z7a x.1))
def Z1o (f:List Int) (ks:List Int):List Int:=ks.map fun k => (f[k.toNat]?).getD 0
def setK (cs:List CV) (a:Nat) (ks:List Int):List CV:=match cs[a]? with
 | some c => cs.set a { c with kids:=ks }
 | none => cs
def Z22 (L:List ND) (th f:List Int) (cs:List CV):Nat→List CV
 | 0 => cs
 | i + 1 => if 0 ≤ (th[i]?).getD 0 then Z22 L th f cs i else setK (Z22 L th f cs i) ((f[i]?).getD 0).toNat (Z1o f ((L[i]?).getD ([],[])).2)
theorem Zwb (cs:List CV) (a:Nat) (ks:List Int):(setK cs a ks).length = cs.length:=by
 unfold setK; split <;> simp
theorem Z8n (L:List ND) (th f:List Int) (cs:List CV):∀ i,(Z22 L th f cs i).length = cs.length
 | 0 => rfl
 | i + 1 => by
  unfold Z22
  split
  ·exact Z8n L th f cs i
  ·rw [Zwb,Z8n L th f cs i]
theorem Zqm {L:List ND} {th:List Int} {cs:List CV} {i:Nat} (h:Z3f L th cs i = none):∀ j,i ≤ j→Z3f L th cs j = none:=by
 intro j hj
 induction j with
 | zero =>
  have:i = 0:=by omega
  subst this
  exact h
 | succ j ih =>
  by_cases e:i = j + 1
  ·subst e; exact h
  ·unfold Z3f
   rw [ih (by omega)]
noncomputable def putF (cs:List CV) (ns:List ND) (root:Int):Int × Int × List CV :=
 if Z0z ns root ≠ 0 then (0,Z0z ns root,cs) else
 if (0:Int) ≤ ((Z1x cs (Z0v ns root.toNat))[0]?).getD (0:Int) then (((Z1x cs (Z0v ns root.toNat))[0]?).getD (0:Int),(0:Int),cs) else
 match Z3f (Z0v ns root.toNat) (Z1x cs (Z0v ns root.toNat)) cs (Z0v ns root.toNat).length with
 | none => (0,12,cs)
 | some (c,f) => ((f[0]?).getD (0:Int),(0:Int),Z22 (Z0v ns root.toNat) (Z1x cs (Z0v ns root.toNat)) f c (Z0v ns root.toNat).length)
theorem Zco (cs:List CV):Z7a cs = -1 ∨ ∃ (i:Nat) (c:CV),Z7a cs = i∧cs[i]? = some c∧c.taken = false:=by
 unfold Z7a
 split
 ·rename_i i h
  obtain ⟨h1,h2,_⟩:=List.findIdx?_eq_some_iff_getElem.1 h
  exact .inr ⟨i,cs[i],rfl,List.getElem?_eq_getElem h1,by simpa using h2⟩
 ·exact .inl rfl
structure AllI (L:List ND) (th:List Int) (cs c:List CV) (V:List AVal) (f:List Int) (i:Nat):Prop where
 len:c.length = cs.length
 flen:f.length = L.length
 cell:∀ j,j < i→(th[j]?).getD 0 < 0→∃ (a:Nat) (d:CV),f[j]? = some (a:Int)∧c[a]? = some d∧d.taken = true∧d.kids = []∧V[a]? = some .nilSlice
 inj:∀ j j',j < i→j' < i→(th[j]?).getD 0 < 0→(th[j']?).getD 0 < 0→f[j]? = f[j']?→j = j'
theorem AllI.zero {L:List ND} {th:List Int} {cs:List CV} {V:List AVal} (h:th.length = L.length):AllI L th cs cs V th 0 :=
 ⟨rfl,h,fun j hj => by omega,fun j j' hj => by omega⟩
theorem AllI.skip {L:List ND} {th f:List Int} {cs c:List CV} {V:List AVal} {i:Nat} (h:AllI L th cs c V f i) (hi:0 ≤ (th[i]?).getD 0):AllI L th cs c V f (i + 1):=by
 refine ⟨h.len,h.flen,fun j hj hn => ?_,fun j j' hj hj' hn hn' e => ?_⟩
 ·by_cases e:j = i
  ·subst e; omega
  ·exact h.cell j (by omega) hn
 ·by_cases e1:j = i
  ·subst e1; omega
  ·by_cases e2:j' = i
   ·subst e2; omega
   ·exact h.inj j j' (by omega) (by omega) hn hn' e
theorem AllI.next {L:List ND} {th f:List Int} {cs c:List CV} {V:List AVal} {i a:Nat} {nm:List UInt8} {d:CV} (h:AllI L th cs c V f i) (hV:V.length = cs.length) (hi:i < L.length) (ha:c[a]? = some d) (hf:d.taken = false) :
  AllI L th cs (c.set a ⟨true,nm,[],0⟩) (V.set a .nilSlice) (f.set i a) (i + 1):=by
 have hal:a < c.length:=(List.getElem?_eq_some_iff.1 ha).1
 have hne:∀ {b:Nat} {x:CV},c[b]? = some x→x.taken = true→a ≠ b:=by
  rintro b x hx ht rfl
  rw [ha] at hx
  cases hx
  rw [hf] at ht
  cases ht
 have hfi:i < f.length:=by rw [h.flen]; exact hi
 refine ⟨by rw [List.length_set]; exact h.len,by rw [List.length_set]; exact h.flen,fun j hj hn => ?_,fun j j' hj hj' hn hn' e => ?_⟩
 ·by_cases e:j = i
  ·subst e
   have hav:a < V.length:=by rw [hV,← h.len]; exact hal
   exact ⟨a,⟨true,nm,[],0⟩,by simp [hfi],by simp [hal],rfl,rfl,by simp [hav]⟩
  ·obtain ⟨b,x,h1,h2,h3,h4,h5⟩:=h.cell j (by omega) hn
   have:=hne h2 h3
   exact ⟨b,x,by rw [List.getElem?_set_ne (by omega)]; exact h1,by rw [List.getElem?_set_ne this]; exact h2,h3,h4,by rw [List.getElem?_set_ne this]; exact h5⟩
 ·by_cases e1:j = i
  ·by_cases e2:j' = i
   ·omega
   ·exfalso
    subst e1
    obtain ⟨b,x,h1,h2,h3,_⟩:=h.cell j' (by omega) hn'
    rw [List.getElem?_set_ne (show j ≠ j' by omega),h1] at e
    simp [hfi] at e
    exact hne h2 h3 (by omega)
  ·by_cases e2:j' = i
   ·exfalso
    subst e2
    obtain ⟨b,x,h1,h2,h3,_⟩:=h.cell j (by omega) hn
    rw [List.getElem?_set_ne (show j' ≠ j by omega),h1] at e
    simp [hfi] at e
    exact hne h2 h3 (by omega)
   ·rw [List.getElem?_set_ne (show i ≠ j by omega),List.getElem?_set_ne (show i ≠ j' by omega)] at e
    exact h.inj j j' (by omega) (by omega) hn hn' e
structure FilI (L:List ND) (th c0l:List Int) (c:List CV) (V:List AVal) (i:Nat):Prop where
 cell:∀ j,i ≤ j→j < L.length→(th[j]?).getD 0 < 0→∃ (a:Nat) (d:CV),c0l[j]? = some (a:Int)∧c[a]? = some d∧d.kids = []∧V[a]? = some .nilSlice
 inj:∀ j j',j < L.length→j' < L.length→(th[j]?).getD 0 < 0→(th[j']?).getD 0 < 0→c0l[j]? = c0l[j']?→j = j'
theorem AllI.fil {L:List ND} {th f:List Int} {cs c:List CV} {V:List AVal} (h:AllI L th cs c V f L.length):FilI L th f c V 0 :=
 ⟨fun j _ hj hn => by
  obtain ⟨a,d,h1,h2,_,h4,h5⟩:=h.cell j hj hn
  exact ⟨a,d,h1,h2,h4,h5⟩,h.inj⟩
theorem FilI.skip {L:List ND} {th f:List Int} {c:List CV} {V:List AVal} {i:Nat} (h:FilI L th f c V i):FilI L th f c V (i + 1) :=
 ⟨fun j hj => h.cell j (by omega),h.inj⟩
theorem FilI.next {L:List ND} {th f:List Int} {c:List CV} {V:List AVal} {i a:Nat} {d:CV} {kv:AVal} (h:FilI L th f c V i) (hi:i < L.length) (hn:(th[i]?).getD 0 < 0) (ha:f[i]? = some (a:Int)):FilI L th f (c.set a d) (V.set a kv) (i + 1):=by
 refine ⟨fun j hj hl hm => ?_,h.inj⟩
 obtain ⟨b,x,h1,h2,h3,h4⟩:=h.cell j (by omega) hl hm
 have:a ≠ b:=by
  rintro rfl
  have:=h.inj i j hi hl hn hm (by rw [ha,h1])
  omega
 exact ⟨b,x,h1,by rw [List.getElem?_set_ne this]; exact h2,h3,by rw [List.getElem?_set_ne this]; exact h4⟩
noncomputable abbrev lb (cs:List CV) (a:Nat):Lab:=lab (Z0d cs) a
theorem Zyf {nds:List ND} {L:List Nat} {a:Nat} (hC:Closed nds L) (ha:a < nds.length) (h:a ∉ L):(clsF nds L)[a]? = some (-1):=by
 obtain ⟨R,h1,_⟩:=Z9f hC
 rw [h1]
 exact Zfj nds L R a ha h
theorem Zqq {nds:List ND} {L:List Nat} {a b:Nat} (hC:Closed nds L) (ha:a ∈ L) (hb:b ∈ L):(clsF nds L)[a]? = (clsF nds L)[b]? ↔ lab nds a = lab nds b:=(Zdn hC ha hb).trans (Zkv hC ha hb)
theorem Zge {cs:List CV} {a:Nat}:a ∈ Z17 cs cs.length ↔ Z06 cs (a:Int) = true:=by
 rw [Z5i]
 exact ⟨fun h => h.2,fun h => ⟨Z2b h,h⟩⟩
theorem Z32 {cs:List CV} {a:Nat} (ha:Z06 cs (a:Int) = true):∃ c,cs[a]? = some c∧c.taken = true∧(Z0d cs)[a]? = some (c.name,c.kids):=by
 obtain ⟨_,d,hd,ht,_⟩:=Z21 ha
 rw [Int.toNat_natCast] at hd
 refine ⟨d,hd,ht,?_⟩
 rw [Z2k hd,if_pos ht]
theorem Z8o {cs:List CV} (h:HOk cs) {a:Nat} {c:CV} {k:Int} (hc:cs[a]? = some c) (ht:c.taken = true) (hk:k ∈ c.kids):Z06 cs ((k.toNat:Nat):Int) = true∧0 ≤ k:=by
 have h1:=h.kids c (List.mem_of_getElem? hc) ht k hk
 have h0:=(Z21 h1).1
 rw [Int.toNat_of_nonneg h0]
 exact ⟨h1,h0⟩
theorem Zmu {cs:List CV} (ts:List ND) (hO:HOk cs) {a:Nat} (ha:Z06 cs (a:Int) = true):lab (bigG cs ts) a = lb cs a:=by
 refine Z7s (R:=fun x y => x = y∧Z06 cs (x:Int) = true) ?_ ⟨rfl,ha⟩
 rintro x y ⟨rfl,hx⟩
 obtain ⟨c,h1,h2,h3⟩:=Z32 hx
 refine ⟨_,_,by rw [Zeo (Z2b hx)]; exact h3,h3,rfl,rfl,fun j k m hk hm => ?_⟩
 rw [hk] at hm
 cases hm
 exact ⟨rfl,(Z8o hO h1 h2 (List.mem_of_getElem? hk)).1⟩
theorem Zmv (cs:List CV) {ts:List ND} (hT:GrOk ts) {i:Nat} (hi:i < ts.length):lab (bigG cs ts) (cs.length + i) = lab ts i:=by
 refine Z7s (R:=fun x y => x = cs.length + y∧y < ts.length) ?_ ⟨rfl,hi⟩
 rintro x y ⟨rfl,hy⟩
 have hg:ts[y]? = some ts[y]:=List.getElem?_eq_getElem hy
 refine ⟨Z3w cs.length ts[y],ts[y],by rw [Zep,hg]; rfl,hg,rfl,by simp [Z3w],fun j k m hk hm => ?_⟩
 have hm2:(Z3w cs.length ts[y]).2[j]? = some ((cs.length:Int) + m):=by
  unfold Z3w
  simp only
  rw [List.getElem?_map,hm]
  rfl
 rw [hm2] at hk
 cases hk
 have:=(hT _ (List.getElem_mem hy)).2 m (List.mem_of_getElem? hm)
 omega
theorem Zds {cs:List CV} {ts:List ND} (hO:HOk cs) (hT:GrOk ts) {i:Nat} (hi:i < ts.length):∃ v:Int,(Z1x cs ts)[i]? = some v ∧
  ((v = -1∧∀ j:Nat,Z06 cs (j:Int) = true→lb cs j ≠ lab ts i) ∨ ∃ j:Nat,v = j∧Z06 cs (j:Int) = true∧lb cs j = lab ts i∧∀ j',j' < j→Z06 cs (j':Int) = true→lb cs j' ≠ lab ts i):=by
 obtain ⟨hC,_⟩:=Zsk hO hT
 have hmn:cs.length + i ∈ bigL cs ts:=Z9n.2 (.inr (by omega))
 have hc:=Zk8 hC hmn
 have hcl:(clsF (bigG cs ts) (bigL cs ts)).length = cs.length + ts.length:=by rw [Zbp hC,Zbn]
 have hmc:∀ j:Nat,Z06 cs (j:Int) = true→j ∈ bigL cs ts:=fun j hj => Z9n.2 (.inl ⟨Z2b hj,hj⟩)
 have hkey:∀ j:Nat,j < cs.length→((clsF (bigG cs ts) (bigL cs ts))[j]? = (clsF (bigG cs ts) (bigL cs ts))[cs.length + i]? ↔ Z06 cs (j:Int) = true∧lb cs j = lab ts i):=by
  intro j hj
  by_cases ht:Z06 cs (j:Int) = true
  ·rw [Zqq hC (hmc j ht) hmn,Zmu ts hO ht,Zmv cs hT hi]
   exact ⟨fun e => ⟨ht,e⟩,fun e => e.2⟩
  ·have hn:j ∉ bigL cs ts:=fun hm => by
    rcases Z9n.1 hm with ⟨_,h⟩ | ⟨h,_⟩
    ·exact ht h
    ·omega
   rw [Zyf hC (by rw [Zbn]; omega) hn,hc]
   constructor
   ·intro e
    injection e with e
    omega
   ·intro e
    exact (ht e.1).elim
 generalize hcls:clsF (bigG cs ts) (bigL cs ts) = cls at hc hcl hkey
 generalize hx:((idxB (lab (bigG cs ts) (cs.length + i)) (dd ((bigL cs ts).map (lab (bigG cs ts)))):Nat):Int) = x at hc
 have hv:(Z1x cs ts)[i]? = some (Z4i (fun d => decide (x = d)) (cls.take cs.length)):=by
  unfold Z1x
  rw [List.getElem?_map,List.getElem?_range hi,hcls]
  simp only [Option.map_some]
  rw [hc]
  rfl
 refine ⟨_,hv,?_⟩
 have hat:∀ (j:Nat) (d:Int),(cls.take cs.length)[j]? = some d→j < cs.length∧cls[j]? = some d:=by
  intro j d h
  rw [List.getElem?_take] at h
  split at h
  ·exact ⟨by assumption,h⟩
  ·cases h
 by_cases hex:∃ j,j < cs.length∧cls[j]? = some x
 ·-- the least such place
  have hmin:∃ j,j < cs.length∧cls[j]? = some x∧∀ j',j' < j→cls[j']? ≠ some x:=by
   obtain ⟨j,h1,h2⟩:=hex
   revert h1 h2
   refine Nat.strongRecOn (motive:=fun j => j < cs.length→cls[j]? = some x→_) j fun n ih h1 h2 => ?_
   by_cases hl:∃ j',j' < n∧cls[j']? = some x
   ·obtain ⟨j',h3,h4⟩:=hl
    exact ih j' h3 (by omega) h4
   ·exact ⟨n,h1,h2,fun j' hj' e => hl ⟨j',hj',e⟩⟩
  obtain ⟨j,h1,h2,h3⟩:=hmin
  have e:Z4i (fun d => decide (x = d)) (cls.take cs.length) = j:=Zf7 (i:=j) (k:=x) (fun j' d hj hd => by
   obtain ⟨_,h5⟩:=hat j' d hd
   simp only [decide_eq_false_iff_not]
   rintro rfl
   exact h3 j' hj h5) (by rw [List.getElem?_take,if_pos h1]; exact h2) (by simp)
  rw [e]
  obtain ⟨t1,t2⟩:=(hkey j h1).1 (h2.trans hc.symm)
  refine .inr ⟨j,rfl,t1,t2,fun j' hj' ht' e' => h3 j' hj' ?_⟩
  rw [(hkey j' (by omega)).2 ⟨ht',e'⟩,hc]
 ·have e:Z4i (fun d => decide (x = d)) (cls.take cs.length) = -1:=Zcn fun j d _ hd => by
   obtain ⟨h4,h5⟩:=hat j d hd
   simp only [decide_eq_false_iff_not]
   rintro rfl
   exact hex ⟨j,h4,h5⟩
  rw [e]
  refine .inl ⟨rfl,fun j hj e' => hex ⟨j,Z2b hj,?_⟩⟩
  rw [(hkey j (Z2b hj)).2 ⟨hj,e'⟩,hc]
theorem Zlg {ns:List ND} (h:GrOk ns) {r:Nat} (hr:r < ns.length):lab (Z0v ns r) 0 = lab ns r:=by
 obtain ⟨hC,hnd,hlt,hroot⟩:=Z7c h (roots:=[r]) (by simpa using hr)
 have hpre:∃ w,bfsF (kidG ns) ns.length [r] = r :: w:=by
  have h1:bfsF (kidG ns) ns.length [r] = runB (kidG ns) (ns.length + 1) [r] 0:=rfl
  obtain ⟨w,hw⟩:=Zic (kidG ns) (ns.length + 1) [r] 0
  exact ⟨w,by rw [h1,hw]; rfl⟩
 have hL:Z0v ns r = canD (dd ((bfsF (kidG ns) ns.length [r]).map (lab ns))):=Zd9 hC
 generalize bfsF (kidG ns) ns.length [r] = L at hC hroot hpre hL
 rw [hL]
 obtain ⟨w,rfl⟩:=hpre
 have hD0:(dd ((r :: w).map (lab ns)))[0]? = some (lab ns r):=by
  have e:dd ((r :: w).map (lab ns)) = Z2o [lab ns r] (w.map (lab ns)):=by
   show Z2o (addB [] (lab ns r)) (w.map (lab ns)) = _
   congr 1
  obtain ⟨T,hT⟩:=Zc3 (w.map (lab ns)) [lab ns r]
  rw [e,hT]
  rfl
 generalize hD:dd ((r :: w).map (lab ns)) = D at hD0
 refine Z7s (R:=fun x y => D[x]? = some (lab ns y)∧y ∈ r :: w) ?_ ⟨hD0,by simp⟩
 rintro x y ⟨hx,hy⟩
 have hg:ns[y]? = some (ns[y]'(hC.lt y hy)):=List.getElem?_eq_getElem _
 refine ⟨canN D (lab ns y),_,by unfold canD; rw [List.getElem?_map,hx]; rfl,hg,by unfold canN; rw [Zah hg],by unfold canN; rw [Z6a hg]; simp,fun j k m hk hm => ?_⟩
 have hmL:=(hC.kids y hy _ hg).2 m (List.mem_of_getElem? hm)
 unfold canN at hk
 simp only at hk
 rw [Z6a hg,List.map_map,List.getElem?_map,hm] at hk
 simp only [Option.map_some,Option.some.injEq,Function.comp] at hk
 rw [← hk,Int.toNat_natCast]
 refine ⟨Zhu ?_,hmL⟩
 rw [← hD]
 exact Zaj.2 (List.mem_map.2 ⟨m.toNat,hmL,rfl⟩)
theorem Zdy {nds nds':List ND} {a b:Nat} {x y:ND} (hx:nds[a]? = some x) (hy:nds'[b]? = some y) (h:lab nds a = lab nds' b) :
  x.1 = y.1∧x.2.length = y.2.length∧∀ (j:Nat) (k m:Int),x.2[j]? = some k→y.2[j]? = some m→lab nds k.toNat = lab nds' m.toNat:=by
 have h1:=Zah hx
 have h2:=Z6a hx
 rw [h,Zah hy] at h1
 rw [h,Z6a hy] at h2
 refine ⟨h1.symm,by simpa using (congrArg List.length h2).symm,fun j k m hk hm => ?_⟩
 have:=congrArg (fun l => l[j]?) h2
 simpa [hk,hm] using this.symm
def Zcv (T:Int→Bool) (c:CV):Prop:=c = Z37 ∨ (c.taken = true∧c.kids.length ≤ 4∧(∀ k ∈ c.kids,T k = true)∧Z1y c.name = true∧0 ≤ c.held∧c.held ≤ 1000)
def HG (cs:List CV):Prop:=∀ c ∈ cs,Zcv (Z06 cs) c
theorem HG.ok {cs:List CV} (h:HG cs):HOk2 cs:=by
 refine ⟨⟨fun c hc => ?_,fun c hc ht => ?_⟩,fun c hc ht => ?_⟩
 ·rcases h c hc with rfl | ⟨_,h4,_⟩
  ·simp [Z37]
  ·exact h4
 ·rcases h c hc with rfl | ⟨_,_,h4,_⟩
  ·simp [Z37]
  ·exact h4
 ·rcases h c hc with rfl | ⟨h4,_⟩
  ·rfl
  ·rw [h4] at ht
   cases ht
theorem Zcv.mono {T T':Int→Bool} {c:CV} (h:Zcv T c) (hT:∀ k,T k = true→T' k = true):Zcv T' c:=by
 rcases h with h | ⟨h1,h2,h3,h4⟩
 ·exact .inl h
 ·exact .inr ⟨h1,h2,fun k hk => hT k (h3 k hk),h4⟩
theorem HG.set {cs:List CV} {i:Nat} {d:CV} (h:HG cs) (hT:∀ k,Z06 cs k = true→Z06 (cs.set i d) k = true) (hd:Zcv (Z06 (cs.set i d)) d):HG (cs.set i d):=by
 intro c hc
 rcases List.mem_or_eq_of_mem_set hc with hc | rfl
 ·exact (h c hc).mono hT
 ·exact hd
theorem Zg0 {cs:List CV} {i:Nat} {d:CV} (hi:i < cs.length) (k:Int):Z06 (cs.set i d) k = if k = (i:Int) then d.taken else Z06 cs k:=by
 unfold Z06
 by_cases h:k = (i:Int)
 ·subst h
  simp [hi]
 ·rw [if_neg h]
  by_cases h0:0 ≤ k
  ·have:i ≠ k.toNat:=by omega
   rw [List.getElem?_set_ne this]
  ·simp [h0]
theorem Zwc {cs:List CV} {a:Nat} {d e:CV} (h:HG cs) (ha:cs[a]? = some d) (hd:d.taken = false) (he:e.taken = true) (hk:Zcv (Z06 (cs.set a e)) e):HG (cs.set a e)∧(∀ k,Z06 cs k = true→Z06 (cs.set a e) k = true):=by
 have hal:a < cs.length:=(List.getElem?_eq_some_iff.1 ha).1
 have hT:∀ k,Z06 cs k = true→Z06 (cs.set a e) k = true:=fun k hk => by
  rw [Zg0 hal]
  split
  ·exact he
  ·exact hk
 exact ⟨h.set hT hk,hT⟩
theorem Zjy {cs:List CV} {i:Nat} {c d:CV} (hc:cs[i]? = some c) (ht:d.taken = c.taken) (k:Int):Z06 (cs.set i d) k = Z06 cs k:=by
 have hi:i < cs.length:=(List.getElem?_eq_some_iff.1 hc).1
 rw [Zg0 hi]
 split
 ·rename_i h
  rw [h,Z1g hc,ht]
 ·rfl
theorem Zqb {cs:List CV} (h:HG cs) {i:Nat} {x:Int} (hx:0 ≤ x∧x ≤ 1000) (ht:Z06 cs (i:Int) = true):HG (setH cs i x):=by
 unfold setH
 split
 ·rename_i c hc
  have hT:=Zjy (cs:=cs) (d:={ c with held:=x }) hc rfl
  refine h.set (fun y hy => by rw [hT]; exact hy) ?_
  rw [Z1g hc] at ht
  rcases h c (List.mem_of_getElem? hc) with h2 | ⟨g1,g2,g3,g4,_⟩
  ·rw [h2] at ht
   cases ht
  ·exact .inr ⟨g1,g2,fun y hy => by rw [hT]; exact g3 y hy,g4,hx.1,hx.2⟩
 ·exact h
theorem Zvi {cs:List CV} (h:HG cs) (i:Int):HG (Z73 cs i).2∧(Z73 cs i).2.length = cs.length:=by
 unfold Z73
 split
 ·exact ⟨h,rfl⟩
 ·rename_i h1
  have h1:Z06 cs i = true:=by simpa using h1
  obtain ⟨h0,d,hd,ht,_⟩:=Z21 h1
  rw [hd]
  simp only
  split
  ·exact ⟨h,rfl⟩
  ·rename_i h2
   refine ⟨?_,Z9t _ _ _⟩
   rcases h d (List.mem_of_getElem? hd) with h3 | ⟨g1,g2,g3,g4,g5,g6⟩
   ·rw [h3] at ht
    cases ht
   ·rw [IntWalk.i64_in _ (by omega)]
    exact Zqb h (by omega) (by rw [Int.toNat_of_nonneg h0]; exact h1)
structure AllP (L:List ND) (th:List Int) (cs c:List CV) (f:List Int) (i:Nat):Prop where
 len:c.length = cs.length
 flen:f.length = L.length
 good:HG c
 keep:∀ a:Nat,Z06 cs (a:Int) = true→c[a]? = cs[a]?
 mono:∀ k,Z06 cs k = true→Z06 c k = true
 cell:∀ (j:Nat) (nd:ND),j < i→L[j]? = some nd→(th[j]?).getD 0 < 0→∃ a:Nat,f[j]? = some (a:Int)∧Z06 cs (a:Int) = false∧c[a]? = some ⟨true,nd.1,[],0⟩
 inj:∀ (j j':Nat),j < i→j' < i→(th[j]?).getD 0 < 0→(th[j']?).getD 0 < 0→f[j]? = f[j']?→j = j'
 rest:∀ j,(i ≤ j ∨ 0 ≤ (th[j]?).getD 0)→f[j]? = th[j]?
 only:∀ a:Nat,Z06 c (a:Int) = true→Z06 cs (a:Int) = true ∨ ∃ j,j < i∧(th[j]?).getD 0 < 0∧f[j]? = some (a:Int)
theorem Zhk {L:List ND} {th:List Int} {cs:List CV} (h:HG cs) (hth:th.length = L.length) (hnm:∀ nd ∈ L,Z1y nd.1 = true):∀ (i:Nat),i ≤ L.length→∀ c f,Z3f L th cs i = some (c,f)→AllP L th cs c f i
 | 0,_,c,f,e => by
  simp only [Z3f,Option.some.injEq,Prod.mk.injEq] at e
  obtain ⟨rfl,rfl⟩:=e
  exact ⟨rfl,hth,h,fun _ _ => rfl,fun _ h => h,fun j nd hj => by omega,fun j j' hj => by omega,fun _ _ => rfl,fun a ha => .inl ha⟩
 | i + 1,hi,c,f,e => by
  unfold Z3f at e
  cases hp:Z3f L th cs i with
  | none => rw [hp] at e; cases e
  | some x =>
   obtain ⟨c0,f0⟩:=x
   have H:=Zhk h hth hnm i (by omega) c0 f0 hp
   rw [hp] at e
   simp only at e
   by_cases ht:0 ≤ (th[i]?).getD 0
   ·rw [if_pos ht] at e
    cases e
    refine ⟨H.len,H.flen,H.good,H.keep,H.mono,fun j nd hj hnd hn => ?_,fun j j' hj hj' hn hn' e => ?_,fun j hj => ?_,fun a ha => ?_⟩
    ·by_cases e:j = i
     ·subst e; omega
     ·exact H.cell j nd (by omega) hnd hn
    ·by_cases e1:j = i
     ·subst e1; omega
     ·by_cases e2:j' = i
      ·subst e2; omega
      ·exact H.inj j j' (by omega) (by omega) hn hn' e
    ·refine H.rest j ?_
     rcases hj with hj | hj
     ·exact .inl (by omega)
     ·exact .inr hj
    ·rcases H.only a ha with h | ⟨j,h1,h2,h3⟩
     ·exact .inl h
     ·exact .inr ⟨j,by omega,h2,h3⟩
   ·rw [if_neg ht] at e
    rcases Zco c0 with hf | ⟨a,d,hf,ha,hd⟩
    ·rw [hf] at e
     rw [if_pos (by omega)] at e
     cases e
    ·rw [hf,if_neg (by omega)] at e
     simp only [Option.some.injEq,Prod.mk.injEq,Int.toNat_natCast] at e
     obtain ⟨rfl,rfl⟩:=e
     have hil:i < L.length:=hi
     obtain ⟨nd0,hnd0⟩:∃ nd,L[i]? = some nd:=⟨_,List.getElem?_eq_getElem hil⟩
     rw [hnd0]
     simp only [Option.getD_some]
     have hal:a < c0.length:=(List.getElem?_eq_some_iff.1 ha).1
     have hfi:i < f0.length:=by rw [H.flen]; exact hil
     have hna:Z06 c0 (a:Int) = false:=by rw [Z1g ha]; exact hd
     have hncs:Z06 cs (a:Int) = false:=by
      cases hq:Z06 cs (a:Int) with
      | false => rfl
      | true => rw [H.mono _ hq] at hna; cases hna
     have hgn:=hnm nd0 (List.mem_of_getElem? hnd0)
     obtain ⟨hg1,hT⟩:=Zwc (e:=⟨true,nd0.1,[],0⟩) H.good ha hd rfl (.inr ⟨rfl,Nat.zero_le 4,by simp,hgn,Int.le_refl 0,by show (0:Int) ≤ 1000; decide⟩)
     have hne:∀ {b:Nat} {nm:List UInt8},c0[b]? = some ⟨true,nm,[],0⟩→a ≠ b:=by
      rintro b nm hb rfl
      rw [ha] at hb
      cases hb
      cases hd
     have hnef:∀ (j:Nat),j < i→(th[j]?).getD 0 < 0→f0[j]? ≠ some (a:Int):=by
      intro j hj hn e
      obtain ⟨nd,hnd⟩:∃ nd,L[j]? = some nd:=⟨_,List.getElem?_eq_getElem (by omega)⟩
      obtain ⟨b,h1,_,h3⟩:=H.cell j nd hj hnd hn
      rw [h1] at e
      have:a = b:=by
       injection e with e
       omega
      exact hne h3 this
     refine ⟨by rw [List.length_set]; exact H.len,by rw [List.length_set]; exact H.flen,hg1,fun b hb => ?_,fun k hk => hT k (H.mono k hk),fun j nd hj hnd hn => ?_,fun j j' hj hj' hn hn' e => ?_,fun j hj => ?_,fun b hb => ?_⟩
     ·rw [List.getElem?_set_ne]
      ·exact H.keep b hb
      ·rintro rfl
       rw [hncs] at hb
       cases hb
     ·by_cases e:j = i
      ·subst e
       rw [hnd0] at hnd
       cases hnd
       exact ⟨a,by simp [hfi],hncs,by simp [hal]⟩
      ·obtain ⟨b,h1,h2,h3⟩:=H.cell j nd (by omega) hnd hn
       exact ⟨b,by rw [List.getElem?_set_ne (by omega)]; exact h1,h2,by rw [List.getElem?_set_ne (hne h3)]; exact h3⟩
     ·by_cases e1:j = i
      ·by_cases e2:j' = i
       ·omega
       ·exfalso
        subst e1
        rw [List.getElem?_set_ne (show j ≠ j' by omega)] at e
        simp only [List.getElem?_set_self hfi] at e
        exact hnef j' (by omega) hn' e.symm
      ·by_cases e2:j' = i
       ·exfalso
        subst e2
        rw [List.getElem?_set_ne (show j' ≠ j by omega)] at e
        simp only [List.getElem?_set_self hfi] at e
        exact hnef j (by omega) hn e
       ·rw [List.getElem?_set_ne (show i ≠ j by omega),List.getElem?_set_ne (show i ≠ j' by omega)] at e
        exact H.inj j j' (by omega) (by omega) hn hn' e
     ·by_cases e:j = i
      ·subst e
       rcases hj with hj | hj
       ·omega
       ·exact (ht hj).elim
      ·rw [List.getElem?_set_ne (by omega)]
       refine H.rest j ?_
       rcases hj with hj | hj
       ·exact .inl (by omega)
       ·exact .inr hj
     ·rw [Zg0 hal] at hb
      split at hb
      ·rename_i e
       have:b = a:=by omega
       subst this
       exact .inr ⟨i,by omega,by omega,by simp [hfi]⟩
      ·rcases H.only b hb with h | ⟨j,h1,h2,h3⟩
       ·exact .inl h
       ·exact .inr ⟨j,by omega,h2,by rw [List.getElem?_set_ne (by omega)]; exact h3⟩
theorem Zhs {L:List ND} {th f:List Int} {cs c:List CV} {l:Nat} (hl:L.length = l) (H:AllP L th cs c f l):∀ i,i ≤ l→∀ a:Nat,
  ((∀ j,j < l→(th[j]?).getD 0 < 0→f[j]? ≠ some (a:Int))→(Z22 L th f c i)[a]? = c[a]?) ∧
  ∀ (j:Nat) (nd:ND),L[j]? = some nd→(th[j]?).getD 0 < 0→f[j]? = some (a:Int)→(Z22 L th f c i)[a]? = some ⟨true,nd.1,if j < i then Z1o f nd.2 else [],0⟩
 | 0,_,a => by
  refine ⟨fun _ => rfl,fun j nd hnd hn hf => ?_⟩
  obtain ⟨b,h1,_,h3⟩:=H.cell j nd (by rw [← hl]; exact (List.getElem?_eq_some_iff.1 hnd).1) hnd hn
  rw [hf] at h1
  have:a = b:=by
   injection h1 with h1
   omega
  subst this
  rw [if_neg (by omega)]
  exact h3
 | i + 1,hi,a => by
  obtain ⟨g1,g2⟩:=Zhs hl H i (by omega) a
  have hil:i < L.length:=by omega
  obtain ⟨nd0,hnd0⟩:∃ nd,L[i]? = some nd:=⟨_,List.getElem?_eq_getElem hil⟩
  unfold Z22
  by_cases ht:0 ≤ (th[i]?).getD 0
  ·rw [if_pos ht]
   refine ⟨g1,fun j nd hnd hn hf => ?_⟩
   rw [g2 j nd hnd hn hf]
   have:j ≠ i:=by rintro rfl; omega
   by_cases e:j < i
   ·rw [if_pos e,if_pos (by omega)]
   ·rw [if_neg e,if_neg (by omega)]
  ·rw [if_neg ht]
   obtain ⟨b,h1,_,_⟩:=H.cell i nd0 (by omega) hnd0 (by omega)
   have h2b:=(Zhs hl H i (by omega) b).2 i nd0 hnd0 (by omega) h1
   rw [if_neg (by omega)] at h2b
   rw [h1,hnd0]
   simp only [Option.getD_some,Int.toNat_natCast]
   unfold setK
   rw [h2b]
   simp only
   have hbl:b < (Z22 L th f c i).length:=(List.getElem?_eq_some_iff.1 h2b).1
   refine ⟨fun hno => ?_,fun j nd hnd hn hf => ?_⟩
   ·rw [List.getElem?_set_ne]
    ·exact g1 hno
    ·rintro rfl
     exact hno i (by omega) (by omega) h1
   ·by_cases e:j = i
    ·subst e
     rw [hf] at h1
     have:a = b:=by
      injection h1 with h1
      omega
     subst this
     rw [hnd0] at hnd
     cases hnd
     rw [List.getElem?_set_self hbl,if_pos (by omega)]
    ·have hab:b ≠ a:=by
      rintro rfl
      exact e (H.inj j i (by rw [← hl]; exact (List.getElem?_eq_some_iff.1 hnd).1) (by omega) hn (by omega) (hf.trans h1.symm))
     rw [List.getElem?_set_ne hab,g2 j nd hnd hn hf]
     by_cases e2:j < i
     ·rw [if_pos e2,if_pos (by omega)]
     ·rw [if_neg e2,if_neg (by omega)]
structure Grown (cs c:List CV):Prop where
 good:HG c
 len:c.length = cs.length
 keep:∀ a:Nat,Z06 cs (a:Int) = true→c[a]? = cs[a]?
 new:∀ (a:Nat) (d:CV),Z06 cs (a:Int) = false→c[a]? = some d→d.held = 0
theorem HG.free0 {cs:List CV} (h:HG cs) {a:Nat} {d:CV} (hd:cs[a]? = some d) (ht:Z06 cs (a:Int) = false):d = Z37:=by
 rw [Z1g hd] at ht
 rcases h d (List.mem_of_getElem? hd) with e | ⟨e,_⟩
 ·exact e
 ·rw [ht] at e; cases e
theorem Grown.refl {cs:List CV} (h:HG cs):Grown cs cs:=⟨h,rfl,fun _ _ => rfl,fun a d ht hd => by rw [h.free0 hd ht]; rfl⟩
theorem Grown.takes {cs c:List CV} (h:Grown cs c) {a:Nat} (ha:Z06 cs (a:Int) = true):Z06 c (a:Int) = true:=by
 obtain ⟨d,hd,ht,_⟩:=Z32 ha
 rw [Z1g ((h.keep a ha).trans hd)]
 exact ht
theorem Grown.lab {cs c:List CV} (hO:HOk cs) (h:Grown cs c) {a:Nat} (ha:Z06 cs (a:Int) = true):lb c a = lb cs a:=by
 refine Z7s (R:=fun x y => x = y∧Z06 cs (y:Int) = true) ?_ ⟨rfl,ha⟩
 rintro x y ⟨rfl,hx⟩
 obtain ⟨d,h1,h2,h3⟩:=Z32 hx
 have h4:(Z0d c)[x]? = some (d.name,d.kids):=by
  rw [Z2k ((h.keep x hx).trans h1),if_pos h2]
 refine ⟨_,_,h4,h3,rfl,rfl,fun j k m hk hm => ?_⟩
 rw [hk] at hm
 cases hm
 exact ⟨rfl,(Z8o hO h1 h2 (List.mem_of_getElem? hk)).1⟩
theorem Znj {ns:List ND} (h:GrOk ns) {r:Nat} (hr:r < ns.length) {P:List UInt8→Prop} (hn:∀ nd ∈ ns,P nd.1):∀ nd ∈ Z0v ns r,P nd.1:=by
 intro nd hnd
 unfold Z0v at hnd
 obtain ⟨a,x,_,h2,rfl⟩:=Ze6 hnd
 exact hn x (List.mem_of_getElem? h2)
structure PutOk (cs:List CV) (L:List ND) (th f:List Int) (c:List CV):Prop extends Grown cs c where
 at':∀ j,j < L.length→∃ a:Nat,f[j]? = some (a:Int)∧Z06 c (a:Int) = true∧lb c a = lab L j
 only:∀ a:Nat,Z06 c (a:Int) = true→Z06 cs (a:Int) = true ∨ ∃ j,j < L.length∧(th[j]?).getD 0 < 0∧f[j]? = some (a:Int)
theorem Zyp {cs c:List CV} {L:List ND} {f:List Int} (hG:HG cs) (hL:GrOk L) (hnm:∀ nd ∈ L,Z1y nd.1 = true) (H:AllP L (Z1x cs L) cs c f L.length):PutOk cs L (Z1x cs L) f (Z22 L (Z1x cs L) f c L.length):=by
 have hO:=hG.ok
 have hA:=fun i hi a => Zhs (c:=c) rfl H i hi a
 have hlen:(Z22 L (Z1x cs L) f c L.length).length = c.length:=Z8n _ _ _ _ _
 have hfr:∀ (a:Nat),((∀ j,j < L.length→((Z1x cs L)[j]?).getD 0 < 0→f[j]? ≠ some (a:Int))→(Z22 L (Z1x cs L) f c L.length)[a]? = c[a]?) ∧
   ∀ (j:Nat) (nd:ND),L[j]? = some nd→((Z1x cs L)[j]?).getD 0 < 0→f[j]? = some (a:Int)→(Z22 L (Z1x cs L) f c L.length)[a]? = some ⟨true,nd.1,Z1o f nd.2,0⟩:=fun a => by
  obtain ⟨g1,g2⟩:=hA L.length (Nat.le_refl _) a
  refine ⟨g1,fun j nd hnd hn hf => ?_⟩
  rw [g2 j nd hnd hn hf,if_pos (List.getElem?_eq_some_iff.1 hnd).1]
 generalize Z22 L (Z1x cs L) f c L.length = e at hfr hlen
 clear hA
 have hat:∀ j,j < L.length→(((Z1x cs L)[j]?).getD 0 < 0∧∃ a nd,f[j]? = some ((a:Nat):Int)∧Z06 cs (a:Int) = false∧L[j]? = some nd∧e[a]? = some ⟨true,nd.1,Z1o f nd.2,0⟩) ∨
   (0 ≤ ((Z1x cs L)[j]?).getD 0∧∃ a:Nat,f[j]? = some (a:Int)∧Z06 cs (a:Int) = true∧lb cs a = lab L j):=by
  intro j hj
  obtain ⟨v,hv,h⟩:=Zds hO.toHOk hL hj
  rcases h with ⟨rfl,_⟩ | ⟨a,rfl,h1,h2,_⟩
  ·left
   have hn:((Z1x cs L)[j]?).getD 0 < 0:=by rw [hv]; decide
   obtain ⟨nd,hnd⟩:∃ nd,L[j]? = some nd:=⟨_,List.getElem?_eq_getElem hj⟩
   obtain ⟨a,g1,g2,_⟩:=H.cell j nd hj hnd hn
   exact ⟨hn,a,nd,g1,g2,hnd,(hfr a).2 j nd hnd hn g1⟩
  ·right
   have hn:0 ≤ ((Z1x cs L)[j]?).getD 0:=by rw [hv]; simp
   refine ⟨hn,a,?_,h1,h2⟩
   rw [H.rest j (.inr hn),hv]
 have hold:∀ a:Nat,Z06 cs (a:Int) = true→e[a]? = cs[a]?:=by
  intro a ha
  rw [(hfr a).1,H.keep a ha]
  intro j hj hn hf
  rcases hat j hj with ⟨_,b,nd,g1,g2,_⟩ | ⟨h0,_⟩
  ·rw [hf] at g1
   have:a = b:=by
    injection g1 with g1
    omega
   subst this
   rw [ha] at g2
   cases g2
  ·omega
 have htk:∀ j,j < L.length→∃ a:Nat,f[j]? = some (a:Int)∧Z06 e (a:Int) = true:=by
  intro j hj
  rcases hat j hj with ⟨_,a,nd,g1,_,_,g4⟩ | ⟨_,a,g1,g2,_⟩
  ·exact ⟨a,g1,by rw [Z1g g4]⟩
  ·obtain ⟨d,hd,ht,_⟩:=Z32 g2
   exact ⟨a,g1,by rw [Z1g ((hold a g2).trans hd)]; exact ht⟩
 have hmono:∀ k,Z06 cs k = true→Z06 e k = true:=by
  intro k hk
  have h0:=(Z21 hk).1
  obtain ⟨x,rfl⟩:∃ x:Nat,k = x:=⟨k.toNat,by omega⟩
  obtain ⟨d,hd,ht,_⟩:=Z32 hk
  rw [Z1g ((hold x hk).trans hd)]
  exact ht
 have hsame:∀ (a:Nat) (x:CV),c[a]? = some x→x.taken = false→e[a]? = c[a]?:=by
  intro a x hx ht
  refine (hfr a).1 fun j hj hn hf => ?_
  obtain ⟨nd,hnd⟩:∃ nd,L[j]? = some nd:=⟨_,List.getElem?_eq_getElem hj⟩
  obtain ⟨b,g1,_,g3⟩:=H.cell j nd hj hnd hn
  rw [hf] at g1
  have:a = b:=by
   injection g1 with g1
   omega
  subst this
  rw [hx] at g3
  cases g3
  cases ht
 have hgood:HG e:=by
  intro d hd
  obtain ⟨a,ha⟩:=List.getElem?_of_mem hd
  have hal:a < c.length:=by rw [← hlen]; exact (List.getElem?_eq_some_iff.1 ha).1
  have hca:c[a]? = some c[a]:=List.getElem?_eq_getElem hal
  cases ht:c[a].taken with
  | false =>
   rw [hsame a _ hca ht,hca] at ha
   cases ha
   rcases H.good _ (List.getElem_mem hal) with h | ⟨h,_⟩
   ·exact .inl h
   ·rw [ht] at h; cases h
  | true =>
   rcases H.only a (by rw [Z1g hca]; exact ht) with h | ⟨j,hj,hn,hf⟩
   ·rw [hold a h] at ha
    exact (hG d (List.mem_of_getElem? ha)).mono hmono
   ·obtain ⟨nd,hnd⟩:∃ nd,L[j]? = some nd:=⟨_,List.getElem?_eq_getElem hj⟩
    rw [(hfr a).2 j nd hnd hn hf] at ha
    cases ha
    obtain ⟨hk4,hkin⟩:=hL nd (List.mem_of_getElem? hnd)
    refine .inr ⟨rfl,by simpa [Z1o] using hk4,fun k hk => ?_,hnm nd (List.mem_of_getElem? hnd),Int.le_refl 0,by show (0:Int) ≤ 1000; decide⟩
    obtain ⟨m,hm,rfl⟩:=List.mem_map.1 hk
    have:=hkin m hm
    obtain ⟨b,g1,g2⟩:=htk m.toNat (by omega)
    rw [g1]
    exact g2
 have hGr:Grown cs e:=⟨hgood,hlen.trans H.len,hold,fun a d hna had => by
  have hal:a < c.length:=by rw [← hlen]; exact (List.getElem?_eq_some_iff.1 had).1
  have hca:c[a]? = some c[a]:=List.getElem?_eq_getElem hal
  cases ht:c[a].taken with
  | false =>
   rw [hsame a _ hca ht,hca] at had
   cases had
   rcases H.good _ (List.getElem_mem hal) with h | ⟨h,_⟩
   ·rw [h]; rfl
   ·rw [ht] at h; cases h
  | true =>
   rcases H.only a (by rw [Z1g hca]; exact ht) with h | ⟨j,hj,hn,hf⟩
   ·rw [hna] at h; cases h
   ·obtain ⟨nd,hnd⟩:∃ nd,L[j]? = some nd:=⟨_,List.getElem?_eq_getElem hj⟩
    rw [(hfr a).2 j nd hnd hn hf] at had
    cases had
    rfl⟩
 refine ⟨hGr,fun j hj => ?_,fun a ha => ?_⟩
 ·obtain ⟨a,g1,g2⟩:=htk j hj
  refine ⟨a,g1,g2,?_⟩
  refine Z7s (R:=fun x y => y < L.length∧(f[y]? = some (x:Int) ∨ (Z06 cs (x:Int) = true∧lb cs x = lab L y))) ?_ ⟨hj,.inl g1⟩
  rintro x y ⟨hy,hxy⟩
  have hg:L[y]? = some L[y]:=List.getElem?_eq_getElem hy
  have hkin:=(hL _ (List.getElem_mem hy)).2
  have hold':Z06 cs (x:Int) = true→lb cs x = lab L y→∃ u v,(Z0d e)[x]? = some u∧L[y]? = some v∧u.1 = v.1∧u.2.length = v.2.length ∧
    ∀ (j:Nat) (k m:Int),u.2[j]? = some k→v.2[j]? = some m→m.toNat < L.length∧(f[m.toNat]? = some ((k.toNat:Nat):Int) ∨ (Z06 cs ((k.toNat:Nat):Int) = true∧lb cs k.toNat = lab L m.toNat)):=by
   intro hx hl
   obtain ⟨d,h1,h2,h3⟩:=Z32 hx
   obtain ⟨e1,e2,e3⟩:=Zdy h3 hg hl
   refine ⟨_,_,by rw [Z2k ((hold x hx).trans h1),if_pos h2],hg,e1,e2,fun j k m hk hm => ⟨?_,.inr ⟨?_,e3 j k m hk hm⟩⟩⟩
   ·have:=hkin m (List.mem_of_getElem? hm)
    omega
   ·exact (Z8o hO.toHOk h1 h2 (List.mem_of_getElem? hk)).1
  rcases hxy with hf | ⟨hx,hl⟩
  ·rcases hat y hy with ⟨hn,b,nd,k1,k2,k3,k4⟩ | ⟨h0,b,k1,k2,k3⟩
   ·rw [hf] at k1
    have:x = b:=by
     injection k1 with k1
     omega
    subst this
    rw [hg] at k3
    cases k3
    refine ⟨(L[y].1,Z1o f L[y].2),L[y],by rw [Z2k k4,if_pos rfl],hg,rfl,by simp [Z1o],fun j k m hk hm => ?_⟩
    have hm':=hkin m (List.mem_of_getElem? hm)
    refine ⟨by omega,.inl ?_⟩
    obtain ⟨z,z1,z2⟩:=htk m.toNat (by omega)
    unfold Z1o at hk
    simp only at hk
    rw [List.getElem?_map,hm] at hk
    simp only [Option.map_some,Option.some.injEq] at hk
    rw [z1] at hk
    simp only [Option.getD_some] at hk
    rw [← hk,z1]
    simp
   ·rw [hf] at k1
    have:x = b:=by
     injection k1 with k1
     omega
    subst this
    exact hold' k2 k3
  ·exact hold' hx hl
 ·have hal:a < c.length:=by rw [← hlen]; exact Z2b ha
  have hca:c[a]? = some c[a]:=List.getElem?_eq_getElem hal
  cases ht:c[a].taken with
  | false =>
   obtain ⟨d,hd,hdt,_⟩:=Z32 ha
   rw [hsame a _ hca ht,hca] at hd
   cases hd
   rw [ht] at hdt
   cases hdt
  | true => exact H.only a (by rw [Z1g hca]; exact ht)
theorem Zr4 {cs:List CV} (h:Z7a cs < 0):∀ c ∈ cs,c.taken = true:=by
 intro c hc
 unfold Z7a at h
 split at h
 ·omega
 ·rename_i hn
  have:=List.findIdx?_eq_none_iff.1 hn c hc
  simpa using this
theorem Zup {cs:List CV} {a:Nat} {d e:CV} (ha:cs[a]? = some d) (hd:d.taken = false) (he:e.taken = true):Z15 (cs.set a e) = Z15 cs + 1:=by
 have hal:a < cs.length:=(List.getElem?_eq_some_iff.1 ha).1
 have h1:cs[a] = d:=(List.getElem?_eq_some_iff.1 ha).2
 unfold Z15
 rw [List.countP_set hal,h1,hd,he]
 simp
theorem Zs2 {cs:List CV} (h:∀ c ∈ cs,c.taken = true):Z15 cs = cs.length:=by
 unfold Z15
 exact List.countP_eq_length.2 h
theorem Zdi {L:List ND} {th:List Int} {cs:List CV}:∀ (i:Nat) c f,Z3f L th cs i = some (c,f)→Z15 cs ≤ Z15 c∧Z15 c ≤ Z15 cs + i
 | 0,c,f,e => by
  simp only [Z3f,Option.some.injEq,Prod.mk.injEq] at e
  obtain ⟨rfl,rfl⟩:=e
  omega
 | i + 1,c,f,e => by
  unfold Z3f at e
  cases hp:Z3f L th cs i with
  | none => rw [hp] at e; cases e
  | some x =>
   obtain ⟨c0,f0⟩:=x
   obtain ⟨h1,h2⟩:=Zdi i c0 f0 hp
   rw [hp] at e
   simp only at e
   by_cases ht:0 ≤ (th[i]?).getD 0
   ·rw [if_pos ht] at e
    cases e
    omega
   ·rw [if_neg ht] at e
    rcases Zco c0 with hf | ⟨a,d,hf,ha,hd⟩
    ·rw [hf] at e
     rw [if_pos (by omega)] at e
     cases e
    ·rw [hf,if_neg (by omega)] at e
     simp only [Option.some.injEq,Prod.mk.injEq,Int.toNat_natCast] at e
     obtain ⟨rfl,rfl⟩:=e
     rw [Zup (e:=⟨true,((L[i]?).getD ([],[])).1,[],0⟩) ha hd rfl]
     omega
theorem Zik {L:List ND} {th:List Int} {cs:List CV} (h:HG cs) (hth:th.length = L.length) (hnm:∀ nd ∈ L,Z1y nd.1 = true):∀ (i:Nat),i ≤ L.length→Z3f L th cs i = none→cs.length < Z15 cs + i
 | 0,_,e => by cases e
 | i + 1,hi,e => by
  unfold Z3f at e
  cases hp:Z3f L th cs i with
  | none =>
   have:=Zik h hth hnm i (by omega) hp
   omega
  | some x =>
   obtain ⟨c0,f0⟩:=x
   have H:=Zhk h hth hnm i (by omega) c0 f0 hp
   obtain ⟨h1,h2⟩:=Zdi i c0 f0 hp
   rw [hp] at e
   simp only at e
   by_cases ht:0 ≤ (th[i]?).getD 0
   ·rw [if_pos ht] at e
    cases e
   ·rw [if_neg ht] at e
    by_cases hf:Z7a c0 < 0
    ·have:=Zs2 (Zr4 hf)
     have:=H.len
     omega
    ·rw [if_neg hf] at e
     cases e
theorem Zdq (L:List ND) (th f:List Int) (cs:List CV):∀ i,Z15 (Z22 L th f cs i) = Z15 cs
 | 0 => rfl
 | i + 1 => by
  unfold Z22
  split
  ·exact Zdq L th f cs i
  ·rw [← Zdq L th f cs i]
   unfold setK
   split
   ·rename_i c hc
    obtain ⟨hl,h1⟩:=List.getElem?_eq_some_iff.1 hc
    unfold Z15
    rw [List.countP_set hl,h1]
    have:0 < List.countP (fun c => c.taken) (Z22 L th f cs i) ∨ c.taken = false:=by
     cases ht:c.taken with
     | false => exact .inr rfl
     | true => exact .inl (List.countP_pos_iff.2 ⟨c,List.mem_of_getElem? hc,ht⟩)
    rcases this with h | h
    ·cases ht:c.taken <;> simp <;> omega
    ·simp [h]
   ·rfl
inductive PutIs (cs:List CV) (ns:List ND) (r:Nat) (x:Int × Int × List CV):Prop where
 | full (h:x = (0,12,cs)) (hno:∀ j:Nat,Z06 cs (j:Int) = true→lb cs j ≠ lab ns r) (hs:cs.length < Z15 cs + (Z0v ns r).length)
 | there (a:Nat) (h:x = ((a:Int),0,cs)) (ht:Z06 cs (a:Int) = true) (hl:lb cs a = lab ns r) (hm:∀ j:Nat,j < a→Z06 cs (j:Int) = true→lb cs j ≠ lab ns r)
 | fresh (a:Nat) (f:List Int) (c:List CV) (h:x = ((a:Int),0,c)) (hp:PutOk cs (Z0v ns r) (Z1x cs (Z0v ns r)) f c) (hf:f[0]? = some (a:Int)) (ht:Z06 c (a:Int) = true) (hl:lb c a = lab ns r) (hno:∀ j:Nat,Z06 cs (j:Int) = true→lb cs j ≠ lab ns r)
   (hs:Z15 cs ≤ Z15 c∧Z15 c ≤ Z15 cs + (Z0v ns r).length)
theorem Zlw {cs:List CV} {ns:List ND} {root:Int} (hG:HG cs) (hz:Z0z ns root = 0):PutIs cs ns root.toNat (putF cs ns root):=by
 obtain ⟨o1,o2,hGO,hnm,r0,r1⟩:=Z77 hz
 have hr:root.toNat < ns.length:=by omega
 obtain ⟨hGL,hL1,hL2⟩:=Zag (r:=root.toNat) hGO hr
 have hll:=Zlg hGO hr
 have hnL:=Znj (P:=fun x => Z1y x = true) hGO hr hnm
 have hfl:=Zj5 cs (Z0v ns root.toNat)
 obtain ⟨v,hv,hvs⟩:=Zds hG.ok.toHOk hGL (i:=0) (by omega)
 have hP:putF cs ns root = if 0 ≤ v then ((v,(0:Int),cs):Int × Int × List CV) else match Z3f (Z0v ns root.toNat) (Z1x cs (Z0v ns root.toNat)) cs (Z0v ns root.toNat).length with
  | none => ((0:Int),(12:Int),cs)
  | some (c,f) => ((f[0]?).getD (0:Int),(0:Int),Z22 (Z0v ns root.toNat) (Z1x cs (Z0v ns root.toNat)) f c (Z0v ns root.toNat).length):=by
  unfold putF
  rw [if_neg (by simpa using hz),hv]
  simp only [Option.getD_some] <;> rfl
 rw [hP]
 rw [hll] at hvs
 rcases hvs with ⟨rfl,hno⟩ | ⟨a,rfl,h1,h2,h3⟩
 ·rw [if_neg (by decide)]
  cases hal:Z3f (Z0v ns root.toNat) (Z1x cs (Z0v ns root.toNat)) cs (Z0v ns root.toNat).length with
  | none => exact .full rfl hno (Zik hG hfl hnL _ (Nat.le_refl _) hal)
  | some x =>
   obtain ⟨c,f⟩:=x
   have H:=Zhk hG hfl hnL _ (Nat.le_refl _) c f hal
   have hp:=Zyp hG hGL hnL H
   obtain ⟨a,g1,g2,g3⟩:=hp.at' 0 (by omega)
   rw [hll] at g3
   refine .fresh a f _ ?_ hp g1 g2 g3 hno ?_
   ·simp only
    rw [g1]
    rfl
   ·rw [Zdq]
    exact Zdi _ c f hal
 ·rw [if_pos (by omega)]
  exact .there a rfl h1 h2 h3
theorem Zw4 {cs:List CV} {ns:List ND} {root:Int} (hz:Z0z ns root ≠ 0):putF cs ns root = (0,Z0z ns root,cs):=by
 unfold putF
 rw [if_pos hz]
theorem Zzc {cs:List CV} (hG:HG cs) (ns:List ND) (root:Int):Grown cs (putF cs ns root).2.2:=by
 by_cases hz:Z0z ns root = 0
 ·rcases Zlw hG hz with ⟨h,_,_⟩ | ⟨a,h,_,_,_⟩ | ⟨a,f,c,h,hp,_,_,_,_,_⟩
  ·rw [h]; exact Grown.refl hG
  ·rw [h]; exact Grown.refl hG
  ·rw [h]; exact hp.toGrown
 ·rw [Zw4 hz]
  exact Grown.refl hG
def Z2g (cs:List CV) (a:Nat):Int:=match cs[a]? with
 | some c => c.held
 | none => 0
theorem Z7d {cs:List CV} {a:Nat} {c:CV} (h:cs[a]? = some c):Z2g cs a = c.held:=by unfold Z2g; rw [h]
def tot:List CV→Int
 | [] => 0
 | c :: r => c.held + tot r
theorem HG.held {cs:List CV} (h:HG cs):∀ c ∈ cs,0 ≤ c.held∧c.held ≤ 1000:=by
 intro c hc
 rcases h c hc with rfl | ⟨_,_,_,_,h5⟩
 ·decide
 ·exact h5
theorem Zq8 : ∀ (l : List Int) (cs : List CV) (a : Nat), (∀ g ∈ l, 0 ≤ g) → (relC cs l)[a]? = if (a : Int) ∈ l ∧ a < cs.length then some Z37 else cs[a]?
  | [], cs, a, _ => by simp [relC]
  | g :: l, cs, a, h => by
    show (relC (cs.set g.toNat Z37) l)[a]? = _
    rw [Zq8 l _ a fun x hx => h x (by simp [hx]), List.length_set]
    have g0 := h g (by simp)
    by_cases hl : (a : Int) ∈ l ∧ a < cs.length
    · rw [if_pos hl, if_pos ⟨by simp [hl.1], hl.2⟩]
    · rw [if_neg hl, List.getElem?_set]
      by_cases e : g.toNat = a
      · rw [if_pos e]
        by_cases hal : a < cs.length
        · rw [if_pos (by omega), if_pos ⟨by have : (a : Int) = g := by omega
                                            rw [this]; simp, hal⟩]
        · rw [if_neg (by omega), if_neg (fun h => hal h.2), List.getElem?_eq_none (by omega)]
      · rw [if_neg e, if_neg]
        rintro ⟨h1, h2⟩
        rcases List.mem_cons.1 h1 with h1 | h1
        · omega
        · exact hl ⟨h1, h2⟩
theorem Zfb (cs:List CV) (i:Nat):(Z17 cs i).Nodup:=by
 unfold Z17
 exact List.Nodup.sublist (List.filter_sublist) List.nodup_range
def Z5y (cs:List CV):Prop:=∀ a b:Nat,Z06 cs (a:Int) = true→Z06 cs (b:Int) = true→lb cs a = lb cs b→a = b
theorem Zbw {cs:List CV} (hO:HOk2 cs):Closed (Z0d cs) (Z0m cs)∧(∀ a ∈ Z0m cs,Z06 cs (a:Int) = true)∧(∀ a ∈ Z0m cs,∀ k ∈ kidN cs a,k ∈ Z0m cs)∧∀ a:Nat,Z06 cs (a:Int) = true→0 < Z2g cs a→a ∈ Z0m cs:=by
 have hr:∀ r ∈ (Z2q cs cs.length).map Int.toNat,Z06 cs (r:Int) = true:=by
  intro r hr
  obtain ⟨k,hk,rfl⟩:=List.mem_map.1 hr
  obtain ⟨h0,_,h2⟩:=Zc7 hk
  rwa [Int.toNat_of_nonneg h0]
 obtain ⟨h1,_,h3,h4⟩:=Z8w hO hr
 refine ⟨h1,h3,fun a ha k hk => ?_,fun a ha hh => h4 a ?_⟩
 ·obtain ⟨d,hd,ht,hg⟩:=Z32 (h3 a ha)
  unfold kidN at hk
  rw [Z1z hd] at hk
  obtain ⟨x,hx,rfl⟩:=List.mem_map.1 hk
  exact (h1.kids a ha _ hg).2 x hx
 ·refine List.mem_map.2 ⟨(a:Int),?_,by simp⟩
  unfold Z2q
  refine List.mem_map.2 ⟨a,List.mem_filter.2 ⟨Zge.2 ha,?_⟩,rfl⟩
  obtain ⟨d,hd,_⟩:=Z32 ha
  rw [Z7d hd] at hh
  rw [hd]
  simpa using hh
structure SweepIs (cs c:List CV):Prop where
 good:HG c
 len:c.length = cs.length
 tot:tot c ≤ tot cs
 take:∀ a:Nat,Z06 c (a:Int) = true ↔ Z06 cs (a:Int) = true∧a ∈ Z0m cs
 keep:∀ a:Nat,Z06 c (a:Int) = true→c[a]? = cs[a]?
theorem Zcu {cs:List CV} (hG:HG cs):SweepIs cs (Z3n cs).2.2:=by
 obtain ⟨r1,r2,r3,r4⟩:=Zbw hG.ok
 have hu0:∀ g ∈ Z2p cs (Z0m cs) cs.length,0 ≤ g:=fun g hg => (Zg1.1 hg).1
 have hum:∀ a:Nat,(a:Int) ∈ Z2p cs (Z0m cs) cs.length ↔ Z06 cs (a:Int) = true∧a ∉ Z0m cs:=fun a => by
  rw [Zg1]
  constructor
  ·rintro ⟨_,_,h1,h2⟩
   exact ⟨h1,by simpa using h2⟩
  ·rintro ⟨h1,h2⟩
   have:=Z2b h1
   exact ⟨by omega,by omega,h1,by simpa using h2⟩
 show SweepIs cs (relC cs (Z2p cs (Z0m cs) cs.length))
 have hget:∀ a:Nat,(Z06 cs (a:Int) = true∧a ∉ Z0m cs∧(relC cs (Z2p cs (Z0m cs) cs.length))[a]? = some Z37) ∨ (¬ (Z06 cs (a:Int) = true∧a ∉ Z0m cs)∧(relC cs (Z2p cs (Z0m cs) cs.length))[a]? = cs[a]?):=by
  intro a
  rw [Zq8 _ _ a hu0]
  by_cases hb:Z06 cs (a:Int) = true∧a ∉ Z0m cs
  ·left
   exact ⟨hb.1,hb.2,by rw [if_pos ⟨(hum a).2 hb,Z2b hb.1⟩]⟩
  ·right
   exact ⟨hb,by rw [if_neg (fun hm => hb ((hum a).1 hm.1))]⟩
 have hlen:(relC cs (Z2p cs (Z0m cs) cs.length)).length = cs.length:=Zia _ _
 generalize relC cs (Z2p cs (Z0m cs) cs.length) = c at hget hlen
 have htake:∀ a:Nat,Z06 c (a:Int) = true ↔ Z06 cs (a:Int) = true∧a ∈ Z0m cs:=by
  intro a
  rcases hget a with ⟨h1,h2,h3⟩ | ⟨h1,h2⟩
  ·rw [Z1g h3]
   simp [Z37,h2]
  ·have e:Z06 c (a:Int) = Z06 cs (a:Int):=by unfold Z06; simp [h2]
   rw [e]
   exact ⟨fun h => ⟨h,Classical.byContradiction fun hn => h1 ⟨h,hn⟩⟩,fun h => h.1⟩
 have hkeep:∀ a:Nat,Z06 c (a:Int) = true→c[a]? = cs[a]?:=by
  intro a ha
  rcases hget a with ⟨h1,h2,h3⟩ | ⟨h1,h2⟩
  ·exact (h2 ((htake a).1 ha).2).elim
  ·exact h2
 refine ⟨fun x hx => ?_,hlen,?_,htake,hkeep⟩
 ·obtain ⟨a,hxa⟩:=List.getElem?_of_mem hx
  cases ht:Z06 c (a:Int) with
  | false =>
   rcases hget a with ⟨_,_,h3⟩ | ⟨_,h2⟩
   ·rw [hxa] at h3
    exact .inl (Option.some.inj h3)
   ·rw [h2] at hxa
    rw [Z1g (h2.trans hxa)] at ht
    rcases hG x (List.mem_of_getElem? hxa) with h | ⟨h,_⟩
    ·exact .inl h
    ·rw [ht] at h; cases h
  | true =>
   obtain ⟨h1,h2⟩:=(htake a).1 ht
   rw [hkeep a ht] at hxa
   rcases hG x (List.mem_of_getElem? hxa) with h | ⟨g1,g2,g3,g4⟩
   ·exact .inl h
   ·refine .inr ⟨g1,g2,fun k hk => ?_,g4⟩
    obtain ⟨k1,k0⟩:=Z8o hG.ok.toHOk hxa g1 hk
    have hkr:k.toNat ∈ Z0m cs:=r3 a h2 _ (by unfold kidN; rw [Z1z hxa]; exact List.mem_map.2 ⟨k,hk,rfl⟩)
    have:=(htake k.toNat).2 ⟨k1,hkr⟩
    rwa [Int.toNat_of_nonneg k0] at this
 ·have hle:∀ a,a < c.length→Z2g c a ≤ Z2g cs a:=by
   intro a ha
   rcases hget a with ⟨_,_,h3⟩ | ⟨_,h2⟩
   ·have hd:cs[a]? = some (cs[a]'(by rw [← hlen]; exact ha)):=List.getElem?_eq_getElem _
    rw [Z7d h3,Z7d hd]
    exact (hG.held _ (List.getElem_mem _)).1
   ·unfold Z2g
    rw [h2]
    exact Int.le_refl _
  have:∀ (l m:List CV),l.length = m.length→(∀ a,a < l.length→Z2g l a ≤ Z2g m a)→Go.Proofs.tot l ≤ Go.Proofs.tot m:=by
   intro l
   induction l with
   | nil =>
    intro m hl _
    cases m with
    | nil => exact Int.le_refl _
    | cons _ _ => simp at hl
   | cons x l ih =>
    intro m hl h
    cases m with
    | nil => simp at hl
    | cons y m =>
     have h0:=h 0 (by simp)
     have:=ih m (by simpa using hl) (fun a ha => by
      have:=h (a + 1) (by simpa using ha)
      simpa [Z2g] using this)
     simp [Z2g] at h0
     simp only [Go.Proofs.tot]
     omega
  exact this c cs hlen hle
theorem SweepIs.lab {cs c:List CV} (hG:HG cs) (h:SweepIs cs c) {a:Nat} (ha:Z06 c (a:Int) = true):lb c a = lb cs a:=by
 refine Z7s (R:=fun x y => x = y∧Z06 c (y:Int) = true) ?_ ⟨rfl,ha⟩
 rintro x y ⟨rfl,hx⟩
 obtain ⟨d,h1,h2,h3⟩:=Z32 hx
 have h4:(Z0d cs)[x]? = some (d.name,d.kids):=by
  rw [Z2k ((h.keep x hx).symm.trans h1),if_pos h2]
 refine ⟨_,_,h3,h4,rfl,rfl,fun j k m hk hm => ?_⟩
 rw [hk] at hm
 cases hm
 exact ⟨rfl,(Z8o h.good.ok.toHOk h1 h2 (List.mem_of_getElem? hk)).1⟩
theorem SweepIs.held {cs c:List CV} (hG:HG cs) (h:SweepIs cs c) {a:Nat} (ha:Z06 cs (a:Int) = true) (hh:0 < Z2g cs a):Z06 c (a:Int) = true∧Z2g c a = Z2g cs a:=by
 obtain ⟨_,_,_,r4⟩:=Zbw hG.ok
 have ht:=(h.take a).2 ⟨ha,r4 a ha hh⟩
 refine ⟨ht,?_⟩
 unfold Z2g
 rw [h.keep a ht]
theorem Zht {cs:List CV} (h:HOk cs):GrOk (Z0d cs):=by
 intro nd hnd
 obtain ⟨a,ha⟩:=List.getElem?_of_mem hnd
 exact h.Zdu a nd ha
theorem Zjc {cs:List CV} (h:HOk2 cs) {i:Nat} (hi:Z06 cs (i:Int) = true):Z44 cs i = Z0v (Z0d cs) i :=
 Zmh h (Zht h.toHOk) hi (by rw [Z10]; exact Z2b hi) rfl
theorem Zrd {cs:List CV} (h:HOk2 cs) {i:Nat} (hi:Z06 cs (i:Int) = true):lab (Z44 cs i) 0 = lb cs i:=by
 rw [Zjc h hi]
 exact Zlg (Zht h.toHOk) (by rw [Z10]; exact Z2b hi)
theorem Zf9 {cs:List CV} (h:HG cs) (hl:cs.length ≤ 60) {i:Nat} (hi:Z06 cs (i:Int) = true):GrOk (Z44 cs i)∧1 ≤ (Z44 cs i).length∧(Z44 cs i).length ≤ 60∧∀ nd ∈ Z44 cs i,Z1y nd.1 = true:=by
 have hO:=h.ok
 have hlt:=Z2b hi
 obtain ⟨h1,h2,h3⟩:=Zag (Zht hO.toHOk) (r:=i) (by rw [Z10]; exact hlt)
 rw [← Zjc hO hi] at h1 h2 h3
 rw [Z10] at h3
 refine ⟨h1,h2,by omega,fun nd hnd => ?_⟩
 unfold Z44 at hnd
 obtain ⟨a,x,ha,hx,rfl⟩:=Ze6 hnd
 obtain ⟨_,_,h6,_⟩:=Z8w hO (roots:=[i]) (by simpa using hi)
 obtain ⟨d,hd,ht,hg⟩:=Z32 (h6 a ha)
 rw [hg] at hx
 cases hx
 rcases h d (List.mem_of_getElem? hd) with e | ⟨_,_,_,e,_⟩
 ·rw [e] at ht; cases ht
 ·exact e
theorem Zn0 {ns:List ND} {root:Int} (h1:GrOk ns) (h2:1 ≤ ns.length) (h3:ns.length ≤ 60) (h4:∀ nd ∈ ns,Z1y nd.1 = true) (h5:0 ≤ root) (h6:root < ns.length):Z0z ns root = 0:=by
 unfold Z0z
 have e1:(ns.all fun nd => decide (nd.2.length ≤ 4)) = true:=by
  rw [List.all_eq_true]
  intro nd hnd
  simpa using (h1 nd hnd).1
 have e2:(ns.all fun nd => Z1y nd.1) = true:=by
  rw [List.all_eq_true]
  exact h4
 have e3:(ns.all fun nd => nd.2.all fun k => decide (0 ≤ k) && decide (k < ns.length)) = true:=by
  rw [List.all_eq_true]
  intro nd hnd
  rw [List.all_eq_true]
  intro k hk
  have:=(h1 nd hnd).2 k hk
  simp [this.1,this.2]
 rw [if_neg (by
  intro h
  rcases h with h | h | h
  ·omega
  ·omega
  ·rw [e1] at h; cases h),if_neg (by rw [e2]; decide),if_neg (by
  intro h
  rcases h with h | h
  ·simp at h
   omega
  ·rw [e3] at h; cases h)]
theorem Zyt {cs:List CV} (h:HG cs) (hl:cs.length ≤ 60) {i:Nat} (hi:Z06 cs (i:Int) = true):getF cs (i:Int) = (0,Z44 cs i):=by
 obtain ⟨_,_,h3,_⟩:=Zf9 h hl hi
 unfold getF
 rw [if_neg (by rw [hi]; decide),if_neg (by rw [Int.toNat_natCast]; omega),Int.toNat_natCast]
theorem Zmg {ns:List ND} (h:GrOk ns) {r:Nat} (hr:r < ns.length) {i j:Nat} (hi:i < (Z0v ns r).length) (hj:j < (Z0v ns r).length) (e:lab (Z0v ns r) i = lab (Z0v ns r) j):i = j:=by
 obtain ⟨hC,hnd,hlt,hroot⟩:=Z7c h (roots:=[r]) (by simpa using hr)
 have hL:Z0v ns r = canD (dd ((bfsF (kidG ns) ns.length [r]).map (lab ns))):=Zd9 hC
 generalize bfsF (kidG ns) ns.length [r] = L at hC hlt hL
 rw [hL] at hi hj e
 generalize hD:dd (L.map (lab ns)) = D at hi hj e
 have hnod:D.Nodup:=by rw [← hD]; exact Zn6 _
 have key:∀ i,i < D.length→∀ b,D[i]? = some b→lab (canD D) i = b:=by
  intro i hi b hb
  have hmem:b ∈ L.map (lab ns):=by rw [← Zaj,hD]; exact List.mem_of_getElem? hb
  obtain ⟨y,hy,rfl⟩:=List.mem_map.1 hmem
  refine Z7s (R:=fun x y => D[x]? = some (lab ns y)∧y ∈ L) ?_ ⟨hb,hy⟩
  rintro x y ⟨hx,hy⟩
  have hg:ns[y]? = some (ns[y]'(hC.lt y hy)):=List.getElem?_eq_getElem _
  refine ⟨canN D (lab ns y),_,by unfold canD; rw [List.getElem?_map,hx]; rfl,hg,by unfold canN; rw [Zah hg],by unfold canN; rw [Z6a hg]; simp,fun j k m hk hm => ?_⟩
  have hmL:=(hC.kids y hy _ hg).2 m (List.mem_of_getElem? hm)
  unfold canN at hk
  simp only at hk
  rw [Z6a hg,List.map_map,List.getElem?_map,hm] at hk
  simp only [Option.map_some,Option.some.injEq,Function.comp] at hk
  rw [← hk,Int.toNat_natCast]
  refine ⟨Zhu ?_,hmL⟩
  rw [← hD]
  exact Zaj.2 (List.mem_map.2 ⟨m.toNat,hmL,rfl⟩)
 have hi':i < D.length:=by simpa [canD] using hi
 have hj':j < D.length:=by simpa [canD] using hj
 rw [key i hi' _ (List.getElem?_eq_getElem hi'),key j hj' _ (List.getElem?_eq_getElem hj')] at e
 exact (List.getElem_inj hnod).1 e
theorem PutOk.tight {cs c:List CV} {ns:List ND} {r:Nat} {f:List Int} (hG:HG cs) (hN:GrOk ns) (hr:r < ns.length) (ht:Z5y cs) (hp:PutOk cs (Z0v ns r) (Z1x cs (Z0v ns r)) f c):Z5y c:=by
 obtain ⟨hGL,_⟩:=Zag hN hr
 have hnew:∀ a:Nat,Z06 c (a:Int) = true→(Z06 cs (a:Int) = true∧lb c a = lb cs a) ∨ ∃ j,j < (Z0v ns r).length∧f[j]? = some (a:Int)∧lb c a = lab (Z0v ns r) j∧∀ b:Nat,Z06 cs (b:Int) = true→lb cs b ≠ lab (Z0v ns r) j:=by
  intro a ha
  rcases hp.only a ha with h | ⟨j,h1,h2,h3⟩
  ·exact .inl ⟨h,hp.toGrown.lab hG.ok.toHOk h⟩
  ·right
   obtain ⟨a',g1,g2,g3⟩:=hp.at' j h1
   rw [h3] at g1
   have haa:a = a':=by
    injection g1 with g1
    omega
   subst haa
   obtain ⟨v,hv,hvs⟩:=Zds hG.ok.toHOk hGL h1
   rw [hv] at h2
   simp only [Option.getD_some] at h2
   rcases hvs with ⟨_,hno⟩ | ⟨x,rfl,_⟩
   ·exact ⟨j,h1,h3,g3,hno⟩
   ·omega
 intro a b ha hb e
 rcases hnew a ha with ⟨h1,h2⟩ | ⟨j,h1,h2,h3,h4⟩
 ·rcases hnew b hb with ⟨g1,g2⟩ | ⟨j',g1,g2,g3,g4⟩
  ·exact ht a b h1 g1 (by rw [← h2,← g2,e])
  ·exact (g4 a h1 (by rw [← h2,e,g3])).elim
 ·rcases hnew b hb with ⟨g1,g2⟩ | ⟨j',g1,g2,g3,g4⟩
  ·exact (h4 b g1 (by rw [← g2,← e,h3])).elim
  ·have:=Zmg hN hr h1 g1 (by rw [← h3,e,g3])
   subst this
   rw [h2] at g2
   injection g2 with g2
   omega
structure Dbl (ns:List ND) (root:Int) (ns2:List ND) (root2:Int):Prop where
 len:ns2.length = 2 * ns.length
 node:∀ (a:Nat) (x:ND),ns2[a]? = some x→∃ (i:Nat) (y:ND),ns[i]? = some y∧x.1 = y.1∧x.2.length = y.2.length
 rel:∃ R:Nat→Nat→Prop,(∀ a b,R a b→∃ x y,ns2[a]? = some x∧ns[b]? = some y∧x.1 = y.1∧x.2.length = y.2.length∧∀ (j:Nat) (k m:Int),x.2[j]? = some k→y.2[j]? = some m→R k.toNat m.toNat)∧R root2.toNat root.toNat
 kids:∀ (a:Nat) (x:ND),ns2[a]? = some x→∀ k ∈ x.2,0 ≤ k∧k < ns2.length
 root0:0 ≤ root2
 rootl:root2 < ns2.length
def Zc0 (o:Nat) (nd:ND):ND:=(nd.1,nd.2.map fun k => (o:Int) + k)
def Zgb (x:List ND × List Int) (t:TV):List ND × List Int:=(x.1 ++ t.1.map (Zc0 x.1.length),x.2 ++ [(x.1.length:Int) + t.2])
def Z2j (ts:List TV):List ND × List Int:=ts.foldl Zgb ([],[])
theorem Zj9 (ts:List TV) (t:TV):Z2j (ts ++ [t]) = Zgb (Z2j ts) t:=by
 unfold Z2j
 rw [List.foldl_append]
 rfl
theorem Zvo {A B:List ND} (hA:GrOk A) {a:Nat} (ha:a < A.length):lab (A ++ B) a = lab A a:=by
 refine Z7s (R:=fun x y => x = y∧x < A.length) ?_ ⟨rfl,ha⟩
 rintro x y ⟨rfl,hx⟩
 have h1:(A ++ B)[x]? = some A[x]:=by rw [List.getElem?_append_left hx,List.getElem?_eq_getElem hx]
 refine ⟨_,_,h1,List.getElem?_eq_getElem hx,rfl,rfl,fun j k m hk hm => ?_⟩
 rw [hk] at hm
 cases hm
 have:=(hA _ (List.getElem_mem hx)).2 k (List.mem_of_getElem? hk)
 exact ⟨rfl,by omega⟩
theorem Zty {A B:List ND} (hB:GrOk B) {b:Nat} (hb:b < B.length):lab (A ++ B.map (Zc0 A.length)) (A.length + b) = lab B b:=by
 refine Z7s (R:=fun x y => x = A.length + y∧y < B.length) ?_ ⟨rfl,hb⟩
 rintro x y ⟨rfl,hy⟩
 have h1:(A ++ B.map (Zc0 A.length))[A.length + y]? = some (Zc0 A.length B[y]):=by
  rw [List.getElem?_append_right (by omega),Nat.add_sub_cancel_left,List.getElem?_map,List.getElem?_eq_getElem hy]
  rfl
 refine ⟨_,_,h1,List.getElem?_eq_getElem hy,rfl,by simp [Zc0],fun j k m hk hm => ?_⟩
 unfold Zc0 at hk
 simp only [List.getElem?_map,hm,Option.map_some,Option.some.injEq] at hk
 have:=(hB _ (List.getElem_mem hy)).2 m (List.mem_of_getElem? hm)
 omega
def TOk (t:TV):Prop:=GrOk t.1∧(∀ nd ∈ t.1,Z1y nd.1 = true)∧0 ≤ t.2∧t.2 < t.1.length
theorem TOk.check {t:TV} (h:Z0z t.1 t.2 = 0):TOk t:=by
 obtain ⟨_,_,h1,h2,h3,h4⟩:=Z77 h
 exact ⟨h1,h2,h3,h4⟩
def sumL (ts:List TV):Nat:=ts.foldl (fun n t => n + t.1.length) 0
theorem Zar (ts:List TV) (t:TV):sumL (ts ++ [t]) = sumL ts + t.1.length:=by
 unfold sumL
 rw [List.foldl_append]
 rfl
theorem Zdw (ts:List TV):(∀ t ∈ ts,TOk t)→GrOk (Z2j ts).1∧(∀ nd ∈ (Z2j ts).1,Z1y nd.1 = true)∧(Z2j ts).1.length = sumL ts∧(Z2j ts).2.length = ts.length ∧
  ∀ (i:Nat) (t:TV),ts[i]? = some t→∃ r:Nat,(Z2j ts).2[i]? = some (r:Int)∧r < (Z2j ts).1.length∧lab (Z2j ts).1 r = lab t.1 t.2.toNat:=by
 induction ts using Z7z with
 | nil =>
  intro _
  exact ⟨fun nd h => (by cases h),fun nd h => (by cases h),rfl,rfl,fun i t h => (by simp at h)⟩
 | append_singleton ts t ih =>
  intro h
  obtain ⟨h1,h2,h3,h4,h5⟩:=ih fun x hx => h x (by simp [hx])
  obtain ⟨t1,t2,t3,t4⟩:=h t (by simp)
  rw [Zj9,Zar]
  generalize Z2j ts = X at h1 h2 h3 h4 h5
  have hl:(Zgb X t).1.length = X.1.length + t.1.length:=by simp [Zgb]
  refine ⟨?_,?_,by rw [hl]; omega,by simp [Zgb,h4],fun i u hu => ?_⟩
  ·intro nd hnd
   rcases List.mem_append.1 hnd with hnd | hnd
   ·obtain ⟨g1,g2⟩:=h1 nd hnd
    exact ⟨g1,fun k hk => by have:=g2 k hk; rw [hl]; omega⟩
   ·obtain ⟨nd',hnd',rfl⟩:=List.mem_map.1 hnd
    obtain ⟨g1,g2⟩:=t1 nd' hnd'
    refine ⟨by simpa [Zc0] using g1,fun k hk => ?_⟩
    obtain ⟨k',hk',rfl⟩:=List.mem_map.1 hk
    have:=g2 k' hk'
    rw [hl]
    omega
  ·intro nd hnd
   rcases List.mem_append.1 hnd with hnd | hnd
   ·exact h2 nd hnd
   ·obtain ⟨nd',hnd',rfl⟩:=List.mem_map.1 hnd
    exact t2 nd' hnd'
  ·by_cases hi:i < ts.length
   ·rw [List.getElem?_append_left hi] at hu
    obtain ⟨r,g1,g2,g3⟩:=h5 i u hu
    refine ⟨r,?_,by omega,?_⟩
    ·show (X.2 ++ [_])[i]? = _
     rw [List.getElem?_append_left (by omega)]
     exact g1
    ·rw [← g3]
     exact Zvo h1 g2
   ·rw [List.getElem?_append_right (by omega)] at hu
    have hi0:i - ts.length = 0:=by
     have:=(List.getElem?_eq_some_iff.1 hu).1
     simp at this
     omega
    rw [hi0] at hu
    simp at hu
    subst hu
    refine ⟨X.1.length + t.2.toNat,?_,by omega,Zty t1 (by omega)⟩
    show (X.2 ++ [_])[i]? = _
    rw [List.getElem?_append_right (by omega),show i - X.2.length = 0 by omega]
    simp
    omega
section
open Classical
theorem Z3r {β:Type}:∀ {l m:List β},l.Nodup→(∀ x ∈ l,x ∈ m)→l.length ≤ m.length
 | [],_,_,_ => by simp
 | x :: l,m,hn,hs => by
  obtain ⟨h1,h2⟩:=List.nodup_cons.1 hn
  have hx:=hs x (by simp)
  have:=Z3r (l:=l) (m:=m.erase x) h2 fun y hy => (List.mem_erase_of_ne (by rintro rfl; exact h1 hy)).2 (hs y (by simp [hy]))
  rw [List.length_erase_of_mem hx] at this
  have:=List.length_pos_of_mem hx
  simp
  omega
end
theorem Z98 (cs:List CV):Z15 cs = (Z17 cs cs.length).length:=by
 have key:∀ i,i ≤ cs.length→(Z17 cs i).length = (cs.take i).countP fun c => c.taken:=by
  intro i
  induction i with
  | zero => intro _; rfl
  | succ i ih =>
   intro hi
   have hil:i < cs.length:=by omega
   have:=ih (by omega)
   unfold Z17 at this ⊢
   rw [List.range_succ,List.filter_append,List.length_append,this,List.take_add_one,List.getElem?_eq_getElem hil,List.countP_append]
   congr 1
   rw [List.filter_cons,List.filter_nil]
   rw [Z1g (List.getElem?_eq_getElem hil)]
   cases h:cs[i].taken <;> simp [h]
 rw [key cs.length (Nat.le_refl _),List.take_length]
 rfl
theorem Zbz {cs:List CV} (hG:HG cs):(Z0m cs).Nodup∧(∀ a ∈ Z0m cs,Z06 cs (a:Int) = true)∧(∀ a ∈ Z0m cs,∀ k ∈ kidN cs a,k ∈ Z0m cs)∧(∀ a:Nat,Z06 cs (a:Int) = true→0 < Z2g cs a→a ∈ Z0m cs) ∧
  ∀ P:Nat→Prop,(∀ a:Nat,Z06 cs (a:Int) = true→P a→∀ k ∈ kidN cs a,P k)→(∀ a:Nat,Z06 cs (a:Int) = true→0 < Z2g cs a→P a)→∀ a ∈ Z0m cs,P a:=by
 obtain ⟨h1,h2,h3,h4⟩:=Zbw hG.ok
 have hr:∀ r ∈ (Z2q cs cs.length).map Int.toNat,Z06 cs (r:Int) = true:=by
  intro r hr
  obtain ⟨k,hk,rfl⟩:=List.mem_map.1 hr
  obtain ⟨h0,_,h2⟩:=Zc7 hk
  rwa [Int.toNat_of_nonneg h0]
 obtain ⟨_,g2,_,_⟩:=Z8w hG.ok hr
 have hKt:∀ a:Nat,Z06 cs (a:Int) = true→∀ k ∈ kidN cs a,Z06 cs (k:Int) = true:=by
  intro a ha k hk
  obtain ⟨d,hd,ht,_⟩:=Z32 ha
  unfold kidN at hk
  rw [Z1z hd] at hk
  obtain ⟨x,hx,rfl⟩:=List.mem_map.1 hk
  exact (Z8o hG.ok.toHOk hd ht hx).1
 have hall:∀ (P:Nat→Prop),(∀ a,P a→∀ k ∈ kidN cs a,P k)→(∀ r ∈ (Z2q cs cs.length).map Int.toNat,P r)→∀ a ∈ Z0m cs,P a:=by
  intro P hP hr'
  have key:∀ (roots v:List Nat),(∀ a ∈ v,P a)→(∀ r ∈ roots,P r)→∀ a ∈ roots.foldl (fun v r => runB (kidN cs) (cs.length + 1 - v.length) (addN v r) v.length) v,P a:=by
   intro roots
   induction roots with
   | nil => intro v h _; exact h
   | cons r roots ih =>
    intro v h h'
    refine ih _ (Zib hP _ _ _ ?_) fun x hx => h' x (by simp [hx])
    intro a ha
    unfold addN at ha
    split at ha
    ·exact h a ha
    ·rcases List.mem_append.1 ha with ha | ha
     ·exact h a ha
     ·simp at ha
      rw [ha]
      exact h' r (by simp)
  exact key _ [] (by simp) hr'
 refine ⟨g2,h2,h3,h4,fun P hP hr' a ha => ?_⟩
 refine (hall (fun a => Z06 cs (a:Int) = true∧P a) (fun a h k hk => ⟨hKt a h.1 k hk,hP a h.1 h.2 k hk⟩) (fun r hr2 => ?_) a ha).2
 refine ⟨hr r hr2,hr' r (hr r hr2) ?_⟩
 obtain ⟨k,hk,rfl⟩:=List.mem_map.1 hr2
 unfold Z2q at hk
 obtain ⟨y,hy,rfl⟩:=List.mem_map.1 hk
 obtain ⟨_,hy2⟩:=List.mem_filter.1 hy
 rw [Int.toNat_natCast]
 unfold Z2g
 cases hc:cs[y]? with
 | none => rw [hc] at hy2; cases hy2
 | some c => rw [hc] at hy2; simpa using hy2
theorem Zjt {cs:List CV} (hG:HG cs):Z15 (Z3n cs).2.2 = (Z0m cs).length∧(Z3n cs).1 = ((Z15 cs - (Z0m cs).length:Nat):Int)∧(Z0m cs).length ≤ Z15 cs:=by
 have hS:=Zcu hG
 obtain ⟨r1,r2,_,_⟩:=Zbz hG
 have hmem:∀ a,a ∈ Z17 (Z3n cs).2.2 (Z3n cs).2.2.length ↔ a ∈ Z0m cs:=fun a => by
  rw [Zge,hS.take]
  exact ⟨fun h => h.2,fun h => ⟨r2 a h,h⟩⟩
 have hle:(Z0m cs).length ≤ Z15 cs:=by
  rw [Z98]
  exact Z3r r1 fun a ha => Zge.2 (r2 a ha)
 refine ⟨?_,?_,hle⟩
 ·rw [Z98]
  exact Nat.le_antisymm (Z3r (Zfb _ _) fun a ha => (hmem a).1 ha) (Z3r r1 fun a ha => (hmem a).2 ha)
 ·have hsplit:(Z2p cs (Z0m cs) cs.length).length + (Z0m cs).length = Z15 cs:=by
   rw [Z98]
   have e1:(Z2p cs (Z0m cs) cs.length).length = ((Z17 cs cs.length).filter fun j => decide (j ∉ Z0m cs)).length:=by simp [Z2p]
   have e2:(Z0m cs).length = ((Z17 cs cs.length).filter fun j => !decide (j ∉ Z0m cs)).length:=by
    refine Nat.le_antisymm (Z3r r1 fun a ha => ?_) (Z3r ((Zfb cs cs.length).sublist List.filter_sublist) fun a ha => ?_)
    ·exact List.mem_filter.2 ⟨Zge.2 (r2 a ha),by simpa using ha⟩
    ·have:=(List.mem_filter.1 ha).2
     simpa using this
   rw [e1,e2,← List.countP_eq_length_filter,← List.countP_eq_length_filter]
   exact (List.length_eq_countP_add_countP (fun j => decide (j ∉ Z0m cs)) (l:=Z17 cs cs.length)).symm ▸ by simp
  show (((Z2p cs (Z0m cs) cs.length).length:Nat):Int) = _
  omega
theorem Zpj {cs:List CV} {nds:List ND} {roots:List Nat} (hG:HG cs) (hT:Z5y cs) (hO:GrOk nds) (hr:∀ r ∈ roots,r < nds.length)
  (h1:∀ a:Nat,Z06 cs (a:Int) = true→0 < Z2g cs a→∃ r ∈ roots,lb cs a = lab nds r) (h2:∀ r ∈ roots,∃ a:Nat,Z06 cs (a:Int) = true∧0 < Z2g cs a∧lb cs a = lab nds r) :
  (Z0m cs).length = (outF (clsF nds (bfsF (kidG nds) nds.length roots)) nds (bfsF (kidG nds) nds.length roots)).length:=by
 obtain ⟨hC,hnd,hlt,hroot⟩:=Z7c hO hr
 obtain ⟨_,_,_,_,hmin⟩:=Zdm (K:=kidG nds) (n:=nds.length) (fun a ha k hk => GrOk.Z9k hO a ha k hk) roots hr
 obtain ⟨r1,r2,r3,r4,r5⟩:=Zbz hG
 rw [Zd9 hC]
 unfold canD
 rw [List.length_map]
 generalize bfsF (kidG nds) nds.length roots = L at hC hnd hlt hroot hmin
 have hin:∀ a ∈ Z0m cs,lb cs a ∈ L.map (lab nds):=by
  refine r5 (fun a => lb cs a ∈ L.map (lab nds)) (fun a ht ha k hk => ?_) fun a ht hh => ?_
  ·obtain ⟨y,hy,e⟩:=List.mem_map.1 ha
   obtain ⟨d,hd,htk,hg⟩:=Z32 ht
   have hyl:=hlt y hy
   have hy':nds[y]? = some nds[y]:=List.getElem?_eq_getElem hyl
   unfold kidN at hk
   rw [Z1z hd] at hk
   obtain ⟨x,hx,rfl⟩:=List.mem_map.1 hk
   obtain ⟨j,hj,hjx⟩:=List.getElem_of_mem hx
   obtain ⟨_,l2,l3⟩:=Zdy hg hy' (show lab (Z0d cs) a = lab nds y from e.symm)
   have hj2:j < nds[y].2.length:=by rw [← l2]; exact hj
   have:=l3 j x nds[y].2[j] (by rw [← hjx]; exact List.getElem?_eq_getElem hj) (List.getElem?_eq_getElem hj2)
   exact List.mem_map.2 ⟨_,(hC.kids y hy _ hy').2 _ (List.getElem_mem hj2),this.symm⟩
  ·obtain ⟨r,hr',e⟩:=h1 a ht hh
   exact List.mem_map.2 ⟨r,hroot r hr',e.symm⟩
 have hout:∀ y ∈ L,∃ a ∈ Z0m cs,lb cs a = lab nds y:=by
  have:=hmin (fun y => y < nds.length∧∃ a ∈ Z0m cs,lb cs a = lab nds y) (fun y hy k hk => ?_) fun r hr' => ?_
  ·exact fun y hy => (this y hy).2
  ·obtain ⟨hyl,a,ha,e⟩:=hy
   obtain ⟨d,hd,htk,hg⟩:=Z32 (r2 a ha)
   have hy':nds[y]? = some nds[y]:=List.getElem?_eq_getElem hyl
   have hk':=hk
   rw [Zbx hy'] at hk'
   obtain ⟨x,hx,rfl⟩:=List.mem_map.1 hk'
   obtain ⟨j,hj,hjx⟩:=List.getElem_of_mem hx
   obtain ⟨_,l2,l3⟩:=Zdy hg hy' (show lab (Z0d cs) a = lab nds y from e)
   have hj2:j < d.kids.length:=by
    have:d.kids.length = nds[y].2.length:=l2
    omega
   have hl:=l3 j d.kids[j] x (List.getElem?_eq_getElem hj2) (by rw [← hjx]; exact List.getElem?_eq_getElem hj)
   refine ⟨GrOk.Z9k hO y hyl _ hk,d.kids[j].toNat,r3 a ha _ ?_,hl⟩
   unfold kidN
   rw [Z1z hd]
   exact List.mem_map.2 ⟨_,List.getElem_mem hj2,rfl⟩
  ·obtain ⟨a,ha,hh,e⟩:=h2 r hr'
   exact ⟨hr r hr',a,r4 a ha hh,e⟩
 have hn:((Z0m cs).map (lb cs)).Nodup:=by
  rw [List.Nodup,List.pairwise_map]
  refine List.Pairwise.imp_of_mem ?_ r1
  intro a b ha hb hne e
  exact hne (hT a b (r2 a ha) (r2 b hb) e)
 have e1:(Z0m cs).length = ((Z0m cs).map (lb cs)).length:=by simp
 rw [e1]
 refine Nat.le_antisymm (Z3r hn fun x hx => ?_) (Z3r (Zn6 _) fun x hx => ?_)
 ·obtain ⟨a,ha,rfl⟩:=List.mem_map.1 hx
  exact Zaj.2 (hin a ha)
 ·obtain ⟨y,hy,rfl⟩:=List.mem_map.1 (Zaj.1 hx)
  obtain ⟨a,ha,e⟩:=hout y hy
  exact List.mem_map.2 ⟨a,ha,e⟩
end Go.Proofs
end
section
open Go Go.AM
namespace Go.Proofs
def c78_1:MCode:=.region [Yo (.int .u64 0)] [Cs 2]
def c78_4:MCode:=.region [Cm 0,Yf 0,Yc 0 0,Ya 0,Yl (Yq 0),Yh .gtr (Yq 0) (Ck 0)] [Cs 8,none,none,none,none,none]
def c78_7:MCode:=.region [Cm 0,Yf 0,Yc 2 0,Ya 0,Cm 0,Yf 0,Yc 0 0,Ya 0,Cm 0,Yf 0,Yc 1 0,Ya 0,Cm 0,Yf 0,Yc 0 0,Ya 0,Yl (Yq 0),Yh .rem (Yq 5) (Yq 0),Ye 1 1 (Yq 10) (Yq 0),Ya 0,Cr (.conv (.int .u64) (Yq 0)),Cr (.bin .add .other none (Yq 0) (.cst (.int .u64 1))),Yh .add (Yq 18) (Yq 0),Yf 22,Yc 2 0,Yk 1 (Yq 0) (Yq 2)] [none,Cs 33,Cs 32,Cs 31,Cs 30,Cs 29,Cs 28,Cs 27,Cs 26,Cs 25,Cs 24,Cs 23,Cs 22,Cs 21,Cs 20,Cs 19,Cs 18,Cs 17,Cs 16,Cs 15,Cs 14,Cs 13,Cs 12,Cs 11,Cs 10,Cs 9]
def c78_8:MCode:=.region [Cm 0,Yf 0,Yc 1 0,Ya 0,Yh .add (Yq 0) (Ck 1),Yf 4,Yc 1 0,Yk 1 (Yq 0) (Yq 2)] [none,none,none,none,none,none,none,none]
def c78_6:MCode:=.seq c78_7 c78_8
def c78_5:MCode:=.cond (Cp 8) c78_6 .skip
def c78_3:MCode:=.seq c78_4 c78_5
def c78_10:MCode:=.region [Cm 0,Yf 0,Yc 2 0,Ya 0,Cm 0,Yf 0,Yc 2 0,Ya 0,Cr (.bin .shl .other none (Yq 0) (.cst (.int .u64 13))),Yh .xor (Yq 5) (Yq 0),Yf 9,Yc 2 0,Yk 1 (Yq 0) (Yq 2)] [none,Cs 52,Cs 51,Cs 50,Cs 49,Cs 48,Cs 47,Cs 46,Cs 45,Cs 44,Cs 43,Cs 42,Cs 41]
def c78_12:MCode:=.region [Cm 0,Yf 0,Yc 2 0,Ya 0,Cm 0,Yf 0,Yc 2 0,Ya 0,Cr (.bin .shr .other none (Yq 0) (.cst (.int .u64 7))),Yh .xor (Yq 5) (Yq 0),Yf 9,Yc 2 0,Yk 1 (Yq 0) (Yq 2)] [none,Cs 64,Cs 63,Cs 62,Cs 61,Cs 60,Cs 59,Cs 58,Cs 57,Cs 56,Cs 55,Cs 54,Cs 53]
def c78_14:MCode:=.region [Cm 0,Yf 0,Yc 2 0,Ya 0,Cm 0,Yf 0,Yc 2 0,Ya 0,Cr (.bin .shl .other none (Yq 0) (.cst (.int .u64 17))),Yh .xor (Yq 5) (Yq 0),Yf 9,Yc 2 0,Yk 1 (Yq 0) (Yq 2)] [none,Cs 76,Cs 75,Cs 74,Cs 73,Cs 72,Cs 71,Cs 70,Cs 69,Cs 68,Cs 67,Cs 66,Cs 65]
def c78_16:MCode:=.region [Cm 0,Yf 0,Yc 2 0,Ya 0,Cr (.bin .mul .other none (Yq 0) (.cst (.int .u64 2685821657736338717))),Cr (.bin .shr .other none (Yq 0) (.cst (.int .u64 33))),C0] [Cs 2,none,none,none,none,none,none]
def c78_15:MCode:=.seq c78_16 .ret
def c78_13:MCode:=.seq c78_14 c78_15
def c78_11:MCode:=.seq c78_12 c78_13
def c78_9:MCode:=.seq c78_10 c78_11
def c78_2:MCode:=.seq c78_3 c78_9
def c78_0:MCode:=.seq c78_1 c78_2
theorem fi78:funInfo Tryd.prog 78 = some { code:=c78_0,ntmps:=83,nargs:=1,ps:=[66,67,69,70,71,72,73,68,65,75,74,76,54,55,57,58,59,60,61,56,53,63,62,64,42,43,45,46,47,48,49,44,41,51,50,52,10,11,13,14,15,17,18,19,21,22,23,24,25,20,26,16,27,28,29,30,12,9,32,31,33,8,0,2],res:=[.tmp 2] }:=by kernel_rfl
def c33_1:MCode:=.region [Yp 0] [Cs 4]
def c33_3:MCode:=.region [Cm 0,Ym 78 [(Yq 0)],Cm 1,Cr (.mnmx true [(Ck 1),(Yq 0)]),Cr (.conv (.int .u64) (Yq 0)),Yh .rem (Yq 3) (Yq 0),Cr (.conv (.int .i64) (Yq 0)),C0] [Cs 4,none,none,none,none,none,none,none]
def c33_2:MCode:=.seq c33_3 .ret
def c33_0:MCode:=.seq c33_1 c33_2
theorem fi33:funInfo Tryd.prog 33 = some { code:=c33_0,ntmps:=12,nargs:=2,ps:=[1,0,4],res:=[.tmp 4] }:=by kernel_rfl
def c60_1:MCode:=.region [Yp 0] [Cs 6]
def c60_3:MCode:=.region [Cm 1,Cm 0,Cm 2,Cm 1,Yh .sub (Yq 1) (Yq 0),Yh .add (Yq 0) (Ck 1),Ym 33 [(Yq 4),(Yq 0)],Yh .add (Yq 6) (Yq 0),C0] [Cs 6,none,none,none,none,none,none,none,none]
def c60_2:MCode:=.seq c60_3 .ret
def c60_0:MCode:=.seq c60_1 c60_2
theorem fi60:funInfo Tryd.prog 60 = some { code:=c60_0,ntmps:=15,nargs:=3,ps:=[2,0,1,6],res:=[.tmp 6] }:=by kernel_rfl
def c26_1:MCode:=.region [Yo (.bool false)] [Cs 4]
def c26_3:MCode:=.region [Cm 0,Cm 1,Ym 33 [(Yq 1),(Yq 0)],Yh .eql (Yq 0) (Ck 0),C0] [Cs 4,none,none,none,none]
def c26_2:MCode:=.seq c26_3 .ret
def c26_0:MCode:=.seq c26_1 c26_2
theorem fi26:funInfo Tryd.prog 26 = some { code:=c26_0,ntmps:=9,nargs:=2,ps:=[1,0,4],res:=[.tmp 4] }:=by kernel_rfl
def c61_1:MCode:=.region [Cr (.alloc (some [(.str []),(.str []),(.str [])]))] [Cs 2]
def c61_3:MCode:=.region [Cr (.build (some [(0,(1,(.cst (.str [97])))),(1,(1,(.cst (.str [110,105,108])))),(2,(1,(.cst (.str [98]))))]) (some [(.str []),(.str []),(.str [])])),Cr (.build (some [(0,(1,(.cst (.str [115])))),(1,(1,(.cst (.str [117])))),(2,(1,(.cst (.str [116]))))]) (some [(.str []),(.str []),(.str [])])),Cr (.build (some [(0,(1,(.cst (.str [99,111,110,115])))),(1,(1,(.cst (.str [112])))),(2,(1,(.cst (.str [113]))))]) (some [(.str []),(.str []),(.str [])])),Cr (.build (some [(0,(3,(Yq 2))),(3,(3,(Yq 1))),(6,(3,(Yq 0)))]) (some [(.str []),(.str []),(.str []),(.str []),(.str []),(.str []),(.str []),(.str []),(.str [])])),Cm 0,Cr (.index .arr (some (3,(3,(some 3)))) (Yq 1) (Yq 0)),Yk 3 (Cp 2) (Yq 0)] [none,none,none,none,none,none,none]
def c61_2:MCode:=.seq c61_3 .ret
def c61_0:MCode:=.seq c61_1 c61_2
theorem fi61:funInfo Tryd.prog 61 = some { code:=c61_0,ntmps:=9,nargs:=1,ps:=[0,2],res:=[.cell 2 111] }:=by kernel_rfl
def c16_1:MCode:=.region [Yo .nilPtr] [Cs 2]
def c16_3:MCode:=.region [Cm 0,Cm 0,Yl (Yq 0),Cr (.conv (.int .u64) (Yq 0)),Cr (.bin .add .other none (.cst (.int .u64 11400714819323198485)) (Yq 0)),Cr (.build (some [(0,(1,(Yq 4))),(2,(1,(Yq 0)))]) (some [.nilSlice,(.int .i64 0),(.int .u64 0)])),Cr (.box (Yq 0)),C0] [Cs 2,none,none,none,none,none,none,none]
def c16_2:MCode:=.seq c16_3 .ret
def c16_0:MCode:=.seq c16_1 c16_2
theorem fi16:funInfo Tryd.prog 16 = some { code:=c16_0,ntmps:=10,nargs:=1,ps:=[0,2],res:=[.tmp 2] }:=by kernel_rfl
def c17_1:MCode:=.region [Cr (.alloc (some [.nilSlice,(.int .i64 0)]))] [Cs 4]
def c17_3:MCode:=.region [Cm 0,Cm 1,Cr (.mnmx false [(Yq 0),(Ck 60)]),Ym 60 [(Yq 2),(Ck 1),(Yq 0)],C0] [Cs 5,none,none,none,none]
def c17_5:MCode:=.region [Cm 0,Cm 5,Ym 33 [(Yq 1),(Yq 0)],Cr (.build (some [(1,(1,(Yq 0)))]) (some [.nilSlice,(.int .i64 0)])),Cr (.alloc (some [.nilSlice,(.int .i64 0)])),Yk 2 (Yq 0) (Yq 1)] [none,Cs 6,none,none,none,none]
def c17_7:MCode:=.region [Cm 0,Ym 60 [(Yq 0),(Ck 1),(Ck 3)],C0] [Cs 7,none,none]
def c17_10:MCode:=.region [Cm 5,Yp 0] [Cs 21,Cs 20]
def c17_14:MCode:=.region [Yh .lss (Cp 21) (Cp 20)] [Cs 22]
def c17_16:MCode:=.cond (Cp 22) .skip (.exit 0)
def c17_20:MCode:=.region [Cm 0,Ym 60 [(Yq 0),(Ck 0),(Ck 2)],C0] [Cs 8,none,none]
def c17_22:MCode:=.region [Cm 8,Ym 61 [(Yq 0)],Cm 0,Cm 7,Ym 33 [(Yq 1),(Yq 0)],Cr (.index .arr (some (3,(1,none))) (Yq 3) (Yq 0)),Cr (.build (some [(0,(1,(Yq 0)))]) (some [(.str []),.nilSlice])),Cr (.alloc (some [(.str []),.nilSlice])),Yk 2 (Yq 0) (Yq 1)] [none,Cs 9,none,none,none,none,none,none,none]
def c17_25:MCode:=.region [Cm 8,Yp 0] [Cs 33,Cs 32]
def c17_29:MCode:=.region [Yh .lss (Cp 33) (Cp 32)] [Cs 34]
def c17_31:MCode:=.cond (Cp 34) .skip (.exit 2)
def c17_34:MCode:=.region [Yd 1 9,Ya 0,Cm 0,Cm 5,Ym 33 [(Yq 1),(Yq 0)],.chk none (.load (some none) (Yq 4)) (some (Yq 3)),.fresh,Cr (.buildSlice (some (1,8)) (some [(.int .i64 0)]) 1 [(0,(Yq 0))]),Cr (.append (some (1,8)) (Yq 4) (Yq 0)),Yd 1 9,Yk 1 (Yq 0) (Yq 1)] [none,Cs 42,Cs 41,Cs 40,Cs 39,Cs 38,Cs 37,Cs 36,Cs 35]
def c17_33:MCode:=.block 3 c17_34
def c17_35:MCode:=.region [Yh .add (Cp 33) (Ck 1),C0] [Cs 33,none]
def c17_32:MCode:=.seq c17_33 c17_35
def c17_30:MCode:=.seq c17_31 c17_32
def c17_28:MCode:=.seq c17_29 c17_30
def c17_27:MCode:=.loop c17_28
def c17_26:MCode:=.block 2 c17_27
def Zsm:MCode:=.seq c17_25 c17_26
def c17_36:MCode:=.region [Yd 0 6,Ya 0,Yr 2 (Cp 9),Cr (.buildSlice (some (2,40)) (some [(.str []),.nilSlice]) 1 [(0,(Yq 0))]),Cr (.append (some (2,40)) (Yq 2) (Yq 0)),Yd 0 6,Yk 1 (Yq 0) (Yq 1)] [none,none,none,none,none,none,none]
def c17_23:MCode:=.seq Zsm c17_36
def c17_21:MCode:=.seq c17_22 c17_23
def c17_19:MCode:=.seq c17_20 c17_21
def c17_18:MCode:=.block 1 c17_19
def c17_37:MCode:=.region [Yh .add (Cp 21) (Ck 1),C0] [Cs 21,none]
def c17_17:MCode:=.seq c17_18 c17_37
def c17_15:MCode:=.seq c17_16 c17_17
def c17_13:MCode:=.seq c17_14 c17_15
def c17_12:MCode:=.loop c17_13
def c17_11:MCode:=.block 0 c17_12
def c17_9:MCode:=.seq c17_10 c17_11
def c17_39:MCode:=.region [Yr 2 (Cp 6),Yk 2 (Cp 4) (Yq 0)] [none,none]
def c17_38:MCode:=.seq c17_39 .ret
def c17_8:MCode:=.seq c17_9 c17_38
def c17_6:MCode:=.seq c17_7 c17_8
def c17_4:MCode:=.seq c17_5 c17_6
def c17_2:MCode:=.seq c17_3 c17_4
def c17_0:MCode:=.seq c17_1 c17_2
theorem fi17:funInfo Tryd.prog 17 = some { code:=c17_0,ntmps:=52,nargs:=2,ps:=[6,35,38,37,39,40,36,9,41,42,34,32,33,7,8,22,20,21,5,1,0,4],res:=[.cell 4 42] }:=by kernel_rfl
def c76_1:MCode:=.region [Cr (.box (Cp 0)),Yo (.bool false)] [Cs 2,Cs 1]
def c76_4:MCode:=.region [Yd 0 1,Ya 0,Yl (Yq 0),Yh .lss (Yq 0) (Ck 1),C0,Yi 0 (.fieldAddr (some 0) (Cp 1)),Yi 1 (.load (some none) (Yq 0)),Yi 2 (.len (some (.slc,0)) (Yq 0)),Yi 3 (.bin .gtr .other none (Yq 0) (Ck 60)),Cr (.pick (Yq 4) (.cst (.bool true)) (Yq 0)),C0,Yi 0 (.fieldAddr (some 1) (Cp 1)),Yi 1 (.load (some none) (Yq 0)),Yi 2 (.bin .lss .other none (Yq 0) (Ck 0)),Cr (.pick (Yq 3) (.cst (.bool true)) (Yq 0)),C0,Yi 0 (.fieldAddr (some 1) (Cp 1)),Yi 1 (.load (some none) (Yq 0)),Yi 2 (.fieldAddr (some 0) (Cp 1)),Yi 3 (.load (some none) (Yq 0)),Yi 4 (.len (some (.slc,0)) (Yq 0)),Yi 5 (.bin .geq .other none (Yq 3) (Yq 0)),Cr (.pick (Yq 6) (.cst (.bool true)) (Yq 0))] [Cs 30,none,none,none,none,none,none,none,none,none,none,none,none,none,none,none,none,none,none,none,none,none,none]
def c76_7:MCode:=.region [Yo (.bool false)] [Cs 2]
def c76_6:MCode:=.seq c76_7 .ret
def c76_5:MCode:=.cond (Cp 30) c76_6 .skip
def c76_3:MCode:=.seq c76_4 c76_5
def c76_10:MCode:=.region [Yd 0 1,Ya 0,Yl (Yq 0),Yp 0] [Cs 34,Cs 33,Cs 32,none]
def c76_14:MCode:=.region [Yh .lss (Cp 34) (Cp 33)] [Cs 35]
def c76_16:MCode:=.cond (Cp 35) .skip (.exit 0)
def c76_20:MCode:=.region [Ye 2 40 (Cp 32) (Cp 34),Yr 2 (Yq 0),Cr (.alloc (some [(.str []),.nilSlice])),Yk 2 (Yq 0) (Yq 1)] [none,Cs 4,none,none]
def c76_23:MCode:=.region [Yd 1 4,Ya 0,Yl (Yq 0),Yh .gtr (Yq 0) (Ck 4),C0,Yi 0 (.fieldAddr (some 0) (Cp 4)),Yi 1 (.load (some none) (Yq 0)),Yi 2 (.len (some (.str,0)) (Yq 0)),Yi 3 (.bin .lss .other none (Yq 0) (Ck 1)),Cr (.pick (Yq 4) (.cst (.bool true)) (Yq 0)),C0,Yi 0 (.fieldAddr (some 0) (Cp 4)),Yi 1 (.load (some none) (Yq 0)),Yi 2 (.len (some (.str,0)) (Yq 0)),Yi 3 (.bin .gtr .other none (Yq 0) (Ck 8)),Cr (.pick (Yq 4) (.cst (.bool true)) (Yq 0))] [Cs 53,none,none,none,none,none,none,none,none,none,none,none,none,none,none,none]
def c76_26:MCode:=.region [Yo (.bool false)] [Cs 2]
def c76_25:MCode:=.seq c76_26 .ret
def c76_24:MCode:=.cond (Cp 53) c76_25 .skip
def c76_22:MCode:=.seq c76_23 c76_24
def c76_29:MCode:=.region [Yd 0 4,Ya 0,Cr (.len (some (.str,0)) (Yq 0)),Yp 0] [Cs 57,Cs 56,none,none]
def c76_33:MCode:=.region [Yh .lss (Cp 57) (Cp 56)] [Cs 58]
def c76_35:MCode:=.cond (Cp 58) .skip (.exit 2)
def c76_39:MCode:=.region [Cm 57,C0] [Cs 5,none]
def c76_41:MCode:=.region [Yd 0 4,Ya 0,Cm 5,Cr (.index .str none (Yq 1) (Yq 0)),Cr (.bin .lss .other none (Yq 0) (.cst (.int .u8 97))),C0,Yi 0 (.fieldAddr (some 0) (Cp 4)),Yi 1 (.load (some none) (Yq 0)),Yi 2 (.move (Cp 5)),Yi 3 (.index .str none (Yq 1) (Yq 0)),Yi 4 (.bin .gtr .other none (Yq 0) (.cst (.int .u8 122))),Cr (.pick (Yq 5) (.cst (.bool true)) (Yq 0))] [Cs 71,none,none,none,none,none,none,none,none,none,none,none]
def c76_44:MCode:=.region [Yo (.bool false)] [Cs 2]
def c76_43:MCode:=.seq c76_44 .ret
def c76_42:MCode:=.cond (Cp 71) c76_43 .skip
def c76_40:MCode:=.seq c76_41 c76_42
def c76_38:MCode:=.seq c76_39 c76_40
def c76_37:MCode:=.block 3 c76_38
def c76_45:MCode:=.region [Yh .add (Cp 57) (Ck 1),C0] [Cs 57,none]
def c76_36:MCode:=.seq c76_37 c76_45
def c76_34:MCode:=.seq c76_35 c76_36
def c76_32:MCode:=.seq c76_33 c76_34
def c76_31:MCode:=.loop c76_32
def c76_30:MCode:=.block 2 c76_31
def Ztb:MCode:=.seq c76_29 c76_30
def c76_47:MCode:=.region [Yd 1 4,Ya 0,Yl (Yq 0),Yp 0] [Cs 76,Cs 75,Cs 74,none]
def c76_51:MCode:=.region [Yh .lss (Cp 76) (Cp 75)] [Cs 77]
def c76_53:MCode:=.cond (Cp 77) .skip (.exit 4)
def c76_57:MCode:=.region [Ye 1 8 (Cp 74) (Cp 76),Ya 0,C0] [Cs 7,none,none]
def c76_59:MCode:=.region [Cm 7,Yh .lss (Yq 0) (Ck 0),C0,Yi 0 (.move (Cp 7)),Yi 1 (.fieldAddr (some 0) (Cp 1)),Yi 2 (.load (some none) (Yq 0)),Yi 3 (.len (some (.slc,0)) (Yq 0)),Yi 4 (.bin .geq .other none (Yq 3) (Yq 0)),Cr (.pick (Yq 5) (.cst (.bool true)) (Yq 0))] [Cs 88,none,none,none,none,none,none,none,none]
def c76_62:MCode:=.region [Yo (.bool false)] [Cs 2]
def c76_61:MCode:=.seq c76_62 .ret
def c76_60:MCode:=.cond (Cp 88) c76_61 .skip
def c76_58:MCode:=.seq c76_59 c76_60
def c76_56:MCode:=.seq c76_57 c76_58
def c76_55:MCode:=.block 5 c76_56
def c76_63:MCode:=.region [Yh .add (Cp 76) (Ck 1),C0] [Cs 76,none]
def c76_54:MCode:=.seq c76_55 c76_63
def c76_52:MCode:=.seq c76_53 c76_54
def c76_50:MCode:=.seq c76_51 c76_52
def c76_49:MCode:=.loop c76_50
def c76_48:MCode:=.block 4 c76_49
def Ztc:MCode:=.seq c76_47 c76_48
def c76_27:MCode:=.seq Ztb Ztc
def c76_21:MCode:=.seq c76_22 c76_27
def c76_19:MCode:=.seq c76_20 c76_21
def c76_18:MCode:=.block 1 c76_19
def c76_64:MCode:=.region [Yh .add (Cp 34) (Ck 1),C0] [Cs 34,none]
def c76_17:MCode:=.seq c76_18 c76_64
def c76_15:MCode:=.seq c76_16 c76_17
def c76_13:MCode:=.seq c76_14 c76_15
def c76_12:MCode:=.loop c76_13
def c76_11:MCode:=.block 0 c76_12
def c76_9:MCode:=.seq c76_10 c76_11
def c76_66:MCode:=.region [Yo (.bool true)] [Cs 2]
def c76_65:MCode:=.seq c76_66 .ret
def c76_8:MCode:=.seq c76_9 c76_65
def c76_2:MCode:=.seq c76_3 c76_8
def c76_0:MCode:=.seq c76_1 c76_2
theorem fi76:funInfo Tryd.prog 76 = some { code:=c76_0,ntmps:=91,nargs:=1,ps:=[88,7,74,77,75,76,71,5,58,56,57,53,4,32,35,33,34,30,1,0,2],res:=[.tmp 2] }:=by kernel_rfl
end Go.Proofs
end
section
open Go Go.AM
namespace Go.Proofs
def c28_1:MCode:=.region [Cr (.alloc (some [.nilSlice,(.int .i64 0)])),Yo .nilSlice,Yp 0] [Cs 4,Cs 3,Cs 2]
def c28_4:MCode:=.region [Cm 0,Yl (Yq 0),Yh .lss (Yq 0) (Ck 1),C0,Yi 0 (.move (Cp 0)),Yi 1 (.len (some (.slc,0)) (Yq 0)),Yi 2 (.bin .gtr .other none (Yq 0) (Ck 12)),Cr (.pick (Yq 3) (.cst (.bool true)) (Yq 0))] [Cs 28,none,none,none,none,none,none,none]
def c28_7:MCode:=.region [Cr (.build (some []) (some [.nilSlice,(.int .i64 0)])),Yk 2 (Cp 2) (Yq 0),Yo .nilSlice,Yp 2] [Cs 4,Cs 3,none,none]
def c28_6:MCode:=.seq c28_7 .ret
def c28_5:MCode:=.cond (Cp 28) c28_6 .skip
def c28_3:MCode:=.seq c28_4 c28_5
def c28_10:MCode:=.region [Cm 0,Ym 68 [(Yq 0)],C0] [Cs 5,none,none]
def c28_12:MCode:=.region [Cm 5,Yh .neq (Yq 0) (Ck 0)] [Cs 33,none]
def c28_15:MCode:=.region [Cr (.build (some []) (some [.nilSlice,(.int .i64 0)])),Cm 5,Yk 2 (Cp 2) (Yq 1),Yo .nilSlice,Yn 2] [Cs 4,Cs 3,none,none,none]
def c28_14:MCode:=.seq c28_15 .ret
def c28_13:MCode:=.cond (Cp 33) c28_14 .skip
def c28_11:MCode:=.seq c28_12 c28_13
def c28_9:MCode:=.seq c28_10 c28_11
def c28_17:MCode:=.region [Yo .nilSlice] [Cs 6]
def c28_19:MCode:=.region [Yo .nilSlice] [Cs 7]
def c28_22:MCode:=.region [Cm 0,Yl (Yq 0),Yp 0] [Cs 38,Cs 37,Cs 36]
def c28_26:MCode:=.region [Yh .lss (Cp 38) (Cp 37)] [Cs 39]
def c28_28:MCode:=.cond (Cp 39) .skip (.exit 0)
def c28_32:MCode:=.region [Ye 2 32 (Cp 36) (Cp 38),Yr 2 (Yq 0),Cr (.alloc (some [.nilSlice,(.int .i64 0)])),Yk 2 (Yq 0) (Yq 1)] [none,Cs 9,none,none]
def c28_34:MCode:=.region [Cm 6,Yl (Yq 0),C0] [Cs 10,none,none]
def c28_36:MCode:=.region [Cm 7,Cm 10,Yd 1 9,Ya 0,Yh .add (Yq 2) (Yq 0),Cr (.buildSlice (some (1,8)) (some [(.int .i64 0)]) 1 [(0,(Yq 0))]),Cr (.append (some (1,8)) (Yq 5) (Yq 0)),C0] [Cs 7,none,none,none,none,none,none,none]
def c28_38:MCode:=.region [Yd 0 9,Ya 0,Yl (Yq 0),Yp 0] [Cs 54,Cs 53,Cs 52,none]
def c28_42:MCode:=.region [Yh .lss (Cp 54) (Cp 53)] [Cs 55]
def c28_44:MCode:=.cond (Cp 55) .skip (.exit 2)
def c28_48:MCode:=.region [Ye 2 40 (Cp 52) (Cp 54),Yr 2 (Yq 0),Cr (.alloc (some [(.str []),.nilSlice])),Yk 2 (Yq 0) (Yq 1)] [none,Cs 12,none,none]
def c28_50:MCode:=.region [Yd 0 12,Ya 0,Cr (.build (some [(0,(1,(Yq 0)))]) (some [(.str []),.nilSlice])),Cr (.alloc (some [(.str []),.nilSlice])),Yk 2 (Yq 0) (Yq 1)] [none,Cs 13,none,none,none]
def c28_53:MCode:=.region [Yd 1 12,Ya 0,Yl (Yq 0),Yp 0] [Cs 64,Cs 63,Cs 62,none]
def c28_57:MCode:=.region [Yh .lss (Cp 64) (Cp 63)] [Cs 65]
def c28_59:MCode:=.cond (Cp 65) .skip (.exit 4)
def c28_63:MCode:=.region [Ye 1 8 (Cp 62) (Cp 64),Ya 0,C0] [Cs 15,none,none]
def c28_64:MCode:=.region [Yd 1 13,Ya 0,Cm 10,Cm 15,Yh .add (Yq 1) (Yq 0),Cr (.buildSlice (some (1,8)) (some [(.int .i64 0)]) 1 [(0,(Yq 0))]),Cr (.append (some (1,8)) (Yq 4) (Yq 0)),Yd 1 13,Yk 1 (Yq 0) (Yq 1)] [none,none,none,none,none,none,none,none,none]
def c28_62:MCode:=.seq c28_63 c28_64
def c28_61:MCode:=.block 5 c28_62
def c28_65:MCode:=.region [Yh .add (Cp 64) (Ck 1),C0] [Cs 64,none]
def c28_60:MCode:=.seq c28_61 c28_65
def c28_58:MCode:=.seq c28_59 c28_60
def c28_56:MCode:=.seq c28_57 c28_58
def c28_55:MCode:=.loop c28_56
def c28_54:MCode:=.block 4 c28_55
def Zst:MCode:=.seq c28_53 c28_54
def c28_66:MCode:=.region [Cm 6,Yr 2 (Cp 13),Cr (.buildSlice (some (2,40)) (some [(.str []),.nilSlice]) 1 [(0,(Yq 0))]),Cr (.append (some (2,40)) (Yq 2) (Yq 0)),C0] [Cs 6,none,none,none,none]
def c28_51:MCode:=.seq Zst c28_66
def c28_49:MCode:=.seq c28_50 c28_51
def c28_47:MCode:=.seq c28_48 c28_49
def c28_46:MCode:=.block 3 c28_47
def c28_67:MCode:=.region [Yh .add (Cp 54) (Ck 1),C0] [Cs 54,none]
def c28_45:MCode:=.seq c28_46 c28_67
def c28_43:MCode:=.seq c28_44 c28_45
def c28_41:MCode:=.seq c28_42 c28_43
def c28_40:MCode:=.loop c28_41
def c28_39:MCode:=.block 2 c28_40
def Zss:MCode:=.seq c28_38 c28_39
def c28_35:MCode:=.seq c28_36 Zss
def c28_33:MCode:=.seq c28_34 c28_35
def c28_31:MCode:=.seq c28_32 c28_33
def c28_30:MCode:=.block 1 c28_31
def c28_68:MCode:=.region [Yh .add (Cp 38) (Ck 1),C0] [Cs 38,none]
def c28_29:MCode:=.seq c28_30 c28_68
def c28_27:MCode:=.seq c28_28 c28_29
def c28_25:MCode:=.seq c28_26 c28_27
def c28_24:MCode:=.loop c28_25
def c28_23:MCode:=.block 0 c28_24
def Zsr:MCode:=.seq c28_22 c28_23
def c28_70:MCode:=.region [Cm 6,Cm 7,Ym 69 [(Yq 1),(Yq 0)],C0] [Cs 16,none,none,none]
def c28_72:MCode:=.region [Cm 6,Cm 16,Ym 70 [(Yq 1),(Yq 0)],C0,Yg 0 0,Yg 1 1,Yn 1,Yn 1] [Cs 18,Cs 17,none,none,none,none,none,none]
def c28_75:MCode:=.region [Cm 18,Yh .gtr (Yq 0) (Ck 60)] [Cs 93,none]
def c28_78:MCode:=.region [Cr (.build (some []) (some [.nilSlice,(.int .i64 0)])),Yk 2 (Cp 2) (Yq 0),Yo .nilSlice,Yp 2] [Cs 4,Cs 3,none,none]
def c28_77:MCode:=.seq c28_78 .ret
def c28_76:MCode:=.cond (Cp 93) c28_77 .skip
def c28_74:MCode:=.seq c28_75 c28_76
def c28_81:MCode:=.region [Cm 7,Yl (Yq 0),Yp 0] [Cs 97,Cs 96,Cs 95]
def c28_85:MCode:=.region [Yh .lss (Cp 97) (Cp 96)] [Cs 98]
def c28_87:MCode:=.cond (Cp 98) .skip (.exit 6)
def c28_91:MCode:=.region [Cm 97,Ye 1 8 (Cp 95) (Cp 97),Ya 0,Yn 2,Yn 1] [Cs 20,Cs 19,none,none,none]
def c28_92:MCode:=.region [Cm 7,Cm 19,Cm 17,Cm 20,Ye 1 8 (Yq 1) (Yq 0),Ya 0,Ye 1 8 (Yq 5) (Yq 4),Yk 1 (Yq 0) (Yq 1)] [none,none,none,none,none,none,none,none]
def c28_90:MCode:=.seq c28_91 c28_92
def c28_89:MCode:=.block 7 c28_90
def c28_93:MCode:=.region [Yh .add (Cp 97) (Ck 1),C0] [Cs 97,none]
def c28_88:MCode:=.seq c28_89 c28_93
def c28_86:MCode:=.seq c28_87 c28_88
def c28_84:MCode:=.seq c28_85 c28_86
def c28_83:MCode:=.loop c28_84
def c28_82:MCode:=.block 6 c28_83
def Zsu:MCode:=.seq c28_81 c28_82
def c28_95:MCode:=.region [Cm 6,Cm 16,Cm 17,Cm 18,Ym 71 [(Yq 3),(Yq 2),(Yq 1),(Yq 0)],Cm 7,Yk 2 (Cp 2) (Yq 1),Yn 1,Yp 0] [Cs 4,Cs 3,none,none,none,none,none,none,none]
def c28_94:MCode:=.seq c28_95 .ret
def c28_79:MCode:=.seq Zsu c28_94
def c28_73:MCode:=.seq c28_74 c28_79
def c28_71:MCode:=.seq c28_72 c28_73
def c28_69:MCode:=.seq c28_70 c28_71
def c28_20:MCode:=.seq Zsr c28_69
def c28_18:MCode:=.seq c28_19 c28_20
def c28_16:MCode:=.seq c28_17 c28_18
def c28_8:MCode:=.seq c28_9 c28_16
def c28_2:MCode:=.seq c28_3 c28_8
def c28_0:MCode:=.seq c28_1 c28_2
theorem fi28:funInfo Tryd.prog 28 = some { code:=c28_0,ntmps:=116,nargs:=1,ps:=[20,17,19,95,98,96,97,93,18,16,15,13,62,65,63,64,12,52,55,53,54,9,10,7,6,36,39,37,38,33,5,28,0,2,3,4],res:=[.cell 2 42,.tmp 3,.tmp 4] }:=by kernel_rfl
def c30_1:MCode:=.region [Cr (.box (Cp 0)),Cr (.box (Cp 1)),Yo (.bool false)] [Cs 4,Cs 3,Cs 2]
def c30_4:MCode:=.region [Yr 2 (Cp 2),Ym 76 [(Yq 0)],Cr (.un .not (Yq 0)),C0,Yi 0 (.load (some (some 2)) (Cp 3)),Yi 1 (.call (.cst (.fn 76 [] [])) [(Yq 0)]),Yi 2 (.un .not (Yq 0)),Cr (.pick (Yq 3) (.cst (.bool true)) (Yq 0))] [Cs 19,none,none,none,none,none,none,none]
def c30_7:MCode:=.region [Yo (.bool false)] [Cs 4]
def c30_6:MCode:=.seq c30_7 .ret
def c30_5:MCode:=.cond (Cp 19) c30_6 .skip
def c30_3:MCode:=.seq c30_4 c30_5
def c30_9:MCode:=.region [Cr (.makeMap true),Yd 1 2,Ya 0,Yd 1 3,Ya 0,Cr (.build (some [(0,(1,(Yq 2))),(1,(1,(Yq 0)))]) (some [(.int .i64 0),(.int .i64 0)])),Cr (.mapSet (some (true,([.int,.int],(.bool false)))) (Yq 5) (Yq 0) (.cst (.bool true))),Yn 6,C0] [Cs 5,none,none,none,none,none,none,none,none]
def c30_11:MCode:=.region [Yd 1 2,Ya 0,Yd 1 3,Ya 0,Cr (.build (some [(0,(1,(Yq 2))),(1,(1,(Yq 0)))]) (some [(.int .i64 0),(.int .i64 0)])),Cr (.buildSlice (some (2,16)) (some [(.int .i64 0),(.int .i64 0)]) 1 [(0,(Yq 0))]),C0] [Cs 6,none,none,none,none,none,none]
def c30_17:MCode:=.region [Cm 6,Yl (Yq 0),Yh .gtr (Yq 0) (Ck 0)] [Cs 35,none,none]
def c30_18:MCode:=.cond (Cp 35) .skip (.exit 0)
def c30_16:MCode:=.seq c30_17 c30_18
def c30_21:MCode:=.region [Cm 6,Ye 2 16 (Yq 0) (Ck 0),Yr 2 (Yq 0),Cr (.alloc (some [(.int .i64 0),(.int .i64 0)])),Yk 2 (Yq 0) (Yq 1)] [none,Cs 7,none,none,none]
def c30_23:MCode:=.region [Cm 6,Cr (.slice .slc (some (2,16)) none (Yq 0) (some (Ck 1)) none none),C0] [Cs 6,none,none]
def c30_25:MCode:=.region [Yd 0 2,Ya 0,Yd 0 7,Ya 0,Ye 2 40 (Yq 2) (Yq 0),Yr 2 (Yq 0),Yd 0 3,Ya 0,Yd 1 7,Ya 0,Ye 2 40 (Yq 2) (Yq 0),Yr 2 (Yq 0),.fresh,Cr (.alloc (some [(.str []),.nilSlice])),.fresh,Cr (.alloc (some [(.str []),.nilSlice])),Yk 2 (Yq 1) (Yq 8),.chk none (.load (some none) (Yq 8)) (some (Yq 7)),.chk none (.load (some none) (Yq 6)) (some (Yq 5)),.chk none (.load (some (some 2)) (Yq 4)) (some (Yq 3)),Yk 2 (Yq 1) (Yq 3)] [none,none,Cs 9,Cs 8,Cs 52,Cs 51,Cs 50,Cs 49,Cs 48,Cs 47,Cs 46,Cs 45,Cs 44,Cs 43,Cs 42,Cs 41]
def c30_28:MCode:=.region [Yd 0 8,Ya 0,Yd 0 9,Ya 0,Yh .neq (Yq 2) (Yq 0),C0,Yi 0 (.fieldAddr (some 1) (Cp 8)),Yi 1 (.load (some none) (Yq 0)),Yi 2 (.len (some (.slc,0)) (Yq 0)),Yi 3 (.fieldAddr (some 1) (Cp 9)),Yi 4 (.load (some none) (Yq 0)),Yi 5 (.len (some (.slc,0)) (Yq 0)),Yi 6 (.bin .neq .other none (Yq 3) (Yq 0)),Cr (.pick (Yq 7) (.cst (.bool true)) (Yq 0))] [Cs 66,none,none,none,none,none,none,none,none,none,none,none,none,none]
def c30_31:MCode:=.region [Yo (.bool false)] [Cs 4]
def c30_30:MCode:=.seq c30_31 .ret
def c30_29:MCode:=.cond (Cp 66) c30_30 .skip
def c30_27:MCode:=.seq c30_28 c30_29
def c30_33:MCode:=.region [Yd 1 8,Ya 0,Yl (Yq 0),Yp 0] [Cs 70,Cs 69,none,none]
def c30_37:MCode:=.region [Yh .lss (Cp 70) (Cp 69)] [Cs 71]
def c30_39:MCode:=.cond (Cp 71) .skip (.exit 2)
def c30_43:MCode:=.region [Cm 70,C0] [Cs 10,none]
def c30_45:MCode:=.region [Yd 1 8,Ya 0,Cm 10,Ye 1 8 (Yq 1) (Yq 0),Ya 0,Yd 1 9,Ya 0,Cm 10,Ye 1 8 (Yq 1) (Yq 0),Ya 0,Cr (.build (some [(0,(1,(Yq 5))),(1,(1,(Yq 0)))]) (some [(.int .i64 0),(.int .i64 0)])),.fresh,Cr (.alloc (some [(.int .i64 0),(.int .i64 0)])),Yk 2 (Yq 0) (Yq 1)] [none,Cs 11,Cs 83,Cs 82,Cs 81,Cs 80,Cs 79,Cs 78,Cs 77,Cs 76,Cs 75,Cs 74,Cs 73]
def c30_47:MCode:=.region [Cm 5,Yr 2 (Cp 11),Cr (.lookup (some (true,([.int,.int],(.bool false)))) false (Yq 1) (Yq 0)),Cr (.un .not (Yq 0))] [Cs 87,none,none,none]
def c30_50:MCode:=.region [Cm 5,Yr 2 (Cp 11),Cr (.mapSet (some (true,([.int,.int],(.bool false)))) (Yq 1) (Yq 0) (.cst (.bool true)))] [none,none,none]
def c30_51:MCode:=.region [Cm 6,Yr 2 (Cp 11),Cr (.buildSlice (some (2,16)) (some [(.int .i64 0),(.int .i64 0)]) 1 [(0,(Yq 0))]),Cr (.append (some (2,16)) (Yq 2) (Yq 0)),C0] [Cs 6,none,none,none,none]
def c30_49:MCode:=.seq c30_50 c30_51
def c30_48:MCode:=.cond (Cp 87) c30_49 .skip
def c30_46:MCode:=.seq c30_47 c30_48
def c30_44:MCode:=.seq c30_45 c30_46
def c30_42:MCode:=.seq c30_43 c30_44
def c30_41:MCode:=.block 3 c30_42
def c30_52:MCode:=.region [Yh .add (Cp 70) (Ck 1),C0] [Cs 70,none]
def c30_40:MCode:=.seq c30_41 c30_52
def c30_38:MCode:=.seq c30_39 c30_40
def c30_36:MCode:=.seq c30_37 c30_38
def c30_35:MCode:=.loop c30_36
def c30_34:MCode:=.block 2 c30_35
def Zsv:MCode:=.seq c30_33 c30_34
def c30_26:MCode:=.seq c30_27 Zsv
def c30_24:MCode:=.seq c30_25 c30_26
def c30_22:MCode:=.seq c30_23 c30_24
def c30_20:MCode:=.seq c30_21 c30_22
def c30_19:MCode:=.block 1 c30_20
def c30_15:MCode:=.seq c30_16 c30_19
def c30_14:MCode:=.loop c30_15
def c30_13:MCode:=.block 0 c30_14
def c30_54:MCode:=.region [Yo (.bool true)] [Cs 4]
def c30_53:MCode:=.seq c30_54 .ret
def c30_12:MCode:=.seq c30_13 c30_53
def c30_10:MCode:=.seq c30_11 c30_12
def c30_8:MCode:=.seq c30_9 c30_10
def c30_2:MCode:=.seq c30_3 c30_8
def c30_0:MCode:=.seq c30_1 c30_2
theorem fi30:funInfo Tryd.prog 30 = some { code:=c30_0,ntmps:=95,nargs:=2,ps:=[87,5,73,75,74,76,78,10,80,79,81,82,77,83,11,71,69,70,66,41,43,44,42,45,47,7,49,50,48,51,46,8,52,9,35,6,19,3,2,1,0,4],res:=[.tmp 4] }:=by kernel_rfl
def c5_1:MCode:=.region [Yo (.bool false)] [Cs 2]
def c5_3:MCode:=.region [Cm 0,Ym 16 [(Yq 0)],C0] [Cs 3,none,none]
def c5_5:MCode:=.region [Ym 10 [(Ck 24)],C0,Yg 0 0,Yg 1 1,Yn 1,Yn 1] [Cs 5,Cs 4,none,none,none,none]
def c5_8:MCode:=.region [Cm 5,Yh .neq (Yq 0) (Ck 0),C0,Yi 0 (.move (Cp 4)),Yi 1 (.bin .eql .ptr none (Yq 0) (.cst .nilPtr)),Cr (.pick (Yq 2) (.cst (.bool true)) (Yq 0))] [Cs 32,none,none,none,none,none]
def c5_11:MCode:=.region [Yo (.bool false)] [Cs 2]
def c5_10:MCode:=.seq c5_11 .ret
def c5_9:MCode:=.cond (Cp 32) c5_10 .skip
def c5_7:MCode:=.seq c5_8 c5_9
def c5_13:MCode:=.region [Yo .nilSlice] [Cs 6]
def c5_15:MCode:=.region [Yo .nilSlice] [Cs 7]
def c5_18:MCode:=.region [Yp 0] [Cs 33]
def c5_22:MCode:=.region [Yh .lss (Cp 33) (Ck 4)] [Cs 34]
def c5_24:MCode:=.cond (Cp 34) .skip (.exit 0)
def c5_28:MCode:=.region [Cm 3,Ym 17 [(Yq 0),(Ck 6)],Cr (.alloc (some [.nilSlice,(.int .i64 0)])),Yk 2 (Yq 0) (Yq 1)] [none,Cs 8,none,none]
def c5_30:MCode:=.region [Cm 4,Yr 2 (Cp 8),Ym 19 [(Yq 1),(Yq 0)],C0,Yg 0 0,Yg 1 1,Yn 1,Yn 1] [Cs 10,Cs 9,none,none,none,none,none,none]
def c5_33:MCode:=.region [Cm 10,Yh .neq (Yq 0) (Ck 0)] [Cs 44,none]
def c5_36:MCode:=.region [Yo (.bool false)] [Cs 2]
def c5_35:MCode:=.seq c5_36 .ret
def c5_34:MCode:=.cond (Cp 44) c5_35 .skip
def c5_32:MCode:=.seq c5_33 c5_34
def c5_38:MCode:=.region [Cm 3,Ym 26 [(Yq 0),(Ck 2)]] [Cs 46,none]
def c5_42:MCode:=.region [Cm 4,Cm 9,Ym 27 [(Yq 1),(Yq 0)],Yh .neq (Yq 0) (Ck 0)] [Cs 50,none,none,none]
def c5_45:MCode:=.region [Yo (.bool false)] [Cs 2]
def c5_44:MCode:=.seq c5_45 .ret
def c5_43:MCode:=.cond (Cp 50) c5_44 .skip
def c5_41:MCode:=.seq c5_42 c5_43
def c5_46:MCode:=.region [Cm 6,Cm 9,Cm 7,Yr 2 (Cp 8),.fresh,Cr (.buildSlice (some (1,8)) (some [(.int .i64 0)]) 1 [(0,(Yq 2))]),.peek (.buildSlice (some (2,32)) (some [.nilSlice,(.int .i64 0)]) 1 [(0,(Yq 1))]),Cr (.append (some (1,8)) (Yq 4) (Yq 0)),.chk none (.load (some (some 2)) (Cp 8)) (some (Yq 2)),.fresh,Cr (.buildSlice (some (2,32)) (some [.nilSlice,(.int .i64 0)]) 1 [(0,(Yq 2))]),Cr (.append (some (2,32)) (Yq 4) (Yq 0)),Yn 2,Yn 1] [Cs 7,Cs 6,Cs 58,Cs 57,Cs 54,Cs 53,Cs 56,Cs 55,Cs 52,Cs 51]
def c5_40:MCode:=.seq c5_41 c5_46
def c5_39:MCode:=.cond (Cp 46) c5_40 .skip
def c5_37:MCode:=.seq c5_38 c5_39
def c5_31:MCode:=.seq c5_32 c5_37
def c5_29:MCode:=.seq c5_30 c5_31
def c5_27:MCode:=.seq c5_28 c5_29
def c5_26:MCode:=.block 1 c5_27
def c5_47:MCode:=.region [Yh .add (Cp 33) (Ck 1),C0] [Cs 33,none]
def c5_25:MCode:=.seq c5_26 c5_47
def c5_23:MCode:=.seq c5_24 c5_25
def c5_21:MCode:=.seq c5_22 c5_23
def c5_20:MCode:=.loop c5_21
def c5_19:MCode:=.block 0 c5_20
def c5_17:MCode:=.seq c5_18 c5_19
def c5_49:MCode:=.region [Yp 0] [Cs 11]
def c5_52:MCode:=.region [Cm 7,Yl (Yq 0),Yh .gtr (Yq 0) (Ck 0)] [Cs 62,none,none]
def c5_55:MCode:=.region [Cm 7,Ym 28 [(Yq 0)],C0,Yg 0 0,Yg 1 1,Yg 2 2,Cr (.alloc (some [.nilSlice,(.int .i64 0)])),Yk 2 (Yq 0) (Yq 3),Yn 3,Yn 3] [Cs 14,none,none,Cs 12,none,none,none,none,none,none]
def c5_58:MCode:=.region [Cm 14,Yh .neq (Yq 0) (Ck 0)] [Cs 70,none]
def c5_61:MCode:=.region [Yo (.bool false)] [Cs 2]
def c5_60:MCode:=.seq c5_61 .ret
def c5_59:MCode:=.cond (Cp 70) c5_60 .skip
def c5_57:MCode:=.seq c5_58 c5_59
def c5_62:MCode:=.region [Yd 0 12,Ya 0,Yl (Yq 0),C0] [Cs 11,none,none,none]
def c5_56:MCode:=.seq c5_57 c5_62
def c5_54:MCode:=.seq c5_55 c5_56
def c5_53:MCode:=.cond (Cp 62) c5_54 .skip
def c5_51:MCode:=.seq c5_52 c5_53
def c5_64:MCode:=.region [Cm 4,Ym 14 [(Yq 0)],C0] [Cs 15,none,none]
def c5_66:MCode:=.region [Cm 4,Ym 29 [(Yq 0)],C0,Yg 0 0,Yg 1 1,Yn 1,Yn 1] [Cs 5,Cs 16,none,none,none,none,none]
def c5_69:MCode:=.region [Cm 5,Yh .neq (Yq 0) (Ck 0),C0,Yi 0 (.move (Cp 4)),Yi 1 (.call (.cst (.fn 14 [] [])) [(Yq 0)]),Yi 2 (.move (Cp 11)),Yi 3 (.bin .neq .other none (Yq 1) (Yq 0)),Cr (.pick (Yq 4) (.cst (.bool true)) (Yq 0)),C0,Yi 0 (.move (Cp 16)),Yi 1 (.move (Cp 15)),Yi 2 (.move (Cp 11)),Yi 3 (.bin .sub .other none (Yq 1) (Yq 0)),Yi 4 (.bin .neq .other none (Yq 3) (Yq 0)),Cr (.pick (Yq 5) (.cst (.bool true)) (Yq 0)),C0,Yi 0 (.move (Cp 4)),Yi 1 (.call (.cst (.fn 14 [] [])) [(Yq 0)]),Yi 2 (.move (Cp 4)),Yi 3 (.call (.cst (.fn 18 [] [])) [(Yq 0)]),Yi 4 (.bin .add .other none (Yq 2) (Yq 0)),Yi 5 (.bin .neq .other none (Yq 0) (Ck 24)),Cr (.pick (Yq 6) (.cst (.bool true)) (Yq 0))] [Cs 103,none,none,none,none,none,none,none,none,none,none,none,none,none,none,none,none,none,none,none,none,none,none]
def c5_72:MCode:=.region [Yo (.bool false)] [Cs 2]
def c5_71:MCode:=.seq c5_72 .ret
def c5_70:MCode:=.cond (Cp 103) c5_71 .skip
def c5_68:MCode:=.seq c5_69 c5_70
def c5_75:MCode:=.region [Cm 6,Yl (Yq 0),Yp 0] [Cs 106,Cs 105,Cs 104]
def c5_79:MCode:=.region [Yh .lss (Cp 106) (Cp 105)] [Cs 107]
def c5_81:MCode:=.cond (Cp 107) .skip (.exit 2)
def c5_85:MCode:=.region [Cm 106,Ye 1 8 (Cp 104) (Cp 106),Ya 0,Yn 2,Yn 1] [Cs 18,Cs 17,none,none,none]
def c5_87:MCode:=.region [Cm 4,Cm 18,Ym 22 [(Yq 1),(Yq 0)],C0,Yg 0 0,Yg 1 1,Cr (.alloc (some [.nilSlice,(.int .i64 0)])),Yk 2 (Yq 0) (Yq 2),Yn 2] [Cs 20,none,Cs 19,none,none,none,none,none,none]
def c5_89:MCode:=.region [Cm 20,Yh .neq (Yq 0) (Ck 0),C0,Yi 0 (.load (some (some 2)) (Cp 19)),Yi 1 (.move (Cp 7)),Yi 2 (.move (Cp 17)),Yi 3 (.indexAddr .slc (some (2,32)) none (Yq 1) (Yq 0)),Yi 4 (.load (some (some 2)) (Yq 0)),Yi 5 (.call (.cst (.fn 30 [] [])) [(Yq 4),(Yq 0)]),Yi 6 (.un .not (Yq 0)),Cr (.pick (Yq 7) (.cst (.bool true)) (Yq 0)),C0,Yi 0 (.move (Cp 4)),Yi 1 (.move (Cp 18)),Yi 2 (.call (.cst (.fn 31 [] [])) [(Yq 1),(Yq 0)]),Yi 3 (.bin .neq .other none (Yq 0) (Ck 0)),Cr (.pick (Yq 4) (.cst (.bool true)) (Yq 0))] [Cs 133,Cs 132,Cs 131,Cs 130,Cs 129,Cs 128,Cs 127,Cs 126,Cs 125,Cs 124,Cs 123,Cs 122,Cs 121,Cs 120,Cs 119,Cs 118,Cs 117]
def c5_92:MCode:=.region [Yo (.bool false)] [Cs 2]
def c5_91:MCode:=.seq c5_92 .ret
def c5_90:MCode:=.cond (Cp 133) c5_91 .skip
def c5_88:MCode:=.seq c5_89 c5_90
def c5_86:MCode:=.seq c5_87 c5_88
def c5_84:MCode:=.seq c5_85 c5_86
def c5_83:MCode:=.block 3 c5_84
def c5_93:MCode:=.region [Yh .add (Cp 106) (Ck 1),C0] [Cs 106,none]
def c5_82:MCode:=.seq c5_83 c5_93
def c5_80:MCode:=.seq c5_81 c5_82
def c5_78:MCode:=.seq c5_79 c5_80
def c5_77:MCode:=.loop c5_78
def c5_76:MCode:=.block 2 c5_77
def c5_74:MCode:=.seq c5_75 c5_76
def c5_95:MCode:=.region [Cm 4,Ym 29 [(Yq 0)],C0,Yg 0 0,Yg 1 1,C0] [Cs 5,none,none,none,none,none]
def c5_97:MCode:=.region [Cm 5,Yh .eql (Yq 0) (Ck 0),C0,Yj 0 (.move (Cp 4)),Yj 1 (.call (.cst (.fn 14 [] [])) [(Yq 0)]),Yj 2 (.bin .eql .other none (Yq 0) (Ck 0)),Cr (.pick (Yq 3) (Yq 0) (.cst (.bool false))),C0,Yj 0 (.move (Cp 4)),Yj 1 (.call (.cst (.fn 31 [] [])) [(Yq 0),(Ck 0)]),Yj 2 (.bin .eql .other none (Yq 0) (Ck 1)),Cr (.pick (Yq 3) (Yq 0) (.cst (.bool false))),C0,Yj 0 (.call (.cst (.fn 9 [] [])) []),Cr (.pick (Yq 1) (Yq 0) (.cst (.bool false))),C0] [Cs 2,none,none,none,none,none,none,none,none,none,none,none,none,none,none,none]
def c5_96:MCode:=.seq c5_97 .ret
def c5_94:MCode:=.seq c5_95 c5_96
def c5_73:MCode:=.seq c5_74 c5_94
def c5_67:MCode:=.seq c5_68 c5_73
def c5_65:MCode:=.seq c5_66 c5_67
def c5_63:MCode:=.seq c5_64 c5_65
def c5_50:MCode:=.seq c5_51 c5_63
def c5_48:MCode:=.seq c5_49 c5_50
def c5_16:MCode:=.seq c5_17 c5_48
def c5_14:MCode:=.seq c5_15 c5_16
def c5_12:MCode:=.seq c5_13 c5_14
def c5_6:MCode:=.seq c5_7 c5_12
def c5_4:MCode:=.seq c5_5 c5_6
def c5_2:MCode:=.seq c5_3 c5_4
def c5_0:MCode:=.seq c5_1 c5_2
theorem fi5:funInfo Tryd.prog 5 = some { code:=c5_0,ntmps:=155,nargs:=1,ps:=[133,20,117,118,19,17,122,121,123,124,120,125,126,119,127,130,129,131,132,128,18,104,107,105,106,103,15,16,11,12,70,14,62,7,6,52,53,51,56,57,55,54,58,50,9,46,44,10,8,3,34,33,32,4,5,0,2],res:=[.tmp 2] }:=by kernel_rfl
end Go.Proofs
end
section
namespace Go.AM
variable [Orc] [OrcOk]
set_option maxRecDepth 100000
abbrev Z5x (l:List Int):List AVal:=l.map fun n => .int .i64 n
def Z2u:Nat→List (List Int)→List MapE
 | _,[] => []
 | n,k :: r => { key:=.agg (Z5x k),val:=.bool true,born:=n } :: Z2u (n + 1) r
omit [Orc] [OrcOk] in
theorem bents_append:∀ (n:Nat) (D:List (List Int)) (k:List Int),Z2u n (D ++ [k]) = Z2u n D ++ [{ key:=.agg (Z5x k),val:=.bool true,born:=n + D.length }]
 | n,[],k => rfl
 | n,d :: D,k => by
  show _ :: Z2u (n + 1) (D ++ [k]) = _ :: (Z2u (n + 1) D ++ _)
  rw [bents_append (n + 1) D k]
  simp [Nat.add_assoc,Nat.add_comm 1]
omit [Orc] [OrcOk] in
theorem keyCells_ints (n:Nat) (k:List Int) (K:List AVal→Bool) (hk:k.length = n):Z1c true (List.replicate n .int) (.agg (Z5x k)) K = K (Z5x k):=by
 show lenK (Z5x k) 0 (fun a => lenK (List.replicate n SK.int) 0 fun m => ifK (Nat.beq a m) (K (Z5x k)) (fail 54)) = K (Z5x k)
 rw [Z0p,Z0p]
 have:(Z5x k).length = (List.replicate n SK.int).length:=by simp [hk]
 rw [this,Nat.beq_refl]
 rfl
omit [Orc] [OrcOk] in
theorem find_bents (w:Nat) (k:List Int) (hk:k.length = w):∀ (D:List (List Int)) (n i:Nat) (K:Option (Nat × AVal)→Bool),(∀ d ∈ D,d.length = w) →
  Z25 true (List.replicate w .int) (Z5x k) (Z2u n D) i K = K (if k ∈ D then some (i + D.idxOf k,.bool true) else none)
 | [],n,i,K,_ => by simp [Z2u,Z25]
 | d :: D,n,i,K,h => by
  show Z1c true (List.replicate w .int) (.agg (Z5x d)) (fun c => Z0u (List.replicate w .int) (Z5x k) c fun b => ifK b (K (some (i,.bool true))) (Z25 true (List.replicate w .int) (Z5x k) (Z2u (n + 1) D) (i + 1) K)) = _
  rw [keyCells_ints w d _ (h d (by simp)),eqInts w k d _ hk (h d (by simp))]
  by_cases e:k = d
  ·subst e
   simp [ifK]
  ·rw [find_bents w k hk D (n + 1) (i + 1) K (fun x hx => h x (by simp [hx]))]
   have e':¬ d = k:=fun h => e h.symm
   by_cases hm:k ∈ D
   ·simp [ifK,e,hm,List.idxOf_cons,beq_false_of_ne e']
    have e1:i + 1 + D.idxOf k = i + (D.idxOf k + 1):=by omega
    rw [e1]
   ·simp [ifK,e,hm]
theorem Zgy {w:Nat} {z:AVal} {k:List Int} {D:List (List Int)} {F:Option (Nat × AVal)→Prop} (hk:k.length = w) (hD:∀ d ∈ D,d.length = w)
  (h:F (if k ∈ D then some (D.idxOf k,.bool true) else none)):Zg7 (true,List.replicate w .int,z) (.agg (Z5x k)) (Z2u 0 D) F:=by
 refine ⟨_,?_,h⟩
 show (Z1c true (List.replicate w .int) (.agg (Z5x k)) fun c => Z25 true (List.replicate w .int) c (Z2u 0 D) 0 _) = true
 rw [keyCells_ints w k _ hk,find_bents w k hk D 0 0 _ hD]
 simp only [Nat.zero_add]
 exact Z1n.2 trivial
section
variable {s:St} {Q:AVal→St→Prop} {b:Pos} {cl:Nat} {x y:Int} {D:List (List Int)}
theorem Zrf (hb:s.obj b = some (.map (Z2u 0 D) cl)) (hD:∀ d ∈ D,d.length = 2) (h:Q (.bool (decide ([x,y] ∈ D))) s) :
  Zgd (true,[.int,.int],.bool false) false (.agg [.int .i64 x,.int .i64 y]) (some (.map b)) s Q:=by
 show Zgd (true,List.replicate 2 .int,.bool false) false (.agg (Z5x [x,y])) (some (.map b)) s Q
 unfold Zgd
 simp only [hb]
 refine Zgy rfl hD ?_
 by_cases hm:[x,y] ∈ D
 ·rw [if_pos hm]
  simpa [hm] using h
 ·rw [if_neg hm]
  simpa [hm] using h
theorem Zm5 (hb:s.obj b = some (.map (Z2u 0 D) D.length)) (hD:∀ d ∈ D,d.length = 2) (hm:[x,y] ∉ D)
  (h:Q (.tup []) (s.put b (.map (Z2u 0 (D ++ [[x,y]])) (D ++ [[x,y]]).length))):setP (true,[.int,.int],.bool false) (.agg [.int .i64 x,.int .i64 y]) (.bool true) (some (.map b)) s Q:=by
 show setP (true,List.replicate 2 .int,.bool false) (.agg (Z5x [x,y])) (.bool true) (some (.map b)) s Q
 unfold setP
 simp only [hb]
 refine Zgy rfl hD ?_
 rw [if_neg hm]
 have e:=bents_append 0 D [x,y]
 simp only [Nat.zero_add] at e
 rw [e] at h
 simpa using h
end
end Go.AM
open Go Go.AM
namespace Go.Proofs
set_option maxRecDepth 100000
def Z1t (l:List (Nat × Nat)):List AVal:=l.flatMap fun p => [.int .i64 p.1,.int .i64 p.2]
theorem Zjm:∀ l:List (Nat × Nat),(Z1t l).length = l.length * 2
 | [] => rfl
 | p :: l => by
  have:=Zjm l
  simp only [Z1t,List.flatMap_cons,List.length_append,List.length_cons,List.length_nil] at this ⊢
  omega
theorem Zhc (l:List (Nat × Nat)) (p:Nat × Nat):Z1t (l ++ [p]) = Z1t l ++ [.int .i64 p.1,.int .i64 p.2]:=by simp [Z1t]
def QueP (v:AVal) (l:List (Nat × Nat)) (m:Lets):Prop:=(l = []∧∃ b o,v = .slice b o 0 (.lim 0)∧m = []) ∨ (∃ b pre,v = .slice b pre.length l.length (.opn 2)∧m = [(b,C (pre ++ Z1t l))]) ∨ ∃ b x,l = [x]∧v = .slice b 0 1 (.lim 1)∧m = [(b,C (Z1t [x]))]
theorem QueP.len {v:AVal} {l:List (Nat × Nat)} {m:Lets} (h:QueP v l m):Z1b v = some l.length:=by
 rcases h with ⟨rfl,b,o,rfl,_⟩ | ⟨b,pre,rfl,_⟩ | ⟨b,x,rfl,rfl,_⟩ <;> rfl
theorem QueP.ntup {v:AVal} {l:List (Nat × Nat)} {m:Lets} (h:QueP v l m):∀ t,¬ v = .tup t:=by
 rintro t rfl
 have:=h.len
 cases this
theorem QueP.head {v:AVal} {y:Nat × Nat} {l:List (Nat × Nat)} {m:Lets} (h:QueP v (y :: l) m):∃ b o cap cs,v = .slice b o (l.length + 1) cap∧(b,C cs) ∈ m∧o + 2 ≤ cs.length∧(cs.drop o).take 2 = [.int .i64 y.1,.int .i64 y.2]:=by
 rcases h with ⟨e,_⟩ | ⟨b,pre,rfl,rfl⟩ | ⟨b,x,e,rfl,rfl⟩
 ·cases e
 ·refine ⟨b,pre.length,_,pre ++ Z1t (y :: l),rfl,by simp,by simp [Z1t],?_⟩
  rw [List.drop_left' rfl]
  simp [Z1t]
 ·cases e
  exact ⟨b,0,_,Z1t [y],rfl,by simp,by simp [Z1t],by simp [Z1t]⟩
theorem QueP.pop {P:Program} {γ:RO→Option AVal} {s:St} {Q:AVal→St→Prop} {x:RO} {lo:Option RO} {ar:Option (Nat × Nat)} {v:AVal} {y:Nat × Nat} {l:List (Nat × Nat)} {m:Lets} (h:QueP v (y :: l) m) (hx:γ x = some v) (ha:Bnd γ lo 0 1)
  (q:∀ v' m',QueP v' l m'→m'.Sublist m→Q v' s):opP P (.slice .slc (some (2,16)) ar x lo none none) γ s Q:=by
 rcases h with ⟨e,_⟩ | ⟨b,pre,rfl,rfl⟩ | ⟨b,x,e,rfl,rfl⟩
 ·cases e
 ·refine Zfr (a:=1) (b:=(y :: l).length) hx ha rfl (by simp) (Nat.le_refl _) ?_
  refine q _ [(b,C (pre ++ Z1t (y :: l)))] (.inr (.inl ⟨b,pre ++ [.int .i64 y.1,.int .i64 y.2],?_,?_⟩)) (List.Sublist.refl _)
  ·simp
  ·simp [Z1t]
 ·cases e
  refine Zfq (a:=1) (b:=1) hx ha rfl (Nat.le_refl _) (Nat.le_refl _) ?_
  rw [if_pos rfl]
  exact q _ [] (.inl ⟨rfl,b,0,rfl,rfl⟩) (List.nil_sublist _)
theorem QueP.app {s0 s:St} {W:Pos→Prop} {r pre mq:Lets} {v:AVal} {l:List (Nat × Nat)} {a b:Nat} {Q:AVal→St→Prop} (h:Ctx s0 W (pre ++ (mq ++ r)) s) (hq:QueP v l mq) (hs:l.length ≤ 10000)
  (q:∀ v' m' s',QueP v' (l ++ [(a,b)]) m'→Ctx s0 W (pre ++ (m' ++ r)) s'→Q v' s'):appP (2,16) v [.int .i64 a,.int .i64 b] 1 s Q:=by
 have hgrow:∀ {X:Lets} {s1:St},Ctx s0 W (pre ++ (X ++ r)) s1→Z4a 2 16 (Z1t l ++ [.int .i64 a,.int .i64 b]) (l.length + 1) s1 Q:=by
  intro X s1 c1
  refine ⟨by unfold Z0j; omega,?_⟩
  have c2:Ctx s0 W (pre ++ r) s1:=c1.sub ((List.Sublist.refl pre).append (List.sublist_append_right X r))
  have c3:=c2.alloc (C (Z1t (l ++ [(a,b)])))
  rw [Zhc] at c3
  refine q _ [(s1.next,C (Z1t (l ++ [(a,b)])))] _ (.inr (.inl ⟨s1.next,[],by simp,by simp⟩)) ?_
  rw [Zhc]
  exact c3.perm List.perm_middle.symm
 rcases hq with ⟨rfl,c,o,rfl,rfl⟩ | ⟨c,p,rfl,rfl⟩ | ⟨c,x,rfl,rfl,rfl⟩
 ·simp only [appP]
  rw [if_neg (by decide),if_neg (by decide),if_pos trivial]
  exact hgrow (X:=[]) h
 ·have hb:s.own c = some (p ++ Z1t l):=Z1l (h.own (c,C (p ++ Z1t l)) (by simp))
  have h1:Ctx s0 W ((c,C (p ++ Z1t l)) :: (pre ++ r)) s:=h.perm (by simp)
  have h2:=(h1.put0 .dead).tail
  simp only [appP]
  rw [if_neg (by decide)]
  refine ⟨trivial,?_⟩
  rw [hb]
  simp only [Z0x]
  by_cases h0:l.length = 0
  ·rw [if_pos h0]
   have:l = []:=List.length_eq_zero_iff.1 h0
   subst this
   exact hgrow (X:=[]) h2
  ·have hl:=Zjm l
   rw [if_neg h0,if_neg (by rw [List.length_append]; omega)]
   refine ⟨by rw [List.length_append]; omega,?_⟩
   rw [List.drop_left' rfl,List.take_of_length_le (by omega)]
   exact hgrow (X:=[]) h2
 ·have hb:s.cells c = some (Z1t [x]):=Z0i (Z1l (h.own (c,C (Z1t [x])) (by simp)))
  simp only [appP]
  rw [if_neg (by decide),if_neg (by decide),if_neg (by decide),hb]
  refine ⟨by simp [Z1t],?_⟩
  have e:List.take (1 * 2) (List.drop 0 (Z1t [x])) = Z1t [x]:=by simp [Z1t]
  rw [e]
  exact hgrow h
end Go.Proofs
end
section
open Go Go.AM
namespace Go.Proofs
set_option maxRecDepth 100000
theorem Zl4:∀ (l:List RC) (i:Nat) (c:RC) (v:AVal),l[i]? = some c→lay (encs l) (i * 4 + 2) [v] = encs (l.set i { c with kv:=v })
 | [],i,c,d,h => by simp at h
 | e :: l,0,c,d,h => by
  simp at h
  subst h
  have e1:encs (e :: l) = e.enc ++ encs l:=rfl
  have e2:encs ((e :: l).set 0 { e with kv:=d }) = (RC.enc { e with kv:=d }) ++ encs l:=rfl
  rw [e1,e2]
  simp [lay,RC.enc]
 | e :: l,i + 1,c,d,h => by
  have e1:encs (e :: l) = e.enc ++ encs l:=rfl
  have e2:encs ((e :: l).set (i + 1) { c with kv:=d }) = e.enc ++ encs (l.set i { c with kv:=d }):=rfl
  have ih:=Zl4 l i c d (by simpa using h)
  have hd:e.enc.length = 4:=rfl
  have e3:(i + 1) * 4 + 2 = e.enc.length + (i * 4 + 2):=by rw [hd]; omega
  rw [e1,e2,← ih]
  unfold lay
  rw [e3,List.take_length_add_append,Nat.add_assoc,List.drop_length_add_append]
  simp
theorem eq8i (k:IntKind) (a:Int):Z27 8 (.int k a) (.int k a) = true:=by
 simp [Z27]
section
variable {s0 s:St} {W:Pos→Prop} {fr:FI} {t0:PT AVal} {Q:Ex→PT AVal→St→Prop} {r:Lets}
theorem Z3m {α:Type} {l:List α} {a:Nat} {x:α} (h:l[a]? = some x):l.set a x = l:=by
 refine List.ext_getElem? fun i => ?_
 rw [List.getElem?_set]
 by_cases e:a = i
 ·subst e
  rw [if_pos rfl,h,if_pos (List.getElem?_eq_some_iff.1 h).1]
 ·rw [if_neg e]
theorem Zw7 {B9 B14 Bf pn:Pos} {nm:List UInt8} {kv0:AVal} {ks f:List Int} {cs:List CV} {V:List AVal} {a l n i:Nat} {c8:Cap} {d:CV}
  (hk:(ks = []∧Z1b kv0 = some 0) ∨ ∃ q c,ks ≠ []∧kv0 = .slice q 0 ks.length c∧(q,C (ints ks)) ∈ r)
  (h4:ks.length ≤ 4) (hin:∀ k ∈ ks,0 ≤ k∧k < l) (hn:cs.length = n) (hV:V.length = n) (ha:cs[a]? = some d) (hd:d.kids = []) (hva:V[a]? = some .nilSlice) (hfi:f[i]? = some (a:Int)) (hl:f.length = l)
  (hc:Ctx s0 W ((B14,C [.str nm,kv0]) :: (B9,C [.slice pn 0 n (.lim n)]) :: (pn,C (encs (rcs cs V))) :: (Bf,C (ints f)) :: r) s)
  (t8:PT.get (posOf 8) t0 = some (.slice Bf 0 l c8)) (t9:PT.get (posOf 9) t0 = some (.ptr B9 0)) (t13:PT.get (posOf 13) t0 = some (.int .i64 i)) (t14:PT.get (posOf 14) t0 = some (.ptr B14 0))
  (q:∀ t s' kv mg,Fr [16,90,91,92,93,96,97,98,99,100,101,102,103,104,105,106,107,108,109,110,111,112,113,114,115,116,117,118] t0 t→Z1a kv (Z1o f ks) mg →
   Ctx s0 W ((B14,C [.str nm,kv0]) :: (B9,C [.slice pn 0 n (.lim n)]) :: (pn,C (encs (rcs (cs.set a { d with kids:=Z1o f ks }) (V.set a kv)))) :: (Bf,C (ints f)) :: (mg ++ r)) s'→Q .normal t s'):wp Tryd.prog Zso fr t0 s Q:=by
 have hkl:Z1b kv0 = some ks.length:=by
  rcases hk with ⟨h1,h2⟩ | ⟨q,c,_,h2,_⟩
  ·rw [h1,h2]; rfl
  ·rw [h2]; rfl
 have hkt:∀ t,¬ kv0 = .tup t:=by
  rintro t rfl
  cases hkl
 have hal:a < cs.length:=(List.getElem?_eq_some_iff.1 ha).1
 refine Z00 ?_
 simp [t14,hc.c 0 rfl,hkt,hkl]
 refine AM.wp_block ?_
 refine AM.wp_loop (fun m t s' => ∃ (j:Nat) (kv:AVal) (mg:Lets),j ≤ ks.length∧m = ks.length - j∧Fr [16,90,91,92,93,96,97,98,99,100,101,102,103,104,105,106,107,108,109,110,111,112,113,114,115,116,117,118] t0 t∧PT.get (posOf 90) t = some kv0∧PT.get (posOf 91) t = some (.int .i64 ks.length)∧PT.get (posOf 92) t = some (.int .i64 j) ∧
   Z1a kv (Z1o f (ks.take j)) mg∧Ctx s0 W ((B14,C [.str nm,kv0]) :: (B9,C [.slice pn 0 n (.lim n)]) :: (pn,C (encs (rcs (cs.set a { d with kids:=Z1o f (ks.take j) }) (V.set a kv)))) :: (Bf,C (ints f)) :: (mg ++ r)) s') ks.length ⟨0,.nilSlice,[],by simp,by simp,?_,by simp,by simp,by simp,.inl ⟨by simp [Z1o],rfl,rfl⟩,?_⟩ ?_
 ·intro y hy
  simp at hy
  simp [hy]
 ·have e1:cs.set a { d with kids:=Z1o f (ks.take 0) } = cs:=by
   refine Z3m ?_
   rw [ha]
   congr 1
   cases d
   simp at hd
   simp [Z1o,hd]
  rw [e1,Z3m hva]
  exact hc
 rintro m t s' ⟨j,kv,mg,hj,rfl,hF,t90,t91,t92,hg,hc'⟩
 refine Z00 ?_
 simp [t91,t92]
 refine AM.wp_seq ?_
 refine AM.Z03 ?_
 by_cases hlt:j < ks.length
 ·have hwr:IntKind.wrap .i64 ((j:Int) + 1) = ((j + 1:Nat):Int):=by rw [IntWalk.i64_in _ (by omega)]; omega
  obtain ⟨k,hkk⟩:∃ k,ks[j]? = some k:=⟨_,List.getElem?_eq_getElem hlt⟩
  obtain ⟨k0,k1⟩:=hin k (List.mem_of_getElem? hkk)
  obtain ⟨x,hx⟩:∃ x,f[k.toNat]? = some x:=⟨_,List.getElem?_eq_getElem (by omega)⟩
  have u8:=(hF 8 (by simp)).trans t8
  have u9:=(hF 9 (by simp)).trans t9
  have u13:=(hF 13 (by simp)).trans t13
  rcases hk with ⟨h0,_⟩ | ⟨q5,c5,_,rfl,hq5⟩
  ·rw [h0] at hlt
   simp at hlt
  have hcs5:s'.cells q5 = some (ints ks):=Z0i (Z1l (hc'.own (q5,C (ints ks)) (by simp [hq5])))
  have hgk:(ints ks)[j]? = some (.int .i64 k):=by rw [List.getElem?_map,hkk]; rfl
  have hgi:(ints f)[i]? = some (.int .i64 a):=by rw [List.getElem?_map,hfi]; rfl
  have hgx:(ints f)[k.toNat]? = some (.int .i64 x):=by rw [List.getElem?_map,hx]; rfl
  have hil:(i:Int) < l:=by have:=(List.getElem?_eq_some_iff.1 hfi).1; omega
  have han:(a:Int) < n:=by omega
  have hnx:Z1o f (ks.take j) ++ [x] = Z1o f (ks.take (j + 1)):=by
   unfold Z1o
   rw [List.take_add_one,hkk,List.map_append]
   simp [hx]
  have hxr:=Z3d (cs:=cs.set a { d with kids:=Z1o f (ks.take j) }) (V:=V.set a kv) (i:=a) (d:={ d with kids:=Z1o f (ks.take j) }) (kv:=kv) (by simp [hal]) (by rw [List.getElem?_set_self (by omega)])
  have hg2:(encs (rcs (cs.set a { d with kids:=Z1o f (ks.take j) }) (V.set a kv)))[a * 4 + 2]? = some kv:=Z4e _ a 2 _ hxr (by decide)
  have hlen:a * 4 + 2 + 1 ≤ (encs (rcs (cs.set a { d with kids:=Z1o f (ks.take j) }) (V.set a kv))).length:=by
   rw [Z4f,Z34 (by simp [hV,hn])]
   simp
   omega
  have hlay:∀ kv',lay (encs (rcs (cs.set a { d with kids:=Z1o f (ks.take j) }) (V.set a kv))) (a * 4 + 2) [kv'] = encs (rcs (cs.set a { d with kids:=Z1o f (ks.take (j + 1)) }) (V.set a kv')):=by
   intro kv'
   rw [Zl4 _ a _ kv' hxr]
   have:=Zda (cs:=cs.set a { d with kids:=Z1o f (ks.take j) }) (V:=V.set a kv) (i:=a) (d:={ d with kids:=Z1o f (ks.take (j + 1)) }) (kv:=kv')
   rw [List.set_set,List.set_set] at this
   rw [← this]
  generalize encs (rcs (cs.set a { d with kids:=Z1o f (ks.take j) }) (V.set a kv)) = E at hc' hg2 hlen hlay
  obtain ⟨FS,hFS⟩:∃ x,x = ints f:=⟨_,rfl⟩
  rw [← hFS] at hgi hgx
  have hfl:s'.cells Bf = some FS:=by rw [hFS]; exact hc'.c 3 rfl
  generalize ints ks = KS at hcs5 hgk
  simp [hlt]
  refine AM.wp_skip ?_
  simp
  refine AM.wp_seq ?_
  refine AM.wp_block ?_
  refine Z00 ?_
  simp [t90,t92,hlt,hcs5,hgk]
  refine AM.wp_region ?_
  have hns:s'.obj s'.next = none:=hc'.wf _ (Z08 _)
  simp [u8,u9,u13,hc'.c 1 rfl,hc'.c 2 rfl,hfl,hgi,hgx,hg2,hil,han,k0,k1,hg.ntup,hg.cells,hns,Z13,srcP]
  have d2:=hc'.alloc (C [.int .i64 x])
  generalize s'.alloc (.cells [.int .i64 x] false) = sB at d2 ⊢
  generalize s'.next = T at d2 ⊢
  refine Z4t (pre:=[(T,C [.int .i64 x]),(B14,C [.str nm,.slice q5 0 ks.length c5]),(B9,C [.slice pn 0 n (.lim n)]),(pn,C E),(Bf,C (ints f))]) d2 hg (by simp [Z1o]; omega) fun kv' mg' sC hg' d3 => ?_
  simp only [List.cons_append,List.nil_append] at d3
  have hfl3:sC.cells Bf = some FS:=by rw [hFS]; exact d3.c 4 rfl
  have hly:=hlay kv'
  simp [lay] at hly
  simp [hg'.ntup,hg'.cells,d3.o 3 rfl,d3.c 2 rfl,d3.c 3 rfl,hfl3,hgi,hgx,han,hil,hlen,eq8i,Zf2]
  rw [hly]
  have d4:=(d3.put 3 rfl (C (encs (rcs (cs.set a { d with kids:=Z1o f (ks.take (j + 1)) }) (V.set a kv'))))).tail
  simp only [List.set_cons_zero,List.set_cons_succ] at d4
  rw [hnx] at hg'
  refine AM.wp_region ?_
  simp [t92,hwr]
  refine ⟨ks.length - (j + 1),by omega,j + 1,by omega,by omega,?_,by simp [t90],by simp [t91],by simp,kv',mg',hg',d4⟩
  intro y hy
  simp at hy
  simp [hy]
  exact hF y (by simp [hy])
 ·simp [hlt]
  refine AM.wp_exit ?_
  simp
  have hje:j = ks.length:=by omega
  subst hje
  rw [List.take_length] at hg hc'
  refine q _ s' kv mg ?_ hg hc'
  intro y hy
  simp at hy
  simp [hy]
  exact hF y (by simp [hy])
theorem Zq2 {L:List ND} {VL:List AVal} {mrL:Lets} (hVL:Z14 (L.map Prod.snd) VL mrL) {i:Nat} {nd:ND} (h:L[i]? = some nd):∃ kv,((Z0g L VL).drop (i * 2)).take 2 = [.str nd.1,kv]∧i * 2 + 2 ≤ (Z0g L VL).length ∧
  ((nd.2 = []∧Z1b kv = some 0) ∨ ∃ q c,nd.2 ≠ []∧kv = .slice q 0 nd.2.length c∧(q,C (ints nd.2)) ∈ mrL):=by
 obtain ⟨kv,g1,g2⟩:=hVL.each (i:=i) (ks:=nd.2) (by rw [List.getElem?_map,h]; rfl)
 obtain ⟨e1,e2⟩:=Z7g h g1
 obtain ⟨e3,e4⟩:=seg2 e1 e2
 exact ⟨kv,e3,e4,g2⟩
theorem Zw6 {B3 B9 Bo Bf Bn pn:Pos} {cs:List CV} {V0 VL:List AVal} {L:List ND} {th f:List Int} {mrL mk base:Lets} {n l:Nat} {c3 c7 c8:Cap} {rt:AVal}
  (hl:L.length = l) (hl6:l ≤ 60) (hn:cs.length = n) (hG:GrOk L) (hVL:Z14 (L.map Prod.snd) VL mrL) (hth:th.length = l) (hf:f.length = l) (hI:FilI L th f cs V0 0) (hR:Z14 (cs.map CV.kids) V0 mk)
  (t3:PT.get (posOf 3) t0 = some (.ptr B3 0)) (t7:PT.get (posOf 7) t0 = some (.slice Bo 0 l c7)) (t8:PT.get (posOf 8) t0 = some (.slice Bf 0 l c8)) (t9:PT.get (posOf 9) t0 = some (.ptr B9 0))
  (hc:Ctx s0 W ((B9,C [.slice pn 0 n (.lim n)]) :: (pn,C (encs (rcs cs V0))) :: (Bf,C (ints f)) :: (Bo,C (ints th)) :: (B3,C [.slice Bn 0 l c3,rt]) :: (Bn,C (Z0g L VL)) :: (mrL ++ (mk ++ base))) s)
  (q:∀ t s' V mk',PT.get (posOf 0) t = PT.get (posOf 0) t0→PT.get (posOf 8) t = some (.slice Bf 0 l c8)→PT.get (posOf 9) t = some (.ptr B9 0)→Z14 ((Z22 L th f cs l).map CV.kids) V mk' →
   Ctx s0 W ((B9,C [.slice pn 0 n (.lim n)]) :: (pn,C (encs (rcs (Z22 L th f cs l) V))) :: (Bf,C (ints f)) :: (Bo,C (ints th)) :: (B3,C [.slice Bn 0 l c3,rt]) :: (Bn,C (Z0g L VL)) :: (mrL ++ (mk' ++ base))) s' →
   wp Tryd.prog Zsp fr t s' Q):wp Tryd.prog Zmy fr t0 s Q:=by
 refine AM.wp_seq ?_
 refine Z00 ?_
 simp [t3,hc.c 4 rfl]
 refine AM.wp_block ?_
 refine AM.wp_loop (fun m t s' => ∃ (i:Nat) (V:List AVal) (mk':Lets),i ≤ l∧m = l - i∧PT.get (posOf 0) t = PT.get (posOf 0) t0∧PT.get (posOf 3) t = some (.ptr B3 0)∧PT.get (posOf 7) t = some (.slice Bo 0 l c7)∧PT.get (posOf 8) t = some (.slice Bf 0 l c8)∧PT.get (posOf 9) t = some (.ptr B9 0) ∧
   PT.get (posOf 77) t = some (.slice Bn 0 l c3)∧PT.get (posOf 78) t = some (.int .i64 l)∧PT.get (posOf 79) t = some (.int .i64 i)∧FilI L th f (Z22 L th f cs i) V i∧Z14 ((Z22 L th f cs i).map CV.kids) V mk' ∧
   Ctx s0 W ((B9,C [.slice pn 0 n (.lim n)]) :: (pn,C (encs (rcs (Z22 L th f cs i) V))) :: (Bf,C (ints f)) :: (Bo,C (ints th)) :: (B3,C [.slice Bn 0 l c3,rt]) :: (Bn,C (Z0g L VL)) :: (mrL ++ (mk' ++ base))) s') l
   ⟨0,V0,mk,by simp,by simp,by simp,by simp [t3],by simp [t7],by simp [t8],by simp [t9],by simp,by simp,by simp,hI,hR,hc⟩ ?_
 rintro m t s' ⟨i,V,mk',hi,rfl,e0,u3,u7,u8,u9,u77,u78,u79,hI',hR',hc'⟩
 refine Z00 ?_
 simp [u78,u79]
 refine AM.wp_seq ?_
 refine AM.Z03 ?_
 by_cases hlt:i < l
 ·have hwr:IntKind.wrap .i64 ((i:Int) + 1) = ((i + 1:Nat):Int):=by rw [IntWalk.i64_in _ (by omega)]; omega
  obtain ⟨nd,hnd⟩:∃ nd,L[i]? = some nd:=⟨_,List.getElem?_eq_getElem (by omega)⟩
  obtain ⟨x,hx⟩:∃ x,th[i]? = some x:=⟨_,List.getElem?_eq_getElem (by omega)⟩
  have hgx:(ints th)[i]? = some (.int .i64 x):=by rw [List.getElem?_map,hx]; rfl
  have hbn:s'.cells Bn = some (Z0g L VL):=hc'.c 5 rfl
  have hbo:s'.cells Bo = some (ints th):=hc'.c 3 rfl
  obtain ⟨kv,hsg,hsl,hkv⟩:=Zq2 hVL hnd
  have hkt:∀ t,¬ kv = .tup t:=by
   rintro t rfl
   rcases hkv with ⟨_,h2⟩ | ⟨q,c,_,h2,_⟩
   ·cases h2
   ·cases h2
  have hmin:min 2 ((Z0g L VL).length - i * 2) = 2:=by omega
  simp [hlt]
  refine AM.wp_skip ?_
  simp
  refine AM.wp_seq ?_
  refine AM.wp_block ?_
  refine Z00 ?_
  simp [u77,u79,hlt,hbn,hsl,hmin,hsg]
  have e1:=(hc'.alloc (C [.str [],.nilSlice])).put 0 rfl (C [.str nd.1,kv])
  simp only [List.set_cons_zero] at e1
  generalize (s'.alloc (.cells [.str [],.nilSlice] false)).put s'.next (.cells [.str nd.1,kv] false) = s4 at e1 ⊢
  generalize s'.next = B14 at e1 ⊢
  have hbo4:s4.cells Bo = some (ints th):=e1.c 4 rfl
  refine AM.wp_seq ?_
  refine Z00 ?_
  simp [u7,hlt,hbo4,hgx]
  refine AM.Z03 ?_
  by_cases hx0:x < 0
  ·simp [hx0]
   refine AM.wp_skip ?_
   simp
   have hxd:(th[i]?).getD 0 < 0:=by rw [hx]; exact hx0
   obtain ⟨a,d,g1,g2,g3,g4⟩:=hI'.cell i (Nat.le_refl _) (by omega) hxd
   have hV:V.length = n:=by have:=hR'.len; rw [List.length_map,Z8n,hn] at this; exact this
   obtain ⟨hk4,hkin⟩:=hG nd (List.mem_of_getElem? hnd)
   refine Zw7 (ks:=nd.2) (f:=f) (cs:=Z22 L th f cs i) (V:=V) (a:=a) (l:=l) (n:=n) (i:=i) (d:=d) (c8:=c8) (nm:=nd.1) (kv0:=kv) (Bf:=Bf) (pn:=pn) (B9:=B9) (B14:=B14) (r:=(Bo,C (ints th)) :: (B3,C [.slice Bn 0 l c3,rt]) :: (Bn,C (Z0g L VL)) :: (mrL ++ (mk' ++ base))) ?_ hk4 (by rw [hl] at hkin; exact hkin) (by rw [Z8n,hn]) hV g2 g3 g4 g1 hf e1 (by simp [u8]) (by simp [u9]) (by simp) (by simp) fun t2 s5 kv2 mg hF2 hg2 e2 => ?_
   ·rcases hkv with h | ⟨q,c,h1,h2,h3⟩
    ·exact .inl h
    ·exact .inr ⟨q,c,h1,h2,by simp [h3]⟩
   have v0:PT.get (posOf 0) t2 = PT.get (posOf 0) t0:=(hF2 0 (by simp)).trans (by simpa using e0)
   have v3:PT.get (posOf 3) t2 = some (.ptr B3 0):=(hF2 3 (by simp)).trans (by simp [u3])
   have v7:PT.get (posOf 7) t2 = some (.slice Bo 0 l c7):=(hF2 7 (by simp)).trans (by simp [u7])
   have v8:PT.get (posOf 8) t2 = some (.slice Bf 0 l c8):=(hF2 8 (by simp)).trans (by simp [u8])
   have v9:PT.get (posOf 9) t2 = some (.ptr B9 0):=(hF2 9 (by simp)).trans (by simp [u9])
   have v77:PT.get (posOf 77) t2 = some (.slice Bn 0 l c3):=(hF2 77 (by simp)).trans (by simp [u77])
   have v78:PT.get (posOf 78) t2 = some (.int .i64 l):=(hF2 78 (by simp)).trans (by simp [u78])
   have v79:PT.get (posOf 79) t2 = some (.int .i64 i):=(hF2 79 (by simp)).trans (by simp [u79])
   have hnxt:Z22 L th f cs (i + 1) = (Z22 L th f cs i).set a { d with kids:=Z1o f nd.2 }:=by
    have:¬ 0 ≤ (th[i]?).getD 0:=by omega
    rw [Z22,if_neg this,g1,hnd]
    unfold setK
    simp [g2]
   rw [← hnxt] at e2
   obtain ⟨kv3,m1,m2,f1,f2,f3,f4⟩:=hR'.at (i:=a) (ks:=[]) (by rw [List.getElem?_map,g2,← g3]; rfl)
   have hm1:m1 = []:=by
    rcases f2 with ⟨_,_,h⟩ | ⟨_,_,h,_⟩
    ·exact h
    ·exact (h rfl).elim
   subst hm1
   have hR2:=f4 (Z1o f nd.2) kv2 mg hg2.row
   have hmp:((Z22 L th f cs i).map CV.kids).set a (Z1o f nd.2) = (Z22 L th f cs (i + 1)).map CV.kids:=by rw [hnxt,List.map_set]
   rw [hmp] at hR2
   have hI2:=hI'.next (kv:=kv2) (d:={ d with kids:=Z1o f nd.2 }) (by omega) hxd g1
   rw [← hnxt] at hI2
   simp
   refine AM.wp_region ?_
   simp [v79,hwr]
   refine ⟨l - (i + 1),by omega,i + 1,by omega,by omega,by simpa using v0,by simp [v3],by simp [v7],by simp [v8],by simp [v9],by simp [v77],by simp [v78],by simp,V.set a kv2,hI2,mg ++ m2,hR2,?_⟩
   refine e2.tail.perm (Z0r fun y => ?_)
   have i3:=Z8d f3 y
   simp only [Z0h,Z0o,Z2n] at i3 ⊢
   omega
  ·simp [hx0]
   refine AM.wp_exit ?_
   simp
   have hnxt:Z22 L th f cs (i + 1) = Z22 L th f cs i:=by
    have:0 ≤ (th[i]?).getD 0:=by rw [hx]; show 0 ≤ x; omega
    rw [Z22,if_pos this]
   refine AM.wp_region ?_
   simp [u79,hwr]
   refine ⟨l - (i + 1),by omega,i + 1,by omega,by omega,by simpa using e0,by simp [u3],by simp [u7],by simp [u8],by simp [u9],by simp [u77],by simp [u78],by simp,V,by rw [hnxt]; exact hI'.skip,mk',by rw [hnxt]; exact hR',?_⟩
   rw [hnxt]
   exact e1.tail
 ·simp [hlt]
  refine AM.wp_exit ?_
  simp
  have hie:i = l:=by omega
  subst hie
  exact q _ s' V mk' (by simpa using e0) (by simp [u8]) (by simp [u9]) hR' hc'
end
section
variable {s0 s:St} {W:Pos→Prop} {fr:FI} {t0:PT AVal} {Q:Ex→PT AVal→St→Prop} {r:Lets}
theorem Zw5 {B3 B9 Bo Bf Bn pn:Pos} {cs:List CV} {V0 VL:List AVal} {L:List ND} {th:List Int} {mrL mk base:Lets} {n l:Nat} {c3 c7 c8:Cap} {rt:AVal}
  (hl:L.length = l) (hl6:l ≤ 60) (hn:cs.length = n) (hn4:n ≤ 400) (hVL:Z14 (L.map Prod.snd) VL mrL) (hth:th.length = l) (hR:Z14 (cs.map CV.kids) V0 mk)
  (t3:PT.get (posOf 3) t0 = some (.ptr B3 0)) (t7:PT.get (posOf 7) t0 = some (.slice Bo 0 l c7)) (t8:PT.get (posOf 8) t0 = some (.slice Bf 0 l c8)) (t9:PT.get (posOf 9) t0 = some (.ptr B9 0))
  (hc:Ctx s0 W ((B9,C [.slice pn 0 n (.lim n)]) :: (pn,C (encs (rcs cs V0))) :: (Bf,C (ints th)) :: (Bo,C (ints th)) :: (B3,C [.slice Bn 0 l c3,rt]) :: (Bn,C (Z0g L VL)) :: (mrL ++ (mk ++ base))) s)
  (qf:∀ t s' m',Z3f L th cs l = none→PT.get (posOf 4) t = some (.int .i64 0)→PT.get (posOf 5) t = some (.int .i64 12)→Ctx s0 W (m' ++ base) s'→Q .ret t s')
  (q:∀ t s' c f V mk',Z3f L th cs l = some (c,f)→AllI L th cs c V f l→PT.get (posOf 0) t = PT.get (posOf 0) t0→PT.get (posOf 3) t = some (.ptr B3 0)→PT.get (posOf 7) t = some (.slice Bo 0 l c7)→PT.get (posOf 8) t = some (.slice Bf 0 l c8)→PT.get (posOf 9) t = some (.ptr B9 0)→Z14 (c.map CV.kids) V mk' →
   Ctx s0 W ((B9,C [.slice pn 0 n (.lim n)]) :: (pn,C (encs (rcs c V))) :: (Bf,C (ints f)) :: (Bo,C (ints th)) :: (B3,C [.slice Bn 0 l c3,rt]) :: (Bn,C (Z0g L VL)) :: (mrL ++ (mk' ++ base))) s' →
   wp Tryd.prog Zmy fr t s' Q):wp Tryd.prog Zsn fr t0 s Q:=by
 refine AM.wp_seq ?_
 refine Z00 ?_
 simp [t3,hc.c 4 rfl]
 refine AM.wp_block ?_
 refine AM.wp_loop (fun m t s' => ∃ (i:Nat) (c:List CV) (f:List Int) (V:List AVal) (mk':Lets),i ≤ l∧m = l - i∧PT.get (posOf 0) t = PT.get (posOf 0) t0∧PT.get (posOf 3) t = some (.ptr B3 0)∧PT.get (posOf 7) t = some (.slice Bo 0 l c7)∧PT.get (posOf 8) t = some (.slice Bf 0 l c8)∧PT.get (posOf 9) t = some (.ptr B9 0) ∧
   PT.get (posOf 48) t = some (.slice Bn 0 l c3)∧PT.get (posOf 49) t = some (.int .i64 l)∧PT.get (posOf 50) t = some (.int .i64 i)∧Z3f L th cs i = some (c,f)∧AllI L th cs c V f i∧Z14 (c.map CV.kids) V mk' ∧
   Ctx s0 W ((B9,C [.slice pn 0 n (.lim n)]) :: (pn,C (encs (rcs c V))) :: (Bf,C (ints f)) :: (Bo,C (ints th)) :: (B3,C [.slice Bn 0 l c3,rt]) :: (Bn,C (Z0g L VL)) :: (mrL ++ (mk' ++ base))) s') l
   ⟨0,cs,th,V0,mk,by simp,by simp,by simp,by simp [t3],by simp [t7],by simp [t8],by simp [t9],by simp,by simp,by simp,rfl,AllI.zero (by omega),hR,hc⟩ ?_
 rintro m t s' ⟨i,c,f,V,mk',hi,rfl,e0,u3,u7,u8,u9,u48,u49,u50,hA,hI,hR',hc'⟩
 refine Z00 ?_
 simp [u49,u50]
 refine AM.wp_seq ?_
 refine AM.Z03 ?_
 by_cases hlt:i < l
 ·have hwr:IntKind.wrap .i64 ((i:Int) + 1) = ((i + 1:Nat):Int):=by rw [IntWalk.i64_in _ (by omega)]; omega
  obtain ⟨nd,hnd⟩:∃ nd,L[i]? = some nd:=⟨_,List.getElem?_eq_getElem (by omega)⟩
  obtain ⟨x,hx⟩:∃ x,th[i]? = some x:=⟨_,List.getElem?_eq_getElem (by omega)⟩
  have hgx:(ints th)[i]? = some (.int .i64 x):=by rw [List.getElem?_map,hx]; rfl
  have hbn:s'.cells Bn = some (Z0g L VL):=hc'.c 5 rfl
  obtain ⟨kv,hsg,hsl,hkv⟩:=Zq2 hVL hnd
  have hkt:∀ t,¬ kv = .tup t:=by
   rintro t rfl
   rcases hkv with ⟨_,h2⟩ | ⟨q,c,_,h2,_⟩
   ·cases h2
   ·cases h2
  have hkc:kv.cells = [kv]:=by
   rcases hkv with ⟨_,h2⟩ | ⟨q,c,_,h2,_⟩
   ·cases kv <;> first | rfl | cases h2
   ·rw [h2]; rfl
  have hmin:min 2 ((Z0g L VL).length - i * 2) = 2:=by omega
  have hV:V.length = c.length:=by have:=hR'.len; simpa using this
  have hcn:c.length = n:=hI.len.trans hn
  simp [hlt]
  refine AM.wp_skip ?_
  simp
  refine AM.wp_seq ?_
  refine AM.wp_block ?_
  refine Z00 ?_
  simp [u48,u50,hlt,hbn,hsl,hmin,hsg]
  have e1:=(hc'.alloc (C [.str [],.nilSlice])).put 0 rfl (C [.str nd.1,kv])
  simp only [List.set_cons_zero] at e1
  generalize (s'.alloc (.cells [.str [],.nilSlice] false)).put s'.next (.cells [.str nd.1,kv] false) = s4 at e1 ⊢
  generalize s'.next = B11 at e1 ⊢
  have hbo4:s4.cells Bo = some (ints th):=e1.c 4 rfl
  refine AM.wp_seq ?_
  refine Z00 ?_
  simp [u7,hlt,hbo4,hgx]
  refine AM.Z03 ?_
  by_cases hx0:x < 0
  ·have hxd:¬ 0 ≤ (th[i]?).getD 0:=by rw [hx]; show ¬ 0 ≤ x; omega
   simp [hx0]
   refine AM.wp_skip ?_
   simp
   refine Z00 ?_
   simp [u9,e1.c 1 rfl]
   refine Z05 ?_
   have hl2:=Z34 hV
   rw [hcn] at hl2
   refine Zys (e1.oi 2 rfl) (e1.c 2 rfl) hl2 hn4 fun s5 k5 => ?_
   have e2:=e1.keeps k5
   rw [Zvf hV]
   simp
   refine AM.wp_seq ?_
   refine Z00 ?_
   simp
   refine AM.Z03 ?_
   rcases Zco c with hfr | ⟨a,d,hfr,had,hdt⟩
   ·rw [hfr]
    simp
    refine Z00 ?_
    simp
    refine AM.wp_ret ?_
    simp
    refine qf _ s5 ((B11,C [.str nd.1,kv]) :: (B9,C [.slice pn 0 n (.lim n)]) :: (pn,C (encs (rcs c V))) :: (Bf,C (ints f)) :: (Bo,C (ints th)) :: (B3,C [.slice Bn 0 l c3,rt]) :: (Bn,C (Z0g L VL)) :: (mrL ++ mk')) ?_ (by simp) (by simp) (by simpa using e2)
    refine Zqm (i:=i + 1) ?_ _ (by omega)
    rw [Z3f,hA]
    simp only
    rw [if_neg hxd,if_pos (by omega)]
   ·have hal:a < c.length:=(List.getElem?_eq_some_iff.1 had).1
    rw [hfr]
    have ha0:¬ (a:Int) < 0:=by omega
    simp [ha0]
    refine AM.wp_skip ?_
    simp
    have han:(a:Int) < n:=by omega
    have hrg:a < (rcs c V).length:=by rw [hl2]; omega
    have hlay:=Zhp (rcs c V) a ⟨true,nd.1,.nilSlice,0⟩ hrg
    have hrs:(rcs c V).set a ⟨true,nd.1,.nilSlice,0⟩ = rcs (c.set a ⟨true,nd.1,[],0⟩) (V.set a .nilSlice):=Zda (d:=⟨true,nd.1,[],0⟩)
    rw [hrs] at hlay
    have hle:a * 4 + 4 ≤ (encs (rcs c V)).length:=by rw [Z4f,hl2]; omega
    simp [lay,RC.enc] at hlay
    have hpn:s5.own pn = some (encs (rcs c V)):=e2.o 2 rfl
    refine Z00 ?_
    simp [u9,e2.c 0 rfl,e2.c 1 rfl,han,hpn,hle]
    rw [hlay]
    have e3:=e2.put 2 rfl (C (encs (rcs (c.set a ⟨true,nd.1,[],0⟩) (V.set a .nilSlice))))
    simp only [List.set_cons_zero,List.set_cons_succ] at e3
    generalize s5.put pn (.cells (encs (rcs (c.set a ⟨true,nd.1,[],0⟩) (V.set a .nilSlice))) false) = s6 at e3 ⊢
    have hfl:f.length = l:=hI.flen.trans hl
    have hbf:s6.own Bf = some (ints f):=e3.o 3 rfl
    have hlf:i + 1 ≤ (ints f).length:=by simp [hfl]; omega
    have hlay2:lay (ints f) i [.int .i64 a] = ints (f.set i a):=Z8f f i a (by omega)
    generalize hY:ints (f.set i a) = Y at hlay2
    generalize hX:ints f = X at hbf hlf hlay2
    simp [lay] at hlay2
    refine AM.wp_region ?_
    simp [u8,hlt,hbf,hlf]
    rw [hlay2]
    have e4:=e3.put 3 rfl (C Y)
    simp only [List.set_cons_zero,List.set_cons_succ] at e4
    generalize s6.put Bf (.cells Y false) = s7 at e4 ⊢
    rw [← hY] at e4
    obtain ⟨kv3,m1,m2,f1,f2,f3,f4⟩:=hR'.at (i:=a) (ks:=d.kids) (by rw [List.getElem?_map,had]; rfl)
    have hR2:=f4 [] .nilSlice [] (.inl ⟨rfl,rfl,rfl⟩)
    have hmp:(c.map CV.kids).set a [] = (c.set a ⟨true,nd.1,[],0⟩).map CV.kids:=by rw [List.map_set]
    rw [hmp] at hR2
    refine AM.wp_region ?_
    simp [u50,hwr]
    refine ⟨l - (i + 1),by omega,i + 1,by omega,by omega,by simpa using e0,by simp [u3],by simp [u7],by simp [u8],by simp [u9],by simp [u48],by simp [u49],by simp,c.set a ⟨true,nd.1,[],0⟩,f.set i a,?_,V.set a .nilSlice,hI.next (by rw [hV]; exact hI.len) (by omega) had hdt,[] ++ m2,hR2,?_⟩
    ·rw [Z3f,hA]
     simp only
     rw [if_neg hxd,hfr,if_neg (by omega),hnd]
     rfl
    ·refine (e4.tail.perm (m':=((B9,C [.slice pn 0 n (.lim n)]) :: (pn,C (encs (rcs (c.set a ⟨true,nd.1,[],0⟩) (V.set a .nilSlice)))) :: (Bf,C (ints (f.set i a))) :: (Bo,C (ints th)) :: (B3,C [.slice Bn 0 l c3,rt]) :: (Bn,C (Z0g L VL)) :: (mrL ++ (([] ++ m2) ++ base))) ++ m1) (Z0r fun y => ?_)).sub (List.sublist_append_left _ _)
     have i3:=Z8d f3 y
     simp only [Z0h,Z0o,Z2n] at i3 ⊢
     omega
  ·have hxd:0 ≤ (th[i]?).getD 0:=by rw [hx]; show 0 ≤ x; omega
   simp [hx0]
   refine AM.wp_exit ?_
   simp
   refine AM.wp_region ?_
   simp [u50,hwr]
   refine ⟨l - (i + 1),by omega,i + 1,by omega,by omega,by simpa using e0,by simp [u3],by simp [u7],by simp [u8],by simp [u9],by simp [u48],by simp [u49],by simp,c,f,?_,V,hI.skip hxd,mk',hR',e1.tail⟩
   rw [Z3f,hA]
   simp only
   rw [if_pos hxd]
 ·simp [hlt]
  refine AM.wp_exit ?_
  simp
  have hie:i = l:=by omega
  subst hie
  exact q _ s' c f V mk' hA hI (by simpa using e0) (by simp [u3]) (by simp [u7]) (by simp [u8]) (by simp [u9]) hR' hc'
end
theorem Zz2 {s0 s s':St} {W:Pos→Prop} {m:Lets} {kv:AVal} {ks:List Int} (hc:Ctx s0 W m s) (k:Keeps s s') (hne:ks ≠ []) (h:KidV s' kv ks) (hf:∀ q c,kv = .slice q 0 ks.length c→¬ s.Old q∧s'.Old q):∃ q c,kv = .slice q 0 ks.length c∧Ctx s0 W ((q,C (ints ks)) :: m) s':=by
 rcases h with ⟨_,h⟩ | ⟨q,c,rfl,h⟩
 ·exact (hne h).elim
 ·exact ⟨q,c,rfl,hc.made k (hf q c rfl).1 (St.Z2v h)⟩
theorem put_c {s0 s:St} {W:Pos→Prop} {hb:Pos} {vs:AVal} {cs:List CV} {m r:Lets} {nv:AVal} {ns:List ND} {root:Int} {Q:AVal→St→Prop} (hH:Z3s hb vs cs m) (h:Ctx s0 W (m ++ r) s) (hO:HOk cs) (hN:Zaa s nv ns) (hsm:Zcw ns) (hmax:ns.length ≤ 2 ^ 62)
  (q:∀ m' s',Z3s hb vs (putF cs ns root).2.2 m'→Ctx s0 W (m' ++ r) s'→Q (.tup [.int .i64 (putF cs ns root).1,.int .i64 (putF cs ns root).2.1]) s'):Z0f Tryd.prog 19 [.ptr hb 0,.agg [nv,.int .i64 root]] s Q:=by
 obtain ⟨p,V,mr,hc,hR,hV,h1,h4,hP⟩:=Ze4 hH h
 have hNt:=hN.at.ntup
 have hNc:=hN.at.Za4
 have hno:cs.length ≠ 0:=by omega
 have d0:=Ctx.start (fun _ => False) hc.wf
 refine Z09 (Z0n (by decide)) fi19 rfl (by decide) rfl ?_
 refine Z00 ?_
 simp [hNt,hNc]
 have d1:=d0.alloc (C [nv,.int .i64 root])
 generalize s.alloc (.cells [nv,.int .i64 root] false) = s1 at d1 ⊢
 generalize s.next = B3 at d1 ⊢
 refine AM.wp_seq ?_
 refine Z00 ?_
 simp
 refine Z05 ?_
 refine Z9v ((d1.Z0b.cells (hc.oi 0 rfl)).trans (hc.c 0 rfl)) rfl hno ?_
 simp
 refine AM.Z03 ?_
 simp
 refine AM.wp_skip ?_
 simp
 refine Z00 ?_
 simp [d1.c 0 rfl]
 refine Z05 ?_
 unfold putF at q
 refine Zvp d1.wf (hN.keep d1.Z0b) hsm hmax (fun s2 k2 hz => ?_) fun Bn mn s2 hz hM hx => ?_
 ·rw [if_pos hz] at q
  have d2:=d1.keeps k2
  simp [d2.o 0 rfl]
  have d3:=d2.put 0 rfl (C [.nilSlice,.int .i64 0])
  simp only [List.set_cons_zero] at d3
  generalize s2.put B3 (.cells [.nilSlice,.int .i64 0] false) = s3 at d3 ⊢
  refine AM.wp_seq ?_
  refine Z00 ?_
  simp
  refine AM.Z03 ?_
  simp [hz]
  refine Z00 ?_
  simp
  refine AM.wp_ret ?_
  simp
  exact q m s3 hH (h.keeps d3.Z0b)
 ·rw [if_neg (by simpa using hz)] at q
  obtain ⟨o1,o2,hGO,hnm,r0,r1⟩:=Z77 hz
  obtain ⟨hGL,hL1,hL2⟩:=Zag (r:=root.toNat) hGO (by omega)
  generalize hLG:Z0v ns root.toNat = L at hM hGL hL1 hL2 q
  have d3:Ctx s (fun _ => False) (mn ++ [(B3,C [nv,.int .i64 root])]) s2:=Ctx.on (m:=[]) (by simpa using d1) (by simpa using hx)
  obtain ⟨VL,mrL,hp1,hVL⟩:=id hM
  have d4:=d3.perm (m':=(B3,C [nv,.int .i64 root]) :: (Bn,C (Z0g L VL)) :: mrL) (Z0r fun x => by
   have i1:=Z8d hp1 x
   simp only [Z0h,Z0o,Z2n] at i1 ⊢
   omega)
  simp [d4.o 0 rfl]
  have d5:=d4.put 0 rfl (C [.slice Bn 0 L.length (.lim L.length),.int .i64 0])
  simp only [List.set_cons_zero] at d5
  generalize s2.put B3 (.cells [.slice Bn 0 L.length (.lim L.length),.int .i64 0] false) = s4 at d5 ⊢
  have hMA:=hM.at (.lim L.length) (d5.tail.perm hp1.symm)
  have hb4:s4.cells hb = some [.slice p 0 cs.length (.lim cs.length),vs]:=(d5.Z0b.cells (hc.oi 0 rfl)).trans (hc.c 0 rfl)
  have c4:=hc.keeps d5.Z0b
  refine AM.wp_seq ?_
  refine Z00 ?_
  simp
  refine AM.Z03 ?_
  simp
  refine AM.wp_skip ?_
  simp
  refine Z00 ?_
  simp [hb4,d5.c 0 rfl]
  refine Z05 ?_
  have hobs:∀ j c,(rcs cs V)[j]? = some c→Z0e s4 c.kv (Z29 cs j):=by
   intro j c hj
   obtain ⟨_,_,r3⟩:=Z96 (p:=p) (cs:=cs) (V:=V) c4 (by simp) hR (fun y hy => by simp [hy])
   have hjl:j < cs.length:=by have:=(List.getElem?_eq_some_iff.1 hj).1; rwa [Z34 hV] at this
   obtain ⟨kv,e1,e2⟩:=r3 j _ (List.getElem?_eq_getElem hjl)
   rw [Z3d (List.getElem?_eq_getElem hjl) e1] at hj
   cases hj
   rw [Z1z (List.getElem?_eq_getElem hjl)]
   exact e2
  refine Zvd (V:=V) d5.wf (c4.oi 1 rfl) (c4.c 1 rfl) hV h1 h4 hobs hO hMA hGL hL1 (by omega) fun Bo s5 k5 hBo hox => ?_
  have hfl:=Zj5 cs L
  generalize Z1x cs L = th at hox hfl q
  obtain ⟨x,hx0⟩:∃ x,th[0]? = some x:=⟨_,List.getElem?_eq_getElem (by omega)⟩
  have d6:=d5.made k5 hBo (St.Z2v hox)
  have hg0:(ints th)[0]? = some (.int .i64 x):=by rw [List.getElem?_map,hx0]; rfl
  have hL1':0 < L.length:=by omega
  have hcBo:s5.cells Bo = some (ints th):=Z0i hox
  simp
  refine AM.wp_seq ?_
  refine Z00 ?_
  simp [hL1',hcBo,hg0]
  refine AM.Z03 ?_
  rw [hx0] at q
  simp only [Option.getD_some] at q
  by_cases hx1:x < 0
  ·rw [if_neg (by omega)] at q
   simp [hx1]
   refine AM.wp_skip ?_
   simp
   refine Z00 ?_
   simp
   refine Z05 ?_
   have hti:Z0e s5 (.slice Bo 0 L.length (.lim L.length)) th:=by
    have:=Z5q d6.wf hox (.lim L.length)
    rwa [hfl] at this
   refine Zn2 d6.wf hti (by omega) fun kvf s6 k6 hkf hff => ?_
   obtain ⟨Bf,cf,rfl,d7⟩:=Zz2 d6 k6 (by intro e; rw [e] at hfl; simp at hfl; omega) hkf hff
   rw [hfl]
   simp
   have c7:Ctx s0 W ((Bf,C (ints th)) :: (Bo,C (ints th)) :: (B3,C [.slice Bn 0 L.length (.lim L.length),.int .i64 0]) :: (Bn,C (Z0g L VL)) :: (hb,C [.slice p 0 cs.length (.lim cs.length),vs]) :: (p,C (encs (rcs cs V))) :: (mrL ++ (mr ++ r))) s6:=by
    have:=Ctx.on (s0:=s0) (W:=W) (m:=[]) (m':=(Bf,C (ints th)) :: (Bo,C (ints th)) :: (B3,C [.slice Bn 0 L.length (.lim L.length),.int .i64 0]) :: (Bn,C (Z0g L VL)) :: mrL) (r:=(hb,C [.slice p 0 cs.length (.lim cs.length),vs]) :: (p,C (encs (rcs cs V))) :: (mr ++ r)) (by simpa using hc) (by simpa using d7)
    refine this.perm (Z0r fun y => ?_)
    simp only [Z0h,Z0o,Z2n]
    omega
   refine Z00 ?_
   simp [c7.c 4 rfl]
   refine Z05 ?_
   refine own_c (p:=p) (V:=V) (mr:=mr) c7 hV h1 h4 (fun x hx => by have:=hO.kids4 x hx; omega) (by simp) hR (fun x hx => by simp [hx]) fun pn mn s7 hS c8 => ?_
   obtain ⟨V1,mk1,f1,f2⟩:=hS
   simp
   have c9:=(c8.alloc (C [.nilSlice])).put 0 rfl (C [.slice pn 0 cs.length (.lim cs.length)])
   simp only [List.set_cons_zero] at c9
   generalize (s7.alloc (.cells [.nilSlice] false)).put s7.next (.cells [.slice pn 0 cs.length (.lim cs.length)] false) = s8 at c9 ⊢
   generalize s7.next = B9 at c9 ⊢
   have c10:=c9.perm (m':=(B9,C [.slice pn 0 cs.length (.lim cs.length)]) :: (pn,C (encs (rcs cs V1))) :: (Bf,C (ints th)) :: (Bo,C (ints th)) :: (B3,C [.slice Bn 0 L.length (.lim L.length),.int .i64 0]) :: (Bn,C (Z0g L VL)) :: (mrL ++ (mk1 ++ ((hb,C [.slice p 0 cs.length (.lim cs.length),vs]) :: (p,C (encs (rcs cs V))) :: (mr ++ r))))) (Z0r fun y => by
    have i1:=Z8d f1 y
    simp only [Z0h,Z0o,Z2n] at i1 ⊢
    omega)
   refine Zw5 (l:=L.length) (n:=cs.length) (c7:=.lim L.length) (c8:=cf) rfl (by omega) rfl h4 hVL hfl f2 (by simp) (by simp) (by simp) (by simp) c10 (fun t s' m' hal t4 t5 e1 => ?_) fun t1 s9 c f V2 mk2 hal hI t0 t3 t7 t8 t9 hR2 c11 => ?_
   ·rw [hal] at q
    simp [t4,t5]
    refine q m s' hH ((e1.sub (List.sublist_append_right _ _)).perm ?_)
    refine Z0r fun y => ?_
    have i1:=Z8d hP y
    simp only [Z0h,Z0o,Z2n] at i1 ⊢
    omega
   ·rw [hal] at q
    simp only at q
    refine Zw6 (l:=L.length) (n:=cs.length) rfl (by omega) hI.len hGL hVL hfl (hI.flen) hI.fil hR2 t3 t7 t8 t9 c11 fun t2 s10 V3 mk3 v0 v8 v9 hR3 c12 => ?_
    have v0:PT.get (posOf 0) t2 = some (.ptr hb 0):=v0.trans (t0.trans (by simp))
    have hcl:(Z22 L th f c L.length).length = cs.length:=(Z8n L th f c L.length).trans hI.len
    generalize Z22 L th f c L.length = cE at hR3 c12 q hcl
    have c13:=c12.perm (m':=(B9,C [.slice pn 0 cs.length (.lim cs.length)]) :: (hb,C [.slice p 0 cs.length (.lim cs.length),vs]) :: (Bf,C (ints f)) :: (pn,C (encs (rcs cE V3))) :: ((mk3 ++ r) ++ ((Bo,C (ints th)) :: (B3,C [.slice Bn 0 L.length (.lim L.length),.int .i64 0]) :: (Bn,C (Z0g L VL)) :: (p,C (encs (rcs cs V))) :: (mrL ++ mr)))) (Z0r fun y => by
     simp only [Z0h,Z0o,Z2n]
     omega)
    obtain ⟨y,hy⟩:∃ y,f[0]? = some y:=⟨_,List.getElem?_eq_getElem (by have:=hI.flen; omega)⟩
    rw [hy] at q
    simp only [Option.getD_some] at q
    have hgy:(ints f)[0]? = some (.int .i64 y):=by rw [List.getElem?_map,hy]; rfl
    refine Z00 ?_
    simp [v0,v9,c13.c 0 rfl,c13.o 1 rfl]
    have c14:=c13.put 1 rfl (C [.slice pn 0 cs.length (.lim cs.length),vs])
    simp only [List.set_cons_zero,List.set_cons_succ] at c14
    generalize s10.put hb (.cells [.slice pn 0 cs.length (.lim cs.length),vs] false) = s11 at c14 ⊢
    have hBf:s11.cells Bf = some (ints f):=c14.c 2 rfl
    refine Z00 ?_
    simp [v8,hBf,hgy,hL1']
    refine AM.wp_ret ?_
    simp
    refine q ((hb,C [.slice pn 0 cs.length (.lim cs.length),vs]) :: (pn,C (encs (rcs cE V3))) :: mk3) s11 ⟨pn,V3,mk3,by rw [hcl],hR3,by omega,by omega⟩ ?_
    refine (c14.perm (m':=(((hb,C [.slice pn 0 cs.length (.lim cs.length),vs]) :: (pn,C (encs (rcs cE V3))) :: mk3) ++ r) ++ ((B9,C [.slice pn 0 cs.length (.lim cs.length)]) :: (Bf,C (ints f)) :: (Bo,C (ints th)) :: (B3,C [.slice Bn 0 L.length (.lim L.length),.int .i64 0]) :: (Bn,C (Z0g L VL)) :: (p,C (encs (rcs cs V))) :: (mrL ++ mr))) (Z0r fun y => ?_)).sub (List.sublist_append_left _ _)
    simp only [Z0h,Z0o,Z2n]
    omega
  ·rw [if_pos (by omega)] at q
   simp [hx1]
   refine Z00 ?_
   simp [hL1',hcBo,hg0]
   refine AM.wp_ret ?_
   simp
   exact q m s5 hH (h.keeps d6.Z0b)
end Go.Proofs
end
