/- Parts of the proof: Cls7, Mrg4, Wrap, Mov3, Mrg5, Per, Ring1, Ring2, Open3, CodesH, CodesA, Nod, Chk1, Chk2, Chk3, Ring3, Brd1, Brd2, Brd3, Hm1. -/
import Derived.Test.YtoipnedbpjfeiaaGreatDoorChecked
import Derived.Test.YtoipnedbpjfeiaaGreatDoorTie
import Derived.ProofKit
import Derived.Test.YtoipnedbpjfeiaaGreatDoorAz05
set_option linter.all false
set_option linter.unusedSectionVars false
set_option linter.unusedSimpArgs false
set_option linter.unusedVariables false
section
open Go Go.AM
namespace Go.Proofs
def news {α κ:Type} [DecidableEq κ] (f:α→κ):List α→List α→Nat
 | _,[] => 0
 | E,a :: L => (if E.any (fun e => decide (f e = f a)) = true then 0 else 1) + news f (E ++ [a]) L
theorem Zq0 {α κ:Type} [DecidableEq κ] (f:α→κ):∀ (L E:List α),news f E L ≤ L.length
 | [],E => Nat.le_refl _
 | a :: L,E => by
  have:=Zq0 f L (E ++ [a])
  simp only [news,List.length_cons]
  split <;> omega
theorem Za8 {α κ:Type} [DecidableEq κ] {f:α→κ} {E:List α} {a:α}:E.any (fun e => decide (f e = f a)) = true ↔ ∃ e ∈ E,f e = f a:=by
 simp
theorem Zai {α κ μ:Type} [DecidableEq κ] [DecidableEq μ] {f:α→κ} {g:α→μ}:∀ (L E:List α),(∀ a ∈ E ++ L,∀ b ∈ E ++ L,f a = f b→g a = g b)→news g E L ≤ news f E L
 | [],E,_ => Nat.le_refl _
 | a :: L,E,h => by
  have ih:=Zai (f:=f) (g:=g) L (E ++ [a]) (by simpa using h)
  have h1:E.any (fun e => decide (f e = f a)) = true→E.any (fun e => decide (g e = g a)) = true:=by
   rw [Za8,Za8]
   rintro ⟨e,he,hf⟩
   exact ⟨e,he,h e (by simp [he]) a (by simp) hf⟩
  simp only [news]
  by_cases hf:E.any (fun e => decide (f e = f a)) = true
  ·rw [if_pos hf,if_pos (h1 hf)]; omega
  ·rw [if_neg hf]
   split <;> omega
theorem Zfn {α κ μ:Type} [DecidableEq κ] [DecidableEq μ] {f:α→κ} {g:α→μ}:∀ (L E:List α),(∀ a ∈ E ++ L,∀ b ∈ E ++ L,f a = f b→g a = g b)→news g E L = news f E L →
  (∀ a ∈ E,∀ b ∈ E,g a = g b→f a = f b)→∀ a ∈ E ++ L,∀ b ∈ E ++ L,g a = g b→f a = f b
 | [],E,_,_,hE => by simpa using hE
 | a :: L,E,h,he,hE => by
  have hm:=Zai (f:=f) (g:=g) L (E ++ [a]) (by simpa using h)
  have h1:E.any (fun e => decide (f e = f a)) = true→E.any (fun e => decide (g e = g a)) = true:=by
   rw [Za8,Za8]
   rintro ⟨e,he,hf⟩
   exact ⟨e,he,h e (by simp [he]) a (by simp) hf⟩
  simp only [news] at he
  have hkey:news g (E ++ [a]) L = news f (E ++ [a]) L∧(E.any (fun e => decide (g e = g a)) = true→E.any (fun e => decide (f e = f a)) = true):=by
   by_cases hf:E.any (fun e => decide (f e = f a)) = true
   ·rw [if_pos hf,if_pos (h1 hf)] at he
    exact ⟨by omega,fun _ => hf⟩
   ·rw [if_neg hf] at he
    by_cases hg:E.any (fun e => decide (g e = g a)) = true
    ·rw [if_pos hg] at he
     omega
    ·rw [if_neg hg] at he
     exact ⟨by omega,fun h => (hg h).elim⟩
  obtain ⟨e1,e2⟩:=hkey
  rw [Za8,Za8] at e2
  have hone:∀ x ∈ E,g x = g a→f x = f a:=by
   intro x hx hg
   obtain ⟨e,he,hf⟩:=e2 ⟨x,hx,hg⟩
   have:=h e (by simp [he]) a (by simp) hf
   rw [← hf]
   exact hE x hx e he (hg.trans this.symm)
  have ih:=Zfn (f:=f) (g:=g) L (E ++ [a]) (by simpa using h) e1 (by
   intro x hx y hy hg
   simp at hx hy
   rcases hx with hx | rfl
   ·rcases hy with hy | rfl
    ·exact hE x hx y hy hg
    ·exact hone x hx hg
   ·rcases hy with hy | rfl
    ·exact (hone y hy hg.symm).symm
    ·rfl)
  simpa using ih
theorem Zku {now:List Int} {nds:List (List UInt8 × List Int)}:∀ (L E:List Nat) (x:List Key × List Int),(∀ k,k ∈ x.1 ↔ ∃ e ∈ E,keyA now nds e = k) →
  (L.foldl (Z54 now nds) x).1.length = x.1.length + news (keyA now nds) E L
 | [],E,x,_ => rfl
 | a :: L,E,x,h => by
  rw [List.foldl_cons,Zku L (E ++ [a]) (Z54 now nds x a)]
  ·show (addK x.1 (keyA now nds a)).length + _ = _
   simp only [news]
   by_cases hm:keyA now nds a ∈ x.1
   ·have h2:=(Za8 (f:=keyA now nds) (E:=E) (a:=a)).2 ((h _).1 hm)
    rw [if_pos h2]
    unfold addK
    rw [if_pos hm]
    omega
   ·have h2:¬ E.any (fun e => decide (keyA now nds e = keyA now nds a)) = true:=fun hh => hm ((h _).2 (Za8.1 hh))
    rw [if_neg h2]
    unfold addK
    rw [if_neg hm]
    simp
    omega
  ·intro k
   show k ∈ addK x.1 (keyA now nds a) ↔ _
   unfold addK
   split
   ·rename_i hm
    rw [h]
    constructor
    ·rintro ⟨e,he,hk⟩
     exact ⟨e,by simp [he],hk⟩
    ·rintro ⟨e,he,hk⟩
     simp at he
     rcases he with he | rfl
     ·exact ⟨e,he,hk⟩
     ·obtain ⟨e',he',hk'⟩:=(h _).1 hm
      exact ⟨e',he',hk'.trans hk⟩
   ·simp only [List.mem_append,List.mem_singleton]
    rw [h]
    constructor
    ·rintro (⟨e,he,hk⟩ | rfl)
     ·exact ⟨e,.inl he,hk⟩
     ·exact ⟨a,.inr rfl,rfl⟩
    ·rintro ⟨e,he | rfl,hk⟩
     ·exact .inl ⟨e,he,hk⟩
     ·exact .inr hk.symm
theorem Z5g (nds:List (List UInt8 × List Int)) (L:List Nat) (r:Nat):cntI nds L (r + 1) = news (keyA (nowI nds L r) nds) [] L:=by
 show (Z0r (nowI nds L r) nds L).1.length = _
 unfold Z0r
 rw [Zku L [] _ (by simp)]
 simp
structure Closed (nds:List (List UInt8 × List Int)) (L:List Nat):Prop where
 lt:∀ a ∈ L,a < nds.length
 kids:∀ a ∈ L,∀ x,nds[a]? = some x→x.2.length ≤ 4∧∀ k ∈ x.2,k.toNat ∈ L
def sim (nds:List (List UInt8 × List Int)):Nat→Nat→Nat→Prop
 | 0,_,_ => True
 | r + 1,a,b => ∃ x y,nds[a]? = some x∧nds[b]? = some y∧x.1 = y.1∧x.2.length = y.2.length∧∀ (j:Nat) (k m:Int),x.2[j]? = some k→y.2[j]? = some m→sim nds r k.toNat m.toNat
section
variable {nds:List (List UInt8 × List Int)} {L:List Nat} (hC:Closed nds L)
include hC
theorem Z9o:∀ (r a b:Nat),a ∈ L→b ∈ L→((nowI nds L r)[a]? = (nowI nds L r)[b]? ↔ sim nds r a b)
 | 0,a,b,ha,hb => by simp [nowI,sim,hC.lt a ha,hC.lt b hb]
 | r + 1,a,b,ha,hb => by
  have hna:=hC.lt a ha
  have hnb:=hC.lt b hb
  have hx:nds[a]? = some nds[a]:=List.getElem?_eq_getElem hna
  have hy:nds[b]? = some nds[b]:=List.getElem?_eq_getElem hnb
  obtain ⟨h4,hkx⟩:=hC.kids a ha _ hx
  obtain ⟨h4',hky⟩:=hC.kids b hb _ hy
  show (Z0r (nowI nds L r) nds L).2[a]? = (Z0r (nowI nds L r) nds L).2[b]? ↔ _
  rw [Zea ha hb hna hnb,Zjx hx hy h4]
  have hj:∀ (j:Nat) (k m:Int),nds[a].2[j]? = some k→nds[b].2[j]? = some m →
    ((((nds[a].2[j]?).bind fun k => (nowI nds L r)[k.toNat]?).getD 0 = ((nds[b].2[j]?).bind fun k => (nowI nds L r)[k.toNat]?).getD 0) ↔ sim nds r k.toNat m.toNat):=by
   intro j k m hk hm
   have mk:=hkx k (List.mem_of_getElem? hk)
   have mm:=hky m (List.mem_of_getElem? hm)
   rw [hk,hm,← Z9o r _ _ mk mm]
   simp only [Option.bind_some]
   have lx:k.toNat < (nowI nds L r).length:=by rw [Z6h]; exact hC.lt _ mk
   have ly:m.toNat < (nowI nds L r).length:=by rw [Z6h]; exact hC.lt _ mm
   rw [List.getElem?_eq_getElem lx,List.getElem?_eq_getElem ly]
   simp
  constructor
  ·rintro ⟨e1,e2,e3⟩
   refine ⟨_,_,hx,hy,e1,e2,fun j k m hk hm => (hj j k m hk hm).1 (e3 j ?_)⟩
   exact (List.getElem?_eq_some_iff.1 hk).1
  ·rintro ⟨x,y,hx',hy',e1,e2,e3⟩
   rw [hx] at hx'
   rw [hy] at hy'
   cases hx'
   cases hy'
   refine ⟨e1,e2,fun j hj' => ?_⟩
   have gk:nds[a].2[j]? = some nds[a].2[j]:=List.getElem?_eq_getElem hj'
   have gm:nds[b].2[j]? = some (nds[b].2[j]'(by omega)):=List.getElem?_eq_getElem (by omega)
   exact (hj j _ _ gk gm).2 (e3 j _ _ gk gm)
theorem Z64 (r a b:Nat) (ha:a ∈ L) (hb:b ∈ L):keyA (nowI nds L r) nds a = keyA (nowI nds L r) nds b ↔ sim nds (r + 1) a b:=by
 rw [← Z9o hC (r + 1) a b ha hb]
 exact (Zea ha hb (hC.lt a ha) (hC.lt b hb)).symm
theorem Zeh {r a b:Nat} (ha:a ∈ L) (hb:b ∈ L) (h:sim nds (r + 1) a b):sim nds r a b :=
 (Z9o hC r a b ha hb).1 (Zfo hC.lt hC.kids r a b ha hb ((Z9o hC (r + 1) a b ha hb).2 h))
theorem Zx3 {r m a b:Nat} (ha:a ∈ L) (hb:b ∈ L) (hm:m ≤ r) (h:sim nds r a b):sim nds m a b:=by
 induction r with
 | zero =>
  have:m = 0:=by omega
  subst this
  exact h
 | succ r ih =>
  rcases Nat.lt_or_ge m (r + 1) with h1 | h1
  ·exact ih (by omega) (Zeh hC ha hb h)
  ·have:m = r + 1:=by omega
   subst this
   exact h
theorem Ztn (r:Nat):cntI nds L r ≤ cntI nds L (r + 1):=by
 cases r with
 | zero => exact Nat.zero_le _
 | succ r =>
  rw [Z5g,Z5g]
  refine Zai L [] fun a ha b hb h => ?_
  simp at ha hb
  exact (Z64 hC r a b ha hb).2 (Zeh hC ha hb ((Z64 hC (r + 1) a b ha hb).1 h))
theorem Zvu (r:Nat):cntI nds L r ≤ L.length:=by
 cases r with
 | zero => exact Nat.zero_le _
 | succ r => rw [Z5g]; exact Zq0 _ _ _
theorem Zid:∀ (r:Nat),(∀ m,m < r→cntI nds L (m + 1) ≠ cntI nds L m)→r ≤ cntI nds L r
 | 0,_ => Nat.zero_le _
 | r + 1,h => by
  have h1:=Zid r fun m hm => h m (by omega)
  have h2:=Ztn hC r
  have h3:=h r (by omega)
  omega
theorem Zec:∃ R,cntI nds L (R + 1) = cntI nds L R∧∀ r,r < R→cntI nds L (r + 1) ≠ cntI nds L r:=by
 have hex:∃ R,R ≤ L.length∧cntI nds L (R + 1) = cntI nds L R:=by
  refine Classical.byContradiction fun hn => ?_
  have h1:=Zid hC (L.length + 1) fun m hm he => hn ⟨m,by omega,he⟩
  have h2:=Zvu hC (L.length + 1)
  omega
 obtain ⟨R,_,hR⟩:=hex
 revert hR
 refine Nat.strongRecOn (motive:=fun R => cntI nds L (R + 1) = cntI nds L R→_) R fun n ih hn => ?_
 by_cases h:∃ r,r < n∧cntI nds L (r + 1) = cntI nds L r
 ·obtain ⟨r,hr,he⟩:=h
  exact ih r hr he
 ·exact ⟨n,hn,fun r hr he => h ⟨r,hr,he⟩⟩
theorem Zll {R:Nat} (hE:cntI nds L (R + 1) = cntI nds L R):∀ (d a b:Nat),a ∈ L→b ∈ L→sim nds R a b→sim nds (R + d) a b
 | 0,a,b,_,_,h => h
 | d + 1,a,b,ha,hb,h => by
  have hone:∀ a b,a ∈ L→b ∈ L→sim nds R a b→sim nds (R + 1) a b:=by
   intro a b ha hb h
   cases R with
   | zero =>
    have h0:cntI nds L (0 + 1) = 0:=hE
    rw [Z5g] at h0
    cases L with
    | nil => cases ha
    | cons c L => simp [news] at h0
   | succ r =>
    rw [Z5g,Z5g] at hE
    have:=Zfn (f:=keyA (nowI nds L (r + 1)) nds) (g:=keyA (nowI nds L r) nds) L [] (by
     intro a ha b hb h
     simp at ha hb
     exact (Z64 hC r a b ha hb).2 (Zeh hC ha hb ((Z64 hC (r + 1) a b ha hb).1 h))) hE.symm (by simp) a (by simpa using ha) b (by simpa using hb)
    exact (Z64 hC (r + 1) a b ha hb).1 (this ((Z64 hC r a b ha hb).2 h))
  have h1:=hone a b ha hb h
  obtain ⟨x,y,hx,hy,e1,e2,e3⟩:=h1
  refine ⟨x,y,hx,hy,e1,e2,fun j k m hk hm => ?_⟩
  exact Zll hE d _ _ ((hC.kids a ha x hx).2 k (List.mem_of_getElem? hk)) ((hC.kids b hb y hy).2 m (List.mem_of_getElem? hm)) (e3 j k m hk hm)
theorem Zgt {R:Nat} (hE:cntI nds L (R + 1) = cntI nds L R) {a b:Nat} (ha:a ∈ L) (hb:b ∈ L):(nowI nds L (R + 1))[a]? = (nowI nds L (R + 1))[b]? ↔ ∀ r,sim nds r a b:=by
 rw [Z9o hC (R + 1) a b ha hb]
 constructor
 ·intro h r
  have h1:=Zll hC hE r a b ha hb (Zeh hC ha hb h)
  exact Zx3 hC ha hb (by omega) h1
 ·intro h
  exact h _
end
theorem Zit {now:List Int} {nds:List (List UInt8 × List Int)}:∀ (L:List Nat) (x:List Key × List Int) (a:Nat),a ∉ L→(L.foldl (Z54 now nds) x).2[a]? = x.2[a]?
 | [],x,a,_ => rfl
 | b :: L,x,a,h => by
  simp at h
  rw [List.foldl_cons,Zit L _ a h.2]
  show (x.2.set b _)[a]? = _
  rw [List.getElem?_set_ne (fun e => h.1 e.symm)]
theorem Zfp (nds:List (List UInt8 × List Int)) (L:List Nat) (r a:Nat) (ha:a < nds.length) (h:a ∉ L):(nowI nds L (r + 1))[a]? = some (-1):=by
 show (Z0r (nowI nds L r) nds L).2[a]? = _
 unfold Z0r
 rw [Zit L _ a h]
 simp [ha]
end Go.Proofs
end
section
open Go Go.AM
namespace Go.Proofs
set_option maxRecDepth 100000
open Classical in
noncomputable def clsF (nds:List (List UInt8 × List Int)) (L:List Nat):List Int:=if h:Closed nds L then nowI nds L (Classical.choose (Zec h) + 1) else []
theorem Z9d {nds:List (List UInt8 × List Int)} {L:List Nat} (h:Closed nds L):∃ R,clsF nds L = nowI nds L (R + 1)∧cntI nds L (R + 1) = cntI nds L R∧∀ r,r < R→cntI nds L (r + 1) ≠ cntI nds L r:=by
 refine ⟨Classical.choose (Zec h),?_,Classical.choose_spec (Zec h)⟩
 unfold clsF
 rw [dif_pos h]
def Z0j (cs:List CV):List (List UInt8 × List Int):=cs.map fun c => if c.taken = true then (c.name,c.kids) else ([],[])
def Z1r (cs:List CV) (i:Nat):List Nat:=(List.range i).filter fun j => Z08 cs (j:Int)
theorem Z1l {cs:List CV} {j:Nat} {c:CV} (h:cs[j]? = some c):Z08 cs (j:Int) = c.taken:=by
 unfold Z08
 simp [h]
theorem Zh0 {cs:List CV} {i:Nat} {c:CV} (h:cs[i]? = some c) (hc:c.taken = true):Z1r cs (i + 1) = Z1r cs i ++ [i]:=by
 unfold Z1r
 rw [List.range_succ,List.filter_append]
 simp [Z1l h,hc]
theorem Zh1 {cs:List CV} {i:Nat} {c:CV} (h:cs[i]? = some c) (hc:c.taken = false):Z1r cs (i + 1) = Z1r cs i:=by
 unfold Z1r
 rw [List.range_succ,List.filter_append]
 simp [Z1l h,hc]
theorem Z5l {cs:List CV} {i a:Nat}:a ∈ Z1r cs i ↔ a < i∧Z08 cs (a:Int) = true:=by
 unfold Z1r
 simp
structure HOk (cs:List CV):Prop where
 kids4:∀ c ∈ cs,c.kids.length ≤ 4
 kids:∀ c ∈ cs,c.taken = true→∀ k ∈ c.kids,Z08 cs k = true
theorem Z2k {cs:List CV} {a:Nat} {c:CV} (h:cs[a]? = some c):(Z0j cs)[a]? = some (if c.taken = true then (c.name,c.kids) else ([],[])):=by
 unfold Z0j
 rw [List.getElem?_map,h]
 rfl
theorem Z13 (cs:List CV):(Z0j cs).length = cs.length:=by simp [Z0j]
theorem HOk.closed {cs:List CV} (h:HOk cs):Closed (Z0j cs) (Z1r cs cs.length):=by
 refine ⟨fun a ha => ?_,fun a ha x hx => ?_⟩
 ·rw [Z13]
  exact (Z5l.1 ha).1
 ·obtain ⟨h1,h2⟩:=Z5l.1 ha
  have hc:cs[a]? = some cs[a]:=List.getElem?_eq_getElem h1
  rw [Z1l hc] at h2
  rw [Z2k hc,if_pos h2] at hx
  cases hx
  refine ⟨h.kids4 _ (List.getElem_mem h1),fun k hk => ?_⟩
  have h3:=h.kids _ (List.getElem_mem h1) h2 k hk
  obtain ⟨h0,d,hd,ht,hlt⟩:=Z1z h3
  rw [Z5l]
  refine ⟨hlt,?_⟩
  rw [Z1l hd]
  exact ht
theorem HOk.Zdy {cs:List CV} (h:HOk cs):∀ (a:Nat) nd,(Z0j cs)[a]? = some nd→nd.2.length ≤ 4∧∀ k ∈ nd.2,0 ≤ k∧k < (Z0j cs).length:=by
 intro a nd hnd
 have h1:a < cs.length:=by have:=(List.getElem?_eq_some_iff.1 hnd).1; rwa [Z13] at this
 have hc:cs[a]? = some cs[a]:=List.getElem?_eq_getElem h1
 rw [Z2k hc] at hnd
 by_cases ht:cs[a].taken = true
 ·rw [if_pos ht] at hnd
  cases hnd
  refine ⟨h.kids4 _ (List.getElem_mem h1),fun k hk => ?_⟩
  obtain ⟨h0,d,hd,_,hlt⟩:=Z1z (h.kids _ (List.getElem_mem h1) ht k hk)
  rw [Z13]
  exact ⟨h0,by omega⟩
 ·rw [if_neg ht] at hnd
  cases hnd
  exact ⟨by simp,by simp⟩
def Z27:CV:=⟨false,[],[],0⟩
def relC (cs:List CV) (gone:List Int):List CV:=gone.foldl (fun l k => l.set k.toNat Z27) cs
theorem Znw:∀ (gone:List Int) (cs:List CV),(relC cs gone).length = cs.length
 | [],cs => rfl
 | k :: r,cs => by
  show (relC (cs.set k.toNat Z27) r).length = _
  rw [Znw r]
  simp
theorem nds_rcs {cs:List CV} {V:List AVal} (h:V.length = cs.length):Zb2 (rcs cs V) (Z12 cs) = Z0j cs:=by
 refine List.ext_getElem? fun j => ?_
 by_cases hj:j < cs.length
 ·have h1:cs[j]? = some cs[j]:=List.getElem?_eq_getElem hj
  have h2:V[j]? = some (V[j]'(by omega)):=List.getElem?_eq_getElem (by omega)
  rw [Z2k h1]
  unfold Zb2 Z12
  simp [Z2b h1 h2,h1]
 ·rw [List.getElem?_eq_none (by simp [Zb2,Z29 h]; omega),List.getElem?_eq_none (by rw [Z13]; omega)]
theorem tak_rcs {cs:List CV} {V:List AVal} (h:V.length = cs.length) (i:Nat):takI (rcs cs V) i = Z1r cs i:=by
 unfold takI Z1r
 refine List.filter_congr fun j _ => ?_
 by_cases hj:j < cs.length
 ·have h1:cs[j]? = some cs[j]:=List.getElem?_eq_getElem hj
  have h2:V[j]? = some (V[j]'(by omega)):=List.getElem?_eq_getElem (by omega)
  rw [Z2b h1 h2,Z1l h1]
 ·have h1:cs[j]? = none:=List.getElem?_eq_none (by omega)
  have h2:(rcs cs V)[j]? = none:=List.getElem?_eq_none (by rw [Z29 h]; omega)
  rw [h2]
  unfold Z08
  simp [h1]
theorem Zkq:∀ (l:List RC) (i:Nat) (c:RC) (d:Int),l[i]? = some c→lay (encs l) (i * 4 + 3) [.int .i64 d] = encs (l.set i { c with held:=d })
 | [],i,c,d,h => by simp at h
 | e :: l,0,c,d,h => by
  simp at h
  subst h
  have e1:encs (e :: l) = e.enc ++ encs l:=rfl
  have e2:encs ((e :: l).set 0 { e with held:=d }) = (RC.enc { e with held:=d }) ++ encs l:=rfl
  rw [e1,e2]
  simp [lay,RC.enc]
 | e :: l,i + 1,c,d,h => by
  have e1:encs (e :: l) = e.enc ++ encs l:=rfl
  have e2:encs ((e :: l).set (i + 1) { c with held:=d }) = e.enc ++ encs (l.set i { c with held:=d }):=rfl
  have ih:=Zkq l i c d (by simpa using h)
  have hd:e.enc.length = 4:=rfl
  have e3:(i + 1) * 4 + 3 = e.enc.length + (i * 4 + 3):=by rw [hd]; omega
  rw [e1,e2,← ih]
  unfold lay
  rw [e3,List.take_length_add_append,Nat.add_assoc,List.drop_length_add_append]
  simp
theorem cpI_rcs {cs:List CV} {V:List AVal} {kvs:Nat→AVal} (h:V.length = cs.length):cpI (rcs cs V) kvs cs.length = rcs cs ((List.range cs.length).map kvs):=by
 refine List.ext_getElem? fun j => ?_
 by_cases hj:j < cs.length
 ·have h1:cs[j]? = some cs[j]:=List.getElem?_eq_getElem hj
  have h2:V[j]? = some (V[j]'(by omega)):=List.getElem?_eq_getElem (by omega)
  have h3:((List.range cs.length).map kvs)[j]? = some (kvs j):=by rw [List.getElem?_map,List.getElem?_range hj]; rfl
  rw [Zd9 (Z2b h1 h2),Z2b h1 h3]
  simp [hj]
 ·rw [List.getElem?_eq_none (by rw [Z9e,Z29 h]; omega),List.getElem?_eq_none (by rw [Z29 (by simp)]; omega)]
theorem Znx:∀ (gone:List Int) {cs:List CV} {V:List AVal} {m:Lets},V.length = cs.length→Z0v (cs.map CV.kids) V m→(∀ k ∈ gone,0 ≤ k∧k < cs.length) →
  ∃ V' m' d,rel (rcs cs V) gone = rcs (relC cs gone) V'∧Z0v ((relC cs gone).map CV.kids) V' m'∧m.Perm (m' ++ d)
 | [],cs,V,m,_,h,_ => ⟨V,m,[],rfl,h,by simp⟩
 | k :: gone,cs,V,m,hV,h,hin => by
  obtain ⟨h0,h1⟩:=hin k (by simp)
  have hlt:k.toNat < cs.length:=by omega
  obtain ⟨kv,m1,m2,g1,g2,g3,g4⟩:=h.at (i:=k.toNat) (ks:=cs[k.toNat].kids) (by rw [List.getElem?_map,List.getElem?_eq_getElem hlt]; rfl)
  have h2:=g4 [] .nilSlice [] (.inl ⟨rfl,rfl,rfl⟩)
  have h3:(cs.map CV.kids).set k.toNat [] = (cs.set k.toNat Z27).map CV.kids:=by rw [List.map_set]; rfl
  rw [h3] at h2
  obtain ⟨V',m',d,e1,e2,e3⟩:=Znx gone (cs:=cs.set k.toNat Z27) (V:=V.set k.toNat .nilSlice) (by simpa using hV) h2 (fun k' hk' => by simpa using hin k' (by simp [hk']))
  refine ⟨V',m',d ++ m1,?_,e2,?_⟩
  ·rw [← show rcs (relC (cs.set k.toNat Z27) gone) V' = rcs (relC cs (k :: gone)) V' from rfl,← e1]
   show rel ((rcs cs V).set k.toNat Zgc) gone = _
   have:=Z8r (cs:=cs) (V:=V) (i:=k.toNat) (d:=Z27) (kv:=.nilSlice)
   rw [← this]
   rfl
  ·refine g3.trans ?_
   refine (List.perm_append_comm (l₁:=m1) (l₂:=m2)).trans ?_
   rw [← List.append_assoc]
   exact (by simpa using e3:m2.Perm (m' ++ d)).append (List.Perm.refl m1)
theorem KidV.ints {s:St} {kv:AVal} {ks:List Int} (h:KidV s kv ks) (hw:s.Wf):Z0f s kv ks:=by
 rcases h with h | ⟨q,c,rfl,h⟩
 ·exact .inl h
 ·exact .inr ⟨q,0,c,_,rfl,Z09 hw h,Z0b h,by simp,fun i k hk => by simp [hk]⟩
theorem Z5u {s:St} {b:Pos} {ks:List Int} (hw:s.Wf) (h:s.own b = some (ints ks)) (c:Cap):Z0f s (.slice b 0 ks.length c) ks:=KidV.ints (.inr ⟨b,c,rfl,h⟩) hw
def Z1s (lv:AVal) (g:List Int) (m:Lets):Prop:=(g = []∧lv = .nilSlice∧m = []) ∨ ∃ q,g ≠ []∧lv = .slice q 0 g.length (.opn 1)∧m = [(q,C (ints g))]
theorem Z1s.len {lv:AVal} {g:List Int} {m:Lets} (h:Z1s lv g m):Z1n lv = some g.length:=by
 rcases h with ⟨rfl,rfl,_⟩ | ⟨q,_,rfl,_⟩ <;> rfl
theorem Z1s.ntup {lv:AVal} {g:List Int} {m:Lets} (h:Z1s lv g m):∀ t,¬ lv = .tup t:=by
 rintro t rfl
 have:=h.len
 cases this
theorem Z1s.cells {lv:AVal} {g:List Int} {m:Lets} (h:Z1s lv g m):lv.cells = [lv]:=by
 rcases h with ⟨rfl,rfl,_⟩ | ⟨q,_,rfl,_⟩ <;> rfl
theorem Z1s.row {lv:AVal} {g:List Int} {m:Lets} (h:Z1s lv g m):RowR lv g m:=by
 rcases h with ⟨h1,rfl,h2⟩ | ⟨q,h1,h2,h3⟩
 ·exact .inl ⟨h1,rfl,h2⟩
 ·exact .inr ⟨q,_,h1,h2,h3⟩
theorem RowR.kid {s:St} {kv:AVal} {ks:List Int} {m:Lets} (h:RowR kv ks m) (ho:∀ x ∈ m,s.obj x.1 = some x.2):KidV s kv ks:=by
 rcases h with ⟨h1,h2,h3⟩ | ⟨q,c,h1,h2,rfl⟩
 ·exact .inl ⟨h2,h1⟩
 ·exact .inr ⟨q,c,h2,Z14 (ho (q,C (ints ks)) (by simp))⟩
section
variable {s0 s:St} {W:Pos→Prop} {m r:Lets}
theorem Ctx.chg0 {b:Pos} {x y:AObj} (h:Ctx s0 W ((b,x) :: m) s) {s':St} (k:Same [b] s s') (hy:s'.obj b = some y):Ctx s0 W ((b,y) :: m) s':=by
 have hn:=h.nodup
 rw [List.map_cons,List.nodup_cons] at hn
 refine (h.tail.same k ?_ ?_).add hy (h.free (b,x) (by simp)) hn.1
 ·intro c hc ho
  simp at hc
  subst hc
  exact h.free (c,x) (by simp) ho
 ·intro z hz hb
  simp at hb
  exact hn.1 (List.mem_map.2 ⟨z,hz,hb⟩)
theorem Ctx.chg {b:Pos} {x y:AObj} (h:Ctx s0 W m s) (i:Nat) (hi:m[i]? = some (b,x)) {s':St} (k:Same [b] s s') (hy:s'.obj b = some y):Ctx s0 W (m.set i (b,y)) s' :=
 ((h.perm (Z8b m i _ hi)).chg0 k hy).perm (set_perm m i _ _ hi)
theorem Z61 {pre mg:Lets} {lv:AVal} {g:List Int} {x:Int} {Q:AVal→St→Prop} (h:Ctx s0 W (pre ++ (mg ++ r)) s) (hg:Z1s lv g mg) (hs:g.length ≤ 1000)
  (q:∀ lv' mg' s',Z1s lv' (g ++ [x]) mg'→Ctx s0 W (pre ++ (mg' ++ r)) s'→Q lv' s'):appP (1,8) lv [.int .i64 x] 1 s Q:=by
 rcases hg with ⟨rfl,rfl,rfl⟩ | ⟨b,hne,rfl,rfl⟩
 ·simp only [appP,Z4j]
  rw [if_neg (by decide)]
  refine ⟨by unfold Z0k; omega,?_⟩
  have:=h.alloc (C [.int .i64 x])
  refine q (.slice s.next 0 1 (.opn 1)) [(s.next,C (ints [x]))] _ (.inr ⟨_,by simp,rfl,rfl⟩) (this.perm ?_)
  simp only [List.nil_append]
  exact List.perm_middle.symm
 ·have hb:s.own b = some (ints g):=Z14 (h.own (b,C (ints g)) (by simp))
  have hl:g.length ≠ 0:=by simpa using hne
  have h1:Ctx s0 W ((b,C (ints g)) :: (pre ++ r)) s:=h.perm (by simp)
  have h2:=(h1.put0 .dead).tail.alloc (C (ints g ++ [.int .i64 x]))
  simp only [appP,Z4j]
  rw [if_neg (by decide)]
  refine ⟨trivial,?_⟩
  rw [hb]
  simp only [Z10]
  rw [if_neg hl,if_neg (by simp)]
  refine ⟨by simp,by unfold Z0k; omega,?_⟩
  have ht:List.take (g.length * 1) (List.drop 0 (ints g)) = ints g:=by rw [List.drop_zero]; exact List.take_of_length_le (by simp)
  rw [ht]
  have hi:ints g ++ [AVal.int .i64 x] = ints (g ++ [x]):=by simp [ints]
  rw [hi] at h2 ⊢
  have hn:(s.put b .dead).next = s.next:=rfl
  refine q (.slice s.next 0 (g.length + 1) (.opn 1)) [(s.next,C (ints (g ++ [x])))] _ (.inr ⟨_,by simp,by simp,rfl⟩) (h2.perm ?_)
  rw [hn]
  exact List.perm_middle.symm
theorem Zes {fr:FI} {t:PT AVal} {Q:Ex→PT AVal→St→Prop} {f:RO} {k k':Nat} {b:MCode} {fi:FInfo} {p B:Pos} {l:List RC} {n:Nat} {m0:Lets} (J:Nat→Lets→Prop) (hn:l.length = n) (hl:n ≤ 400)
  (hx:getO t [] f = some (.fn 105 [] [.ptr B 0])) (hr:fr.round = none) (hfi:funInfo Tryz.prog fr.fn = some fi) (hpl:Z7h fi.ps fi.ntmps [k] = some [some (posOf k)])
  (hp:∀ i m s',J i m→Ctx s0 W m s'→s'.Old p∧s'.cells p = some (encs l))
  (hskip:∀ i c m,l[i]? = some c→c.taken = false→J i m→J (i + 1) m)
  (hbody:∀ (i:Nat) c s1 m Lb X (Wx:Ex→PT AVal→St→Prop),l[i]? = some c→c.taken = true→J i m→Ctx s0 W ((Lb,X) :: (B,C [.slice p 0 n (.lim n)]) :: m) s1 →
   (∀ t s2 m',J (i + 1) m'→Ctx s0 W ((Lb,X) :: (B,C [.slice p 0 n (.lim n)]) :: m') s2→Wx .normal t s2) →
   wp Tryz.prog b { fn:=fr.fn,ntmps:=fi.ntmps,ps:=fi.ps,round:=some Lb } (PT.set (posOf k') (.int .i64 i) (PT.set (posOf k) (.int .i64 i) t)) s1 Wx)
  (h0:J 0 m0) (hc:Ctx s0 W ((B,C [.slice p 0 n (.lim n)]) :: m0) s) (q:∀ s' m,J n m→Ctx s0 W m s'→Q .normal t s') :
  wp Tryz.prog (.range f [k] (.region [.run none (.move (.per (posOf k)))] [some (posOf k')]) b) fr t s Q:=by
 subst hn
 refine AM.Zob hx (fun l0 e => by rw [hr] at e; cases e) ?_
 have c0:=hc.alloc (.loop { state:=.ready,pending:=none,fn:=fr.fn,tm:=t,params:=[k],assign:=.region [.run none (.move (.per (posOf k)))] [some (posOf k')],body:=b })
 generalize s.alloc (.loop { state:=.ready,pending:=none,fn:=fr.fn,tm:=t,params:=[k],assign:=.region [.run none (.move (.per (posOf k)))] [some (posOf k')],body:=b }) = sA at c0 ⊢
 generalize s.next = Lb at c0 ⊢
 refine Zjk (p:=p) (I:=fun i s' => ∃ m,J i m∧Ctx s0 W ((Lb,.loop { state:=.ready,pending:=none,fn:=fr.fn,tm:=t,params:=[k],assign:=.region [.run none (.move (.per (posOf k)))] [some (posOf k')],body:=b }) :: (B,C [.slice p 0 l.length (.lim l.length)]) :: m) s') hl (by simp) ?_ ?_ ?_ ?_ ⟨m0,h0,c0⟩ ?_
 ·rintro i s' ⟨m,hj,hc⟩
  obtain ⟨a,b⟩:=hp i m s' hj hc.tail.tail
  exact ⟨hc.wf,a,hc.oi 1 rfl,b,hc.c 1 rfl⟩
 ·rintro i s' s'' ⟨m,hj,hc⟩ hk
  exact ⟨m,hj,hc.keeps hk⟩
 ·rintro i c s' hci hct ⟨m,hj,hc⟩
  exact ⟨m,hskip i c m hci hct hj,hc⟩
 ·rintro i c s' R hci hct ⟨m,hj,hc⟩ hR
  refine Zhb (pl:=[some (posOf k)]) (tree:=PT.set (posOf k) (.int .i64 i) t) (hc.x 0 rfl) hfi hpl rfl rfl ?_
  refine AM.wp_region ?_
  simp
  refine ⟨_,hc.x 0 rfl,rfl,?_⟩
  refine hbody i c _ m Lb _ _ hci hct hj (hc.put 0 rfl _) fun t2 s2 m' hj' hc' => ?_
  refine ⟨_,hc'.x 0 rfl,?_⟩
  exact hR _ ⟨m',hj',hc'.put 0 rfl _⟩
 ·rintro s2 ⟨m,hj,hc⟩
  refine ⟨_,hc.x 0 rfl,rfl,?_⟩
  exact q _ m hj (hc.put 0 rfl _).tail.tail
end
theorem graph_w {s:St} {p:Pos} {l:List RC} {n:Nat} {K:Nat→List Int} {Q:AVal→St→Prop} (hn:l.length = n) (hw:s.Wf) (hp:s.Old p) (hc:s.cells p = some (encs l)) (hl:n ≤ 400) (hK:∀ j c,l[j]? = some c→Z0f s c.kv (K j))
  (q:∀ pn lv s',Keeps s s'→NodesG s' pn (Zb2 l K)→Z0f s' lv ((takI l n).map fun (a:Nat) => (a:Int))→Q (.tup [.slice pn 0 n (.lim n),lv]) s'):Z0d Tryz.prog 54 [.agg [.slice p 0 n (.lim n)]] s Q:=by
 subst hn
 exact Zw4 hw hp hc hl hK q
theorem Zkn {s:St} {p:Pos} {nds:List (List UInt8 × List Int)} {n:Nat} {c0:Cap} {Lv:AVal} {L:List Nat} {Q:AVal→St→Prop}
  (hnl:nds.length = n) (hw:s.Wf) (hN:NodesG s p nds) (hn:n ≤ 1000) (hL:Z0f s Lv (L.map fun (a:Nat) => (a:Int))) (hLl:L.length ≤ 1000) (hC:Closed nds L)
  (hkids:∀ (a:Nat) nd,nds[a]? = some nd→nd.2.length ≤ 4∧∀ k ∈ nd.2,0 ≤ k∧k < nds.length)
  (q:∀ Bx s',Keeps s s'→¬ s.Old Bx→s'.own Bx = some (ints (clsF nds L))→Q (.slice Bx 0 n (.lim n)) s'):Z0d Tryz.prog 53 [.slice p 0 n c0,Lv] s Q:=by
 subst hnl
 obtain ⟨R,h1,h2,h3⟩:=Z9d hC
 rw [h1] at q
 exact Zqs hw hN hn hL hC.lt hLl hkids h3 h2 q
theorem Zds {nds:List (List UInt8 × List Int)} {L:List Nat} (h:Closed nds L):(clsF nds L).length = nds.length:=by
 obtain ⟨R,h1,_⟩:=Z9d h
 rw [h1,Z6h]
theorem own_w {s:St} {p:Pos} {l:List RC} {n:Nat} {K:Nat→List Int} {Q:AVal→St→Prop} (hn:l.length = n) (hw:s.Wf) (hp:s.Old p) (hc:s.cells p = some (encs l)) (h1:1 ≤ n) (hl:n ≤ 400) (hK:∀ j c,l[j]? = some c→Z0f s c.kv (K j)∧(K j).length ≤ 1000)
  (q:∀ pn kvs s',Keeps s s'→¬ s.Old pn→s'.own pn = some (encs (cpI l kvs n))→OwnK s s' pn K kvs n→Q (.agg [.slice pn 0 n (.lim n)]) s'):Z0d Tryz.prog 47 [.agg [.slice p 0 n (.lim n)]] s Q:=by
 subst hn
 exact own_wp hw hp hc h1 hl hK q
theorem Zux {s:St} {p:Pos} {l:List RC} {n:Nat} {v:AVal} {gone:List Int} {Q:AVal→St→Prop} (hn:l.length = n) (hw:s.Wf) (hp:s.own p = some (encs l)) (hmax:gone.length ≤ 1000) (hin:∀ k ∈ gone,0 ≤ k∧k < n)
  (hv:∀ s',Same [p] s s'→Z0f s' v gone) (q:∀ s',Same [p] s s'→s'.own p = some (encs (rel l gone))→Q (.tup []) s'):Z0d Tryz.prog 61 [.agg [.slice p 0 n (.lim n)],v] s Q:=by
 subst hn
 exact Zsc hw hp hmax (by simpa using hin) hv q
theorem Z1a {cs:List CV} {j:Nat} {d:CV} (h:cs[j]? = some d):Z12 cs j = d.kids:=by unfold Z12; rw [h]
theorem Z9j {cs:List CV} {j:Nat} {ks:List Int} (h:(cs.map CV.kids)[j]? = some ks):j < cs.length∧Z12 cs j = ks:=by
 rw [List.getElem?_map] at h
 cases hd:cs[j]? with
 | none => rw [hd] at h; cases h
 | some d =>
  rw [hd] at h
  cases h
  exact ⟨(List.getElem?_eq_some_iff.1 hd).1,Z1a hd⟩
theorem Zbh {cs:List CV} {j:Nat} (h:j < cs.length):(cs.map CV.kids)[j]? = some (Z12 cs j):=by
 rw [List.getElem?_map,List.getElem?_eq_getElem h,Z1a (List.getElem?_eq_getElem h)]
 rfl
theorem Zco {α:Type} {n j:Nat} {f:Nat→α} (h:j < n):((List.range n).map f)[j]? = some (f j):=by
 rw [List.getElem?_map,List.getElem?_range h]
 rfl
theorem Zwn {s0 s:St} {pn:Pos} {cs:List CV} {kvs:Nat→AVal} (h:OwnK s0 s pn (Z12 cs) kvs cs.length) :
  ∃ m,Z0v (cs.map CV.kids) ((List.range cs.length).map kvs) m∧(∀ x ∈ m,s.obj x.1 = some x.2)∧(m.map (·.1)).Nodup∧∀ x ∈ m,¬ s0.Old x.1∧x.1 ≠ pn:=by
 obtain ⟨m,h1,h2,h3,h4⟩:=Zk9 (s:=s) (cs.map CV.kids) ((List.range cs.length).map kvs) (by simp) (fun i ks kv hk hv => by
  obtain ⟨hi,e⟩:=Z9j hk
  rw [Zco hi] at hv
  cases hv
  rw [← e]
  exact h.kid i hi) (fun i j ks ks' q c c' hk hk' hn hn' hv hv' => by
  obtain ⟨hi,e⟩:=Z9j hk
  obtain ⟨hj,e'⟩:=Z9j hk'
  rw [Zco hi] at hv
  rw [Zco hj] at hv'
  rw [← e] at hv hn
  rw [← e'] at hv' hn'
  exact h.sep i j q c c' hi hj hn hn' (Option.some.inj hv) (Option.some.inj hv'))
 refine ⟨m,h1,h2,h3,fun x hx => ?_⟩
 obtain ⟨i,ks,c,e1,e2,e3⟩:=h4 x hx
 obtain ⟨hi,e⟩:=Z9j e1
 rw [Zco hi] at e3
 rw [← e] at e2 e3
 exact h.fresh i x.1 c hi (Option.some.inj e3) e2
theorem Z0v.sep:∀ {K:List (List Int)} {V:List AVal} {m:Lets},Z0v K V m→(m.map (·.1)).Nodup→∀ {i j:Nat} {ks ks':List Int} {q:Pos} {c c':Cap},K[i]? = some ks→K[j]? = some ks'→ks ≠ []→ks' ≠ [] →
  V[i]? = some (AVal.slice q 0 ks.length c)→V[j]? = some (AVal.slice q 0 ks'.length c')→i = j
 | [],_,_,_,_,i,_,_,_,_,_,_,h,_,_,_,_,_ => by simp at h
 | _ :: _,[],_,h,_,_,_,_,_,_,_,_,_,_,_,_,_,_ => h.elim
 | k :: K,v :: V,m,⟨m1,m2,h1,h2,h3⟩,hn,i,j,ks,ks',q,c,c',hi,hj,hne,hne',vi,vj => by
  have hn2:((m1 ++ m2).map (·.1)).Nodup:=((h1.map (·.1)).nodup_iff).1 hn
  rw [List.map_append,List.nodup_append] at hn2
  have key:∀ (x:Nat) (ks:List Int) (c:Cap),K[x]? = some ks→ks ≠ []→V[x]? = some (AVal.slice q 0 ks.length c)→q ∈ m2.map (·.1):=by
   intro x ks c hx hne vx
   obtain ⟨kv,g1,g2⟩:=h3.each hx
   rw [vx] at g1
   cases g1
   rcases g2 with ⟨e,_⟩ | ⟨q',c',_,e,e3⟩
   ·exact (hne e).elim
   ·cases e
    exact List.mem_map.2 ⟨_,e3,rfl⟩
  have key0:∀ (ks:List Int) (c:Cap),k = ks→ks ≠ []→v = AVal.slice q 0 ks.length c→q ∈ m1.map (·.1):=by
   intro ks c hx hne vx
   subst hx vx
   rcases h2 with ⟨e,_⟩ | ⟨q',c',_,e,rfl⟩
   ·exact (hne e).elim
   ·cases e
    simp
  match i,j with
  | 0,0 => rfl
  | 0,j + 1 =>
   exact (hn2.2.2 q (key0 ks c (by simpa using hi) hne (by simpa using vi)) q (key j ks' c' (by simpa using hj) hne' (by simpa using vj)) rfl).elim
  | i + 1,0 =>
   exact (hn2.2.2 q (key0 ks' c' (by simpa using hj) hne' (by simpa using vj)) q (key i ks c (by simpa using hi) hne (by simpa using vi)) rfl).elim
  | i + 1,j + 1 =>
   have:=Z0v.sep h3 hn2.2.1 (i:=i) (j:=j) (by simpa using hi) (by simpa using hj) hne hne' (by simpa using vi) (by simpa using vj)
   omega
theorem Ctx.lose {s0 s s':St} {W:Pos→Prop} {m r:Lets} (h:Ctx s0 W (m ++ r) s) (k:Same (m.map (·.1)) s s'):Ctx s0 W r s':=by
 have hn:=h.nodup
 rw [List.map_append,List.nodup_append] at hn
 refine (h.sub (List.sublist_append_right _ _)).same k ?_ ?_
 ·intro b hb ho
  obtain ⟨x,hx,rfl⟩:=List.mem_map.1 hb
  exact h.free x (List.mem_append_left _ hx) ho
 ·intro x hx hb
  exact hn.2.2 _ hb _ (List.mem_map.2 ⟨x,hx,rfl⟩) rfl
theorem Ctx.apart {s0 s:St} {W:Pos→Prop} {m:Lets} (h:Ctx s0 W m s) {b:Pos} {x:AObj} (i:Nat) (hi:m[i]? = some (b,x)) {y:Pos × AObj} (hy:y ∈ m.drop (i + 1)):b ≠ y.1:=by
 obtain ⟨j,hj⟩:=List.getElem?_of_mem hy
 rw [List.getElem?_drop] at hj
 exact h.ne i (i + 1 + j) hi (x':=y.2) hj (by omega)
end Go.Proofs
end
section
namespace Go.Proofs
end Go.Proofs
end
section
open Go Go.AM
namespace Go.Proofs
set_option maxRecDepth 100000
theorem Zdr {nds:List (List UInt8 × List Int)} {L:List Nat} (h:Closed nds L) {a b:Nat} (ha:a ∈ L) (hb:b ∈ L):(clsF nds L)[a]? = (clsF nds L)[b]? ↔ ∀ r,sim nds r a b:=by
 obtain ⟨R,h1,h2,_⟩:=Z9d h
 rw [h1]
 exact Zgt h h2 ha hb
def Zqk (s:St) (v:AVal) (xs:List AVal):Prop:=(Z1n v = some 0∧xs = []) ∨
 ∃ b o c cs,v = .slice b o xs.length c∧s.Old b∧s.cells b = some cs∧o + xs.length ≤ cs.length∧∀ (i:Nat) x,xs[i]? = some x→cs[o + i]? = some x
theorem new_c {s0 s:St} {W:Pos→Prop} {r:Lets} {n:Int} {Q:AVal→St→Prop} (h:Ctx s0 W r s) (h1:1 ≤ n) (h2:n ≤ 400)
  (q:∀ hb m s',Z2j hb .nilSlice (List.replicate n.toNat Z27) m→Ctx s0 W (m ++ r) s'→Q (.tup [.ptr hb 0,.int .i64 0]) s'):Z0d Tryz.prog 29 [.int .i64 n] s Q:=by
 refine new_wp h.wf h1 h2 ?_
 have hV:∀ n:Nat,(List.replicate n [AVal.bool false,.str [],.nilSlice,.int .i64 0]).flatten = encs (rcs (List.replicate n Z27) (List.replicate n .nilSlice)):=by
  intro n
  simp [encs,rcs,RC.enc,Z27,List.zipWith_replicate,List.flatMap]
 have hR:∀ n:Nat,Z0v ((List.replicate n Z27).map CV.kids) (List.replicate n .nilSlice) []:=by
  intro n
  induction n with
  | zero => rfl
  | succ n ih =>
   rw [List.replicate_succ,List.replicate_succ]
   exact ⟨[],[],List.Perm.refl _,.inl ⟨rfl,rfl,rfl⟩,ih⟩
 have c1:=h.alloc (C (List.replicate n.toNat [AVal.bool false,.str [],.nilSlice,.int .i64 0]).flatten)
 have c2:=c1.alloc (C [.slice s.next 0 n.toNat (.lim n.toNat),.nilSlice])
 refine q _ _ _ (Z2u (p:=s.next) (V:=List.replicate n.toNat .nilSlice) (mr:=[]) (hR _) (by simp; omega) (by simp; omega)) ?_
 rw [List.length_replicate,← hV]
 exact c2
theorem c5:Tryz.prog.cellsOf 5 = 1:=by kernel_rfl
theorem Zv6 {P:Program} {t e:TypeId} {w:World} {r:Reach} {base:Nat} {v:Value} (ht:P.underlying t = some (.slice e)) (h:Value.okWide P w r base t v):v.cells.toList = [v]:=by
 simp only [Value.okWide,ht,Cell.okWide] at h
 cases v <;> first | rfl | simp_all [Cell.ok]
section
variable {H:Type} {enc:TypeId × Value→H} {W:World} {N fuel:Nat} {cs:List Value} {x:DataW H × List MemPlace}
theorem row_of {α:Type} {s:St} {e:TypeId} {v:Value} {a:AVal} {elems:List (DataW H × List MemPlace)} (mk:α→AVal) (hc1:Tryz.prog.cellsOf e = 1) (he:∀ n vs x l,DataW.trod enc Tryz.prog W 0 (fun _ => true) true n e vs = some x→vs.mapM (Z5y W N) = some l→∃ y:α,l = [mk y])
  (h:SliceW Tryz.prog enc W (fun _ => true) true N e v a elems):∃ ys:List α,Zqk (stW W N) a (ys.map mk):=by
 cases h with
 | nil => exact ⟨[],.inl ⟨rfl,rfl⟩⟩
 | empty => exact ⟨[],.inl ⟨rfl,rfl⟩⟩
 | @row b o len cap n _ cells hb ho hcells hlen hc0 hcap hmax hcs hel =>
  rw [hc1] at hcs
  have hone:∀ i,i < len→∃ y:α,cells[i]? = some (mk y):=by
   intro i hi
   obtain ⟨vs,x,l,h1,_,h3,h4⟩:=hel i hi
   obtain ⟨y,rfl⟩:=he n vs x l h1 h3
   rw [hc1,Nat.mul_one] at h4
   refine ⟨y,?_⟩
   have:=congrArg (fun l => l[0]?) h4
   simpa using this
  obtain ⟨ys,hys,hl⟩:∃ ys:List α,(∀ (i:Nat) (y:α),ys[i]? = some y→cells[i]? = some (mk y))∧ys.length = len:=by
   have key:∀ k,k ≤ len→∃ ys:List α,(∀ (i:Nat) (y:α),ys[i]? = some y→cells[i]? = some (mk y))∧ys.length = k:=by
    intro k
    induction k with
    | zero => exact fun _ => ⟨[],by simp,rfl⟩
    | succ k ih =>
     intro hk
     obtain ⟨ys,h1,h2⟩:=ih (by omega)
     obtain ⟨y,hy⟩:=hone k (by omega)
     refine ⟨ys ++ [y],fun i z hz => ?_,by simp [h2]⟩
     rw [List.getElem?_append] at hz
     split at hz
     ·exact h1 i z hz
     ·rename_i hi
      have:i = k:=by
       have:=(List.getElem?_eq_some_iff.1 hz).1
       simp at this
       omega
      subst this
      simp [h2] at hz
      subst hz
      exact hy
   exact key len (Nat.le_refl _)
  refine ⟨ys,.inr ⟨nameOf N b o,0,.lim cap,cells,by simp [hl],?_,hcells,by simp [hl]; omega,fun i z hz => ?_⟩⟩
  ·unfold St.cells at hcells
   cases hob:(stW W N).obj (nameOf N b o) with
   | none => rw [hob] at hcells; cases hcells
   | some y => exact Z3m (Zv9 (w:=W) (N:=N)) hob
  ·rw [List.getElem?_map] at hz
   cases hy:ys[i]? with
   | none => rw [hy] at hz; cases hz
   | some y =>
    rw [hy] at hz
    cases hz
    rw [Nat.zero_add]
    exact hys i y hy
theorem Zs0 (hN:Big W N) (h:DataW.trod enc Tryz.prog W 0 (fun _ => true) true fuel 22 cs = some x):∃ v a,∃ bs:List UInt8,cs = [v]∧Z5y W N v = some a∧Zqk (stW W N) a (bs.map fun b => .int .u8 (b.toNat:Int)):=by
 obtain ⟨v,a,elems,rfl,hs⟩:=Zp8 hN Tryz.underlying22 (by rw [c5]; decide) (fun n vs x h => by
  obtain ⟨k,rfl,_,_⟩:=DataW.trod_int Tryz.underlying5 h
  exact ⟨[.int .u8 k],rfl⟩) h
 obtain ⟨bs,hb⟩:=row_of (s:=stW W N) (fun b:UInt8 => AVal.int .u8 (b.toNat:Int)) c5 (fun n vs x l h1 h2 => by
  obtain ⟨k,rfl,_,hk⟩:=DataW.trod_int Tryz.underlying5 h1
  have hk:0 ≤ k∧k ≤ 255:=by
   rw [Lit.wf,Bool.and_eq_true,decide_eq_true_eq,decide_eq_true_eq] at hk
   exact hk
  refine ⟨UInt8.ofNat k.toNat,?_⟩
  have e:((UInt8.ofNat k.toNat).toNat:Int) = k:=by
   rw [UInt8.toNat_ofNat_of_lt' (by show k.toNat < 256; omega)]
   omega
  rw [e]
  simp [List.mapM_cons,Z5y] at h2
  exact h2.symm) hs
 exact ⟨v,a,bs,rfl,hs.conv,hb⟩
end
end Go.Proofs
end
section
open Go Go.AM
namespace Go.Proofs
def c68_1:MCode:=.region [Cr (.box (Cp 0)),Cr (.box (Cp 1)),Yo .nilSlice] [Cs 4,Cs 3,Cs 2]
def c68_3:MCode:=.region [Yr 1 (Cp 2),Ym 54 [(Yq 0)],C0,Yg 0 0,Yg 1 1,Yn 1,Yn 1] [Cs 6,Cs 5,none,none,none,none,none]
def c68_5:MCode:=.region [Cm 5,Yl (Yq 0),C0] [Cs 7,none,none]
def c68_8:MCode:=.region [Yd 0 3,Ya 0,Yl (Yq 0),Yp 0] [Cs 26,Cs 25,Cs 24,none]
def c68_12:MCode:=.region [Yh .lss (Cp 26) (Cp 25)] [Cs 27]
def c68_14:MCode:=.cond (Cp 27) .skip (.exit 0)
def c68_18:MCode:=.region [Cm 26,Ye 2 40 (Cp 24) (Cp 26),Yr 2 (Yq 0),Cr (.alloc (some [(.str []),.nilSlice])),Yn 3,Yk 2 (Yq 1) (Yq 2)] [none,Cs 8,Cs 9,none,none,none]
def c68_20:MCode:=.region [Yd 0 9,Ya 0,Cr (.build (some [(0,(1,(Yq 0)))]) (some [(.str []),.nilSlice])),Cr (.alloc (some [(.str []),.nilSlice])),Yk 2 (Yq 0) (Yq 1)] [none,Cs 10,none,none,none]
def c68_23:MCode:=.region [Yd 1 9,Ya 0,Yl (Yq 0),Yp 0] [Cs 37,Cs 36,Cs 35,none]
def c68_27:MCode:=.region [Yh .lss (Cp 37) (Cp 36)] [Cs 38]
def c68_29:MCode:=.cond (Cp 38) .skip (.exit 2)
def c68_33:MCode:=.region [Ye 1 8 (Cp 35) (Cp 37),Ya 0,C0] [Cs 12,none,none]
def c68_34:MCode:=.region [Yd 1 10,Ya 0,Cm 7,Cm 12,Yh .add (Yq 1) (Yq 0),Cr (.buildSlice (some (1,8)) (some [(.int .i64 0)]) 1 [(0,(Yq 0))]),Cr (.append (some (1,8)) (Yq 4) (Yq 0)),Yd 1 10,Yk 1 (Yq 0) (Yq 1)] [none,none,none,none,none,none,none,none,none]
def c68_32:MCode:=.seq c68_33 c68_34
def c68_31:MCode:=.block 3 c68_32
def c68_35:MCode:=.region [Yh .add (Cp 37) (Ck 1),C0] [Cs 37,none]
def c68_30:MCode:=.seq c68_31 c68_35
def c68_28:MCode:=.seq c68_29 c68_30
def c68_26:MCode:=.seq c68_27 c68_28
def c68_25:MCode:=.loop c68_26
def c68_24:MCode:=.block 2 c68_25
def Ztk:MCode:=.seq c68_23 c68_24
def c68_36:MCode:=.region [Cm 5,Yr 2 (Cp 10),Cr (.buildSlice (some (2,40)) (some [(.str []),.nilSlice]) 1 [(0,(Yq 0))]),Cr (.append (some (2,40)) (Yq 2) (Yq 0)),Cm 6,Cm 7,Cm 8,Yh .add (Yq 1) (Yq 0),Cr (.buildSlice (some (1,8)) (some [(.int .i64 0)]) 1 [(0,(Yq 0))]),Cr (.append (some (1,8)) (Yq 4) (Yq 0)),Yn 6,Yn 1] [Cs 6,Cs 5,none,none,none,none,none,none,none,none,none,none]
def c68_21:MCode:=.seq Ztk c68_36
def c68_19:MCode:=.seq c68_20 c68_21
def c68_17:MCode:=.seq c68_18 c68_19
def c68_16:MCode:=.block 1 c68_17
def c68_37:MCode:=.region [Yh .add (Cp 26) (Ck 1),C0] [Cs 26,none]
def c68_15:MCode:=.seq c68_16 c68_37
def c68_13:MCode:=.seq c68_14 c68_15
def c68_11:MCode:=.seq c68_12 c68_13
def c68_10:MCode:=.loop c68_11
def c68_9:MCode:=.block 0 c68_10
def c68_7:MCode:=.seq c68_8 c68_9
def c68_39:MCode:=.region [Cm 5,Cm 6,Ym 53 [(Yq 1),(Yq 0)],C0] [Cs 13,none,none,none]
def c68_41:MCode:=.region [Yd 0 3,Ya 0,Yl (Yq 0),Cr (.makeSlice (some (1,8)) (some [(.int .i64 0)]) (Yq 0) (Yq 0)),C0] [Cs 14,none,none,none,none]
def c68_44:MCode:=.region [Cm 14,Yl (Yq 0),Yp 0] [Cs 70,Cs 69,none]
def c68_48:MCode:=.region [Yh .lss (Cp 70) (Cp 69)] [Cs 71]
def c68_50:MCode:=.cond (Cp 71) .skip (.exit 4)
def c68_54:MCode:=.region [Cm 70,C0] [Cs 15,none]
def c68_55:MCode:=.region [Cm 14,Cm 15,Cm 13,Cm 7,Cr (.slice .slc (some (1,8)) none (Yq 1) none (some (Yq 0)) none),Cm 13,Cm 7,Cm 15,Yh .add (Yq 1) (Yq 0),Ye 1 8 (Yq 3) (Yq 0),Ya 0,Ym 56 [(Yq 6),(Yq 0)],Ye 1 8 (Yq 11) (Yq 10),Yk 1 (Yq 0) (Yq 1)] [none,Cs 85,Cs 84,Cs 83,Cs 82,Cs 81,Cs 80,Cs 79,Cs 78,Cs 77,Cs 76,Cs 75,Cs 74,Cs 73]
def c68_53:MCode:=.seq c68_54 c68_55
def c68_52:MCode:=.block 5 c68_53
def c68_56:MCode:=.region [Yh .add (Cp 70) (Ck 1),C0] [Cs 70,none]
def c68_51:MCode:=.seq c68_52 c68_56
def c68_49:MCode:=.seq c68_50 c68_51
def c68_47:MCode:=.seq c68_48 c68_49
def c68_46:MCode:=.loop c68_47
def c68_45:MCode:=.block 4 c68_46
def c68_43:MCode:=.seq c68_44 c68_45
def c68_58:MCode:=.region [Cm 14,C0] [Cs 4,none]
def c68_57:MCode:=.seq c68_58 .ret
def c68_42:MCode:=.seq c68_43 c68_57
def c68_40:MCode:=.seq c68_41 c68_42
def c68_38:MCode:=.seq c68_39 c68_40
def c68_6:MCode:=.seq c68_7 c68_38
def c68_4:MCode:=.seq c68_5 c68_6
def c68_2:MCode:=.seq c68_3 c68_4
def c68_0:MCode:=.seq c68_1 c68_2
theorem fi68:funInfo Tryz.prog 68 = some { code:=c68_0,ntmps:=88,nargs:=2,ps:=[76,75,13,15,80,79,81,78,82,83,77,74,73,84,85,71,69,70,14,8,6,12,7,10,35,38,36,37,9,24,27,25,26,3,5,2,1,0,4],res:=[.tmp 4] }:=by kernel_rfl
def c62_1:MCode:=.region [Cr (.box (Cp 0)),Cr (.box (Cp 1))] [Cs 4,Cs 3]
def c62_3:MCode:=.region [Yd 0 3,Ya 0,Yl (Yq 0),Cr (.makeSlice (some (1,1)) (some [(.bool false)]) (Yq 0) (Yq 0)),Cr (.alloc (some [.nilSlice])),Yk 1 (Yq 0) (Yq 1)] [none,Cs 6,none,none,none,none]
def c62_5:MCode:=.region [Cr (.alloc (some [.nilSlice]))] [Cs 7]
def c62_7:MCode:=.region [Cr (.func (some 107) [] [(Cp 6),(Cp 7),(Cp 4)]),C0] [Cs 8,none]
def c62_9:MCode:=.region [Cm 2,Yl (Yq 0),Yp 0] [Cs 20,Cs 19,Cs 18]
def c62_13:MCode:=.region [Yh .lss (Cp 20) (Cp 19)] [Cs 21]
def c62_15:MCode:=.cond (Cp 21) .skip (.exit 0)
def c62_19:MCode:=.region [Ye 1 8 (Cp 18) (Cp 20),Ya 0,C0] [Cs 10,none,none]
def c62_21:MCode:=.region [Cm 8,Cm 10,Cr (.call (Yq 1) [(Yq 0)])] [none,none,none]
def c62_26:MCode:=.region [Yb 7,Yl (Yq 0),Yh .gtr (Yq 0) (Ck 0)] [Cs 29,none,none]
def c62_27:MCode:=.cond (Cp 29) .skip (.exit 2)
def c62_25:MCode:=.seq c62_26 c62_27
def c62_31:MCode:=.region [Yd 0 3,Ya 0,Yb 7,Ye 1 8 (Yq 0) (Ck 0),Ya 0,Ye 4 56 (Yq 3) (Yq 0),Yc 2 0,Ya 0,Yl (Yq 0),Yp 0] [Cs 41,Cs 40,Cs 39,Cs 38,Cs 37,Cs 36,Cs 35,Cs 34,Cs 33,Cs 32]
def c62_35:MCode:=.region [Yh .lss (Cp 41) (Cp 40)] [Cs 42]
def c62_37:MCode:=.cond (Cp 42) .skip (.exit 4)
def c62_41:MCode:=.region [Ye 1 8 (Cp 39) (Cp 41),Ya 0,C0] [Cs 12,none,none]
def c62_42:MCode:=.region [Cm 8,Cm 12,Cr (.call (Yq 1) [(Yq 0)])] [none,none,none]
def c62_40:MCode:=.seq c62_41 c62_42
def c62_39:MCode:=.block 5 c62_40
def c62_43:MCode:=.region [Yh .add (Cp 41) (Ck 1),C0] [Cs 41,none]
def c62_38:MCode:=.seq c62_39 c62_43
def c62_36:MCode:=.seq c62_37 c62_38
def c62_34:MCode:=.seq c62_35 c62_36
def c62_33:MCode:=.loop c62_34
def c62_32:MCode:=.block 4 c62_33
def Ztj:MCode:=.seq c62_31 c62_32
def c62_29:MCode:=.block 3 Ztj
def c62_44:MCode:=.region [Yb 7,Cr (.slice .slc (some (1,8)) none (Yq 0) (some (Ck 1)) none none),Yk 1 (Cp 7) (Yq 0)] [none,none,none]
def c62_28:MCode:=.seq c62_29 c62_44
def c62_24:MCode:=.seq c62_25 c62_28
def c62_23:MCode:=.loop c62_24
def Zti:MCode:=.block 2 c62_23
def c62_20:MCode:=.seq c62_21 Zti
def c62_18:MCode:=.seq c62_19 c62_20
def c62_17:MCode:=.block 1 c62_18
def c62_45:MCode:=.region [Yh .add (Cp 20) (Ck 1),C0] [Cs 20,none]
def c62_16:MCode:=.seq c62_17 c62_45
def c62_14:MCode:=.seq c62_15 c62_16
def c62_12:MCode:=.seq c62_13 c62_14
def c62_11:MCode:=.loop c62_12
def c62_10:MCode:=.block 0 c62_11
def c62_8:MCode:=.seq c62_9 c62_10
def c62_6:MCode:=.seq c62_7 c62_8
def c62_4:MCode:=.seq c62_5 c62_6
def c62_2:MCode:=.seq c62_3 c62_4
def c62_0:MCode:=.seq c62_1 c62_2
theorem fi62:funInfo Tryz.prog 62 = some { code:=c62_0,ntmps:=50,nargs:=3,ps:=[12,42,40,41,32,34,35,36,33,37,38,39,29,10,8,18,21,19,20,2,4,7,6,3,1,0],res:=[] }:=by kernel_rfl
def c71_0:MCode:=.region [Yb 1,Cm 0,Cr (.buildSlice (some (1,8)) (some [(.int .i64 0)]) 1 [(0,(Yq 0))]),Cr (.append (some (1,8)) (Yq 2) (Yq 0)),Yk 1 (Cp 1) (Yq 0)] [none,none,none,none,none]
theorem fi71:funInfo Tryz.prog 71 = some { code:=c71_0,ntmps:=7,nargs:=2,ps:=[0,1],res:=[] }:=by kernel_rfl
def c63_0:MCode:=.region [Yb 1,Cm 0,Ye 1 1 (Yq 1) (Yq 0),Cr (.store (some 1) (Yq 0) (.cst (.bool true)))] [none,none,none,none]
theorem fi63:funInfo Tryz.prog 63 = some { code:=c63_0,ntmps:=6,nargs:=2,ps:=[0,1],res:=[] }:=by kernel_rfl
def c64_1:MCode:=.region [Cr (.box (Cp 0)),Yo .nilSlice] [Cs 2,Cs 1]
def c64_3:MCode:=.region [Cr (.alloc (some [.nilSlice]))] [Cs 3]
def c64_6:MCode:=.region [Yr 1 (Cp 1),Ym 58 [(Yq 0)]] [Cs 6,none]
def c64_9:MCode:=.region [Cm 7] [Cs 4]
def c64_12:MCode:=.region [Yd 0 1,Ya 0,Cm 4,Ye 4 56 (Yq 1) (Yq 0),Yc 3 0,Ya 0,Yh .gtr (Yq 0) (Ck 0)] [Cs 14,none,none,none,none,none,none]
def c64_14:MCode:=.region [Yb 3,Cm 4,Cr (.buildSlice (some (1,8)) (some [(.int .i64 0)]) 1 [(0,(Yq 0))]),Cr (.append (some (1,8)) (Yq 2) (Yq 0)),Yk 1 (Cp 3) (Yq 0)] [none,none,none,none,none]
def c64_13:MCode:=.cond (Cp 14) c64_14 .skip
def c64_11:MCode:=.seq c64_12 c64_13
def c64_10:MCode:=.block 1 c64_11
def c64_8:MCode:=.range (Cp 6) [7] c64_9 c64_10
def c64_7:MCode:=.block 0 c64_8
def c64_5:MCode:=.seq c64_6 c64_7
def c64_16:MCode:=.region [Yb 3,C0] [Cs 2,none]
def c64_15:MCode:=.seq c64_16 .ret
def c64_4:MCode:=.seq c64_5 c64_15
def c64_2:MCode:=.seq c64_3 c64_4
def c64_0:MCode:=.seq c64_1 c64_2
theorem fi64:funInfo Tryz.prog 64 = some { code:=c64_0,ntmps:=20,nargs:=1,ps:=[3,14,4,7,6,1,0,2],res:=[.tmp 2] }:=by kernel_rfl
def c65_1:MCode:=.region [Yb 2,Cm 0,Yb 1,Ye 1 8 (Yq 2) (Yq 1),Yk 1 (Yq 0) (Yq 1)] [none,none,none,none,none]
def c65_3:MCode:=.region [Yd 0 4,Ya 0,Yb 1,Yb 3,Yf 0,Yc 0 0,Yc 0 0,Ya 0,Cm 0,Ye 4 56 (Yq 1) (Yq 0),Yr 4 (Yq 0),Ye 4 56 (Yq 9) (Yq 8),Yk 4 (Yq 0) (Yq 1)] [none,Cs 21,Cs 20,Cs 19,Cs 18,Cs 17,Cs 16,Cs 15,Cs 14,Cs 13,Cs 12,Cs 11,Cs 10]
def c65_4:MCode:=.region [Yb 1,Yh .add (Yq 0) (Ck 1),Yk 1 (Cp 1) (Yq 0)] [none,none,none]
def c65_2:MCode:=.seq c65_3 c65_4
def c65_0:MCode:=.seq c65_1 c65_2
theorem fi65:funInfo Tryz.prog 65 = some { code:=c65_0,ntmps:=24,nargs:=5,ps:=[4,10,3,13,14,15,16,18,17,19,12,11,20,21,1,0,2],res:=[] }:=by kernel_rfl
def c66_1:MCode:=.region [Yp 0] [Cs 3]
def c66_3:MCode:=.region [Yb 1,Cm 0,Ye 1 8 (Yq 1) (Yq 0),Ya 0,C0] [Cs 3,none,none,none,none]
def c66_2:MCode:=.seq c66_3 .ret
def c66_0:MCode:=.seq c66_1 c66_2
theorem fi66:funInfo Tryz.prog 66 = some { code:=c66_0,ntmps:=8,nargs:=2,ps:=[0,1,3],res:=[.tmp 3] }:=by kernel_rfl
def c107_1:MCode:=.region [Yb 1,Cm 0,Ye 1 1 (Yq 1) (Yq 0),Ya 0,Cr (.un .not (Yq 0))] [Cs 9,none,none,none,none]
def c107_4:MCode:=.region [Yb 1,Cm 0,Ye 1 1 (Yq 1) (Yq 0),Cr (.store (some 1) (Yq 0) (.cst (.bool true)))] [none,none,none,none]
def c107_6:MCode:=.region [Yb 2,Cm 0,Cr (.buildSlice (some (1,8)) (some [(.int .i64 0)]) 1 [(0,(Yq 0))]),Cr (.append (some (1,8)) (Yq 2) (Yq 0)),Yk 1 (Cp 2) (Yq 0)] [none,none,none,none,none]
def c107_7:MCode:=.region [Yb 3,Cm 0,Cr (.call (Yq 1) [(Yq 0)])] [none,none,none]
def c107_5:MCode:=.seq c107_6 c107_7
def c107_3:MCode:=.seq c107_4 c107_5
def c107_2:MCode:=.cond (Cp 9) c107_3 .skip
def c107_0:MCode:=.seq c107_1 c107_2
theorem fi107:funInfo Tryz.prog 107 = some { code:=c107_0,ntmps:=20,nargs:=4,ps:=[3,2,9,0,1],res:=[] }:=by kernel_rfl
def c39_1:MCode:=.region [Yo (.bool false)] [Cs 4]
def c39_4:MCode:=.region [Cm 0,Yl (Yq 0),Cm 1,Yl (Yq 0),Yh .neq (Yq 2) (Yq 0)] [Cs 10,none,none,none,none]
def c39_7:MCode:=.region [Yo (.bool false)] [Cs 4]
def c39_6:MCode:=.seq c39_7 .ret
def c39_5:MCode:=.cond (Cp 10) c39_6 .skip
def c39_3:MCode:=.seq c39_4 c39_5
def c39_10:MCode:=.region [Cm 0,Yl (Yq 0),Yp 0] [Cs 13,Cs 12,none]
def c39_14:MCode:=.region [Yh .lss (Cp 13) (Cp 12)] [Cs 14]
def c39_16:MCode:=.cond (Cp 14) .skip (.exit 0)
def c39_20:MCode:=.region [Cm 13,C0] [Cs 5,none]
def c39_22:MCode:=.region [Cm 0,Cm 5,Ye 1 8 (Yq 1) (Yq 0),Ya 0,Cm 1,Cm 5,Ye 1 8 (Yq 1) (Yq 0),Ya 0,Yh .neq (Yq 4) (Yq 0)] [Cs 24,Cs 23,Cs 22,Cs 21,Cs 20,Cs 19,Cs 18,Cs 17,Cs 16]
def c39_25:MCode:=.region [Yo (.bool false)] [Cs 4]
def c39_24:MCode:=.seq c39_25 .ret
def c39_23:MCode:=.cond (Cp 24) c39_24 .skip
def c39_21:MCode:=.seq c39_22 c39_23
def c39_19:MCode:=.seq c39_20 c39_21
def c39_18:MCode:=.block 1 c39_19
def c39_26:MCode:=.region [Yh .add (Cp 13) (Ck 1),C0] [Cs 13,none]
def c39_17:MCode:=.seq c39_18 c39_26
def c39_15:MCode:=.seq c39_16 c39_17
def c39_13:MCode:=.seq c39_14 c39_15
def c39_12:MCode:=.loop c39_13
def c39_11:MCode:=.block 0 c39_12
def c39_9:MCode:=.seq c39_10 c39_11
def c39_28:MCode:=.region [Yo (.bool true)] [Cs 4]
def c39_27:MCode:=.seq c39_28 .ret
def c39_8:MCode:=.seq c39_9 c39_27
def c39_2:MCode:=.seq c39_3 c39_8
def c39_0:MCode:=.seq c39_1 c39_2
theorem fi39:funInfo Tryz.prog 39 = some { code:=c39_0,ntmps:=26,nargs:=2,ps:=[24,17,16,18,5,21,20,22,23,19,14,12,13,10,1,0,4],res:=[.tmp 4] }:=by kernel_rfl
end Go.Proofs
end
section
open Go Go.AM
namespace Go.Proofs
def c67_1:MCode:=.region [Cr (.box (Cp 0)),Cr (.alloc (some [.nilSlice,(.int .i64 0)])),Yp 0] [Cs 3,Cs 2,Cs 1]
def c67_4:MCode:=.region [Yr 2 (Cp 1),Cr (.buildSlice (some (2,32)) (some [.nilSlice,(.int .i64 0)]) 1 [(0,(Yq 0))]),Ym 108 [(Yq 0)],C0] [Cs 4,none,none,none]
def c67_6:MCode:=.region [Cm 4,Yh .neq (Yq 0) (Ck 0)] [Cs 12,none]
def c67_9:MCode:=.region [Cr (.build (some []) (some [.nilSlice,(.int .i64 0)])),Cm 4,Yk 2 (Cp 2) (Yq 1),Yn 1] [Cs 3,none,none,none]
def c67_8:MCode:=.seq c67_9 .ret
def c67_7:MCode:=.cond (Cp 12) c67_8 .skip
def c67_5:MCode:=.seq c67_6 c67_7
def c67_3:MCode:=.seq c67_4 c67_5
def c67_11:MCode:=.region [Yd 0 1,Ya 0,Yd 1 1,Ya 0,Cr (.buildSlice (some (1,8)) (some [(.int .i64 0)]) 1 [(0,(Yq 0))]),Ym 109 [(Yq 3),(Yq 0)],C0] [Cs 5,none,none,none,none,none,none]
def c67_13:MCode:=.region [Yd 0 1,Ya 0,Cm 5,Ym 110 [(Yq 1),(Yq 0)],C0,Yg 0 0,Yg 1 1,Yn 1,Yn 1] [Cs 7,Cs 6,none,none,none,none,none,none,none]
def c67_15:MCode:=.region [Yd 0 1,Ya 0,Cm 5,Cm 6,Cm 7,Ym 111 [(Yq 3),(Yq 2),(Yq 1),(Yq 0)],Yk 2 (Cp 2) (Yq 0),Yp 0] [Cs 3,none,none,none,none,none,none,none]
def c67_14:MCode:=.seq c67_15 .ret
def c67_12:MCode:=.seq c67_13 c67_14
def c67_10:MCode:=.seq c67_11 c67_12
def c67_2:MCode:=.seq c67_3 c67_10
def c67_0:MCode:=.seq c67_1 c67_2
theorem fi67:funInfo Tryz.prog 67 = some { code:=c67_0,ntmps:=34,nargs:=1,ps:=[7,6,5,12,4,1,0,2,3],res:=[.cell 2 28,.tmp 3] }:=by kernel_rfl
def c121_1:MCode:=.region [Cr (.box (Cp 0)),Yp 0] [Cs 2,Cs 1]
def c121_3:MCode:=.region [Cr (.func (some 145) [] [(Cp 1)]),Cr (.alloc (some [.nilFn])),Yk 1 (Yq 0) (Yq 1)] [none,Cs 3,none]
def c121_7:MCode:=.region [Yd 0 1,Ya 0,Yl (Yq 0),Yh .lss (Yq 0) (Ck 1),C0,Yi 0 (.fieldAddr (some 0) (Cp 1)),Yi 1 (.load (some none) (Yq 0)),Yi 2 (.len (some (.slc,0)) (Yq 0)),Yi 3 (.bin .gtr .other none (Yq 0) (Ck 60)),Cr (.pick (Yq 4) (.cst (.bool true)) (Yq 0)),C0,Yi 0 (.fieldAddr (some 0) (Cp 1)),Yi 1 (.load (some none) (Yq 0)),Yi 2 (.call (.cst (.fn 146 [] [])) [(Yq 0),(.cst (.fn 147 [] []))]),Yi 3 (.un .not (Yq 0)),Cr (.pick (Yq 4) (.cst (.bool true)) (Yq 0)),C0] [Cs 5,none,none,none,none,none,none,none,none,none,none,none,none,none,none,none,none]
def c121_10:MCode:=.region [Yp 2] [Cs 2]
def c121_9:MCode:=.seq c121_10 .ret
def c121_12:MCode:=.region [Yd 0 1,Ya 0,Cr (.call (.cst (.fn 146 [] [])) [(Yq 0),(.cst (.fn 148 [] []))]),Cr (.un .not (Yq 0)),C0] [Cs 22,none,none,none,none]
def c121_15:MCode:=.region [Yp 4] [Cs 2]
def c121_14:MCode:=.seq c121_15 .ret
def c121_17:MCode:=.region [Yb 3,Yd 1 1,Ya 0,Cr (.call (Yq 2) [(Yq 0)]),Cr (.un .not (Yq 0)),C0,Yi 0 (.fieldAddr (some 0) (Cp 1)),Yi 1 (.load (some none) (Yq 0)),Yi 2 (.func (some 150) [] [(Cp 3)]),Yi 3 (.call (.cst (.fn 146 [] [])) [(Yq 1),(Yq 0)]),Yi 4 (.un .not (Yq 0)),Cr (.pick (Yq 5) (.cst (.bool true)) (Yq 0)),C0] [Cs 27,none,none,none,none,none,none,none,none,none,none,none,none]
def c121_20:MCode:=.region [Yp 1] [Cs 2]
def c121_19:MCode:=.seq c121_20 .ret
def c121_18:MCode:=.cond (Cp 27) c121_19 .skip
def c121_16:MCode:=.seq c121_17 c121_18
def c121_13:MCode:=.cond (Cp 22) c121_14 c121_16
def c121_11:MCode:=.seq c121_12 c121_13
def c121_8:MCode:=.cond (Cp 5) c121_9 c121_11
def c121_6:MCode:=.seq c121_7 c121_8
def c121_5:MCode:=.block 0 c121_6
def c121_22:MCode:=.region [Yp 0] [Cs 2]
def c121_21:MCode:=.seq c121_22 .ret
def c121_4:MCode:=.seq c121_5 c121_21
def c121_2:MCode:=.seq c121_3 c121_4
def c121_0:MCode:=.seq c121_1 c121_2
theorem fi121:funInfo Tryz.prog 121 = some { code:=c121_0,ntmps:=40,nargs:=1,ps:=[27,3,22,5,1,0,2],res:=[.tmp 2] }:=by kernel_rfl
def c108_1:MCode:=.region [Yp 0] [Cs 2]
def c108_3:MCode:=.region [Cm 0,Cr (.call (.cst (.fn 137 [] [])) [(Yq 0),(.cst (.fn 138 [] []))]),C0,Yg 0 0,Yg 1 1,Cr (.alloc (some [.nilSlice,(.int .i64 0)])),Yk 2 (Yq 0) (Yq 2),Yn 2] [Cs 4,none,Cs 3,none,none,none,none,none]
def c108_6:MCode:=.region [Cm 4,Cr (.un .not (Yq 0))] [Cs 11,none]
def c108_9:MCode:=.region [Yp 0] [Cs 2]
def c108_8:MCode:=.seq c108_9 .ret
def c108_7:MCode:=.cond (Cp 11) c108_8 .skip
def c108_5:MCode:=.seq c108_6 c108_7
def Zy8:MCode:=.region [Yr 2 (Cp 3),Ym 121 [(Yq 0)],C0] [Cs 2,none,none]
def Zy7:MCode:=.seq Zy8 .ret
def c108_4:MCode:=.seq c108_5 Zy7
def c108_2:MCode:=.seq c108_3 c108_4
def c108_0:MCode:=.seq c108_1 c108_2
theorem fi108:funInfo Tryz.prog 108 = some { code:=c108_0,ntmps:=14,nargs:=1,ps:=[3,11,4,0,2],res:=[.tmp 2] }:=by kernel_rfl
def c109_1:MCode:=.region [Yo .nilSlice] [Cs 4]
def c109_3:MCode:=.region [Cm 0,Yl (Yq 0),Cr (.makeSlice (some (1,1)) (some [(.bool false)]) (Yq 0) (Yq 0)),C0] [Cs 5,none,none,none]
def c109_5:MCode:=.region [Yo .nilSlice] [Cs 6]
def c109_8:MCode:=.region [Cm 1,Yl (Yq 0),Yp 0] [Cs 17,Cs 16,Cs 15]
def Zyb:MCode:=.region [Yh .lss (Cp 17) (Cp 16)] [Cs 18]
def Zyd:MCode:=.cond (Cp 18) .skip (.exit 0)
def Zyh:MCode:=.region [Ye 1 8 (Cp 15) (Cp 17),Ya 0,C0] [Cs 8,none,none]
def Zyj:MCode:=.region [Cm 6,Yl (Yq 0),C0] [Cs 9,none,none]
def Zym:MCode:=.region [Cm 5,Cm 8,Ye 1 1 (Yq 1) (Yq 0),Ya 0,Cr (.un .not (Yq 0))] [Cs 27,none,none,none,none]
def Zyp:MCode:=.region [Cm 5,Cm 8,Ye 1 1 (Yq 1) (Yq 0),Cr (.store (some 1) (Yq 0) (.cst (.bool true)))] [none,none,none,none]
def Zyq:MCode:=.region [Cm 6,Cm 8,Cr (.buildSlice (some (1,8)) (some [(.int .i64 0)]) 1 [(0,(Yq 0))]),Cr (.append (some (1,8)) (Yq 2) (Yq 0)),C0] [Cs 6,none,none,none,none]
def Zyo:MCode:=.seq Zyp Zyq
def Zyn:MCode:=.cond (Cp 27) Zyo .skip
def Zyl:MCode:=.seq Zym Zyn
def Zyu:MCode:=.region [Cm 9,Cm 6,Yl (Yq 0),Yh .lss (Yq 2) (Yq 0)] [Cs 38,none,none,none]
def Zyv:MCode:=.cond (Cp 38) .skip (.exit 2)
def Zyt:MCode:=.seq Zyu Zyv
def Zyy:MCode:=.region [Cm 0,Cm 6,Cm 9,Ye 1 8 (Yq 1) (Yq 0),Ya 0,Ye 2 40 (Yq 4) (Yq 0),Yc 1 0,Ya 0,Yl (Yq 0),Yp 0] [Cs 50,Cs 49,Cs 48,none,none,none,none,none,none,none]
def Zz2:MCode:=.region [Yh .lss (Cp 50) (Cp 49)] [Cs 51]
def Zz4:MCode:=.cond (Cp 51) .skip (.exit 4)
def Zz8:MCode:=.region [Ye 1 8 (Cp 48) (Cp 50),Ya 0,C0] [Cs 11,none,none]
def Zza:MCode:=.region [Cm 5,Cm 11,Ye 1 1 (Yq 1) (Yq 0),Ya 0,Cr (.un .not (Yq 0))] [Cs 58,none,none,none,none]
def Zzd:MCode:=.region [Cm 5,Cm 11,Ye 1 1 (Yq 1) (Yq 0),Cr (.store (some 1) (Yq 0) (.cst (.bool true)))] [none,none,none,none]
def Zze:MCode:=.region [Cm 6,Cm 11,Cr (.buildSlice (some (1,8)) (some [(.int .i64 0)]) 1 [(0,(Yq 0))]),Cr (.append (some (1,8)) (Yq 2) (Yq 0)),C0] [Cs 6,none,none,none,none]
def Zzc:MCode:=.seq Zzd Zze
def Zzb:MCode:=.cond (Cp 58) Zzc .skip
def Zz9:MCode:=.seq Zza Zzb
def Zz7:MCode:=.seq Zz8 Zz9
def Zz6:MCode:=.block 5 Zz7
def Zzf:MCode:=.region [Yh .add (Cp 50) (Ck 1),C0] [Cs 50,none]
def Zz5:MCode:=.seq Zz6 Zzf
def Zz3:MCode:=.seq Zz4 Zz5
def Zz1:MCode:=.seq Zz2 Zz3
def Zz0:MCode:=.loop Zz1
def Zyz:MCode:=.block 4 Zz0
def Zph:MCode:=.seq Zyy Zyz
def Zyx:MCode:=.block 3 Zph
def Zzg:MCode:=.region [Cm 9,Yh .add (Yq 0) (Ck 1),C0] [Cs 9,none,none]
def Zyw:MCode:=.seq Zyx Zzg
def Zys:MCode:=.seq Zyt Zyw
def Zyr:MCode:=.loop Zys
def Zpg:MCode:=.block 2 Zyr
def Zyk:MCode:=.seq Zyl Zpg
def Zyi:MCode:=.seq Zyj Zyk
def Zyg:MCode:=.seq Zyh Zyi
def Zyf:MCode:=.block 1 Zyg
def Zzh:MCode:=.region [Yh .add (Cp 17) (Ck 1),C0] [Cs 17,none]
def Zye:MCode:=.seq Zyf Zzh
def Zyc:MCode:=.seq Zyd Zye
def Zya:MCode:=.seq Zyb Zyc
def Zy9:MCode:=.loop Zya
def c109_9:MCode:=.block 0 Zy9
def c109_7:MCode:=.seq c109_8 c109_9
def Zzj:MCode:=.region [Cm 6,C0] [Cs 4,none]
def Zzi:MCode:=.seq Zzj .ret
def c109_6:MCode:=.seq c109_7 Zzi
def c109_4:MCode:=.seq c109_5 c109_6
def c109_2:MCode:=.seq c109_3 c109_4
def c109_0:MCode:=.seq c109_1 c109_2
theorem fi109:funInfo Tryz.prog 109 = some { code:=c109_0,ntmps:=69,nargs:=2,ps:=[58,11,48,51,49,50,38,9,27,8,5,6,15,18,16,17,1,0,4],res:=[.tmp 4] }:=by kernel_rfl
def c110_1:MCode:=.region [Yo .nilSlice,Yp 0] [Cs 5,Cs 4]
def c110_3:MCode:=.region [Cm 0,Yl (Yq 0),Cr (.makeSlice (some (1,8)) (some [(.int .i64 0)]) (Yq 0) (Yq 0)),C0] [Cs 6,none,none,none]
def c110_5:MCode:=.region [Yp 1] [Cs 7]
def Zzk:MCode:=.region [Cm 0,Yl (Yq 0),Cr (.makeSlice (some (1,8)) (some [(.int .i64 0)]) (Yq 0) (Yq 0)),C0] [Cs 8,none,none,none]
def Zzm:MCode:=.region [Cm 8,Yl (Yq 0),Yp 0] [Cs 26,Cs 25,none]
def Zzq:MCode:=.region [Yh .lss (Cp 26) (Cp 25)] [Cs 27]
def Zzs:MCode:=.cond (Cp 27) .skip (.exit 2)
def Zzw:MCode:=.region [Cm 26,C0] [Cs 9,none]
def Zzx:MCode:=.region [Cm 8,Cm 9,Ye 1 8 (Yq 1) (Yq 0),Cr (.store (some 1) (Yq 0) (.cst (.int .i64 (-1))))] [none,none,none,none]
def Zzv:MCode:=.seq Zzw Zzx
def Zzu:MCode:=.block 3 Zzv
def Zzy:MCode:=.region [Yh .add (Cp 26) (Ck 1),C0] [Cs 26,none]
def Zzt:MCode:=.seq Zzu Zzy
def Zzr:MCode:=.seq Zzs Zzt
def Zzp:MCode:=.seq Zzq Zzr
def Zzo:MCode:=.loop Zzp
def Zzn:MCode:=.block 2 Zzo
def Zpi:MCode:=.seq Zzm Zzn
def c110_27:MCode:=.region [Cr (.makeMap true),C0] [Cs 10,none]
def c110_30:MCode:=.region [Cm 1,Yl (Yq 0),Yp 0] [Cs 36,Cs 35,Cs 34]
def c110_34:MCode:=.region [Yh .lss (Cp 36) (Cp 35)] [Cs 37]
def c110_36:MCode:=.cond (Cp 37) .skip (.exit 4)
def c110_40:MCode:=.region [Ye 1 8 (Cp 34) (Cp 36),Ya 0,C0] [Cs 12,none,none]
def c110_42:MCode:=.region [Cm 0,Cm 12,Ye 2 40 (Yq 1) (Yq 0),Yc 0 0,Ya 0,Cm 0,Cm 12,Ye 2 40 (Yq 1) (Yq 0),Yc 1 0,Ya 0,Yl (Yq 0),Cr (.build (some [(0,(1,(Yq 6))),(1,(1,(Yq 0)))]) (some [(.str []),(.int .i64 0),(.int .i64 0),(.int .i64 0),(.int .i64 0),(.int .i64 0)])),.fresh,Cr (.alloc (some [(.str []),(.int .i64 0),(.int .i64 0),(.int .i64 0),(.int .i64 0),(.int .i64 0)])),Yk 6 (Yq 0) (Yq 1)] [none,Cs 13,Cs 51,Cs 50,Cs 49,Cs 48,Cs 47,Cs 46,Cs 45,Cs 44,Cs 43,Cs 42,Cs 41,Cs 40]
def c110_45:MCode:=.region [Cm 0,Cm 12,Ye 2 40 (Yq 1) (Yq 0),Yc 1 0,Ya 0,Yl (Yq 0),Yp 0] [Cs 58,Cs 57,Cs 56,none,none,none,none]
def c110_49:MCode:=.region [Yh .lss (Cp 58) (Cp 57)] [Cs 59]
def c110_51:MCode:=.cond (Cp 59) .skip (.exit 6)
def c110_55:MCode:=.region [Cm 58,Ye 1 8 (Cp 56) (Cp 58),Ya 0,Yn 2,Yn 1] [Cs 15,Cs 14,none,none,none]
def c110_56:MCode:=.region [Cm 14,Cm 6,Cm 15,Ye 1 8 (Yq 1) (Yq 0),Ya 0,Yd 2 13,Cr (.indexAddr .arr none (some (4,1)) (Yq 0) (Yq 5)),Yk 1 (Yq 0) (Yq 2)] [none,none,none,none,none,none,none,none]
def c110_54:MCode:=.seq c110_55 c110_56
def c110_53:MCode:=.block 7 c110_54
def c110_57:MCode:=.region [Yh .add (Cp 58) (Ck 1),C0] [Cs 58,none]
def c110_52:MCode:=.seq c110_53 c110_57
def c110_50:MCode:=.seq c110_51 c110_52
def c110_48:MCode:=.seq c110_49 c110_50
def c110_47:MCode:=.loop c110_48
def c110_46:MCode:=.block 6 c110_47
def Zpl:MCode:=.seq c110_45 c110_46
def c110_59:MCode:=.region [Cm 10,Yr 6 (Cp 13),Cr (.lookup (some (true,([.str,.int,.int,.int,.int,.int],(.int .i64 0)))) true (Yq 1) (Yq 0)),C0,Yg 0 0,Yg 1 1,Yn 1,Yn 1] [Cs 17,Cs 16,none,none,none,none,none,none]
def c110_62:MCode:=.region [Cm 17,Cr (.un .not (Yq 0))] [Cs 78,none]
def c110_65:MCode:=.region [Cm 10,Cr (.len (some (.map,0)) (Yq 0)),C0] [Cs 16,none,none]
def c110_66:MCode:=.region [Cm 10,Yr 6 (Cp 13),Cm 16,Cr (.mapSet (some (true,([.str,.int,.int,.int,.int,.int],(.int .i64 0)))) (Yq 2) (Yq 1) (Yq 0))] [none,none,none,none]
def c110_64:MCode:=.seq c110_65 c110_66
def c110_63:MCode:=.cond (Cp 78) c110_64 .skip
def c110_61:MCode:=.seq c110_62 c110_63
def Zpm:MCode:=.region [Cm 8,Cm 12,Cm 16,Ye 1 8 (Yq 2) (Yq 1),Yk 1 (Yq 0) (Yq 1)] [none,none,none,none,none]
def c110_60:MCode:=.seq c110_61 Zpm
def c110_58:MCode:=.seq c110_59 c110_60
def c110_43:MCode:=.seq Zpl c110_58
def Zpk:MCode:=.seq c110_42 c110_43
def c110_39:MCode:=.seq c110_40 Zpk
def c110_38:MCode:=.block 5 c110_39
def c110_68:MCode:=.region [Yh .add (Cp 36) (Ck 1),C0] [Cs 36,none]
def c110_37:MCode:=.seq c110_38 c110_68
def c110_35:MCode:=.seq c110_36 c110_37
def c110_33:MCode:=.seq c110_34 c110_35
def c110_32:MCode:=.loop c110_33
def c110_31:MCode:=.block 4 c110_32
def Zpj:MCode:=.seq c110_30 c110_31
def c110_71:MCode:=.region [Cm 10,Cr (.len (some (.map,0)) (Yq 0)),Cm 7,Yh .eql (Yq 1) (Yq 0)] [Cs 92,none,none,none]
def c110_74:MCode:=.region [Cm 8,Cm 7,Yn 1,Yn 1] [Cs 5,Cs 4,none,none]
def c110_73:MCode:=.seq c110_74 .ret
def c110_72:MCode:=.cond (Cp 92) c110_73 .skip
def c110_70:MCode:=.seq c110_71 c110_72
def c110_75:MCode:=.region [Cm 8,Cm 10,Cr (.len (some (.map,0)) (Yq 0)),Yn 2,Yn 1] [Cs 7,Cs 6,none,none,none]
def c110_69:MCode:=.seq c110_70 c110_75
def c110_28:MCode:=.seq Zpj c110_69
def Zzz:MCode:=.seq c110_27 c110_28
def Zzl:MCode:=.seq Zpi Zzz
def c110_9:MCode:=.seq Zzk Zzl
def c110_8:MCode:=.block 1 c110_9
def c110_7:MCode:=.loop c110_8
def c110_6:MCode:=.block 0 c110_7
def c110_4:MCode:=.seq c110_5 c110_6
def c110_2:MCode:=.seq c110_3 c110_4
def c110_0:MCode:=.seq c110_1 c110_2
theorem fi110:funInfo Tryz.prog 110 = some { code:=c110_0,ntmps:=98,nargs:=2,ps:=[92,7,16,78,17,10,15,6,14,56,59,57,58,41,40,42,43,12,46,45,47,48,49,50,44,51,13,34,37,35,36,1,9,27,25,26,8,0,4,5],res:=[.tmp 4,.tmp 5] }:=by kernel_rfl
def c111_1:MCode:=.region [Cr (.alloc (some [.nilSlice,(.int .i64 0)]))] [Cs 8]
def c111_3:MCode:=.region [Cm 3,Cr (.makeSlice (some (2,40)) (some [(.str []),.nilSlice]) (Yq 0) (Yq 0)),Cr (.build (some [(0,(1,(Yq 0)))]) (some [.nilSlice,(.int .i64 0)])),Cr (.alloc (some [.nilSlice,(.int .i64 0)])),Yk 2 (Yq 0) (Yq 1)] [none,Cs 9,none,none,none]
def c111_6:MCode:=.region [Cm 1,Yl (Yq 0),Yp 0] [Cs 20,Cs 19,Cs 18]
def c111_10:MCode:=.region [Yh .lss (Cp 20) (Cp 19)] [Cs 21]
def c111_12:MCode:=.cond (Cp 21) .skip (.exit 0)
def c111_16:MCode:=.region [Ye 1 8 (Cp 18) (Cp 20),Ya 0,C0] [Cs 11,none,none]
def c111_18:MCode:=.region [Yd 0 9,Ya 0,Cm 2,Cm 11,Ye 1 8 (Yq 1) (Yq 0),Ya 0,Ye 2 40 (Yq 4) (Yq 0),C0] [Cs 12,Cs 30,Cs 29,Cs 28,Cs 27,Cs 26,Cs 25,Cs 24]
def c111_21:MCode:=.region [Cm 12,Yf 0,Yc 0 0,Ya 0,Cr (.bin .neq .other none (Yq 0) (.cst (.str [])))] [Cs 35,none,none,none,none]
def c111_22:MCode:=.cond (Cp 35) (.exit 1) .skip
def c111_20:MCode:=.seq c111_21 c111_22
def c111_24:MCode:=.region [Cm 12,Cm 0,Cm 11,Ye 2 40 (Yq 1) (Yq 0),Yc 0 0,Ya 0,Yf 5,Yc 0 0,Yk 1 (Yq 0) (Yq 2)] [none,none,none,none,none,none,none,none,none]
def c111_26:MCode:=.region [Cm 12,Cm 0,Cm 11,Ye 2 40 (Yq 1) (Yq 0),Yc 1 0,Ya 0,Yl (Yq 0),Cr (.makeSlice (some (1,8)) (some [(.int .i64 0)]) (Yq 0) (Yq 0)),Yf 7,Yc 1 0,Yk 1 (Yq 0) (Yq 2)] [none,none,none,none,none,none,none,none,none,none,none]
def c111_28:MCode:=.region [Cm 12,Yf 0,Yc 1 0,Ya 0,Cm 0,Cm 11,Ye 2 40 (Yq 1) (Yq 0),Yc 1 0,Ya 0,Cr (.copy (some 1) (Yq 5) (Yq 0))] [none,Cs 62,Cs 61,Cs 60,Cs 59,Cs 58,Cs 57,Cs 56,Cs 55,Cs 54]
def c111_30:MCode:=.region [Cm 12,Yf 0,Yc 1 0,Ya 0,Yl (Yq 0),Yp 0] [Cs 69,Cs 68,Cs 67,none,none,none]
def c111_34:MCode:=.region [Yh .lss (Cp 69) (Cp 68)] [Cs 70]
def c111_36:MCode:=.cond (Cp 70) .skip (.exit 2)
def c111_40:MCode:=.region [Cm 69,Ye 1 8 (Cp 67) (Cp 69),Ya 0,Yn 2,Yn 1] [Cs 14,Cs 13,none,none,none]
def c111_41:MCode:=.region [Cm 12,Yf 0,Yc 1 0,Ya 0,Cm 13,Cm 2,Cm 14,Ye 1 8 (Yq 1) (Yq 0),Ya 0,Ye 1 8 (Yq 5) (Yq 4),Yk 1 (Yq 0) (Yq 1)] [none,Cs 83,Cs 82,Cs 81,Cs 80,Cs 79,Cs 78,Cs 77,Cs 76,Cs 75,Cs 74]
def c111_39:MCode:=.seq c111_40 c111_41
def c111_38:MCode:=.block 3 c111_39
def c111_42:MCode:=.region [Yh .add (Cp 69) (Ck 1),C0] [Cs 69,none]
def c111_37:MCode:=.seq c111_38 c111_42
def c111_35:MCode:=.seq c111_36 c111_37
def c111_33:MCode:=.seq c111_34 c111_35
def c111_32:MCode:=.loop c111_33
def c111_31:MCode:=.block 2 c111_32
def c111_29:MCode:=.seq c111_30 c111_31
def c111_27:MCode:=.seq c111_28 c111_29
def c111_25:MCode:=.seq c111_26 c111_27
def c111_23:MCode:=.seq c111_24 c111_25
def c111_19:MCode:=.seq c111_20 c111_23
def c111_17:MCode:=.seq c111_18 c111_19
def c111_15:MCode:=.seq c111_16 c111_17
def c111_14:MCode:=.block 1 c111_15
def c111_43:MCode:=.region [Yh .add (Cp 20) (Ck 1),C0] [Cs 20,none]
def c111_13:MCode:=.seq c111_14 c111_43
def c111_11:MCode:=.seq c111_12 c111_13
def c111_9:MCode:=.seq c111_10 c111_11
def c111_8:MCode:=.loop c111_9
def c111_7:MCode:=.block 0 c111_8
def c111_5:MCode:=.seq c111_6 c111_7
def c111_45:MCode:=.region [Yr 2 (Cp 9),Yk 2 (Cp 8) (Yq 0)] [none,none]
def c111_44:MCode:=.seq c111_45 .ret
def c111_4:MCode:=.seq c111_5 c111_44
def c111_2:MCode:=.seq c111_3 c111_4
def c111_0:MCode:=.seq c111_1 c111_2
theorem fi111:funInfo Tryz.prog 111 = some { code:=c111_0,ntmps:=87,nargs:=4,ps:=[74,75,76,13,14,80,79,81,78,77,82,83,67,70,68,69,54,55,56,59,58,60,61,62,57,0,35,12,9,24,2,11,27,26,28,29,25,30,18,21,19,20,1,3,8],res:=[.cell 8 28] }:=by kernel_rfl
def c145_1:MCode:=.region [Yo (.bool false)] [Cs 3]
def c145_3:MCode:=.region [Cm 0,Yh .geq (Yq 0) (Ck 0),C0,Yj 0 (.move (Cp 0)),Yj 1 (.fieldAddr (some 0) (Cp 1)),Yj 2 (.load (some none) (Yq 0)),Yj 3 (.len (some (.slc,0)) (Yq 0)),Yj 4 (.bin .lss .other none (Yq 3) (Yq 0)),Cr (.pick (Yq 5) (Yq 0) (.cst (.bool false))),C0] [Cs 3,none,none,none,none,none,none,none,none,none]
def c145_2:MCode:=.seq c145_3 .ret
def c145_0:MCode:=.seq c145_1 c145_2
theorem fi145:funInfo Tryz.prog 145 = some { code:=c145_0,ntmps:=13,nargs:=2,ps:=[1,0,3],res:=[.tmp 3] }:=by kernel_rfl
def c146_1:MCode:=.region [Cr (.box (Cp 1)),Yo (.bool false)] [Cs 4,Cs 3]
def c146_3:MCode:=.region [Cm 0,Cr (.func (some 162) [] [(Cp 3)]),Ym 98 [(Yq 1),(Yq 0)],Cr (.un .not (Yq 0)),C0] [Cs 4,none,none,none,none]
def c146_2:MCode:=.seq c146_3 .ret
def c146_0:MCode:=.seq c146_1 c146_2
theorem fi146:funInfo Tryz.prog 146 = some { code:=c146_0,ntmps:=9,nargs:=2,ps:=[3,0,1,4],res:=[.tmp 4] }:=by kernel_rfl
def c147_1:MCode:=.region [Cr (.box (Cp 0)),Yo (.bool false)] [Cs 2,Cs 1]
def c147_3:MCode:=.region [Yd 1 1,Ya 0,Yl (Yq 0),Yh .leq (Yq 0) (Ck 4),C0] [Cs 2,none,none,none,none]
def c147_2:MCode:=.seq c147_3 .ret
def c147_0:MCode:=.seq c147_1 c147_2
theorem fi147:funInfo Tryz.prog 147 = some { code:=c147_0,ntmps:=7,nargs:=1,ps:=[1,0,2],res:=[.tmp 2] }:=by kernel_rfl
def c148_1:MCode:=.region [Cr (.box (Cp 0)),Yo (.bool false)] [Cs 2,Cs 1]
def c148_3:MCode:=.region [Yd 0 1,Ya 0,Ym 149 [(Yq 0)],C0] [Cs 2,none,none,none]
def c148_2:MCode:=.seq c148_3 .ret
def c148_0:MCode:=.seq c148_1 c148_2
theorem fi148:funInfo Tryz.prog 148 = some { code:=c148_0,ntmps:=6,nargs:=1,ps:=[1,0,2],res:=[.tmp 2] }:=by kernel_rfl
def c150_1:MCode:=.region [Cr (.box (Cp 0)),Yo (.bool false)] [Cs 3,Cs 2]
def c150_3:MCode:=.region [Yd 1 2,Ya 0,Yb 1,Ym 151 [(Yq 1),(Yq 0)],C0] [Cs 3,none,none,none,none]
def c150_2:MCode:=.seq c150_3 .ret
def c150_0:MCode:=.seq c150_1 c150_2
theorem fi150:funInfo Tryz.prog 150 = some { code:=c150_0,ntmps:=8,nargs:=2,ps:=[1,2,0,3],res:=[.tmp 3] }:=by kernel_rfl
def c151_1:MCode:=.region [Cr (.box (Cp 1)),Yo (.bool false)] [Cs 4,Cs 3]
def c151_3:MCode:=.region [Cm 0,Cr (.func (some 163) [] [(Cp 3)]),Ym 103 [(Yq 1),(Yq 0)],Cr (.un .not (Yq 0)),C0] [Cs 4,none,none,none,none]
def c151_2:MCode:=.seq c151_3 .ret
def c151_0:MCode:=.seq c151_1 c151_2
theorem fi151:funInfo Tryz.prog 151 = some { code:=c151_0,ntmps:=9,nargs:=2,ps:=[3,0,1,4],res:=[.tmp 4] }:=by kernel_rfl
def c137_1:MCode:=.region [Cr (.alloc (some [.nilSlice,(.int .i64 0)])),Yo (.bool false)] [Cs 5,Cs 4]
def c137_3:MCode:=.region [Cr (.alloc (some [.nilSlice,(.int .i64 0)]))] [Cs 6]
def c137_5:MCode:=.region [Cm 0,Cm 1,Ym 158 [(Yq 1),(Yq 0)],C0] [Cs 7,none,none,none]
def c137_8:MCode:=.region [Cm 7,Yh .lss (Yq 0) (Ck 0)] [Cs 12,none]
def c137_11:MCode:=.region [Yr 2 (Cp 6),Yk 2 (Cp 4) (Yq 0),Yo (.bool false)] [Cs 5,none,none]
def c137_10:MCode:=.seq c137_11 .ret
def c137_9:MCode:=.cond (Cp 12) c137_10 .skip
def c137_7:MCode:=.seq c137_8 c137_9
def c137_13:MCode:=.region [Cm 0,Cm 7,Ye 2 32 (Yq 1) (Yq 0),Yr 2 (Yq 0),Yk 2 (Cp 4) (Yq 0),Yo (.bool true)] [Cs 5,none,none,none,none,none]
def c137_12:MCode:=.seq c137_13 .ret
def c137_6:MCode:=.seq c137_7 c137_12
def c137_4:MCode:=.seq c137_5 c137_6
def c137_2:MCode:=.seq c137_3 c137_4
def c137_0:MCode:=.seq c137_1 c137_2
theorem fi137:funInfo Tryz.prog 137 = some { code:=c137_0,ntmps:=18,nargs:=2,ps:=[6,12,7,1,0,4,5],res:=[.cell 4 28,.tmp 5] }:=by kernel_rfl
def c138_1:MCode:=.region [Cr (.box (Cp 0)),Yo (.bool false)] [Cs 2,Cs 1]
def c138_3:MCode:=.region [Yr 2 (Cp 1),Ym 121 [(Yq 0)],Yh .neq (Yq 0) (Ck 0),C0] [Cs 2,none,none,none]
def c138_2:MCode:=.seq c138_3 .ret
def c138_0:MCode:=.seq c138_1 c138_2
theorem fi138:funInfo Tryz.prog 138 = some { code:=c138_0,ntmps:=6,nargs:=1,ps:=[1,0,2],res:=[.tmp 2] }:=by kernel_rfl
def c162_1:MCode:=.region [Cr (.box (Cp 0)),Yo (.bool false)] [Cs 3,Cs 2]
def c162_3:MCode:=.region [Yb 1,Yr 2 (Cp 2),Cr (.call (Yq 1) [(Yq 0)]),Cr (.un .not (Yq 0)),C0] [Cs 3,none,none,none,none]
def c162_2:MCode:=.seq c162_3 .ret
def c162_0:MCode:=.seq c162_1 c162_2
theorem fi162:funInfo Tryz.prog 162 = some { code:=c162_0,ntmps:=8,nargs:=2,ps:=[2,1,0,3],res:=[.tmp 3] }:=by kernel_rfl
def c163_1:MCode:=.region [Yo (.bool false)] [Cs 3]
def c163_3:MCode:=.region [Yb 1,Cm 0,Cr (.call (Yq 1) [(Yq 0)]),Cr (.un .not (Yq 0)),C0] [Cs 3,none,none,none,none]
def c163_2:MCode:=.seq c163_3 .ret
def c163_0:MCode:=.seq c163_1 c163_2
theorem fi163:funInfo Tryz.prog 163 = some { code:=c163_0,ntmps:=8,nargs:=2,ps:=[0,1,3],res:=[.tmp 3] }:=by kernel_rfl
def c158_1:MCode:=.region [Yp 0] [Cs 4]
def c158_4:MCode:=.region [Cm 0,Yl (Yq 0),Yp 0] [Cs 8,Cs 7,none]
def c158_8:MCode:=.region [Yh .lss (Cp 8) (Cp 7)] [Cs 9]
def c158_10:MCode:=.cond (Cp 9) .skip (.exit 0)
def c158_14:MCode:=.region [Cm 8,C0] [Cs 5,none]
def c158_16:MCode:=.region [Cm 1,Cm 0,Cm 5,Ye 2 32 (Yq 1) (Yq 0),Yr 2 (Yq 0),Cr (.call (Yq 4) [(Yq 0)])] [Cs 16,none,none,none,none,none]
def c158_19:MCode:=.region [Cm 5,C0] [Cs 4,none]
def c158_18:MCode:=.seq c158_19 .ret
def c158_17:MCode:=.cond (Cp 16) c158_18 .skip
def c158_15:MCode:=.seq c158_16 c158_17
def c158_13:MCode:=.seq c158_14 c158_15
def c158_12:MCode:=.block 1 c158_13
def c158_20:MCode:=.region [Yh .add (Cp 8) (Ck 1),C0] [Cs 8,none]
def c158_11:MCode:=.seq c158_12 c158_20
def c158_9:MCode:=.seq c158_10 c158_11
def c158_7:MCode:=.seq c158_8 c158_9
def c158_6:MCode:=.loop c158_7
def c158_5:MCode:=.block 0 c158_6
def c158_3:MCode:=.seq c158_4 c158_5
def c158_22:MCode:=.region [Cr (.move (.cst (.int .i64 (-1))))] [Cs 4]
def c158_21:MCode:=.seq c158_22 .ret
def c158_2:MCode:=.seq c158_3 c158_21
def c158_0:MCode:=.seq c158_1 c158_2
theorem fi158:funInfo Tryz.prog 158 = some { code:=c158_0,ntmps:=19,nargs:=2,ps:=[16,5,1,9,7,8,0,4],res:=[.tmp 4] }:=by kernel_rfl
end Go.Proofs
end
section
open Go Go.AM
namespace Go.Proofs
set_option maxRecDepth 100000
abbrev ND:=List UInt8 × List Int
def Z0l (ns:List ND) (V:List AVal):List AVal:=penc (List.zipWith (fun nd kv => (nd.1,kv)) ns V)
theorem Z6a {ns:List ND} {V:List AVal} (h:V.length = ns.length):(Z0l ns V).length = 2 * ns.length:=by
 unfold Z0l
 rw [Zby]
 simp [h]
theorem Zj6 {ns:List ND} {V:List AVal} (h:V.length = ns.length) (nd:ND) (kv:AVal):Z0l (ns ++ [nd]) (V ++ [kv]) = Z0l ns V ++ [.str nd.1,kv]:=by
 unfold Z0l
 rw [List.zipWith_append (by simp [h])]
 simp [penc]
theorem Z7c {ns:List ND} {V:List AVal} {i:Nat} {nd:ND} {kv:AVal} (h1:ns[i]? = some nd) (h2:V[i]? = some kv):(Z0l ns V)[i * 2]? = some (.str nd.1)∧(Z0l ns V)[i * 2 + 1]? = some kv:=by
 unfold Z0l
 exact Zhw _ i (nd.1,kv) (by simp [List.getElem?_zipWith,h1,h2])
theorem Z0v.snoc:∀ {K:List (List Int)} {V:List AVal} {m mk:Lets} {ks:List Int} {kv:AVal},Z0v K V m→RowR kv ks mk→Z0v (K ++ [ks]) (V ++ [kv]) (m ++ mk)
 | [],[],m,mk,ks,kv,h,hk => by
  have h:m = []:=h
  subst h
  exact ⟨mk,[],by simp,hk,rfl⟩
 | k :: K,v :: V,m,mk,ks,kv,⟨m1,m2,h1,h2,h3⟩,hk => ⟨m1,m2 ++ mk,by rw [← List.append_assoc]; exact h1.append (List.Perm.refl mk),h2,Z0v.snoc h3 hk⟩
 | [],_ :: _,_,_,_,_,h,_ => h.elim
 | _ :: _,[],_,_,_,_,h,_ => h.elim
def Z39 (nv:AVal) (ns:List ND) (m:Lets):Prop:=(ns = []∧nv = .nilSlice∧m = []) ∨
 ∃ q V mr,ns ≠ []∧nv = .slice q 0 ns.length (.opn 2)∧m.Perm ((q,C (Z0l ns V)) :: mr)∧Z0v (ns.map Prod.snd) V mr
theorem Z39.len {nv:AVal} {ns:List ND} {m:Lets} (h:Z39 nv ns m):Z1n nv = some ns.length:=by
 rcases h with ⟨rfl,rfl,_⟩ | ⟨q,V,mr,_,rfl,_⟩ <;> rfl
theorem Z39.ntup {nv:AVal} {ns:List ND} {m:Lets} (h:Z39 nv ns m):∀ t,¬ nv = .tup t:=by
 rintro t rfl
 have:=h.len
 cases this
theorem Z39.cells {nv:AVal} {ns:List ND} {m:Lets} (h:Z39 nv ns m):nv.cells = [nv]:=by
 rcases h with ⟨rfl,rfl,_⟩ | ⟨q,V,mr,_,rfl,_⟩ <;> rfl
theorem Zl5 {s0 s:St} {W:Pos→Prop} {r pre mk mn:Lets} {nv kv:AVal} {ns:List ND} {nm:List UInt8} {ks:List Int} {Q:AVal→St→Prop} (h:Ctx s0 W (pre ++ (mk ++ (mn ++ r))) s) (hg:Z39 nv ns mn) (hk:RowR kv ks mk) (hs:ns.length ≤ 1000)
  (q:∀ nv' mn' s',Z39 nv' (ns ++ [(nm,ks)]) mn'→Ctx s0 W (pre ++ (mn' ++ r)) s'→Q nv' s'):appP (2,40) nv [.str nm,kv] 1 s Q:=by
 rcases hg with ⟨rfl,rfl,rfl⟩ | ⟨b,V,mr,hne,rfl,hp,hR⟩
 ·simp only [appP,Z4j]
  rw [if_neg (by decide)]
  refine ⟨by unfold Z0k; omega,?_⟩
  have:=h.alloc (C [.str nm,kv])
  refine q (.slice s.next 0 1 (.opn 2)) ((s.next,C [.str nm,kv]) :: mk) _ (.inr ⟨_,[kv],mk,by simp,rfl,List.Perm.refl _,⟨mk,[],by simp,hk,rfl⟩⟩) (this.perm ?_)
  simp only [List.nil_append,List.cons_append]
  exact List.perm_middle.symm
 ·have hV:V.length = ns.length:=by simpa using hR.len
  have hmem:(b,C (Z0l ns V)) ∈ pre ++ (mk ++ (mn ++ r)):=by
   have:(b,C (Z0l ns V)) ∈ mn:=hp.mem_iff.2 (by simp)
   simp [this]
  have hb:s.own b = some (Z0l ns V):=Z14 (h.own _ hmem)
  have hl:ns.length ≠ 0:=by simpa using hne
  have h1:Ctx s0 W ((b,C (Z0l ns V)) :: (pre ++ (mk ++ (mr ++ r)))) s:=by
   refine h.perm ?_
   have h2:(pre ++ (mk ++ (mn ++ r))).Perm (pre ++ (mk ++ (((b,C (Z0l ns V)) :: mr) ++ r))):=(List.Perm.refl pre).append ((List.Perm.refl mk).append (hp.append (List.Perm.refl r)))
   refine h2.trans ?_
   have h3:pre ++ (mk ++ (((b,C (Z0l ns V)) :: mr) ++ r)) = (pre ++ mk) ++ (b,C (Z0l ns V)) :: (mr ++ r):=by simp
   rw [h3]
   refine List.perm_middle.trans ?_
   simp
  have hlen:=Z6a hV
  have h2:=(h1.put0 .dead).tail.alloc (C (Z0l ns V ++ [.str nm,kv]))
  simp only [appP,Z4j]
  rw [if_neg (by decide)]
  refine ⟨trivial,?_⟩
  rw [hb]
  simp only [Z10]
  rw [if_neg hl,if_neg (by omega)]
  refine ⟨by omega,by unfold Z0k; omega,?_⟩
  have ht:List.take (ns.length * 2) (List.drop 0 (Z0l ns V)) = Z0l ns V:=by rw [List.drop_zero]; exact List.take_of_length_le (by omega)
  rw [ht]
  have hn:(s.put b .dead).next = s.next:=rfl
  refine q (.slice s.next 0 (ns.length + 1) (.opn 2)) ((s.next,C (Z0l (ns ++ [(nm,ks)]) (V ++ [kv]))) :: (mr ++ mk)) _ (.inr ⟨_,V ++ [kv],mr ++ mk,by simp,by simp,List.Perm.refl _,by rw [List.map_append]; exact hR.snoc hk⟩) ?_
  rw [Zj6 hV]
  refine h2.perm ?_
  rw [hn]
  have h3:(mk ++ (mr ++ r)).Perm ((mr ++ mk) ++ r):=by
   rw [← List.append_assoc]
   exact List.perm_append_comm.append (List.Perm.refl r)
  refine (List.Perm.cons _ ((List.Perm.refl pre).append h3)).trans ?_
  simp only [List.cons_append]
  exact List.perm_middle.symm
def Z1h (s:St) (nv:AVal) (ns:List ND):Prop:=(Z1n nv = some 0∧ns = []) ∨
 ∃ b o c cs,nv = .slice b o ns.length c∧s.Old b∧s.cells b = some cs∧o + 2 * ns.length ≤ cs.length∧∀ (i:Nat) (nd:ND),ns[i]? = some nd→cs[o + i * 2]? = some (.str nd.1)∧∃ kv,cs[o + i * 2 + 1]? = some kv∧Z0f s kv nd.2
theorem Z1h.keep {s s':St} {nv:AVal} {ns:List ND} (h:Z1h s nv ns) (k:Keeps s s'):Z1h s' nv ns:=by
 rcases h with h | ⟨b,o,c,cs,h1,h2,h3,h4,h5⟩
 ·exact .inl h
 ·refine .inr ⟨b,o,c,cs,h1,k.old h2,(k.cells h2).trans h3,h4,fun i nd hi => ?_⟩
  obtain ⟨g1,kv,g2,g3⟩:=h5 i nd hi
  exact ⟨g1,kv,g2,g3.keep k⟩
theorem Z1h.len {s:St} {nv:AVal} {ns:List ND} (h:Z1h s nv ns):Z1n nv = some ns.length:=by
 rcases h with ⟨h1,rfl⟩ | ⟨b,o,c,cs,rfl,_⟩
 ·exact h1
 ·rfl
theorem Z1h.ntup {s:St} {nv:AVal} {ns:List ND} (h:Z1h s nv ns):∀ t,¬ nv = .tup t:=by
 rintro t rfl
 have:=h.len
 cases this
theorem Z1h.Z97 {s:St} {nv:AVal} {ns:List ND} (h:Z1h s nv ns):nv.cells = [nv]:=by
 have:=h.len
 cases nv <;> first | rfl | cases this
theorem Z0f.Z97 {s:St} {nv:AVal} {ns:List Int} (h:Z0f s nv ns):nv.cells = [nv]:=by
 have:=h.len
 cases nv <;> first | rfl | cases this
theorem Z39.at {s0 s:St} {W:Pos→Prop} {nv:AVal} {ns:List ND} {m:Lets} (h:Z39 nv ns m) (hc:Ctx s0 W m s):Z1h s nv ns:=by
 rcases h with ⟨rfl,rfl,_⟩ | ⟨q,V,mr,hne,rfl,hp,hR⟩
 ·exact .inl ⟨rfl,rfl⟩
 ·have hc':=hc.perm hp
  have hV:V.length = ns.length:=by simpa using hR.len
  refine .inr ⟨q,0,.opn 2,_,rfl,hc'.oi 0 rfl,hc'.c 0 rfl,by rw [Z6a hV]; omega,fun i nd hi => ?_⟩
  obtain ⟨kv,g1,g2⟩:=hR.each (i:=i) (ks:=nd.2) (by rw [List.getElem?_map,hi]; rfl)
  obtain ⟨e1,e2⟩:=Z7c hi g1
  rw [Nat.zero_add]
  refine ⟨e1,kv,e2,?_⟩
  rcases g2 with ⟨e3,e4⟩ | ⟨q',c',e3,e4,e5⟩
  ·exact .inl ⟨e4,e3⟩
  ·rw [e4]
   exact Z5u hc'.wf (Z14 (hc'.own _ (List.mem_cons_of_mem _ e5))) c'
theorem NodesG.of {s:St} {p:Pos} {ns:List ND} (h:NodesG s p ns) (c:Cap):Z1h s (.slice p 0 ns.length c) ns:=by
 obtain ⟨cs,h1,h2,h3⟩:=h.ex
 exact .inr ⟨p,0,c,cs,rfl,h.old,h1,by omega,fun i nd hi => by
  obtain ⟨e1,kv,e2,e3⟩:=h3 i nd hi
  rw [Nat.zero_add]
  exact ⟨e1,kv,e2,e3⟩⟩
theorem Zi5 {cs:List AVal} {k:Nat} {a b:AVal} (h1:cs[k]? = some a) (h2:cs[k + 1]? = some b):(cs.drop k).take 2 = [a,b]:=by
 have l1:=(List.getElem?_eq_some_iff.1 h1).1
 have l2:=(List.getElem?_eq_some_iff.1 h2).1
 rw [List.drop_eq_getElem_cons l1,List.drop_eq_getElem_cons l2]
 rw [List.getElem?_eq_getElem l1] at h1
 rw [List.getElem?_eq_getElem l2] at h2
 simp [Option.some.inj h1,Option.some.inj h2]
theorem Zu4 {s:St} {nv fv:AVal} {ns:List ND} {f:ND→Bool} {Q:AVal→St→Prop} (hv:Z1h s nv ns) (hmax:ns.length ≤ 2 ^ 62)
  (hf:∀ (s':St) (nd:ND) (kv:AVal) (R:AVal→St→Prop),Keeps s s'→nd ∈ ns→Z0f s' kv nd.2→(∀ s'',Keeps s' s''→R (.bool (f nd)) s'')→Z3d Tryz.prog fv [.agg [.str nd.1,kv]] s' R)
  (q:∀ (i:Int) s',Keeps s s'→(!decide (i < 0)) = ns.any f→Q (.int .i64 i) s'):Z0d Tryz.prog 128 [nv,fv] s Q:=by
 refine Z07 (Z0g (by decide)) fi128 rfl (by decide) rfl ?_
 refine Z00 ?_
 simp
 refine AM.wp_seq ?_
 refine Z00 ?_
 simp [hv.len,hv.ntup]
 refine AM.wp_block ?_
 refine AM.wp_loop (fun m t s' => ∃ i:Nat,i ≤ ns.length∧m = ns.length - i∧PT.get (posOf 0) t = some nv∧PT.get (posOf 1) t = some fv∧PT.get (posOf 7) t = some (.int .i64 ns.length)∧PT.get (posOf 8) t = some (.int .i64 i)∧Keeps s s'∧∀ j d,j < i→ns[j]? = some d→f d = false) ns.length ⟨0,by simp,by simp,by simp,by simp,by simp,by simp,Keeps.refl s,by simp⟩ ?_
 rintro m t s' ⟨i,hi,rfl,t0,t1,t7,t8,hk,hall⟩
 refine Z00 ?_
 simp [t7,t8]
 refine AM.wp_seq ?_
 refine AM.Z04 ?_
 by_cases hlt:i < ns.length
 ·obtain ⟨nd,hnd⟩:∃ nd,ns[i]? = some nd:=⟨_,List.getElem?_eq_getElem hlt⟩
  have hwr:IntKind.wrap .i64 ((i:Int) + 1) = ((i + 1:Nat):Int):=by rw [IntWalk.i64_in _ (by omega)]; omega
  rcases hv.keep hk with ⟨_,h0⟩ | ⟨b,o,c,cs,rfl,hb,hcs,hle,hel⟩
  ·subst h0
   simp at hlt
  obtain ⟨g1,kv,g2,g3⟩:=hel i nd hnd
  have hseg:=Zi5 g1 g2
  have hlen:o + i * 2 + 2 ≤ cs.length:=by have:=(List.getElem?_eq_some_iff.1 g2).1; omega
  simp [hlt]
  refine AM.wp_skip ?_
  simp
  refine AM.wp_seq ?_
  refine AM.wp_block ?_
  refine Z00 ?_
  simp [t8]
  refine Z00 ?_
  simp [t0,t1,hlt,hcs,hseg,hlen]
  refine hf s' nd kv _ hk (List.mem_of_getElem? hnd) g3 fun s2 hk2 => ?_
  simp
  refine AM.Z04 ?_
  cases hct:f nd with
  | true =>
   simp
   refine Z00 ?_
   simp
   refine AM.wp_ret ?_
   simp
   refine q _ _ (hk.trans hk2) ?_
   have h1:ns.any f = true:=List.any_eq_true.2 ⟨nd,List.mem_of_getElem? hnd,hct⟩
   have h2:¬ ((i:Int) < 0):=by omega
   rw [h1]
   simp [h2]
  | false =>
   simp
   refine AM.wp_skip ?_
   simp
   refine AM.wp_region ?_
   simp [t8,hwr]
   refine ⟨ns.length - (i + 1),by omega,i + 1,by omega,by omega,by simp [t0],by simp [t1],by simp [t7],by simp,hk.trans hk2,?_⟩
   intro j k l hj hd
   by_cases hji:j = i
   ·subst hji
    rw [hnd] at hd
    cases hd
    exact hct
   ·exact hall j (k,l) (by omega) hd
 ·simp [hlt]
  refine AM.wp_exit ?_
  simp
  refine Z00 ?_
  simp
  refine AM.wp_ret ?_
  simp
  refine q _ _ hk ?_
  have h1:ns.any f = false:=by
   rw [List.any_eq_false]
   intro d hd
   obtain ⟨j,hj,e⟩:=List.getElem_of_mem hd
   have:=hall j d (by omega) (by rw [List.getElem?_eq_getElem hj,e])
   simp [this]
  rw [h1]
  rfl
theorem Zmg {s:St} {nv fv:AVal} {ns:List ND} {f:ND→Bool} {Q:AVal→St→Prop} (hv:Z1h s nv ns) (hmax:ns.length ≤ 2 ^ 62)
  (hf:∀ (s':St) (nd:ND) (kv:AVal) (R:AVal→St→Prop),Keeps s s'→nd ∈ ns→Z0f s' kv nd.2→(∀ s'',Keeps s' s''→R (.bool (f nd)) s'')→Z3d Tryz.prog fv [.agg [.str nd.1,kv]] s' R)
  (q:∀ s',Keeps s s'→Q (.bool (ns.any f)) s'):Z0d Tryz.prog 98 [nv,fv] s Q:=by
 refine Z07 (Z0g (by decide)) fi98 rfl (by decide) rfl ?_
 refine Z00 ?_
 simp
 refine Z00 ?_
 simp
 refine Z03 ?_
 refine Zu4 hv hmax hf fun i s' hk e => ?_
 simp
 refine AM.wp_ret ?_
 simp
 rw [e]
 exact q _ hk
theorem Zui (g:ND→Bool):∀ ns:List ND,(!ns.any fun x => !g x) = ns.all g
 | [] => rfl
 | k :: r => by
  have:=Zui g r
  simp only [List.any_cons,List.all_cons,Bool.not_or,Bool.not_not]
  rw [this]
theorem Zfb {s:St} {nv:AVal} {ns:List ND} {f:Nat} {a c:List AVal} {g:ND→Bool} {Q:AVal→St→Prop} (hwf:s.Wf) (hv:Z1h s nv ns) (hmax:ns.length ≤ 2 ^ 62)
  (hf:∀ (s':St) (nd:ND) (kv:AVal) (R:AVal→St→Prop),Keeps s s'→nd ∈ ns→Z0f s' kv nd.2→(∀ s'',Keeps s' s''→R (.bool (g nd)) s'')→Z3d Tryz.prog (.fn f a c) [.agg [.str nd.1,kv]] s' R)
  (q:∀ s',Keeps s s'→Q (.bool (ns.all g)) s'):Z0d Tryz.prog 146 [nv,.fn f a c] s Q:=by
 refine Z07 (Z0g (by decide)) fi146 rfl (by decide) rfl ?_
 refine Z00 ?_
 simp
 have c1:=(Ctx.start (fun _ => False) hwf).alloc (C [.fn f a c])
 generalize s.alloc (.cells [.fn f a c] false) = s1 at c1 ⊢
 generalize s.next = B at c1 ⊢
 have k1:=c1.Z0i
 refine Z00 ?_
 simp [hv.ntup]
 refine Z03 ?_
 refine Zmg (f:=fun x => !g x) (hv.keep k1) hmax (fun s' nd kv R hk hnd hkv hR => ?_) fun s' hk => ?_
 ·refine Z03 ?_
  have hkt:=hkv.ntup
  refine Z07 (Z0g (by decide)) fi162 rfl (by decide) rfl ?_
  refine Z00 ?_
  simp
  have c2:=((Ctx.start (fun _ => False) (hk.wf c1.wf))).alloc (C [.str nd.1,kv])
  have hB:s'.cells B = some [.fn f a c]:=(hk.cells (c1.oi 0 rfl)).trans (c1.c 0 rfl)
  have hBo:s'.Old B:=hk.old (c1.oi 0 rfl)
  generalize s'.alloc (.cells [.str nd.1,kv] false) = s2 at c2 ⊢
  generalize s'.next = B2 at c2 ⊢
  have k2:=c2.Z0i
  refine Z00 ?_
  simp [(k2.cells hBo).trans hB,c2.c 0 rfl]
  refine hf s2 nd kv _ ((k1.trans hk).trans k2) hnd (hkv.keep k2) fun s3 k3 => ?_
  simp
  refine AM.wp_ret ?_
  simp
  exact hR s3 (k2.trans k3)
 ·simp
  refine AM.wp_ret ?_
  simp
  have:=q _ (k1.trans hk)
  rw [← Zui] at this
  exact this
theorem Zr5 {s:St} {v:AVal} {ks:List Int} {f:Nat} {a c:List AVal} {g:Int→Bool} {Q:AVal→St→Prop} (hwf:s.Wf) (hv:Z0f s v ks) (hmax:ks.length ≤ 2 ^ 62)
  (hf:∀ (s':St) (x:Int) (R:AVal→St→Prop),Keeps s s'→x ∈ ks→(∀ s'',Keeps s' s''→R (.bool (g x)) s'')→Z3d Tryz.prog (.fn f a c) [.int .i64 x] s' R)
  (q:∀ s',Keeps s s'→Q (.bool (ks.all g)) s'):Z0d Tryz.prog 151 [v,.fn f a c] s Q:=by
 refine Z07 (Z0g (by decide)) fi151 rfl (by decide) rfl ?_
 refine Z00 ?_
 simp
 have c1:=(Ctx.start (fun _ => False) hwf).alloc (C [.fn f a c])
 generalize s.alloc (.cells [.fn f a c] false) = s1 at c1 ⊢
 generalize s.next = B at c1 ⊢
 have k1:=c1.Z0i
 refine Z00 ?_
 simp [hv.ntup]
 refine Z03 ?_
 refine Zc6 (hv.keep k1) hmax (f:=fun x => !g x) (fun s' x R hk hx hR => ?_) fun s' hk => ?_
 ·refine Z03 ?_
  have hB:s'.cells B = some [.fn f a c]:=(hk.cells (c1.oi 0 rfl)).trans (c1.c 0 rfl)
  refine Z07 (Z0g (by decide)) fi163 rfl (by decide) rfl ?_
  refine Z00 ?_
  simp
  refine Z00 ?_
  simp [hB]
  refine hf s' x _ (k1.trans hk) hx fun s3 k3 => ?_
  simp
  refine AM.wp_ret ?_
  simp
  exact hR s3 k3
 ·simp
  refine AM.wp_ret ?_
  simp
  have:=q _ (k1.trans hk)
  rw [← Zjq] at this
  exact this
def Z1m (ns:List ND) (root:Int):Int :=
 if ns.length < 1 ∨ 60 < ns.length ∨ (ns.all fun nd => decide (nd.2.length ≤ 4)) = false then 2
 else if (ns.all fun nd => Z23 nd.1) = false then 4
 else if (decide (0 ≤ root) && decide (root < ns.length)) = false ∨ (ns.all fun nd => nd.2.all fun k => decide (0 ≤ k) && decide (k < ns.length)) = false then 1
 else 0
def Zg7 (ns:List ND):Prop:=∀ nd ∈ ns,nd.1.length ≤ 2 ^ 62∧nd.2.length ≤ 2 ^ 62
theorem Zkm {s:St} {B:Pos} {nv:AVal} {ns:List ND} {rt k:Int} {Q:AVal→St→Prop} (hB:s.cells B = some [nv,.int .i64 rt]) (hv:Z1n nv = some ns.length) (q:Q (.bool (decide (0 ≤ k) && decide (k < ns.length))) s):Z0d Tryz.prog 145 [.int .i64 k,.ptr B 0] s Q:=by
 have hnt:∀ t,¬ nv = .tup t:=by
  rintro t rfl
  cases hv
 refine Z07 (Z0g (by decide)) fi145 rfl (by decide) rfl ?_
 refine Z00 ?_
 simp
 refine Z00 ?_
 by_cases h0:k < 0
 ·have h0':¬ 0 ≤ k:=by omega
  simp [h0]
  refine AM.wp_ret ?_
  simp
  simpa [h0'] using q
 ·have h0':0 ≤ k:=by omega
  simp [h0,hB,hnt,hv]
  refine AM.wp_ret ?_
  simp
  simpa [h0'] using q
theorem Zme {s:St} {nv:AVal} {ns:List ND} {rt:Int} {Q:AVal→St→Prop} (hwf:s.Wf) (hv:Z1h s nv ns) (hmax:ns.length ≤ 2 ^ 62) (hsm:Zg7 ns)
  (q:∀ s',Keeps s s'→Q (.int .i64 (Z1m ns rt)) s'):Z0d Tryz.prog 121 [.agg [nv,.int .i64 rt]] s Q:=by
 have hnt:=hv.ntup
 have hln:=hv.len
 refine Z07 (Z0g (by decide)) fi121 rfl (by decide) rfl ?_
 refine Z00 ?_
 simp
 have c1:=(Ctx.start (fun _ => False) hwf).alloc (C [nv,.int .i64 rt])
 generalize s.alloc (.cells [nv,.int .i64 rt] false) = s1 at c1 ⊢
 generalize s.next = B1 at c1 ⊢
 refine Z00 ?_
 simp
 have c2:=(c1.alloc (C [.nilFn])).put 0 rfl (C [.fn 145 [] [.ptr B1 0]])
 simp only [List.set_cons_zero] at c2
 generalize (s1.alloc (.cells [.nilFn] false)).put s1.next (.cells [.fn 145 [] [.ptr B1 0]] false) = s2 at c2 ⊢
 generalize s1.next = B3 at c2 ⊢
 have k2:=c2.Z0i
 refine AM.wp_seq ?_
 refine AM.wp_block ?_
 refine Z00 ?_
 by_cases hA:ns.length < 1
 ·have hF:Z1m ns rt = 2:=by unfold Z1m; rw [if_pos (.inl hA)]
  rw [hF] at q
  have hA':(ns.length:Int) < 1:=by omega
  have hA0:ns.length = 0:=by omega
  simp [c2.c 1 rfl,hnt,hln,hA0]
  refine AM.Z04 ?_
  simp
  refine Z00 ?_
  simp
  refine AM.wp_ret ?_
  simp
  exact q s2 k2
 have hA':¬ (ns.length:Int) < 1:=by omega
 by_cases hB:60 < ns.length
 ·have hF:Z1m ns rt = 2:=by unfold Z1m; rw [if_pos (.inr (.inl hB))]
  rw [hF] at q
  have hB':(60:Int) < ns.length:=by omega
  simp [c2.c 1 rfl,hnt,hln,hA',hB']
  refine AM.Z04 ?_
  simp
  refine Z00 ?_
  simp
  refine AM.wp_ret ?_
  simp
  exact q s2 k2
 have hB':¬ (60:Int) < ns.length:=by omega
 simp [c2.c 1 rfl,hnt,hln,hA',hB']
 refine Z03 ?_
 refine Zfb (g:=fun nd => decide (nd.2.length ≤ 4)) c2.wf (hv.keep k2) hmax (fun s' nd kv R hk hnd hkv hR => ?_) fun s3 k3 => ?_
 ·refine Z03 ?_
  have hkt:=hkv.ntup
  refine Z07 (Z0g (by decide)) fi147 rfl (by decide) rfl ?_
  refine Z00 ?_
  simp
  have d:=(Ctx.start (fun _ => False) (hk.wf c2.wf)).alloc (C [.str nd.1,kv])
  generalize s'.alloc (.cells [.str nd.1,kv] false) = sA at d ⊢
  generalize s'.next = BA at d ⊢
  refine Z00 ?_
  simp [d.c 0 rfl,hkt,hkv.len]
  refine AM.wp_ret ?_
  simp
  have e:(!decide ((4:Int) < (nd.2.length:Int))) = decide (nd.2.length ≤ 4):=by
   by_cases h:nd.2.length ≤ 4
   ·have h':¬ (4:Int) < nd.2.length:=by omega
    simp [h,h']
   ·have h':(4:Int) < nd.2.length:=by omega
    simp [h,h']
  have:=hR sA d.Z0i
  rw [← e] at this
  simpa using this
 have c3:=c2.keeps k3
 have K3:=k2.trans k3
 cases h4:ns.all (fun nd => decide (nd.2.length ≤ 4)) with
 | false =>
  have hF:Z1m ns rt = 2:=by unfold Z1m; rw [if_pos (.inr (.inr h4))]
  rw [hF] at q
  simp
  refine AM.Z04 ?_
  simp
  refine Z00 ?_
  simp
  refine AM.wp_ret ?_
  simp
  exact q s3 K3
 | true =>
 simp
 refine AM.Z04 ?_
 simp
 refine Z00 ?_
 simp [c3.c 1 rfl,hnt]
 refine Z03 ?_
 refine Zfb (g:=fun nd => Z23 nd.1) c3.wf (hv.keep K3) hmax (fun s' nd kv R hk hnd hkv hR => ?_) fun s4 k4 => ?_
 ·refine Z03 ?_
  have hkt:=hkv.ntup
  refine Z07 (Z0g (by decide)) fi148 rfl (by decide) rfl ?_
  refine Z00 ?_
  simp
  have d:=(Ctx.start (fun _ => False) (hk.wf c3.wf)).alloc (C [.str nd.1,kv])
  generalize s'.alloc (.cells [.str nd.1,kv] false) = sA at d ⊢
  generalize s'.next = BA at d ⊢
  refine Z00 ?_
  simp [d.c 0 rfl]
  refine Z03 ?_
  refine Zrn (hsm nd hnd).1 fun sB kB => ?_
  simp
  refine AM.wp_ret ?_
  simp
  exact hR sB (d.Z0i.trans kB)
 have c4:=c3.keeps k4
 have K4:=K3.trans k4
 cases hN:ns.all (fun nd => Z23 nd.1) with
 | false =>
  have hF:Z1m ns rt = 4:=by unfold Z1m; rw [if_neg (fun h => h.elim hA (fun h => h.elim hB (fun h => by rw [h4] at h; cases h))),if_pos hN]
  rw [hF] at q
  simp
  refine AM.Z04 ?_
  simp
  refine Z00 ?_
  simp
  refine AM.wp_ret ?_
  simp
  exact q s4 K4
 | true =>
 simp
 refine AM.Z04 ?_
 simp
 refine Z00 ?_
 simp [c4.c 0 rfl,c4.c 1 rfl]
 refine Z03 ?_
 refine Zkm (c4.c 1 rfl) hln ?_
 cases hr:(decide (0 ≤ rt) && decide (rt < ns.length)) with
 | false =>
  have hF:Z1m ns rt = 1:=by unfold Z1m; rw [if_neg (fun h => h.elim hA (fun h => h.elim hB (fun h => by rw [h4] at h; cases h))),if_neg (by simp [hN]),if_pos (.inl hr)]
  rw [hF] at q
  simp
  refine AM.Z04 ?_
  simp
  refine Z00 ?_
  simp
  refine AM.wp_ret ?_
  simp
  exact q s4 K4
 | true =>
 simp [c4.c 0 rfl,c4.c 1 rfl,hnt]
 refine Z03 ?_
 refine Zfb (g:=fun nd => nd.2.all fun k => decide (0 ≤ k) && decide (k < ns.length)) c4.wf (hv.keep K4) hmax (fun s' nd kv R hk hnd hkv hR => ?_) fun s5 k5 => ?_
 ·refine Z03 ?_
  have hkt:=hkv.ntup
  refine Z07 (Z0g (by decide)) fi150 rfl (by decide) rfl ?_
  refine Z00 ?_
  simp
  have d:=(c4.keeps hk).alloc (C [.str nd.1,kv])
  have d':=(Ctx.start (fun _ => False) (hk.wf c4.wf)).alloc (C [.str nd.1,kv])
  generalize s'.alloc (.cells [.str nd.1,kv] false) = sA at d d' ⊢
  generalize s'.next = BA at d d' ⊢
  have kA:=d'.Z0i
  refine Z00 ?_
  simp [d.c 0 rfl,d.c 1 rfl,hkt]
  refine Z03 ?_
  refine Zr5 (g:=fun k => decide (0 ≤ k) && decide (k < ns.length)) d.wf (hkv.keep kA) (hsm nd hnd).2 (fun s6 x R6 k6 hx hR6 => ?_) fun s6 k6 => ?_
  ·refine Z03 ?_
   exact Zkm ((d.keeps k6).c 2 rfl) hln (hR6 s6 (Keeps.refl _))
  ·simp
   refine AM.wp_ret ?_
   simp
   exact hR s6 (kA.trans k6)
 have K5:=K4.trans k5
 cases hK:ns.all (fun nd => nd.2.all fun k => decide (0 ≤ k) && decide (k < ns.length)) with
 | false =>
  have hF:Z1m ns rt = 1:=by unfold Z1m; rw [if_neg (fun h => h.elim hA (fun h => h.elim hB (fun h => by rw [h4] at h; cases h))),if_neg (by simp [hN]),if_pos (.inr hK)]
  rw [hF] at q
  simp
  refine AM.Z04 ?_
  simp
  refine Z00 ?_
  simp
  refine AM.wp_ret ?_
  simp
  exact q s5 K5
 | true =>
  have hF:Z1m ns rt = 0:=by unfold Z1m; rw [if_neg (fun h => h.elim hA (fun h => h.elim hB (fun h => by rw [h4] at h; cases h))),if_neg (by simp [hN]),if_neg (by simp only [hr,hK]; simp)]
  rw [hF] at q
  simp
  refine AM.Z04 ?_
  simp
  refine AM.wp_skip ?_
  simp
  refine Z00 ?_
  simp
  refine AM.wp_ret ?_
  simp
  exact q s5 K5
abbrev TV:=List ND × Int
def Z6r (s:St) (v:AVal) (ts:List TV):Prop:=(Z1n v = some 0∧ts = []) ∨
 ∃ b o c cs,v = .slice b o ts.length c∧s.Old b∧s.cells b = some cs∧o + 2 * ts.length ≤ cs.length∧∀ (i:Nat) (t:TV),ts[i]? = some t→∃ nv,cs[o + i * 2]? = some nv∧cs[o + i * 2 + 1]? = some (.int .i64 t.2)∧Z1h s nv t.1
theorem Z6r.keep {s s':St} {v:AVal} {ts:List TV} (h:Z6r s v ts) (k:Keeps s s'):Z6r s' v ts:=by
 rcases h with h | ⟨b,o,c,cs,h1,h2,h3,h4,h5⟩
 ·exact .inl h
 ·refine .inr ⟨b,o,c,cs,h1,k.old h2,(k.cells h2).trans h3,h4,fun i t hi => ?_⟩
  obtain ⟨nv,g1,g2,g3⟩:=h5 i t hi
  exact ⟨nv,g1,g2,g3.keep k⟩
theorem Z6r.len {s:St} {v:AVal} {ts:List TV} (h:Z6r s v ts):Z1n v = some ts.length:=by
 rcases h with ⟨h1,rfl⟩ | ⟨b,o,c,cs,rfl,_⟩
 ·exact h1
 ·rfl
theorem Z6r.ntup {s:St} {v:AVal} {ts:List TV} (h:Z6r s v ts):∀ t,¬ v = .tup t:=by
 rintro t rfl
 have:=h.len
 cases this
def Zpc (ts:List TV):Prop:=∀ t ∈ ts,t.1.length ≤ 2 ^ 62∧Zg7 t.1
def Z8d (ts:List TV):Int:=match ts.find? (fun t => decide (Z1m t.1 t.2 ≠ 0)) with
 | some t => Z1m t.1 t.2
 | none => 0
theorem Zu5 {s:St} {v:AVal} {ts:List TV} {Q:AVal→St→Prop} (hwf:s.Wf) (hv:Z6r s v ts) (hsm:Zpc ts) (hmax:ts.length ≤ 1000)
  (q:∀ (i:Int) s',Keeps s s'→((i = -1∧ts.find? (fun t => decide (Z1m t.1 t.2 ≠ 0)) = none) ∨ ∃ (j:Nat) (t:TV),i = j∧ts[j]? = some t∧ts.find? (fun t => decide (Z1m t.1 t.2 ≠ 0)) = some t)→Q (.int .i64 i) s'):Z0d Tryz.prog 158 [v,.fn 138 [] []] s Q:=by
 refine Z07 (Z0g (by decide)) fi158 rfl (by decide) rfl ?_
 refine Z00 ?_
 simp
 refine AM.wp_seq ?_
 refine Z00 ?_
 simp [hv.len,hv.ntup]
 refine AM.wp_block ?_
 refine AM.wp_loop (fun m t s' => ∃ i:Nat,i ≤ ts.length∧m = ts.length - i∧PT.get (posOf 0) t = some v∧PT.get (posOf 1) t = some (.fn 138 [] [])∧PT.get (posOf 7) t = some (.int .i64 ts.length)∧PT.get (posOf 8) t = some (.int .i64 i)∧Keeps s s'∧(ts.take i).find? (fun t => decide (Z1m t.1 t.2 ≠ 0)) = none) ts.length ⟨0,by simp,by simp,by simp,by simp,by simp,by simp,Keeps.refl s,by simp⟩ ?_
 rintro m t s' ⟨i,hi,rfl,t0,t1,t7,t8,hk,hall⟩
 refine Z00 ?_
 simp [t7,t8]
 refine AM.wp_seq ?_
 refine AM.Z04 ?_
 by_cases hlt:i < ts.length
 ·obtain ⟨tt,htt⟩:∃ tt,ts[i]? = some tt:=⟨_,List.getElem?_eq_getElem hlt⟩
  have hwr:IntKind.wrap .i64 ((i:Int) + 1) = ((i + 1:Nat):Int):=by rw [IntWalk.i64_in _ (by omega)]; omega
  rcases hv.keep hk with ⟨_,h0⟩ | ⟨b,o,c,cs,rfl,hb,hcs,hle,hel⟩
  ·subst h0
   simp at hlt
  obtain ⟨nv,g1,g2,g3⟩:=hel i tt htt
  have hseg:=Zi5 g1 g2
  have hlen:o + i * 2 + 2 ≤ cs.length:=by have:=(List.getElem?_eq_some_iff.1 g2).1; omega
  have hnt:=g3.ntup
  obtain ⟨hs1,hs2⟩:=hsm tt (List.mem_of_getElem? htt)
  simp [hlt]
  refine AM.wp_skip ?_
  simp
  refine AM.wp_seq ?_
  refine AM.wp_block ?_
  refine Z00 ?_
  simp [t8]
  refine Z00 ?_
  simp [t0,t1,hlt,hcs,hseg,hlen]
  refine Z03 ?_
  refine Z07 (Z0g (by decide)) fi138 rfl (by decide) rfl ?_
  refine Z00 ?_
  simp
  have d:=(Ctx.start (fun _ => False) (hk.wf hwf)).alloc (C [nv,.int .i64 tt.2])
  generalize s'.alloc (.cells [nv,.int .i64 tt.2] false) = sA at d ⊢
  generalize s'.next = BA at d ⊢
  have kA:=d.Z0i
  refine Z00 ?_
  simp [d.c 0 rfl]
  refine Z03 ?_
  refine Zme (rt:=tt.2) d.wf (g3.keep kA) hs1 hs2 fun sB kB => ?_
  have hkB:=(hk.trans kA).trans kB
  simp
  refine AM.wp_ret ?_
  simp
  refine AM.Z04 ?_
  by_cases hct:Z1m tt.1 tt.2 = 0
  ·simp [hct]
   refine AM.wp_skip ?_
   simp
   refine AM.wp_region ?_
   simp [t8,hwr]
   refine ⟨ts.length - (i + 1),by omega,i + 1,by omega,by omega,by simp [t0],by simp [t1],by simp [t7],by simp,hkB,?_⟩
   have:(ts.take (i + 1)).find? (fun t => decide (Z1m t.1 t.2 ≠ 0)) = none:=by
    rw [List.take_add_one,htt,List.find?_append,hall]
    simp [hct]
   simpa using this
  ·simp [hct]
   refine Z00 ?_
   simp
   refine AM.wp_ret ?_
   simp
   refine q _ _ hkB (.inr ⟨i,tt,rfl,htt,?_⟩)
   rw [← List.take_append_drop i ts,List.find?_append,hall,List.drop_eq_getElem_cons hlt]
   have e:ts[i] = tt:=by rw [List.getElem?_eq_getElem hlt] at htt; exact Option.some.inj htt
   rw [e]
   simp [hct]
 ·simp [hlt]
  refine AM.wp_exit ?_
  simp
  refine Z00 ?_
  simp
  refine AM.wp_ret ?_
  simp
  have:i = ts.length:=by omega
  subst this
  rw [List.take_length] at hall
  exact q _ _ hk (.inl ⟨rfl,hall⟩)
theorem Zqr {s:St} {v:AVal} {ts:List TV} {Q:AVal→St→Prop} (hwf:s.Wf) (hv:Z6r s v ts) (hsm:Zpc ts) (hmax:ts.length ≤ 1000)
  (q:∀ s',Keeps s s'→Q (.int .i64 (Z8d ts)) s'):Z0d Tryz.prog 108 [v] s Q:=by
 have hvt:=hv.ntup
 refine Z07 (Z0g (by decide)) fi108 rfl (by decide) rfl ?_
 refine Z00 ?_
 simp
 refine Z00 ?_
 simp [hvt]
 refine Z03 ?_
 refine Z07 (Z0g (by decide)) fi137 rfl (by decide) rfl ?_
 refine Z00 ?_
 simp
 have d1:=(Ctx.start (fun _ => False) hwf).alloc (C [.nilSlice,.int .i64 0])
 generalize s.alloc (.cells [.nilSlice,.int .i64 0] false) = s1 at d1 ⊢
 generalize s.next = B4 at d1 ⊢
 refine Z00 ?_
 simp
 have d2:=d1.alloc (C [.nilSlice,.int .i64 0])
 generalize s1.alloc (.cells [.nilSlice,.int .i64 0] false) = s2 at d2 ⊢
 generalize s1.next = B6 at d2 ⊢
 have k2:=d2.Z0i
 refine Z00 ?_
 simp [hvt]
 refine Z03 ?_
 refine Zu5 d2.wf (hv.keep k2) hsm hmax fun i s3 k3 hi => ?_
 have d3:=d2.keeps k3
 have K3:=k2.trans k3
 simp
 refine AM.wp_seq ?_
 refine Z00 ?_
 rcases hi with ⟨rfl,hn⟩ | ⟨j,tt,rfl,htt,hf⟩
 ·have hF:Z8d ts = 0:=by unfold Z8d; rw [hn]
  rw [hF] at q
  simp
  refine AM.Z04 ?_
  simp
  refine Z00 ?_
  simp [d3.c 0 rfl,d3.o 1 rfl]
  have d4:=d3.put 1 rfl (C [.nilSlice,.int .i64 0])
  simp only [List.set_cons_succ,List.set_cons_zero] at d4
  generalize s3.put B4 (.cells [.nilSlice,.int .i64 0] false) = s4 at d4 ⊢
  refine AM.wp_ret ?_
  simp [d4.c 1 rfl]
  have d5:=(d4.alloc (C [.nilSlice,.int .i64 0])).put 0 rfl (C [.nilSlice,.int .i64 0])
  simp only [List.set_cons_zero] at d5
  generalize (s4.alloc (.cells [.nilSlice,.int .i64 0] false)).put s4.next (.cells [.nilSlice,.int .i64 0] false) = s5 at d5 ⊢
  refine AM.wp_seq ?_
  refine Z00 ?_
  simp
  refine AM.Z04 ?_
  simp
  refine Z00 ?_
  simp
  refine AM.wp_ret ?_
  simp
  exact q s5 d5.Z0i
 ·have hF:Z8d ts = Z1m tt.1 tt.2:=by unfold Z8d; rw [hf]
  rw [hF] at q
  have hneg:¬ ((j:Int) < 0):=by omega
  have hlt:=(List.getElem?_eq_some_iff.1 htt).1
  rcases hv.keep K3 with ⟨_,h0⟩ | ⟨b,o,c,cs,rfl,hb,hcs,hle,hel⟩
  ·subst h0
   simp at hlt
  obtain ⟨nv,g1,g2,g3⟩:=hel j tt htt
  have hseg:=Zi5 g1 g2
  have hlen:o + j * 2 + 2 ≤ cs.length:=by have:=(List.getElem?_eq_some_iff.1 g2).1; omega
  have hnt:=g3.ntup
  have hnc:=g3.Z97
  obtain ⟨hs1,hs2⟩:=hsm tt (List.mem_of_getElem? htt)
  simp [hneg]
  refine AM.Z04 ?_
  simp
  refine AM.wp_skip ?_
  simp
  refine Z00 ?_
  simp [hlt,hcs,hseg,hlen,d3.o 1 rfl]
  have d4:=d3.put 1 rfl (C [nv,.int .i64 tt.2])
  simp only [List.set_cons_succ,List.set_cons_zero] at d4
  generalize s3.put B4 (.cells [nv,.int .i64 tt.2] false) = s4 at d4 ⊢
  refine AM.wp_ret ?_
  simp [d4.c 1 rfl]
  have d5:=(d4.alloc (C [.nilSlice,.int .i64 0])).put 0 rfl (C [nv,.int .i64 tt.2])
  simp only [List.set_cons_zero] at d5
  generalize (s4.alloc (.cells [.nilSlice,.int .i64 0] false)).put s4.next (.cells [nv,.int .i64 tt.2] false) = s5 at d5 ⊢
  generalize s4.next = B3 at d5 ⊢
  refine AM.wp_seq ?_
  refine Z00 ?_
  simp
  refine AM.Z04 ?_
  simp
  refine AM.wp_skip ?_
  simp
  refine Z00 ?_
  simp [d5.c 0 rfl]
  refine Z03 ?_
  have K5:=d5.Z0i
  have hN5:Z1h s5 nv tt.1:=by
   rcases hv.keep K5 with ⟨_,h0⟩ | ⟨b',o',c',cs',e,hb',hcs',hle',hel'⟩
   ·subst h0
    simp at hlt
   cases e
   obtain ⟨nv',e1,e2,e3⟩:=hel' j tt htt
   have:cs' = cs:=by
    have h1:s5.cells b = s.cells b:=by
     rcases hv with ⟨_,h0⟩ | ⟨b2,o2,c2,cs2,e',hb2,_⟩
     ·subst h0
      simp at hlt
     cases e'
     exact K5.cells hb2
    have h2:s3.cells b = s.cells b:=by
     rcases hv with ⟨_,h0⟩ | ⟨b2,o2,c2,cs2,e',hb2,_⟩
     ·subst h0
      simp at hlt
     cases e'
     exact K3.cells hb2
    rw [hcs'] at h1
    rw [hcs] at h2
    rw [← h2] at h1
    exact Option.some.inj h1
   subst this
   rw [g1] at e1
   cases e1
   exact e3
  refine Zme (rt:=tt.2) d5.wf hN5 hs1 hs2 fun s6 k6 => ?_
  simp
  refine AM.wp_ret ?_
  simp
  exact q s6 (K5.trans k6)
def addN (v:List Nat) (k:Nat):List Nat:=if k ∈ v then v else v ++ [k]
def Z0c (v:List Nat) (ks:List Nat):List Nat:=ks.foldl addN v
def runB (K:Nat→List Nat):Nat→List Nat→Nat→List Nat
 | 0,v,_ => v
 | f + 1,v,i => match v[i]? with
  | none => v
  | some a => runB K f (Z0c v (K a)) (i + 1)
def bfsF (K:Nat→List Nat) (n:Nat) (roots:List Nat):List Nat:=roots.foldl (fun v r => runB K (n + 1 - v.length) (addN v r) v.length) []
theorem Zvn {v:List Nat} {k a:Nat} (h:a ∈ v):a ∈ addN v k:=by
 unfold addN
 split
 ·exact h
 ·exact List.mem_append_left _ h
theorem Zdn (v:List Nat) (k:Nat):∃ w,addN v k = v ++ w:=by
 unfold addN
 split
 ·exact ⟨[],by simp⟩
 ·exact ⟨[k],rfl⟩
theorem Z5d:∀ (ks v:List Nat),∃ w,Z0c v ks = v ++ w
 | [],v => ⟨[],by simp [Z0c]⟩
 | k :: ks,v => by
  obtain ⟨w,h⟩:=Zdn v k
  obtain ⟨w',h'⟩:=Z5d ks (addN v k)
  exact ⟨w ++ w',by show Z0c (addN v k) ks = _; rw [h',h,List.append_assoc]⟩
theorem Zgq {v ks:List Nat} {j k:Nat} (h:ks[j]? = some k):Z0c v (ks.take (j + 1)) = addN (Z0c v (ks.take j)) k:=by
 unfold Z0c
 rw [List.take_add_one,h,List.foldl_append]
 rfl
theorem Z8u {v:List Nat} {k:Nat} (h:v.Nodup):(addN v k).Nodup:=by
 unfold addN
 split
 ·exact h
 ·rename_i hk
  rw [List.nodup_append]
  exact ⟨h,by simp,by rintro a ha b hb rfl; simp at hb; exact hk (hb ▸ ha)⟩
theorem Zd6 {v:List Nat} {k n:Nat} (h:∀ a ∈ v,a < n) (hk:k < n):∀ a ∈ addN v k,a < n:=by
 unfold addN
 split
 ·exact h
 ·intro a ha
  rcases List.mem_append.1 ha with ha | ha
  ·exact h a ha
  ·simp at ha
   omega
theorem Za7 {n:Nat}:∀ {ks v:List Nat},v.Nodup→(∀ a ∈ v,a < n)→(∀ k ∈ ks,k < n)→(Z0c v ks).Nodup∧∀ a ∈ Z0c v ks,a < n
 | [],v,h1,h2,_ => ⟨h1,h2⟩
 | k :: ks,v,h1,h2,h3 => Za7 (ks:=ks) (v:=addN v k) (Z8u h1) (Zd6 h2 (h3 k (by simp))) (fun x hx => h3 x (by simp [hx]))
theorem Z22:∀ {n:Nat} {v:List Nat},v.Nodup→(∀ a ∈ v,a < n)→v.length ≤ n
 | 0,v,_,h => by
  cases v with
  | nil => simp
  | cons a v => exact (Nat.not_lt_zero a (h a (by simp))).elim
 | n + 1,v,h1,h2 => by
  have ih:=Z22 (n:=n) (v:=v.erase n) (h1.erase n) (fun a ha => by
   have h3:=h2 a (List.mem_of_mem_erase ha)
   have h4:a ≠ n:=fun e => by
    subst e
    exact (List.Nodup.mem_erase_iff h1).1 ha |>.1 rfl
   omega)
  rw [List.length_erase] at ih
  split at ih <;> omega
def metL (n:Nat) (v:List Nat):List AVal:=(List.range n).map fun i => .bool (decide (i ∈ v))
theorem Z5v {n a:Nat} (v:List Nat) (h:a < n):(metL n v)[a]? = some (.bool (decide (a ∈ v))):=by
 unfold metL
 rw [List.getElem?_map,List.getElem?_range h]
 rfl
theorem Z3k (n:Nat) (v:List Nat):(metL n v).length = n:=by simp [metL]
theorem Ze3 {n a:Nat} {v:List Nat} (h:a < n) (hv:a ∉ v):lay (metL n v) a [.bool true] = metL n (addN v a):=by
 have e:addN v a = v ++ [a]:=by unfold addN; rw [if_neg hv]
 refine List.ext_getElem? fun j => ?_
 unfold lay
 by_cases hj:j < n
 ·rw [Z5v _ hj]
  rcases Nat.lt_trichotomy j a with hl | rfl | hg
  ·rw [List.append_assoc,List.getElem?_append_left (by simp [Z3k]; omega),List.getElem?_take_of_lt hl,Z5v _ hj,e]
   have:¬ j = a:=by omega
   simp [this]
  ·rw [List.append_assoc,List.getElem?_append_right (by simp [Z3k]; omega)]
   simp [Z3k,e,Nat.min_eq_left (Nat.le_of_lt h)]
  ·rw [List.getElem?_append_right (by simp [Z3k]; omega),List.getElem?_drop]
   have e2:a + [AVal.bool true].length + (j - (List.take a (metL n v) ++ [AVal.bool true]).length) = j:=by simp [Z3k]; omega
   rw [e2,Z5v _ hj,e]
   have:¬ j = a:=by omega
   simp [this]
 ·rw [List.getElem?_eq_none (by simp [Z3k]; omega),List.getElem?_eq_none (by rw [Z3k]; omega)]
def Z74 (qv:AVal) (g:List Int) (m:Lets):Prop:=(g = []∧qv = .nilSlice∧m = []) ∨ ∃ b pre,qv = .slice b pre.length g.length (.opn 1)∧m = [(b,C (ints (pre ++ g)))]
theorem Z74.len {qv:AVal} {g:List Int} {m:Lets} (h:Z74 qv g m):Z1n qv = some g.length:=by
 rcases h with ⟨rfl,rfl,_⟩ | ⟨q,_,rfl,_⟩ <;> rfl
theorem Z74.ntup {qv:AVal} {g:List Int} {m:Lets} (h:Z74 qv g m):∀ t,¬ qv = .tup t:=by
 rintro t rfl
 have:=h.len
 cases this
theorem Z74.cells {qv:AVal} {g:List Int} {m:Lets} (h:Z74 qv g m):qv.cells = [qv]:=by
 rcases h with ⟨rfl,rfl,_⟩ | ⟨q,_,rfl,_⟩ <;> rfl
theorem Zuu {s0 s:St} {W:Pos→Prop} {r pre mg:Lets} {qv:AVal} {g:List Int} {x:Int} {Q:AVal→St→Prop} (h:Ctx s0 W (pre ++ (mg ++ r)) s) (hg:Z74 qv g mg) (hs:g.length ≤ 1000)
  (q:∀ qv' mg' s',Z74 qv' (g ++ [x]) mg'→Ctx s0 W (pre ++ (mg' ++ r)) s'→Q qv' s'):appP (1,8) qv [.int .i64 x] 1 s Q:=by
 rcases hg with ⟨rfl,rfl,rfl⟩ | ⟨b,p0,rfl,rfl⟩
 ·simp only [appP,Z4j]
  rw [if_neg (by decide)]
  refine ⟨by unfold Z0k; omega,?_⟩
  have:=h.alloc (C [.int .i64 x])
  refine q (.slice s.next 0 1 (.opn 1)) [(s.next,C (ints ([] ++ [x])))] _ (.inr ⟨_,[],rfl,rfl⟩) (this.perm ?_)
  simp only [List.nil_append]
  exact List.perm_middle.symm
 ·have hb:s.own b = some (ints (p0 ++ g)):=Z14 (h.own (b,C (ints (p0 ++ g))) (by simp))
  have h1:Ctx s0 W ((b,C (ints (p0 ++ g))) :: (pre ++ r)) s:=h.perm (by simp)
  have hn:(s.put b .dead).next = s.next:=rfl
  simp only [appP,Z4j]
  rw [if_neg (by decide)]
  refine ⟨trivial,?_⟩
  rw [hb]
  simp only [Z10]
  by_cases hl:g.length = 0
  ·rw [if_pos hl]
   have hg0:g = []:=List.length_eq_zero_iff.1 hl
   subst hg0
   refine ⟨by unfold Z0k; omega,?_⟩
   have h2:=(h1.put0 .dead).tail.alloc (C [.int .i64 x])
   refine q (.slice s.next 0 1 (.opn 1)) [(s.next,C (ints ([] ++ ([] ++ [x]))))] _ (.inr ⟨_,[],rfl,rfl⟩) (h2.perm ?_)
   rw [hn]
   exact List.perm_middle.symm
  ·have h2:=(h1.put0 .dead).tail.alloc (C (ints g ++ [.int .i64 x]))
   rw [if_neg hl,if_neg (by simp)]
   refine ⟨by simp,by unfold Z0k; omega,?_⟩
   have ht:List.take (g.length * 1) (List.drop p0.length (ints (p0 ++ g))) = ints g:=by
    unfold ints
    rw [List.map_append,List.drop_left' (by simp)]
    exact List.take_of_length_le (by simp)
   rw [ht]
   have hi:ints g ++ [AVal.int .i64 x] = ints ([] ++ (g ++ [x])):=by simp [ints]
   rw [hi] at h2 ⊢
   refine q (.slice s.next 0 (g.length + 1) (.opn 1)) [(s.next,C (ints ([] ++ (g ++ [x]))))] _ (.inr ⟨_,[],by simp,rfl⟩) (h2.perm ?_)
   rw [hn]
   exact List.perm_middle.symm
abbrev nats (v:List Nat):List Int:=v.map fun (a:Nat) => (a:Int)
theorem meet_wp {s0 s:St} {W:Pos→Prop} {n a:Nat} {v g:List Nat} {qv fv:AVal} {B7 B6 Bm B4:Pos} {pre mq m base:Lets} {J:List Nat→Lets→Prop} {Q:AVal→St→Prop}
  (hc:Ctx s0 W ((B7,C [qv]) :: (B6,C [.slice Bm 0 n (.lim n)]) :: (Bm,C (metL n v)) :: (B4,C [fv]) :: (pre ++ (mq ++ (m ++ base)))) s) (hq:Z74 qv (nats g) mq) (hg:g.length ≤ 1000) (hJ:J v m) (ha:a < n) (hft:∀ t,¬ fv = .tup t)
  (hmeet:∀ (x m:Lets) (s':St) (R:AVal→St→Prop),J v m→a ∉ v→Ctx s0 W (x ++ (m ++ base)) s'→(∀ u m' s'',J (v ++ [a]) m'→Ctx s0 W (x ++ (m' ++ base)) s''→R u s'')→Z3d Tryz.prog fv [.int .i64 a] s' R)
  (q:∀ qv' mq' m' s',Z74 qv' (nats (if a ∈ v then g else g ++ [a])) mq'→J (addN v a) m'→Ctx s0 W ((B7,C [qv']) :: (B6,C [.slice Bm 0 n (.lim n)]) :: (Bm,C (metL n (addN v a))) :: (B4,C [fv]) :: (pre ++ (mq' ++ (m' ++ base)))) s'→Q (.tup []) s') :
  Z0d Tryz.prog 107 [.int .i64 a,.ptr B6 0,.ptr B7 0,.ptr B4 0] s Q:=by
 have hget:=Z5v v ha
 refine Z07 (Z0g (by decide)) fi107 rfl (by decide) rfl ?_
 refine Z00 ?_
 simp [hc.c 1 rfl,hc.c 2 rfl,ha,hget]
 refine AM.Z04 ?_
 by_cases hv:a ∈ v
 ·simp [hv]
  refine AM.wp_skip ?_
  simp
  refine q qv mq m s (by rw [if_pos hv]; exact hq) ?_ ?_
  ·unfold addN
   rw [if_pos hv]
   exact hJ
  ·unfold addN
   rw [if_pos hv]
   exact hc
 ·have hset:=Ze3 ha hv
  have hle:a + 1 ≤ (metL n v).length:=by rw [Z3k]; omega
  simp [lay] at hset
  simp [hv]
  refine Z00 ?_
  simp [hc.c 1 rfl,hc.c 2 rfl,hc.o 2 rfl,ha,hle]
  rw [hset]
  have c1:=hc.put 2 rfl (C (metL n (addN v a)))
  simp only [List.set_cons_succ,List.set_cons_zero] at c1
  generalize s.put Bm (.cells (metL n (addN v a)) false) = s1 at c1 ⊢
  refine Z00 ?_
  simp [c1.c 0 rfl,hq.ntup,hq.cells,Z1t,srcP]
  have c2:=c1.alloc (C [.int .i64 a])
  generalize s1.alloc (.cells [.int .i64 a] false) = s2 at c2 ⊢
  generalize s1.next = T at c2 ⊢
  refine Zuu (pre:=(T,C [.int .i64 a]) :: (B7,C [qv]) :: (B6,C [.slice Bm 0 n (.lim n)]) :: (Bm,C (metL n (addN v a))) :: (B4,C [fv]) :: pre) (r:=m ++ base) (by simpa using c2) hq (by simpa using hg) fun qv' mq' s3 hq' c3 => ?_
  simp only [List.cons_append] at c3
  simp [hq'.ntup,hq'.cells,c3.o 1 rfl]
  have c4:=(c3.put 1 rfl (C [qv'])).tail
  simp only [List.set_cons_succ,List.set_cons_zero] at c4
  generalize s3.put B7 (.cells [qv'] false) = s4 at c4 ⊢
  refine AM.wp_region ?_
  simp [c4.c 3 rfl,hft]
  refine hmeet ((B7,C [qv']) :: (B6,C [.slice Bm 0 n (.lim n)]) :: (Bm,C (metL n (addN v a))) :: (B4,C [fv]) :: (pre ++ mq')) m s4 _ hJ hv (by simpa using c4) fun u m' s5 hJ' c5 => ?_
  simp
  refine q qv' mq' m' s5 (by rw [if_neg hv]; simpa using hq') ?_ (by simpa using c5)
  unfold addN
  rw [if_neg hv]
  exact hJ'
def kidN (cs:List CV) (a:Nat):List Nat:=(Z12 cs a).map Int.toNat
theorem Zcq {K:Nat→List Nat} {f:Nat} {v:List Nat} {i:Nat} (h:v.length ≤ i):runB K f v i = v:=by
 cases f with
 | zero => rfl
 | succ f =>
  unfold runB
  rw [List.getElem?_eq_none h]
theorem Zli {K:Nat→List Nat} {n:Nat} {v:List Nat} {i a:Nat} (hi:i ≤ n) (h:v[i]? = some a):runB K (n + 1 - i) v i = runB K (n + 1 - (i + 1)) (Z0c v (K a)) (i + 1):=by
 have e:n + 1 - i = (n + 1 - (i + 1)) + 1:=by omega
 rw [e]
 show (match v[i]? with | none => v | some a => runB K (n + 1 - (i + 1)) (Z0c v (K a)) (i + 1)) = _
 rw [h]
section
variable {s0 s:St} {W:Pos→Prop} {p:Pos} {cs:List CV} {V:List AVal} {base m0:Lets} {rv:AVal} {roots:List Nat} {J:List Nat→Lets→Prop} {f:Nat} {fx fy:List AVal}
structure Leans (s0:St) (W:Pos→Prop) (p:Pos) (cs:List CV) (V:List AVal) (base:Lets) (rv:AVal) (roots:List Nat) (J:List Nat→Lets→Prop) (fv:AVal):Prop where
 len:V.length = cs.length
 max:cs.length ≤ 400
 read:∀ (x m:Lets) s',Ctx s0 W (x ++ (m ++ base)) s'→(∃ v,J v m)→s'.Old p∧s'.cells p = some (encs (rcs cs V))∧Z0f s' rv (nats roots)∧∀ (i:Nat) (d:CV),cs[i]? = some d→∃ kv,V[i]? = some kv∧Z0f s' kv d.kids
 roots_ok:∀ a ∈ roots,a < cs.length
 rlen:roots.length ≤ 400
 kids:∀ a,a < cs.length→(Z12 cs a).length ≤ 4∧∀ k ∈ Z12 cs a,0 ≤ k∧k < cs.length
 meet:∀ (a:Nat) (v:List Nat) (x m:Lets) (s':St) (R:AVal→St→Prop),J v m→a ∉ v→a < cs.length→v.Nodup→(∀ y ∈ v,y < cs.length)→Ctx s0 W (x ++ (m ++ base)) s'→(∀ u m' s'',J (v ++ [a]) m'→Ctx s0 W (x ++ (m' ++ base)) s''→R u s'')→Z3d Tryz.prog fv [.int .i64 a] s' R
def BrdI (s0:St) (W:Pos→Prop) (p:Pos) (n:Nat) (base:Lets) (J:List Nat→Lets→Prop) (fv:AVal) (B7 B6 Bm B4 B3:Pos) (v g:List Nat) (s:St):Prop :=
 ∃ qv mq m,Z74 qv (nats g) mq∧J v m∧v.Nodup∧(∀ a ∈ v,a < n)∧Ctx s0 W ((B7,C [qv]) :: (B6,C [.slice Bm 0 n (.lim n)]) :: (Bm,C (metL n v)) :: (B4,C [fv]) :: (B3,C [.slice p 0 n (.lim n)]) :: (mq ++ (m ++ base))) s
theorem Zma {B7 B6 Bm B4 B3:Pos} {v g:List Nat} {a:Nat} {Q:AVal→St→Prop} (hL:Leans s0 W p cs V base rv roots J (.fn f fx fy)) (h:BrdI s0 W p cs.length base J (.fn f fx fy) B7 B6 Bm B4 B3 v g s) (hg:g.length ≤ 1000) (ha:a < cs.length)
  (q:∀ s',BrdI s0 W p cs.length base J (.fn f fx fy) B7 B6 Bm B4 B3 (addN v a) (if a ∈ v then g else g ++ [a]) s'→Q (.tup []) s'):Z3d Tryz.prog (.fn 107 [] [.ptr B6 0,.ptr B7 0,.ptr B4 0]) [.int .i64 a] s Q:=by
 obtain ⟨qv,mq,m,h1,h2,h3,h4,h5⟩:=h
 refine Z03 ?_
 refine meet_wp (pre:=[(B3,C [.slice p 0 cs.length (.lim cs.length)])]) (by simpa using h5) h1 hg h2 ha (by simp) (fun x m s' R hJ hv hc hR => hL.meet a v x m s' R hJ hv ha h3 h4 hc hR) fun qv' mq' m' s' g1 g2 g3 => ?_
 exact q s' ⟨qv',mq',m',g1,g2,Z8u h3,Zd6 h4 ha,by simpa using g3⟩
theorem Zvs {fr:FI} {t0:PT AVal} {B7 B6 Bm B4 B3:Pos} {v:List Nat} {i a:Nat} {Q:Ex→PT AVal→St→Prop} (hL:Leans s0 W p cs V base rv roots J (.fn f fx fy)) (h:BrdI s0 W p cs.length base J (.fn f fx fy) B7 B6 Bm B4 B3 v (v.drop i) s) (hi:v[i]? = some a)
  (t3:PT.get (posOf 3) t0 = some (.ptr B3 0)) (t7:PT.get (posOf 7) t0 = some (.ptr B7 0)) (t8:PT.get (posOf 8) t0 = some (.fn 107 [] [.ptr B6 0,.ptr B7 0,.ptr B4 0]))
  (q:∀ t s',Fr [12,32,33,34,35,36,37,38,39,40,41,42] t0 t→BrdI s0 W p cs.length base J (.fn f fx fy) B7 B6 Bm B4 B3 (Z0c v (kidN cs a)) ((Z0c v (kidN cs a)).drop i) s'→Q .normal t s'):wp Tryz.prog Ztj fr t0 s Q:=by
 have hil:i < v.length:=(List.getElem?_eq_some_iff.1 hi).1
 obtain ⟨qv,mq,m,h1,h2,h3,h4,h5⟩:=h
 have ha:a < cs.length:=h4 a (List.mem_of_getElem? hi)
 have hcd:cs[a]? = some cs[a]:=List.getElem?_eq_getElem ha
 obtain ⟨r1,r2,_,r4⟩:=hL.read ((B7,C [qv]) :: (B6,C [.slice Bm 0 cs.length (.lim cs.length)]) :: (Bm,C (metL cs.length v)) :: (B4,C [.fn f fx fy]) :: (B3,C [.slice p 0 cs.length (.lim cs.length)]) :: mq) m s (by simpa using h5) ⟨v,h2⟩
 obtain ⟨kv,k1,k2⟩:=r4 a _ hcd
 have hko:=Z1a hcd
 obtain ⟨l4,lin⟩:=hL.kids a ha
 rw [hko] at l4 lin
 have hg2:(encs (rcs cs V))[a * 4 + 2]? = some kv:=Z3h _ a 2 _ (Z2b hcd k1) (by decide)
 have hdr:v.drop i = a :: v.drop (i + 1):=by
  rw [List.drop_eq_getElem_cons hil]
  congr 1
  have:=List.getElem?_eq_getElem hil
  rw [hi] at this
  exact (Option.some.inj this).symm
 have hq0:∃ b pre,qv = .slice b pre.length (v.drop i).length (.opn 1)∧mq = [(b,C (ints (pre ++ nats (v.drop i))))]:=by
  rcases h1 with ⟨e,_⟩ | ⟨b,pre,e1,e2⟩
  ·rw [hdr] at e
   simp at e
  ·exact ⟨b,pre,by simpa using e1,e2⟩
 obtain ⟨bq,pre,rfl,rfl⟩:=hq0
 have hqc:s.cells bq = some (ints (pre ++ nats (v.drop i))):=h5.c 5 rfl
 have hqh:(ints (pre ++ nats (v.drop i)))[pre.length]? = some (.int .i64 a):=by
  unfold ints
  rw [List.getElem?_map,List.getElem?_append_right (Nat.le_refl _),Nat.sub_self,hdr]
  rfl
 have hlen1:0 < (v.drop i).length:=by rw [hdr]; simp
 have hlen0:(0:Int) < ((v.drop i).length:Int):=by omega
 clear hdr
 generalize hgd:v.drop i = g0 at h5 hqc hqh hlen0 hlen1
 obtain ⟨qcs,hqcs⟩:∃ x,x = ints (pre ++ nats g0):=⟨_,rfl⟩
 rw [← hqcs] at hqc hqh
 refine Z00 ?_
 have hkt:=k2.ntup
 have hkl:=k2.len
 simp [t3,t7,h5.c 4 rfl,h5.c 0 rfl,hqc,hqh,hlen0,hlen1,r2,hg2,ha,hkt,hkl]
 refine AM.wp_block ?_
 refine AM.wp_loop (fun k t s' => ∃ (j:Nat),j ≤ (Z12 cs a).length∧k = (Z12 cs a).length - j∧Fr [12,32,33,34,35,36,37,38,39,40,41,42] t0 t∧PT.get (posOf 39) t = some kv∧PT.get (posOf 40) t = some (.int .i64 (Z12 cs a).length)∧PT.get (posOf 41) t = some (.int .i64 j) ∧
   BrdI s0 W p cs.length base J (.fn f fx fy) B7 B6 Bm B4 B3 (Z0c v ((kidN cs a).take j)) ((Z0c v ((kidN cs a).take j)).drop i) s') (Z12 cs a).length
  ⟨0,by simp,by simp,?_,by simp,by simp [hko],by simp,by
   have:BrdI s0 W p cs.length base J (.fn f fx fy) B7 B6 Bm B4 B3 v g0 s:=⟨_,_,m,.inr ⟨bq,pre,by simp,rfl⟩,h2,h3,h4,h5⟩
   rw [← hgd] at this
   simpa [Z0c] using this⟩ ?_
 ·intro y hy
  simp at hy
  simp [hy]
 rintro k t s' ⟨j,hj,rfl,hF,t39,t40,t41,hI⟩
 refine Z00 ?_
 simp [t40,t41]
 refine AM.wp_seq ?_
 refine AM.Z04 ?_
 by_cases hlt:j < (Z12 cs a).length
 ·have hwr:IntKind.wrap .i64 ((j:Int) + 1) = ((j + 1:Nat):Int):=by rw [hko] at hlt; rw [IntWalk.i64_in _ (by omega)]; omega
  obtain ⟨kk,hkk⟩:∃ kk,(Z12 cs a)[j]? = some kk:=⟨_,List.getElem?_eq_getElem hlt⟩
  have hkm:=List.mem_of_getElem? hkk
  obtain ⟨kk0,kk1⟩:=lin kk (hko ▸ hkm)
  obtain ⟨kn,rfl⟩:∃ kn:Nat,kk = (kn:Int):=⟨kk.toNat,by omega⟩
  have hkN:(kidN cs a)[j]? = some kn:=by unfold kidN; rw [List.getElem?_map,hkk]; rfl
  have u8:=(hF 8 (by simp)).trans t8
  obtain ⟨qv2,mq2,m2,e1,e2,e3,e4,e5⟩:=hI
  obtain ⟨_,_,_,x4⟩:=hL.read ((B7,C [qv2]) :: (B6,C [.slice Bm 0 cs.length (.lim cs.length)]) :: (Bm,C (metL cs.length (Z0c v ((kidN cs a).take j)))) :: (B4,C [.fn f fx fy]) :: (B3,C [.slice p 0 cs.length (.lim cs.length)]) :: mq2) m2 s' (by simpa using e5) ⟨_,e2⟩
  obtain ⟨kv2,y1,y2⟩:=x4 a _ hcd
  rw [k1] at y1
  cases y1
  rw [← hko] at y2
  rcases y2 with ⟨_,h0⟩ | ⟨b,o,c,cells,rfl,hb,hcs,hle,hel⟩
  ·rw [h0] at hlt
   simp at hlt
  have hgk:=hel j _ hkk
  simp [hlt]
  refine AM.wp_skip ?_
  simp
  refine AM.wp_seq ?_
  refine AM.wp_block ?_
  refine Z00 ?_
  simp [t39,t41,hlt,hcs,hgk]
  refine AM.wp_region ?_
  simp [u8]
  have hglen:((Z0c v ((kidN cs a).take j)).drop i).length ≤ 1000:=by
   have:=Z22 e3 e4
   have hm:=hL.max
   rw [List.length_drop]
   omega
  refine Zma (a:=kn) hL ⟨qv2,mq2,m2,e1,e2,e3,e4,e5⟩ hglen (by omega) fun s3 hI3 => ?_
  have hnx:=Zgq (v:=v) hkN
  have hil2:i ≤ (Z0c v ((kidN cs a).take j)).length:=by
   obtain ⟨w,hw⟩:=Z5d ((kidN cs a).take j) v
   rw [hw,List.length_append]
   omega
  have hdn:(addN (Z0c v ((kidN cs a).take j)) kn).drop i = if kn ∈ Z0c v ((kidN cs a).take j) then (Z0c v ((kidN cs a).take j)).drop i else (Z0c v ((kidN cs a).take j)).drop i ++ [kn]:=by
   unfold addN
   split
   ·rfl
   ·rw [List.drop_append_of_le_length hil2]
  rw [← hdn,← hnx] at hI3
  simp
  refine AM.wp_region ?_
  simp [t41,hwr]
  refine ⟨(Z12 cs a).length - (j + 1),by omega,j + 1,by omega,by omega,?_,by simp [t39],by simp [t40],by simp,hI3⟩
  intro y hy
  simp at hy
  simp [hy]
  exact hF y (by simp [hy])
 ·simp [hlt]
  refine AM.wp_exit ?_
  simp
  have hje:j = (Z12 cs a).length:=by omega
  subst hje
  have htk:(kidN cs a).take (Z12 cs a).length = kidN cs a:=List.take_of_length_le (by simp [kidN])
  rw [htk] at hI
  refine q _ s' ?_ hI
  intro y hy
  simp at hy
  simp [hy]
  exact hF y (by simp [hy])
end
section
variable {s0 s:St} {W:Pos→Prop} {p:Pos} {cs:List CV} {V:List AVal} {base m0:Lets} {rv:AVal} {roots:List Nat} {J:List Nat→Lets→Prop} {f:Nat} {fx fy:List AVal}
theorem Z7i (K:Nat→List Nat):∀ (f:Nat) (v:List Nat) (i:Nat),∃ w,runB K f v i = v ++ w
 | 0,v,i => ⟨[],by simp [runB]⟩
 | f + 1,v,i => by
  unfold runB
  cases v[i]? with
  | none => exact ⟨[],by simp⟩
  | some a =>
   obtain ⟨w,h⟩:=Z5d (K a) v
   obtain ⟨w',h'⟩:=Z7i K f (Z0c v (K a)) (i + 1)
   refine ⟨w ++ w',?_⟩
   show runB K f (Z0c v (K a)) (i + 1) = _
   rw [h',h,List.append_assoc]
theorem Zxf {fr:FI} {t0:PT AVal} {B7 B6 Bm B4 B3:Pos} {v:List Nat} {i:Nat} {Q:Ex→PT AVal→St→Prop} (hL:Leans s0 W p cs V base rv roots J (.fn f fx fy)) (h:BrdI s0 W p cs.length base J (.fn f fx fy) B7 B6 Bm B4 B3 v (v.drop i) s) (hi:i ≤ cs.length)
  (t3:PT.get (posOf 3) t0 = some (.ptr B3 0)) (t7:PT.get (posOf 7) t0 = some (.ptr B7 0)) (t8:PT.get (posOf 8) t0 = some (.fn 107 [] [.ptr B6 0,.ptr B7 0,.ptr B4 0]))
  (q:∀ t s',Fr [12,29,32,33,34,35,36,37,38,39,40,41,42] t0 t→BrdI s0 W p cs.length base J (.fn f fx fy) B7 B6 Bm B4 B3 (runB (kidN cs) (cs.length + 1 - i) v i) [] s'→Q .normal t s'):wp Tryz.prog Zti fr t0 s Q:=by
 refine AM.wp_block ?_
 refine AM.wp_loop (fun k t s' => ∃ (j:Nat) (u:List Nat),j ≤ cs.length∧k = cs.length + 1 - j∧Fr [12,29,32,33,34,35,36,37,38,39,40,41,42] t0 t∧runB (kidN cs) (cs.length + 1 - i) v i = runB (kidN cs) (cs.length + 1 - j) u j ∧
   BrdI s0 W p cs.length base J (.fn f fx fy) B7 B6 Bm B4 B3 u (u.drop j) s') (cs.length + 1 - i) ⟨i,v,hi,rfl,fun y _ => rfl,rfl,h⟩ ?_
 rintro k t s' ⟨j,u,hj,rfl,hF,hrun,hI⟩
 have u3:=(hF 3 (by simp)).trans t3
 have u7:=(hF 7 (by simp)).trans t7
 have u8:=(hF 8 (by simp)).trans t8
 obtain ⟨qv,mq,m,e1,e2,e3,e4,e5⟩:=id hI
 have hul:=Z22 e3 e4
 refine AM.wp_seq ?_
 refine Z00 ?_
 have hql:=e1.len
 have hqt:=e1.ntup
 rw [List.length_map,List.length_drop] at hql
 by_cases hlt:j < u.length
 ·have hpos:0 < u.length - j:=by omega
  obtain ⟨a,ha⟩:∃ a,u[j]? = some a:=⟨_,List.getElem?_eq_getElem hlt⟩
  simp [u7,e5.c 0 rfl,hql,hqt,hpos]
  refine AM.Z04 ?_
  simp
  refine AM.wp_skip ?_
  simp
  refine AM.wp_seq ?_
  refine AM.wp_block ?_
  refine Zvs hL hI ha (by simp [u3]) (by simp [u7]) (by simp [u8]) fun t2 s2 hF2 hI2 => ?_
  obtain ⟨qv2,mq2,m2,g1,g2,g3,g4,g5⟩:=hI2
  have w7:PT.get (posOf 7) t2 = some (.ptr B7 0):=(hF2 7 (by simp)).trans (by simp [u7])
  obtain ⟨w,hw⟩:=Z5d (kidN cs a) u
  have hjl:j < (Z0c u (kidN cs a)).length:=by rw [hw,List.length_append]; omega
  have hdr:(Z0c u (kidN cs a)).drop j = (Z0c u (kidN cs a))[j] :: (Z0c u (kidN cs a)).drop (j + 1):=List.drop_eq_getElem_cons hjl
  have hq0:∃ b pre,qv2 = .slice b pre.length ((Z0c u (kidN cs a)).length - j) (.opn 1)∧mq2 = [(b,C (ints (pre ++ nats ((Z0c u (kidN cs a)).drop j))))]:=by
   rcases g1 with ⟨e,_⟩ | ⟨b,pre,e1,e2⟩
   ·have:=congrArg List.length e
    rw [List.length_map,List.length_drop] at this
    simp at this
    omega
   ·exact ⟨b,pre,by rw [List.length_map,List.length_drop] at e1; exact e1,e2⟩
  obtain ⟨b,pre,rfl,rfl⟩:=hq0
  simp
  refine AM.wp_region ?_
  simp [w7,g5.c 0 rfl]
  refine Zne (a:=1) (b:=(Z0c u (kidN cs a)).length - j) (p:=b) (off:=pre.length) (n:=(Z0c u (kidN cs a)).length - j) (by simp) ⟨.i64,by simp⟩ rfl (by omega) (Nat.le_refl _) ?_
  simp [w7,g5.o 0 rfl]
  have c6:=g5.put 0 rfl (C [.slice b (pre.length + 1) ((Z0c u (kidN cs a)).length - j - 1) (.opn 1)])
  simp only [List.set_cons_zero] at c6
  refine ⟨cs.length + 1 - (j + 1),by omega,j + 1,by omega,rfl,?_,Z0c u (kidN cs a),?_,?_⟩
  ·intro y hy
   simp at hy
   rw [hF2 y (by simp [hy])]
   simp [hy]
   exact hF y (by simp [hy])
  ·rw [hrun,Zli hj ha]
  ·refine ⟨.slice b (pre.length + 1) ((Z0c u (kidN cs a)).length - j - 1) (.opn 1),_,m2,.inr ⟨b,pre ++ [(((Z0c u (kidN cs a))[j]:Nat):Int)],?_,rfl⟩,g2,g3,g4,?_⟩
   ·rw [List.length_map,List.length_drop,List.length_append,List.length_singleton]
    rfl
   ·have e:pre ++ [(((Z0c u (kidN cs a))[j]:Nat):Int)] ++ nats ((Z0c u (kidN cs a)).drop (j + 1)) = pre ++ nats ((Z0c u (kidN cs a)).drop j):=by
     rw [hdr,List.append_assoc]
     rfl
    rw [e]
    exact c6
 ·have hz:u.length - j = 0:=by omega
  have hd0:u.drop j = []:=List.drop_eq_nil_of_le (by omega)
  simp [u7,e5.c 0 rfl,hql,hqt,hz]
  refine AM.Z04 ?_
  simp
  refine AM.wp_exit ?_
  simp
  rw [hrun,Zcq (by omega)] at q
  rw [hd0] at hI
  refine q _ s' ?_ hI
  intro y hy
  simp at hy
  simp [hy]
  exact hF y (by simp [hy])
theorem Zt0 {K:Nat→List Nat} {n:Nat} (hK:∀ a,a < n→∀ k ∈ K a,k < n):∀ (f:Nat) (v:List Nat) (i:Nat),v.Nodup→(∀ a ∈ v,a < n)→(runB K f v i).Nodup∧∀ a ∈ runB K f v i,a < n
 | 0,v,i,h1,h2 => ⟨h1,h2⟩
 | f + 1,v,i,h1,h2 => by
  unfold runB
  cases hv:v[i]? with
  | none => exact ⟨h1,h2⟩
  | some a =>
   obtain ⟨h3,h4⟩:=Za7 h1 h2 (hK a (h2 a (List.mem_of_getElem? hv)))
   exact Zt0 hK f _ _ h3 h4
theorem Zez {Q:AVal→St→Prop} (hL:Leans s0 W p cs V base rv roots J (.fn f fx fy)) (hc:Ctx s0 W (m0 ++ base) s) (hJ:J [] m0) (hrt:∀ t,¬ rv = .tup t)
  (q:∀ (x m:Lets) s',J (bfsF (kidN cs) cs.length roots) m→Ctx s0 W (x ++ (m ++ base)) s'→Q (.tup []) s'):Z0d Tryz.prog 62 [.agg [.slice p 0 cs.length (.lim cs.length)],.fn f fx fy,rv] s Q:=by
 have hmax:=hL.max
 refine Z07 (Z0g (by decide)) fi62 rfl (by decide) rfl ?_
 refine Z00 ?_
 simp
 have c1:=hc.alloc (C [.slice p 0 cs.length (.lim cs.length)])
 generalize s.alloc (.cells [.slice p 0 cs.length (.lim cs.length)] false) = s1 at c1 ⊢
 generalize s.next = B3 at c1 ⊢
 have c2:=c1.alloc (C [.fn f fx fy])
 generalize s1.alloc (.cells [.fn f fx fy] false) = s2 at c2 ⊢
 generalize s1.next = B4 at c2 ⊢
 have hz1:cs.length ≤ Z0k:=by unfold Z0k; omega
 refine Z00 ?_
 simp [c2.c 1 rfl,hz1]
 have c3:=c2.alloc (C (List.replicate cs.length (.bool false)))
 generalize s2.alloc (.cells (List.replicate cs.length (.bool false)) false) = s3 at c3 ⊢
 generalize s2.next = Bm at c3 ⊢
 have c4:=(c3.alloc (C [.nilSlice])).put 0 rfl (C [.slice Bm 0 cs.length (.lim cs.length)])
 simp only [List.set_cons_zero] at c4
 generalize (s3.alloc (.cells [.nilSlice] false)).put s3.next (.cells [.slice Bm 0 cs.length (.lim cs.length)] false) = s4 at c4 ⊢
 generalize s3.next = B6 at c4 ⊢
 refine Z00 ?_
 simp
 have c5:=c4.alloc (C [.nilSlice])
 generalize s4.alloc (.cells [.nilSlice] false) = s5 at c5 ⊢
 generalize s4.next = B7 at c5 ⊢
 have hm0:List.replicate cs.length (AVal.bool false) = metL cs.length []:=by
  refine List.ext_getElem? fun j => ?_
  by_cases hj:j < cs.length
  ·rw [Z5v _ hj,List.getElem?_replicate,if_pos hj]
   simp
  ·rw [List.getElem?_eq_none (by simp; omega),List.getElem?_eq_none (by rw [Z3k]; omega)]
 rw [hm0] at c5
 have hI0:BrdI s0 W p cs.length base J (.fn f fx fy) B7 B6 Bm B4 B3 [] [] s5:=by
  refine ⟨.nilSlice,[],m0,.inl ⟨rfl,rfl,rfl⟩,hJ,by simp,by simp,c5.perm ?_⟩
  refine List.Perm.cons _ (List.Perm.cons _ (List.Perm.cons _ ?_))
  exact List.Perm.refl _
 refine Z00 ?_
 simp
 obtain ⟨_,_,hrv,_⟩:=hL.read [(B7,C [.nilSlice]),(B6,C [.slice Bm 0 cs.length (.lim cs.length)]),(Bm,C (metL cs.length [])),(B4,C [.fn f fx fy]),(B3,C [.slice p 0 cs.length (.lim cs.length)])] m0 s5 (by simpa using c5) ⟨_,hJ⟩
 have hrl:=hrv.len
 have hrlen:=hL.rlen
 rw [List.length_map] at hrl
 refine Z00 ?_
 simp [hrt,hrl]
 refine AM.wp_block ?_
 refine AM.wp_loop (fun k t s' => ∃ (j:Nat),j ≤ roots.length∧k = roots.length - j∧PT.get (posOf 3) t = some (.ptr B3 0)∧PT.get (posOf 7) t = some (.ptr B7 0)∧PT.get (posOf 8) t = some (.fn 107 [] [.ptr B6 0,.ptr B7 0,.ptr B4 0])∧PT.get (posOf 18) t = some rv∧PT.get (posOf 19) t = some (.int .i64 roots.length)∧PT.get (posOf 20) t = some (.int .i64 j) ∧
   BrdI s0 W p cs.length base J (.fn f fx fy) B7 B6 Bm B4 B3 (bfsF (kidN cs) cs.length (roots.take j)) [] s') roots.length
  ⟨0,by simp,by simp,by simp,by simp,by simp,by simp,by simp,by simp,by simpa [bfsF] using hI0⟩ ?_
 rintro k t s' ⟨j,hj,rfl,t3,t7,t8,t18,t19,t20,hI⟩
 refine Z00 ?_
 simp [t19,t20]
 refine AM.wp_seq ?_
 refine AM.Z04 ?_
 by_cases hlt:j < roots.length
 ·have hwr:IntKind.wrap .i64 ((j:Int) + 1) = ((j + 1:Nat):Int):=by rw [IntWalk.i64_in _ (by omega)]; omega
  obtain ⟨a,ha⟩:∃ a,roots[j]? = some a:=⟨_,List.getElem?_eq_getElem hlt⟩
  have han:=hL.roots_ok a (List.mem_of_getElem? ha)
  obtain ⟨qv,mq,m,e1,e2,e3,e4,e5⟩:=id hI
  obtain ⟨_,_,hrv',_⟩:=hL.read ((B7,C [qv]) :: (B6,C [.slice Bm 0 cs.length (.lim cs.length)]) :: (Bm,C (metL cs.length (bfsF (kidN cs) cs.length (roots.take j)))) :: (B4,C [.fn f fx fy]) :: (B3,C [.slice p 0 cs.length (.lim cs.length)]) :: mq) m s' (by simpa using e5) ⟨_,e2⟩
  rcases hrv' with ⟨_,h0⟩ | ⟨b,o,c,cells,rfl,hb,hcs,hle,hel⟩
  ·have:roots = []:=by simpa using h0
   rw [this] at hlt
   simp at hlt
  have hgk:=hel j (a:Int) (by rw [List.getElem?_map,ha]; rfl)
  rw [List.length_map] at t18
  simp [hlt]
  refine AM.wp_skip ?_
  simp
  refine AM.wp_seq ?_
  refine AM.wp_block ?_
  refine Z00 ?_
  simp [t18,t20,hlt,hcs,hgk]
  refine Z00 ?_
  simp [t8]
  refine Zma (a:=a) hL hI (by simp) han fun s2 hI2 => ?_
  have hul:=Z22 e3 e4
  have hdn:(addN (bfsF (kidN cs) cs.length (roots.take j)) a).drop (bfsF (kidN cs) cs.length (roots.take j)).length = if a ∈ bfsF (kidN cs) cs.length (roots.take j) then [] else [] ++ [a]:=by
   unfold addN
   split
   ·exact List.drop_eq_nil_of_le (Nat.le_refl _)
   ·rw [List.drop_left]
    rfl
  rw [← hdn] at hI2
  simp
  refine Zxf hL hI2 hul (by simp [t3]) (by simp [t7]) (by simp [t8]) fun t3' s3 hF3 hI3 => ?_
  have hfin:runB (kidN cs) (cs.length + 1 - (bfsF (kidN cs) cs.length (roots.take j)).length) (addN (bfsF (kidN cs) cs.length (roots.take j)) a) (bfsF (kidN cs) cs.length (roots.take j)).length = bfsF (kidN cs) cs.length (roots.take (j + 1)):=by
   unfold bfsF
   rw [List.take_add_one,ha,List.foldl_append]
   rfl
  rw [hfin] at hI3
  simp
  have w20:=(hF3 20 (by simp))
  simp [t20] at w20
  refine AM.wp_region ?_
  simp [w20,hwr]
  refine ⟨roots.length - (j + 1),by omega,j + 1,by omega,by omega,?_,?_,?_,?_,?_,rfl,hI3⟩
  ·rw [hF3 3 (by simp)]
   simp [t3]
  ·rw [hF3 7 (by simp)]
   simp [t7]
  ·rw [hF3 8 (by simp)]
   simp [t8]
  ·rw [hF3 18 (by simp)]
   simp [t18]
  ·rw [hF3 19 (by simp)]
   simp [t19]
 ·simp [hlt]
  refine AM.wp_exit ?_
  simp
  have hje:j = roots.length:=by omega
  subst hje
  rw [List.take_length] at hI
  obtain ⟨qv,mq,m,e1,e2,e3,e4,e5⟩:=hI
  exact q ((B7,C [qv]) :: (B6,C [.slice Bm 0 cs.length (.lim cs.length)]) :: (Bm,C (metL cs.length (bfsF (kidN cs) cs.length roots))) :: (B4,C [.fn f fx fy]) :: (B3,C [.slice p 0 cs.length (.lim cs.length)]) :: mq) m s' e2 (by simpa using e5)
end
theorem Z96 {s0 s:St} {W:Pos→Prop} {hb:Pos} {vs:AVal} {cs:List CV} {m r:Lets} (hH:Z2j hb vs cs m) (h:Ctx s0 W (m ++ r) s):∃ p V mr,Ctx s0 W ((hb,C [.slice p 0 cs.length (.lim cs.length),vs]) :: (p,C (encs (rcs cs V))) :: (mr ++ r)) s∧Z0v (cs.map CV.kids) V mr∧V.length = cs.length∧1 ≤ cs.length∧cs.length ≤ 400 ∧
  m.Perm ((hb,C [.slice p 0 cs.length (.lim cs.length),vs]) :: (p,C (encs (rcs cs V))) :: mr):=by
 obtain ⟨p,V,mr,hp,hR,h1,h4⟩:=hH
 refine ⟨p,V,mr,h.perm ?_,hR,by simpa using hR.len,h1,h4,hp⟩
 simpa using hp.append (List.Perm.refl r)
def setH (cs:List CV) (k:Nat) (x:Int):List CV:=match cs[k]? with
 | some c => cs.set k { c with held:=x }
 | none => cs
theorem Zo1 (cs:List CV) (k:Nat) (x:Int):(setH cs k x).length = cs.length:=by
 unfold setH
 split <;> simp
theorem Zv3 (cs:List CV) (k:Nat) (x:Int):(setH cs k x).map CV.kids = cs.map CV.kids:=by
 unfold setH
 split
 ·rename_i c hc
  rw [List.map_set]
  refine List.ext_getElem? fun j => ?_
  rw [List.getElem?_set]
  split
  ·rename_i e
   subst e
   have:=(List.getElem?_eq_some_iff.1 hc).1
   rw [if_pos (by simpa using this),List.getElem?_map,hc]
   rfl
  ·rfl
 ·rfl
theorem Zwx {cs:List CV} {V:List AVal} {k:Nat} {c:CV} {kv:AVal} (hc:cs[k]? = some c) (hv:V[k]? = some kv) (x:Int):(rcs cs V).set k { taken:=c.taken,name:=c.name,kv:=kv,held:=x } = rcs (setH cs k x) V:=by
 unfold setH
 rw [hc]
 simp only
 have hV:V.set k kv = V:=by
  refine List.ext_getElem? fun y => ?_
  rw [List.getElem?_set]
  by_cases e:k = y
  ·subst e
   rw [if_pos rfl,hv,if_pos (List.getElem?_eq_some_iff.1 hv).1]
  ·rw [if_neg e]
 have:=Z8r (cs:=cs) (V:=V) (i:=k) (d:={ c with held:=x }) (kv:=kv)
 rw [hV] at this
 exact this
def Z7p (cs:List CV) (i:Int):Int × List CV :=
 if Z08 cs i = false then (1,cs) else match cs[i.toNat]? with
  | some c => if c.held = 1000 then (12,cs) else (0,setH cs i.toNat (IntKind.wrap .i64 (c.held + 1)))
  | none => (1,cs)
section
variable {s0 s:St} {W:Pos→Prop} {hb:Pos} {vs:AVal} {cs:List CV} {m r:Lets} {Q:AVal→St→Prop}
theorem Zqb {p:Pos} {V:List AVal} {i:Int} (hw:s.Old p) (hc:s.cells p = some (encs (rcs cs V))) (hV:V.length = cs.length) (q:∀ s',Keeps s s'→Q (.bool (Z08 cs i)) s'):Z0d Tryz.prog 50 [.agg [.slice p 0 cs.length (.lim cs.length)],.int .i64 i] s Q :=
 Zel hw hc (Z29 hV) (by rw [Zam hV]; exact q)
theorem hold_c {i:Int} (hH:Z2j hb vs cs m) (h:Ctx s0 W (m ++ r) s)
  (q:∀ m' s',Z2j hb vs (Z7p cs i).2 m'→Ctx s0 W (m' ++ r) s'→Q (.int .i64 (Z7p cs i).1) s'):Z0d Tryz.prog 22 [.ptr hb 0,.int .i64 i] s Q:=by
 obtain ⟨p,V,mr,hc,hR,hV,h1,h4⟩:=Zaj hH h
 have hno:cs.length ≠ 0:=by omega
 refine Z07 (Z0g (by decide)) fi22 rfl (by decide) rfl ?_
 refine Z00 ?_
 simp
 refine AM.wp_seq ?_
 refine AM.wp_block ?_
 refine Z00 ?_
 simp
 refine Z03 ?_
 refine Z6y (hc.c 0 rfl) rfl hno ?_
 simp
 refine AM.Z04 ?_
 simp
 refine Z00 ?_
 simp [hc.c 0 rfl]
 refine Z03 ?_
 refine Zqb (hc.oi 1 rfl) (hc.c 1 rfl) hV fun s1 k1 => ?_
 have c1:=hc.keeps k1
 cases ht:Z08 cs i with
 | false =>
  have:Z7p cs i = (1,cs):=by unfold Z7p; rw [if_pos ht]
  rw [this] at q
  simp
  refine AM.Z04 ?_
  simp
  refine Z00 ?_
  simp
  refine AM.wp_ret ?_
  simp
  exact q _ _ (Z2u hR h1 h4) c1
 | true =>
  obtain ⟨h0,d,hd,_,hlt⟩:=Z1z ht
  obtain ⟨kv,hkv⟩:∃ kv,V[i.toNat]? = some kv:=⟨_,List.getElem?_eq_getElem (by omega)⟩
  have hrg:=Z2b hd hkv
  have hg3:(encs (rcs cs V))[i.toNat * 4 + 3]? = some (.int .i64 d.held):=Z3h _ i.toNat 3 _ hrg (by decide)
  have hil:i < cs.length:=by omega
  simp
  refine AM.Z04 ?_
  simp
  refine Z00 ?_
  simp [c1.c 0 rfl,c1.c 1 rfl,h0,hil,hg3]
  refine AM.Z04 ?_
  by_cases he:d.held = 1000
  ·have:Z7p cs i = (12,cs):=by unfold Z7p; rw [if_neg (by simp [ht]),hd]; simp only; rw [if_pos he]
   rw [this] at q
   simp [he]
   refine Z00 ?_
   simp
   refine AM.wp_ret ?_
   simp
   exact q _ _ (Z2u hR h1 h4) c1
  ·have:Z7p cs i = (0,setH cs i.toNat (IntKind.wrap .i64 (d.held + 1))):=by unfold Z7p; rw [if_neg (by simp [ht]),hd]; simp only; rw [if_neg he]
   rw [this] at q
   have hlay:=Zkq _ i.toNat _ (IntKind.wrap .i64 (d.held + 1)) hrg
   rw [Zwx hd hkv] at hlay
   have hle:i.toNat * 4 + 3 + 1 ≤ (encs (rcs cs V)).length:=by rw [Z38,Z29 hV]; omega
   simp [lay] at hlay
   simp [he]
   refine AM.wp_skip ?_
   simp
   refine Z00 ?_
   simp [c1.c 0 rfl,c1.c 1 rfl,c1.o 1 rfl,h0,hil,hg3,hle]
   rw [hlay]
   have c2:=c1.put 1 rfl (C (encs (rcs (setH cs i.toNat (IntKind.wrap .i64 (d.held + 1))) V)))
   simp only [List.set_cons_succ,List.set_cons_zero] at c2
   refine Z00 ?_
   simp
   refine AM.wp_ret ?_
   simp
   have hl:=Zo1 cs i.toNat (IntKind.wrap .i64 (d.held + 1))
   refine q _ _ (Z2u (p:=p) (V:=V) (mr:=mr) (by rw [Zv3]; exact hR) (by simpa [hl] using h1) (by simpa [hl] using h4)) ?_
   rw [hl]
   exact c2
theorem Ztx (hH:Z2j hb vs cs m) (h:Ctx s0 W (m ++ r) s)
  (q:∀ s',Ctx s0 W (m ++ r) s'→Q (.int .i64 ((cs.length - Z1k cs:Nat):Int)) s'):Z0d Tryz.prog 26 [.ptr hb 0] s Q:=by
 obtain ⟨p,V,mr,hc,hR,hV,h1,h4⟩:=Zaj hH h
 have hno:cs.length ≠ 0:=by omega
 have hsz:Z1k cs ≤ cs.length:=List.countP_le_length
 have hwr:IntKind.wrap .i64 ((cs.length:Int) - (Z1k cs:Int)) = ((cs.length - Z1k cs:Nat):Int):=by rw [IntWalk.i64_in _ (by omega)]; omega
 refine Z07 (Z0g (by decide)) fi26 rfl (by decide) rfl ?_
 refine Z00 ?_
 simp
 refine AM.wp_seq ?_
 refine Z00 ?_
 simp
 refine Z03 ?_
 refine Z6y (hc.c 0 rfl) rfl hno ?_
 simp
 refine AM.Z04 ?_
 simp
 refine AM.wp_skip ?_
 simp
 refine Z00 ?_
 simp [hc.c 0 rfl]
 refine Z03 ?_
 refine Zq9 (Zcb hc hV h1 h4) fun s1 k1 => ?_
 have c1:=hc.keeps k1
 rw [Zji,Zi4 hV]
 simp [c1.c 0 rfl,Zaa,hwr]
 refine AM.wp_ret ?_
 simp
 have:=q s1 (h.keeps k1)
 simpa using this
def Z0p (cs:List CV) (i:Nat):List Int:=((Z1r cs i).filter fun j => match cs[j]? with | some c => decide (0 < c.held) | none => false).map fun (j:Nat) => (j:Int)
theorem Zrb {cs:List CV} {i:Nat} {c:CV} (h:cs[i]? = some c) (ht:c.taken = true):Z0p cs (i + 1) = Z0p cs i ++ (if 0 < c.held then [(i:Int)] else []):=by
 unfold Z0p
 rw [Zh0 h ht,List.filter_append]
 by_cases hh:0 < c.held <;> simp [h,hh]
theorem Zrc {cs:List CV} {i:Nat} {c:CV} (h:cs[i]? = some c) (ht:c.taken = false):Z0p cs (i + 1) = Z0p cs i:=by
 unfold Z0p
 rw [Zh1 h ht]
theorem Zac (cs:List CV) (i:Nat):(Z0p cs i).length ≤ i:=by
 unfold Z0p Z1r
 rw [List.length_map]
 refine Nat.le_trans (List.length_filter_le _ _) (Nat.le_trans (List.length_filter_le _ _) (by simp))
theorem Zju {p:Pos} {V:List AVal} {base:Lets} (hc:Ctx s0 W base s) (hV:V.length = cs.length) (h4:cs.length ≤ 400) (hp:∀ x s',Ctx s0 W (x ++ base) s'→s'.Old p∧s'.cells p = some (encs (rcs cs V)))
  (q:∀ lv mg x s',Z1s lv (Z0p cs cs.length) mg→Ctx s0 W (x ++ (mg ++ base)) s'→Q lv s'):Z0d Tryz.prog 64 [.agg [.slice p 0 cs.length (.lim cs.length)]] s Q:=by
 have hl:=Z29 hV
 refine Z07 (Z0g (by decide)) fi64 rfl (by decide) rfl ?_
 refine Z00 ?_
 simp
 have c1:=hc.alloc (C [.slice p 0 cs.length (.lim cs.length)])
 generalize s.alloc (.cells [.slice p 0 cs.length (.lim cs.length)] false) = s1 at c1 ⊢
 generalize s.next = B1 at c1 ⊢
 refine Z00 ?_
 simp
 have c2:=c1.alloc (C [.nilSlice])
 generalize s1.alloc (.cells [.nilSlice] false) = s2 at c2 ⊢
 generalize s1.next = B3 at c2 ⊢
 refine AM.wp_seq ?_
 refine Z00 ?_
 simp [c2.c 1 rfl]
 refine Z03 ?_
 refine Zc2 fun BB hBB => ?_
 have c3:=c2.alloc (C [.slice p 0 cs.length (.lim cs.length)])
 rw [← hBB] at c3
 generalize s2.alloc (.cells [.slice p 0 cs.length (.lim cs.length)] false) = s3 at c3 ⊢
 simp
 refine AM.wp_block ?_
 refine Zes (B:=BB) (p:=p) (l:=rcs cs V) (J:=fun i m => ∃ lv mg,Z1s lv (Z0p cs i) mg∧m = (B3,C [lv]) :: (B1,C [.slice p 0 cs.length (.lim cs.length)]) :: (mg ++ base))
  hl h4 (by simp) rfl fi64 rfl ?_ ?_ ?_ ⟨.nilSlice,[],.inl ⟨rfl,rfl,rfl⟩,rfl⟩ c3 ?_
 ·rintro i m s' ⟨lv,mg,hg,rfl⟩ hc'
  exact hp ((B3,C [lv]) :: (B1,C [.slice p 0 cs.length (.lim cs.length)]) :: mg) s' (by simpa using hc')
 ·rintro i c m hci hct ⟨lv,mg,hg,rfl⟩
  have hi:i < cs.length:=by have:=(List.getElem?_eq_some_iff.1 hci).1; rwa [hl] at this
  rw [Z2b (List.getElem?_eq_getElem hi) (List.getElem?_eq_getElem (show i < V.length by omega))] at hci
  cases hci
  exact ⟨lv,mg,by rw [Zrc (List.getElem?_eq_getElem hi) hct]; exact hg,rfl⟩
 ·rintro i c s' m Lb X Wx hci hct ⟨lv,mg,hg,rfl⟩ hc' hW
  have hi:i < cs.length:=by have:=(List.getElem?_eq_some_iff.1 hci).1; rwa [hl] at this
  obtain ⟨_,hpc⟩:=hp ((Lb,X) :: (BB,C [.slice p 0 cs.length (.lim cs.length)]) :: (B3,C [lv]) :: (B1,C [.slice p 0 cs.length (.lim cs.length)]) :: mg) s' (by simpa using hc')
  have hg3:(encs (rcs cs V))[i * 4 + 3]? = some (.int .i64 c.held):=Z3h _ i 3 _ hci (by decide)
  rw [Z2b (List.getElem?_eq_getElem hi) (List.getElem?_eq_getElem (show i < V.length by omega))] at hci
  have hnx:=Zrb (List.getElem?_eq_getElem hi) (by cases hci; exact hct)
  have hhe:cs[i].held = c.held:=by cases hci; rfl
  rw [hhe] at hnx
  refine AM.wp_block ?_
  refine Z00 ?_
  simp [hc'.c 3 rfl,hi,hpc,hg3]
  refine AM.Z04 ?_
  by_cases hh:0 < c.held
  ·rw [if_pos hh] at hnx
   simp [hh]
   refine AM.wp_region ?_
   simp [hc'.c 2 rfl,hg.ntup,hg.cells,Z1t,srcP]
   have d2:=hc'.alloc (C [.int .i64 i])
   generalize s'.alloc (.cells [.int .i64 i] false) = sB at d2 ⊢
   generalize s'.next = T at d2 ⊢
   have hgl:=Zac cs i
   refine Z61 (pre:=[(T,C [.int .i64 i]),(Lb,X),(BB,C [.slice p 0 cs.length (.lim cs.length)]),(B3,C [lv]),(B1,C [.slice p 0 cs.length (.lim cs.length)])]) d2 hg (by omega) fun lv' mg' sC hg' d3 => ?_
   simp at d3
   rw [← hnx] at hg'
   simp [hg'.ntup,hg'.cells,d3.o 3 rfl]
   have d4:=(d3.put 3 rfl (C [lv'])).tail
   exact hW _ _ _ ⟨lv',mg',hg',rfl⟩ d4
  ·rw [if_neg hh,List.append_nil] at hnx
   simp [hh]
   refine AM.wp_skip ?_
   simp
   refine hW _ _ _ ⟨lv,mg,by rw [hnx]; exact hg,rfl⟩ hc'
 ·rintro s' m ⟨lv,mg,hg,rfl⟩ hc'
  simp
  refine Z00 ?_
  simp [hc'.c 0 rfl,hg.ntup]
  refine AM.wp_ret ?_
  simp
  exact q lv mg [(B3,C [lv]),(B1,C [.slice p 0 cs.length (.lim cs.length)])] s' hg (by simpa using hc')
theorem held_c (hH:Z2j hb vs cs m) (h:Ctx s0 W (m ++ r) s)
  (q:∀ lv mg s',Z1s lv (Z0p cs cs.length) mg→Ctx s0 W (mg ++ (m ++ r)) s'→Q (.tup [lv,.int .i64 0]) s'):Z0d Tryz.prog 38 [.ptr hb 0] s Q:=by
 obtain ⟨p,V,mr,hc,hR,hV,h1,h4,hP⟩:=Z96 hH h
 have hno:cs.length ≠ 0:=by omega
 have hmem:(p,C (encs (rcs cs V))) ∈ m:=hP.mem_iff.2 (by simp)
 refine Z07 (Z0g (by decide)) fi38 rfl (by decide) rfl ?_
 refine Z00 ?_
 simp
 refine AM.wp_seq ?_
 refine Z00 ?_
 simp
 refine Z03 ?_
 refine Z6y (hc.c 0 rfl) rfl hno ?_
 simp
 refine AM.Z04 ?_
 simp
 refine AM.wp_skip ?_
 simp
 refine Z00 ?_
 simp [hc.c 0 rfl]
 refine Z03 ?_
 refine Zju (p:=p) (V:=V) h hV h4 (fun x s' hx => ?_) fun lv mg x s' hg hc' => ?_
 ·have hx':(p,C (encs (rcs cs V))) ∈ x ++ (m ++ r):=by simp [hmem]
  exact ⟨hx.ob hx',Z0b (Z14 (hx.own _ hx'))⟩
 ·simp [hg.ntup]
  refine AM.wp_ret ?_
  simp
  exact q lv mg s' hg (hc'.sub (List.sublist_append_right _ _))
end
end Go.Proofs
end
