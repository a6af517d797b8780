/- Parts of the proof: Cls7, Mrg4, Wrap, Mov3, Mrg5, Per, Ring1, Ring2, Open3, CodesH, CodesA, Nod, Chk1, Chk2, Chk3, Ring3. -/
import Derived.Test.YtoipnedbpjfeiaaDoorChecked
import Derived.Test.YtoipnedbpjfeiaaDoorTie
import Derived.ProofKit
import Derived.Test.YtoipnedbpjfeiaaDoorAl05
set_option linter.all false
set_option linter.unusedSectionVars false
set_option linter.unusedSimpArgs false
set_option linter.unusedVariables false
section
/- classes,in plain: how many classes there are,when the rounds end,and what has one class then. -/
open Go Go.AM
namespace Go.Proofs
def news {α κ:Type} [DecidableEq κ] (f:α→κ):List α→List α→Nat
 | _,[] => 0
 | E,a :: L => (if E.any (fun e => decide (f e = f a)) = true then 0 else 1) + news f (E ++ [a]) L
theorem Zpo {α κ:Type} [DecidableEq κ] (f:α→κ):∀ (L E:List α),news f E L ≤ L.length
 | [],E => Nat.le_refl _
 | a :: L,E => by
  have:=Zpo f L (E ++ [a])
  simp only [news,List.length_cons]
  split <;> omega
theorem Zal {α κ:Type} [DecidableEq κ] {f:α→κ} {E:List α} {a:α}:E.any (fun e => decide (f e = f a)) = true ↔ ∃ e ∈ E,f e = f a:=by
 simp
theorem Zak {α κ μ:Type} [DecidableEq κ] [DecidableEq μ] {f:α→κ} {g:α→μ}:∀ (L E:List α),(∀ a ∈ E ++ L,∀ b ∈ E ++ L,f a = f b→g a = g b)→news g E L ≤ news f E L
 | [],E,_ => Nat.le_refl _
 | a :: L,E,h => by
  have ih:=Zak (f:=f) (g:=g) L (E ++ [a]) (by simpa using h)
  have h1:E.any (fun e => decide (f e = f a)) = true→E.any (fun e => decide (g e = g a)) = true:=by
   rw [Zal,Zal]
   rintro ⟨e,he,hf⟩
   exact ⟨e,he,h e (by simp [he]) a (by simp) hf⟩
  simp only [news]
  by_cases hf:E.any (fun e => decide (f e = f a)) = true
  ·rw [if_pos hf,if_pos (h1 hf)]; omega
  ·rw [if_neg hf]
   split <;> omega
theorem Zf7 {α κ μ:Type} [DecidableEq κ] [DecidableEq μ] {f:α→κ} {g:α→μ}:∀ (L E:List α),(∀ a ∈ E ++ L,∀ b ∈ E ++ L,f a = f b→g a = g b)→news g E L = news f E L →
  (∀ a ∈ E,∀ b ∈ E,g a = g b→f a = f b)→∀ a ∈ E ++ L,∀ b ∈ E ++ L,g a = g b→f a = f b
 | [],E,_,_,hE => by simpa using hE
 | a :: L,E,h,he,hE => by
  have hm:=Zak (f:=f) (g:=g) L (E ++ [a]) (by simpa using h)
  have h1:E.any (fun e => decide (f e = f a)) = true→E.any (fun e => decide (g e = g a)) = true:=by
   rw [Zal,Zal]
   rintro ⟨e,he,hf⟩
   exact ⟨e,he,h e (by simp [he]) a (by simp) hf⟩
  simp only [news] at he
  have hkey:news g (E ++ [a]) L = news f (E ++ [a]) L∧(E.any (fun e => decide (g e = g a)) = true→E.any (fun e => decide (f e = f a)) = true):=by
   by_cases hf:E.any (fun e => decide (f e = f a)) = true
   ·rw [if_pos hf,if_pos (h1 hf)] at he
    exact ⟨by omega,fun _ => hf⟩
   ·rw [if_neg hf] at he
    by_cases hg:E.any (fun e => decide (g e = g a)) = true
    ·rw [if_pos hg] at he
     omega
    ·rw [if_neg hg] at he
     exact ⟨by omega,fun h => (hg h).elim⟩
  obtain ⟨e1,e2⟩:=hkey
  rw [Zal,Zal] at e2
  have hone:∀ x ∈ E,g x = g a→f x = f a:=by
   intro x hx hg
   obtain ⟨e,he,hf⟩:=e2 ⟨x,hx,hg⟩
   have:=h e (by simp [he]) a (by simp) hf
   rw [← hf]
   exact hE x hx e he (hg.trans this.symm)
  have ih:=Zf7 (f:=f) (g:=g) L (E ++ [a]) (by simpa using h) e1 (by
   intro x hx y hy hg
   simp at hx hy
   rcases hx with hx | rfl
   ·rcases hy with hy | rfl
    ·exact hE x hx y hy hg
    ·exact hone x hx hg
   ·rcases hy with hy | rfl
    ·exact (hone y hy hg.symm).symm
    ·rfl)
  simpa using ih
theorem Zk7 {now:List Int} {nds:List (List UInt8 × List Int)}:∀ (L E:List Nat) (x:List Key × List Int),(∀ k,k ∈ x.1 ↔ ∃ e ∈ E,keyA now nds e = k) →
  (L.foldl (Z4v now nds) x).1.length = x.1.length + news (keyA now nds) E L
 | [],E,x,_ => rfl
 | a :: L,E,x,h => by
  rw [List.foldl_cons,Zk7 L (E ++ [a]) (Z4v now nds x a)]
  ·show (addK x.1 (keyA now nds a)).length + _ = _
   simp only [news]
   by_cases hm:keyA now nds a ∈ x.1
   ·have h2:=(Zal (f:=keyA now nds) (E:=E) (a:=a)).2 ((h _).1 hm)
    rw [if_pos h2]
    unfold addK
    rw [if_pos hm]
    omega
   ·have h2:¬ E.any (fun e => decide (keyA now nds e = keyA now nds a)) = true:=fun hh => hm ((h _).2 (Zal.1 hh))
    rw [if_neg h2]
    unfold addK
    rw [if_neg hm]
    simp
    omega
  ·intro k
   show k ∈ addK x.1 (keyA now nds a) ↔ _
   unfold addK
   split
   ·rename_i hm
    rw [h]
    constructor
    ·rintro ⟨e,he,hk⟩
     exact ⟨e,by simp [he],hk⟩
    ·rintro ⟨e,he,hk⟩
     simp at he
     rcases he with he | rfl
     ·exact ⟨e,he,hk⟩
     ·obtain ⟨e',he',hk'⟩:=(h _).1 hm
      exact ⟨e',he',hk'.trans hk⟩
   ·simp only [List.mem_append,List.mem_singleton]
    rw [h]
    constructor
    ·rintro (⟨e,he,hk⟩ | rfl)
     ·exact ⟨e,.inl he,hk⟩
     ·exact ⟨a,.inr rfl,rfl⟩
    ·rintro ⟨e,he | rfl,hk⟩
     ·exact .inl ⟨e,he,hk⟩
     ·exact .inr hk.symm
theorem Z56 (nds:List (List UInt8 × List Int)) (L:List Nat) (r:Nat):cntI nds L (r + 1) = news (keyA (nowI nds L r) nds) [] L:=by
 show (Z0m (nowI nds L r) nds L).1.length = _
 unfold Z0m
 rw [Zk7 L [] _ (by simp)]
 simp
structure Closed (nds:List (List UInt8 × List Int)) (L:List Nat):Prop where
 lt:∀ a ∈ L,a < nds.length
 kids:∀ a ∈ L,∀ x,nds[a]? = some x→x.2.length ≤ 4∧∀ k ∈ x.2,k.toNat ∈ L
def sim (nds:List (List UInt8 × List Int)):Nat→Nat→Nat→Prop
 | 0,_,_ => True
 | r + 1,a,b => ∃ x y,nds[a]? = some x∧nds[b]? = some y∧x.1 = y.1∧x.2.length = y.2.length∧∀ (j:Nat) (k m:Int),x.2[j]? = some k→y.2[j]? = some m→sim nds r k.toNat m.toNat
section
variable {nds:List (List UInt8 × List Int)} {L:List Nat} (hC:Closed nds L)
include hC
theorem Z9b:∀ (r a b:Nat),a ∈ L→b ∈ L→((nowI nds L r)[a]? = (nowI nds L r)[b]? ↔ sim nds r a b)
 | 0,a,b,ha,hb => by simp [nowI,sim,hC.lt a ha,hC.lt b hb]
 | r + 1,a,b,ha,hb => by
  have hna:=hC.lt a ha
  have hnb:=hC.lt b hb
  have hx:nds[a]? = some nds[a]:=List.getElem?_eq_getElem hna
  have hy:nds[b]? = some nds[b]:=List.getElem?_eq_getElem hnb
  obtain ⟨h4,hkx⟩:=hC.kids a ha _ hx
  obtain ⟨h4',hky⟩:=hC.kids b hb _ hy
  show (Z0m (nowI nds L r) nds L).2[a]? = (Z0m (nowI nds L r) nds L).2[b]? ↔ _
  rw [Zef ha hb hna hnb,Zjt hx hy h4]
  have hj:∀ (j:Nat) (k m:Int),nds[a].2[j]? = some k→nds[b].2[j]? = some m →
    ((((nds[a].2[j]?).bind fun k => (nowI nds L r)[k.toNat]?).getD 0 = ((nds[b].2[j]?).bind fun k => (nowI nds L r)[k.toNat]?).getD 0) ↔ sim nds r k.toNat m.toNat):=by
   intro j k m hk hm
   have mk:=hkx k (List.mem_of_getElem? hk)
   have mm:=hky m (List.mem_of_getElem? hm)
   rw [hk,hm,← Z9b r _ _ mk mm]
   simp only [Option.bind_some]
   have lx:k.toNat < (nowI nds L r).length:=by rw [Z63]; exact hC.lt _ mk
   have ly:m.toNat < (nowI nds L r).length:=by rw [Z63]; exact hC.lt _ mm
   rw [List.getElem?_eq_getElem lx,List.getElem?_eq_getElem ly]
   simp
  constructor
  ·rintro ⟨e1,e2,e3⟩
   refine ⟨_,_,hx,hy,e1,e2,fun j k m hk hm => (hj j k m hk hm).1 (e3 j ?_)⟩
   exact (List.getElem?_eq_some_iff.1 hk).1
  ·rintro ⟨x,y,hx',hy',e1,e2,e3⟩
   rw [hx] at hx'
   rw [hy] at hy'
   cases hx'
   cases hy'
   refine ⟨e1,e2,fun j hj' => ?_⟩
   have gk:nds[a].2[j]? = some nds[a].2[j]:=List.getElem?_eq_getElem hj'
   have gm:nds[b].2[j]? = some (nds[b].2[j]'(by omega)):=List.getElem?_eq_getElem (by omega)
   exact (hj j _ _ gk gm).2 (e3 j _ _ gk gm)
theorem Z5p (r a b:Nat) (ha:a ∈ L) (hb:b ∈ L):keyA (nowI nds L r) nds a = keyA (nowI nds L r) nds b ↔ sim nds (r + 1) a b:=by
 rw [← Z9b hC (r + 1) a b ha hb]
 exact (Zef ha hb (hC.lt a ha) (hC.lt b hb)).symm
theorem Zdz {r a b:Nat} (ha:a ∈ L) (hb:b ∈ L) (h:sim nds (r + 1) a b):sim nds r a b :=
 (Z9b hC r a b ha hb).1 (Zeu hC.lt hC.kids r a b ha hb ((Z9b hC (r + 1) a b ha hb).2 h))
theorem Zvi {r m a b:Nat} (ha:a ∈ L) (hb:b ∈ L) (hm:m ≤ r) (h:sim nds r a b):sim nds m a b:=by
 induction r with
 | zero =>
  have:m = 0:=by omega
  subst this
  exact h
 | succ r ih =>
  rcases Nat.lt_or_ge m (r + 1) with h1 | h1
  ·exact ih (by omega) (Zdz hC ha hb h)
  ·have:m = r + 1:=by omega
   subst this
   exact h
theorem Zsg (r:Nat):cntI nds L r ≤ cntI nds L (r + 1):=by
 cases r with
 | zero => exact Nat.zero_le _
 | succ r =>
  rw [Z56,Z56]
  refine Zak L [] fun a ha b hb h => ?_
  simp at ha hb
  exact (Z5p hC r a b ha hb).2 (Zdz hC ha hb ((Z5p hC (r + 1) a b ha hb).1 h))
theorem Zve (r:Nat):cntI nds L r ≤ L.length:=by
 cases r with
 | zero => exact Nat.zero_le _
 | succ r => rw [Z56]; exact Zpo _ _ _
theorem Zi7:∀ (r:Nat),(∀ m,m < r→cntI nds L (m + 1) ≠ cntI nds L m)→r ≤ cntI nds L r
 | 0,_ => Nat.zero_le _
 | r + 1,h => by
  have h1:=Zi7 r fun m hm => h m (by omega)
  have h2:=Zsg hC r
  have h3:=h r (by omega)
  omega
theorem Zdo:∃ R,cntI nds L (R + 1) = cntI nds L R∧∀ r,r < R→cntI nds L (r + 1) ≠ cntI nds L r:=by
 have hex:∃ R,R ≤ L.length∧cntI nds L (R + 1) = cntI nds L R:=by
  refine Classical.byContradiction fun hn => ?_
  have h1:=Zi7 hC (L.length + 1) fun m hm he => hn ⟨m,by omega,he⟩
  have h2:=Zve hC (L.length + 1)
  omega
 obtain ⟨R,_,hR⟩:=hex
 revert hR
 refine Nat.strongRecOn (motive:=fun R => cntI nds L (R + 1) = cntI nds L R→_) R fun n ih hn => ?_
 by_cases h:∃ r,r < n∧cntI nds L (r + 1) = cntI nds L r
 ·obtain ⟨r,hr,he⟩:=h
  exact ih r hr he
 ·exact ⟨n,hn,fun r hr he => h ⟨r,hr,he⟩⟩
theorem Zkz {R:Nat} (hE:cntI nds L (R + 1) = cntI nds L R):∀ (d a b:Nat),a ∈ L→b ∈ L→sim nds R a b→sim nds (R + d) a b
 | 0,a,b,_,_,h => h
 | d + 1,a,b,ha,hb,h => by
  have hone:∀ a b,a ∈ L→b ∈ L→sim nds R a b→sim nds (R + 1) a b:=by
   intro a b ha hb h
   cases R with
   | zero =>
    have h0:cntI nds L (0 + 1) = 0:=hE
    rw [Z56] at h0
    cases L with
    | nil => cases ha
    | cons c L => simp [news] at h0
   | succ r =>
    rw [Z56,Z56] at hE
    have:=Zf7 (f:=keyA (nowI nds L (r + 1)) nds) (g:=keyA (nowI nds L r) nds) L [] (by
     intro a ha b hb h
     simp at ha hb
     exact (Z5p hC r a b ha hb).2 (Zdz hC ha hb ((Z5p hC (r + 1) a b ha hb).1 h))) hE.symm (by simp) a (by simpa using ha) b (by simpa using hb)
    exact (Z5p hC (r + 1) a b ha hb).1 (this ((Z5p hC r a b ha hb).2 h))
  have h1:=hone a b ha hb h
  obtain ⟨x,y,hx,hy,e1,e2,e3⟩:=h1
  refine ⟨x,y,hx,hy,e1,e2,fun j k m hk hm => ?_⟩
  exact Zkz hE d _ _ ((hC.kids a ha x hx).2 k (List.mem_of_getElem? hk)) ((hC.kids b hb y hy).2 m (List.mem_of_getElem? hm)) (e3 j k m hk hm)
theorem Zh2 {R:Nat} (hE:cntI nds L (R + 1) = cntI nds L R) {a b:Nat} (ha:a ∈ L) (hb:b ∈ L):(nowI nds L (R + 1))[a]? = (nowI nds L (R + 1))[b]? ↔ ∀ r,sim nds r a b:=by
 rw [Z9b hC (R + 1) a b ha hb]
 constructor
 ·intro h r
  have h1:=Zkz hC hE r a b ha hb (Zdz hC ha hb h)
  exact Zvi hC ha hb (by omega) h1
 ·intro h
  exact h _
end
theorem Zib {now:List Int} {nds:List (List UInt8 × List Int)}:∀ (L:List Nat) (x:List Key × List Int) (a:Nat),a ∉ L→(L.foldl (Z4v now nds) x).2[a]? = x.2[a]?
 | [],x,a,_ => rfl
 | b :: L,x,a,h => by
  simp at h
  rw [List.foldl_cons,Zib L _ a h.2]
  show (x.2.set b _)[a]? = _
  rw [List.getElem?_set_ne (fun e => h.1 e.symm)]
theorem Zk8 (nds:List (List UInt8 × List Int)) (L:List Nat) (r a:Nat) (ha:a < nds.length) (h:a ∉ L):(nowI nds L (r + 1))[a]? = some (-1):=by
 show (Z0m (nowI nds L r) nds L).2[a]? = _
 unfold Z0m
 rw [Zib L _ a h]
 simp [ha]
end Go.Proofs
end
section
/- Merge: what it is made of,in plain and in parts. -/
open Go Go.AM
namespace Go.Proofs
set_option maxRecDepth 100000
/-! ### In plain -/
open Classical in
/-- The classes at the end. -/
noncomputable def clsF (nds:List (List UInt8 × List Int)) (L:List Nat):List Int:=if h:Closed nds L then nowI nds L (Classical.choose (Zdo h) + 1) else []
theorem Zbe {nds:List (List UInt8 × List Int)} {L:List Nat} (h:Closed nds L):∃ R,clsF nds L = nowI nds L (R + 1)∧cntI nds L (R + 1) = cntI nds L R∧∀ r,r < R→cntI nds L (r + 1) ≠ cntI nds L r:=by
 refine ⟨Classical.choose (Zdo h),?_,Classical.choose_spec (Zdo h)⟩
 unfold clsF
 rw [dif_pos h]
def Z0d (cs:List CV):List (List UInt8 × List Int):=cs.map fun c => if c.taken = true then (c.name,c.kids) else ([],[])
def Z0k (cs:List CV) (i:Nat):List Nat:=(List.range i).filter fun j => Z11 cs (j:Int)
theorem Z22 {cs:List CV} {j:Nat} {c:CV} (h:cs[j]? = some c):Z11 cs (j:Int) = c.taken:=by
 unfold Z11
 simp [h]
theorem Z80 {cs:List CV} {i:Nat} {c:CV} (h:cs[i]? = some c) (hc:c.taken = true):Z0k cs (i + 1) = Z0k cs i ++ [i]:=by
 unfold Z0k
 rw [List.range_succ,List.filter_append]
 simp [Z22 h,hc]
theorem Z9w {cs:List CV} {i:Nat} {c:CV} (h:cs[i]? = some c) (hc:c.taken = false):Z0k cs (i + 1) = Z0k cs i:=by
 unfold Z0k
 rw [List.range_succ,List.filter_append]
 simp [Z22 h,hc]
theorem Z3v {cs:List CV} {i a:Nat}:a ∈ Z0k cs i ↔ a < i∧Z11 cs (a:Int) = true:=by
 unfold Z0k
 simp
structure HOk (cs:List CV):Prop where
 kids4:∀ c ∈ cs,c.kids.length ≤ 4
 kids:∀ c ∈ cs,c.taken = true→∀ k ∈ c.kids,Z11 cs k = true
theorem Z36 {cs:List CV} {a:Nat} {c:CV} (h:cs[a]? = some c):(Z0d cs)[a]? = some (if c.taken = true then (c.name,c.kids) else ([],[])):=by
 unfold Z0d
 rw [List.getElem?_map,h]
 rfl
theorem Z0t (cs:List CV):(Z0d cs).length = cs.length:=by simp [Z0d]
theorem HOk.closed {cs:List CV} (h:HOk cs):Closed (Z0d cs) (Z0k cs cs.length):=by
 refine ⟨fun a ha => ?_,fun a ha x hx => ?_⟩
 ·rw [Z0t]
  exact (Z3v.1 ha).1
 ·obtain ⟨h1,h2⟩:=Z3v.1 ha
  have hc:cs[a]? = some cs[a]:=List.getElem?_eq_getElem h1
  rw [Z22 hc] at h2
  rw [Z36 hc,if_pos h2] at hx
  cases hx
  refine ⟨h.kids4 _ (List.getElem_mem h1),fun k hk => ?_⟩
  have h3:=h.kids _ (List.getElem_mem h1) h2 k hk
  obtain ⟨h0,d,hd,ht,hlt⟩:=Z2m h3
  rw [Z3v]
  refine ⟨hlt,?_⟩
  rw [Z22 hd]
  exact ht
theorem HOk.Zb6 {cs:List CV} (h:HOk cs):∀ (a:Nat) nd,(Z0d cs)[a]? = some nd→nd.2.length ≤ 4∧∀ k ∈ nd.2,0 ≤ k∧k < (Z0d cs).length:=by
 intro a nd hnd
 have h1:a < cs.length:=by have:=(List.getElem?_eq_some_iff.1 hnd).1; rwa [Z0t] at this
 have hc:cs[a]? = some cs[a]:=List.getElem?_eq_getElem h1
 rw [Z36 hc] at hnd
 by_cases ht:cs[a].taken = true
 ·rw [if_pos ht] at hnd
  cases hnd
  refine ⟨h.kids4 _ (List.getElem_mem h1),fun k hk => ?_⟩
  obtain ⟨h0,d,hd,_,hlt⟩:=Z2m (h.kids _ (List.getElem_mem h1) ht k hk)
  rw [Z0t]
  exact ⟨h0,by omega⟩
 ·rw [if_neg ht] at hnd
  cases hnd
  exact ⟨by simp,by simp⟩
def Z4w (cls:List Int) (cs:List CV):List CV:=cs.map fun c => if c.taken = true then { c with kids:=c.kids.map (toC cls) } else c
def addH (x:List CV) (k:Nat) (d:Int):List CV:=match x[k]? with
 | some c => x.set k { c with held:=IntKind.wrap .i64 (c.held + d) }
 | none => x
def Z1q (cls:List Int) (cs:List CV):Nat→List CV
 | 0 => Z4w cls cs
 | i + 1 => match cs[i]? with
  | some c => if c.taken = true∧toC cls (i:Int) ≠ (i:Int) then addH (Z1q cls cs i) (toC cls (i:Int)).toNat c.held else Z1q cls cs i
  | none => Z1q cls cs i
def Z2h (cls:List Int) (cs:List CV) (i:Nat):List Int:=((Z0k cs i).filter fun (j:Nat) => decide (toC cls (j:Int) ≠ (j:Int))).map fun (j:Nat) => (j:Int)
def Z0v:CV:=⟨false,[],[],0⟩
def relC (cs:List CV) (gone:List Int):List CV:=gone.foldl (fun l k => l.set k.toNat Z0v) cs
noncomputable def Zdg (cs:List CV):Int × Int × List CV :=
 if (Z1q (clsF (Z0d cs) (Z0k cs cs.length)) cs cs.length).any (fun c => decide (1000 < c.held)) = true then (0,12,cs)
 else ((Z2h (clsF (Z0d cs) (Z0k cs cs.length)) cs cs.length).length,0,relC (Z1q (clsF (Z0d cs) (Z0k cs cs.length)) cs cs.length) (Z2h (clsF (Z0d cs) (Z0k cs cs.length)) cs cs.length))
theorem Zur (x:List CV) (k:Nat) (d:Int):(addH x k d).length = x.length:=by
 unfold addH
 split <;> simp
theorem Z2w (cls:List Int) (cs:List CV):∀ i,(Z1q cls cs i).length = cs.length
 | 0 => by simp [Z1q,Z4w]
 | i + 1 => by
  unfold Z1q
  split
  ·split
   ·rw [Zur,Z2w cls cs i]
   ·exact Z2w cls cs i
  ·exact Z2w cls cs i
theorem Zbw:∀ (gone:List Int) (cs:List CV),(relC cs gone).length = cs.length
 | [],cs => rfl
 | k :: r,cs => by
  show (relC (cs.set k.toNat Z0v) r).length = _
  rw [Zbw r]
  simp
theorem Zhx {cls:List Int} {i:Nat} {c:Int} (h:cls[i]? = some c):∃ j:Nat,toC cls (i:Int) = j∧j ≤ i∧cls[j]? = some c∧∀ j' d,j' < j→cls[j']? = some d→d ≠ c:=by
 have hex:∃ j,j ≤ i∧cls[j]? = some c∧∀ j' d,j' < j→cls[j']? = some d→d ≠ c:=by
  revert h
  refine Nat.strongRecOn (motive:=fun i => cls[i]? = some c→∃ j,j ≤ i∧cls[j]? = some c∧∀ j' d,j' < j→cls[j']? = some d→d ≠ c) i fun n ih h => ?_
  by_cases hl:∃ j,j < n∧cls[j]? = some c
  ·obtain ⟨j,h1,h2⟩:=hl
   obtain ⟨j',h3,h4⟩:=ih j h1 h2
   exact ⟨j',by omega,h4⟩
  ·exact ⟨n,Nat.le_refl _,h,fun j' d hj hd e => hl ⟨j',hj,by rw [hd,e]⟩⟩
 obtain ⟨j,h1,h2,h3⟩:=hex
 refine ⟨j,?_,h1,h2,h3⟩
 unfold toC
 simp only [Int.toNat_natCast,h]
 exact Zcv (fun j' d hj hd => by simpa using fun e:c = d => h3 j' d hj hd e.symm) h2 (by simp)
theorem Zoa {cls:List Int} {cs:List CV} {i:Nat} {c:CV} (h:cs[i]? = some c) (ht:c.taken = true) (hn:toC cls (i:Int) ≠ (i:Int)):Z2h cls cs (i + 1) = Z2h cls cs i ++ [(i:Int)]:=by
 unfold Z2h
 rw [Z80 h ht,List.filter_append]
 simp [hn]
theorem Zo1 {cls:List Int} {cs:List CV} {i:Nat} {c:CV} (h:cs[i]? = some c) (ht:c.taken = true) (hn:toC cls (i:Int) = (i:Int)):Z2h cls cs (i + 1) = Z2h cls cs i:=by
 unfold Z2h
 rw [Z80 h ht,List.filter_append]
 simp [hn]
theorem Zoe {cls:List Int} {cs:List CV} {i:Nat} {c:CV} (h:cs[i]? = some c) (ht:c.taken = false):Z2h cls cs (i + 1) = Z2h cls cs i:=by
 unfold Z2h
 rw [Z9w h ht]
theorem Ziv {cls:List Int} {cs:List CV} {i:Nat} {k:Int}:k ∈ Z2h cls cs i ↔ 0 ≤ k∧k < i∧Z11 cs k = true∧toC cls k ≠ k:=by
 unfold Z2h
 simp only [List.mem_map,List.mem_filter,Z3v,decide_eq_true_eq]
 constructor
 ·rintro ⟨j,⟨⟨h1,h2⟩,h3⟩,rfl⟩
  exact ⟨by omega,by omega,h2,h3⟩
 ·rintro ⟨h0,h1,h2,h3⟩
  have e:((k.toNat:Nat):Int) = k:=by omega
  exact ⟨k.toNat,⟨⟨by omega,by rw [e]; exact h2⟩,by rw [e]; exact h3⟩,e⟩
theorem Zie (cls:List Int) (cs:List CV) (i:Nat):(Z2h cls cs i).length ≤ i:=by
 unfold Z2h Z0k
 rw [List.length_map]
 refine Nat.le_trans (List.length_filter_le _ _) (Nat.le_trans (List.length_filter_le _ _) (by simp))
/-! ### As they lie -/
theorem Zjk {cs:List CV} {V:List AVal} (h:V.length = cs.length):Zb1 (rcs cs V) (Z0j cs) = Z0d cs:=by
 refine List.ext_getElem? fun j => ?_
 by_cases hj:j < cs.length
 ·have h1:cs[j]? = some cs[j]:=List.getElem?_eq_getElem hj
  have h2:V[j]? = some (V[j]'(by omega)):=List.getElem?_eq_getElem (by omega)
  rw [Z36 h1]
  unfold Zb1 Z0j
  simp [Z18 h1 h2,h1]
 ·rw [List.getElem?_eq_none (by simp [Zb1,Z17 h]; omega),List.getElem?_eq_none (by rw [Z0t]; omega)]
theorem Zk5 {cs:List CV} {V:List AVal} (h:V.length = cs.length) (i:Nat):takI (rcs cs V) i = Z0k cs i:=by
 unfold takI Z0k
 refine List.filter_congr fun j _ => ?_
 by_cases hj:j < cs.length
 ·have h1:cs[j]? = some cs[j]:=List.getElem?_eq_getElem hj
  have h2:V[j]? = some (V[j]'(by omega)):=List.getElem?_eq_getElem (by omega)
  rw [Z18 h1 h2,Z22 h1]
 ·have h1:cs[j]? = none:=List.getElem?_eq_none (by omega)
  have h2:(rcs cs V)[j]? = none:=List.getElem?_eq_none (by rw [Z17 h]; omega)
  rw [h2]
  unfold Z11
  simp [h1]
theorem Zwb (cls:List Int) (cs:List CV) (V:List AVal):rcs (Z4w cls cs) V = rcs cs V:=by
 unfold rcs Z4w
 rw [List.zipWith_map_left]
 congr 1
 funext d kv
 split <;> rfl
theorem Zpd:∀ {cs:List CV} {V:List AVal},V.length = cs.length→(rcs cs V).any (fun c => decide (1000 < c.held)) = cs.any (fun c => decide (1000 < c.held))
 | [],V,_ => by simp [rcs]
 | c :: cs,[],h => by simp at h
 | c :: cs,v :: V,h => by
  have:=Zpd (cs:=cs) (V:=V) (by simpa using h)
  simp [rcs] at this ⊢
  rw [this]
theorem Zfg:∀ (l:List RC) (i:Nat) (c:RC) (d:Int),l[i]? = some c→lay (encs l) (i * 4 + 3) [.int .i64 d] = encs (l.set i { c with held:=d })
 | [],i,c,d,h => by simp at h
 | e :: l,0,c,d,h => by
  simp at h
  subst h
  have e1:encs (e :: l) = e.enc ++ encs l:=rfl
  have e2:encs ((e :: l).set 0 { e with held:=d }) = (RC.enc { e with held:=d }) ++ encs l:=rfl
  rw [e1,e2]
  simp [lay,RC.enc]
 | e :: l,i + 1,c,d,h => by
  have e1:encs (e :: l) = e.enc ++ encs l:=rfl
  have e2:encs ((e :: l).set (i + 1) { c with held:=d }) = e.enc ++ encs (l.set i { c with held:=d }):=rfl
  have ih:=Zfg l i c d (by simpa using h)
  have hd:e.enc.length = 4:=rfl
  have e3:(i + 1) * 4 + 3 = e.enc.length + (i * 4 + 3):=by rw [hd]; omega
  rw [e1,e2,← ih]
  unfold lay
  rw [e3,List.take_length_add_append,Nat.add_assoc,List.drop_length_add_append]
  simp
theorem Zvy {cs:List CV} {V:List AVal} {k:Nat} {c:CV} {kv:AVal} (hc:cs[k]? = some c) (hv:V[k]? = some kv) (d:Int):(rcs cs V).set k { taken:=c.taken,name:=c.name,kv:=kv,held:=IntKind.wrap .i64 (c.held + d) } = rcs (addH cs k d) V:=by
 unfold addH
 rw [hc]
 simp only
 have hV:V.set k kv = V:=by
  refine List.ext_getElem? fun x => ?_
  rw [List.getElem?_set]
  by_cases e:k = x
  ·subst e
   rw [if_pos rfl,hv,if_pos (List.getElem?_eq_some_iff.1 hv).1]
  ·rw [if_neg e]
 have:=Z9f (cs:=cs) (V:=V) (i:=k) (d:={ c with held:=IntKind.wrap .i64 (c.held + d) }) (kv:=kv)
 rw [hV] at this
 exact this
theorem Zpr {cs:List CV} {V:List AVal} {kvs:Nat→AVal} (h:V.length = cs.length):cpI (rcs cs V) kvs cs.length = rcs cs ((List.range cs.length).map kvs):=by
 refine List.ext_getElem? fun j => ?_
 by_cases hj:j < cs.length
 ·have h1:cs[j]? = some cs[j]:=List.getElem?_eq_getElem hj
  have h2:V[j]? = some (V[j]'(by omega)):=List.getElem?_eq_getElem (by omega)
  have h3:((List.range cs.length).map kvs)[j]? = some (kvs j):=by rw [List.getElem?_map,List.getElem?_range hj]; rfl
  rw [Zd6 (Z18 h1 h2),Z18 h1 h3]
  simp [hj]
 ·rw [List.getElem?_eq_none (by rw [Z9l,Z17 h]; omega),List.getElem?_eq_none (by rw [Z17 (by simp)]; omega)]
theorem Zhp:∀ (gone:List Int) {cs:List CV} {V:List AVal} {m:Lets},V.length = cs.length→Z0x (cs.map CV.kids) V m→(∀ k ∈ gone,0 ≤ k∧k < cs.length) →
  ∃ V' m' d,rel (rcs cs V) gone = rcs (relC cs gone) V'∧Z0x ((relC cs gone).map CV.kids) V' m'∧m.Perm (m' ++ d)
 | [],cs,V,m,_,h,_ => ⟨V,m,[],rfl,h,by simp⟩
 | k :: gone,cs,V,m,hV,h,hin => by
  obtain ⟨h0,h1⟩:=hin k (by simp)
  have hlt:k.toNat < cs.length:=by omega
  obtain ⟨kv,m1,m2,g1,g2,g3,g4⟩:=h.at (i:=k.toNat) (ks:=cs[k.toNat].kids) (by rw [List.getElem?_map,List.getElem?_eq_getElem hlt]; rfl)
  have h2:=g4 [] .nilSlice [] (.inl ⟨rfl,rfl,rfl⟩)
  have h3:(cs.map CV.kids).set k.toNat [] = (cs.set k.toNat Z0v).map CV.kids:=by rw [List.map_set]; rfl
  rw [h3] at h2
  obtain ⟨V',m',d,e1,e2,e3⟩:=Zhp gone (cs:=cs.set k.toNat Z0v) (V:=V.set k.toNat .nilSlice) (by simpa using hV) h2 (fun k' hk' => by simpa using hin k' (by simp [hk']))
  refine ⟨V',m',d ++ m1,?_,e2,?_⟩
  ·rw [← show rcs (relC (cs.set k.toNat Z0v) gone) V' = rcs (relC cs (k :: gone)) V' from rfl,← e1]
   show rel ((rcs cs V).set k.toNat Zgd) gone = _
   have:=Z9f (cs:=cs) (V:=V) (i:=k.toNat) (d:=Z0v) (kv:=.nilSlice)
   rw [← this]
   rfl
  ·refine g3.trans ?_
   refine (List.perm_append_comm (l₁:=m1) (l₂:=m2)).trans ?_
   rw [← List.append_assoc]
   exact (by simpa using e3:m2.Perm (m' ++ d)).append (List.Perm.refl m1)
end Go.Proofs
end
section
/- Contracts again,said of blocks that lie apart. -/
open Go Go.AM
namespace Go.Proofs
set_option maxRecDepth 100000
theorem KidV.ints {s:St} {kv:AVal} {ks:List Int} (h:KidV s kv ks) (hw:s.Wf):Z0c s kv ks:=by
 rcases h with h | ⟨q,c,rfl,h⟩
 ·exact .inl h
 ·exact .inr ⟨q,0,c,_,rfl,Z09 hw h,Z08 h,by simp,fun i k hk => by simp [hk]⟩
theorem Z37 {s:St} {b:Pos} {ks:List Int} (hw:s.Wf) (h:s.own b = some (ints ks)) (c:Cap):Z0c s (.slice b 0 ks.length c) ks:=KidV.ints (.inr ⟨b,c,rfl,h⟩) hw
def Z1w (lv:AVal) (g:List Int) (m:Lets):Prop:=(g = []∧lv = .nilSlice∧m = []) ∨ ∃ q,g ≠ []∧lv = .slice q 0 g.length (.opn 1)∧m = [(q,C (ints g))]
theorem Z1w.len {lv:AVal} {g:List Int} {m:Lets} (h:Z1w lv g m):Z1b lv = some g.length:=by
 rcases h with ⟨rfl,rfl,_⟩ | ⟨q,_,rfl,_⟩ <;> rfl
theorem Z1w.ntup {lv:AVal} {g:List Int} {m:Lets} (h:Z1w lv g m):∀ t,¬ lv = .tup t:=by
 rintro t rfl
 have:=h.len
 cases this
theorem Z1w.cells {lv:AVal} {g:List Int} {m:Lets} (h:Z1w lv g m):lv.cells = [lv]:=by
 rcases h with ⟨rfl,rfl,_⟩ | ⟨q,_,rfl,_⟩ <;> rfl
theorem Z1w.row {lv:AVal} {g:List Int} {m:Lets} (h:Z1w lv g m):RowR lv g m:=by
 rcases h with ⟨h1,rfl,h2⟩ | ⟨q,h1,h2,h3⟩
 ·exact .inl ⟨h1,rfl,h2⟩
 ·exact .inr ⟨q,_,h1,h2,h3⟩
theorem RowR.kid {s:St} {kv:AVal} {ks:List Int} {m:Lets} (h:RowR kv ks m) (ho:∀ x ∈ m,s.obj x.1 = some x.2):KidV s kv ks:=by
 rcases h with ⟨h1,h2,h3⟩ | ⟨q,c,h1,h2,rfl⟩
 ·exact .inl ⟨h2,h1⟩
 ·exact .inr ⟨q,c,h2,Z0n (ho (q,C (ints ks)) (by simp))⟩
section
variable {s0 s:St} {W:Pos→Prop} {m r:Lets}
theorem Ctx.chg0 {b:Pos} {x y:AObj} (h:Ctx s0 W ((b,x) :: m) s) {s':St} (k:Same [b] s s') (hy:s'.obj b = some y):Ctx s0 W ((b,y) :: m) s':=by
 have hn:=h.nodup
 rw [List.map_cons,List.nodup_cons] at hn
 refine (h.tail.same k ?_ ?_).add hy (h.free (b,x) (by simp)) hn.1
 ·intro c hc ho
  simp at hc
  subst hc
  exact h.free (c,x) (by simp) ho
 ·intro z hz hb
  simp at hb
  exact hn.1 (List.mem_map.2 ⟨z,hz,hb⟩)
theorem Ctx.chg {b:Pos} {x y:AObj} (h:Ctx s0 W m s) (i:Nat) (hi:m[i]? = some (b,x)) {s':St} (k:Same [b] s s') (hy:s'.obj b = some y):Ctx s0 W (m.set i (b,y)) s' :=
 ((h.perm (Z89 m i _ hi)).chg0 k hy).perm (set_perm m i _ _ hi)
theorem Z7i {pre mg:Lets} {lv:AVal} {g:List Int} {x:Int} {Q:AVal→St→Prop} (h:Ctx s0 W (pre ++ (mg ++ r)) s) (hg:Z1w lv g mg) (hs:g.length ≤ 1000)
  (q:∀ lv' mg' s',Z1w lv' (g ++ [x]) mg'→Ctx s0 W (pre ++ (mg' ++ r)) s'→Q lv' s'):appP (1,8) lv [.int .i64 x] 1 s Q:=by
 rcases hg with ⟨rfl,rfl,rfl⟩ | ⟨b,hne,rfl,rfl⟩
 ·simp only [appP,Z3t]
  rw [if_neg (by decide)]
  refine ⟨by unfold Z0h; omega,?_⟩
  have:=h.alloc (C [.int .i64 x])
  refine q (.slice s.next 0 1 (.opn 1)) [(s.next,C (ints [x]))] _ (.inr ⟨_,by simp,rfl,rfl⟩) (this.perm ?_)
  simp only [List.nil_append]
  exact List.perm_middle.symm
 ·have hb:s.own b = some (ints g):=Z0n (h.own (b,C (ints g)) (by simp))
  have hl:g.length ≠ 0:=by simpa using hne
  have h1:Ctx s0 W ((b,C (ints g)) :: (pre ++ r)) s:=h.perm (by simp)
  have h2:=(h1.put0 .dead).tail.alloc (C (ints g ++ [.int .i64 x]))
  simp only [appP,Z3t]
  rw [if_neg (by decide)]
  refine ⟨trivial,?_⟩
  rw [hb]
  simp only [Z0u]
  rw [if_neg hl,if_neg (by simp)]
  refine ⟨by simp,by unfold Z0h; omega,?_⟩
  have ht:List.take (g.length * 1) (List.drop 0 (ints g)) = ints g:=by rw [List.drop_zero]; exact List.take_of_length_le (by simp)
  rw [ht]
  have hi:ints g ++ [AVal.int .i64 x] = ints (g ++ [x]):=by simp [ints]
  rw [hi] at h2 ⊢
  have hn:(s.put b .dead).next = s.next:=rfl
  refine q (.slice s.next 0 (g.length + 1) (.opn 1)) [(s.next,C (ints (g ++ [x])))] _ (.inr ⟨_,by simp,by simp,rfl⟩) (h2.perm ?_)
  rw [hn]
  exact List.perm_middle.symm
theorem Zas {fr:FI} {t:PT AVal} {Q:Ex→PT AVal→St→Prop} {f:RO} {k k':Nat} {b:MCode} {fi:FInfo} {p B:Pos} {l:List RC} {n:Nat} {m0:Lets} (J:Nat→Lets→Prop) (hn:l.length = n) (hl:n ≤ 400)
  (hx:getO t [] f = some (.fn 87 [] [.ptr B 0])) (hr:fr.round = none) (hfi:funInfo Tryd.prog fr.fn = some fi) (hpl:Z5y fi.ps fi.ntmps [k] = some [some (posOf k)])
  (hp:∀ i m s',J i m→Ctx s0 W m s'→s'.Old p∧s'.cells p = some (encs l))
  (hskip:∀ i c m,l[i]? = some c→c.taken = false→J i m→J (i + 1) m)
  (hbody:∀ (i:Nat) c s1 m Lb X (Wx:Ex→PT AVal→St→Prop),l[i]? = some c→c.taken = true→J i m→Ctx s0 W ((Lb,X) :: (B,C [.slice p 0 n (.lim n)]) :: m) s1 →
   (∀ t s2 m',J (i + 1) m'→Ctx s0 W ((Lb,X) :: (B,C [.slice p 0 n (.lim n)]) :: m') s2→Wx .normal t s2) →
   wp Tryd.prog b { fn:=fr.fn,ntmps:=fi.ntmps,ps:=fi.ps,round:=some Lb } (PT.set (posOf k') (.int .i64 i) (PT.set (posOf k) (.int .i64 i) t)) s1 Wx)
  (h0:J 0 m0) (hc:Ctx s0 W ((B,C [.slice p 0 n (.lim n)]) :: m0) s) (q:∀ s' m,J n m→Ctx s0 W m s'→Q .normal t s') :
  wp Tryd.prog (.range f [k] (.region [.run none (.move (.per (posOf k)))] [some (posOf k')]) b) fr t s Q:=by
 subst hn
 refine AM.Zhr hx (fun l0 e => by rw [hr] at e; cases e) ?_
 have c0:=hc.alloc (.loop { state:=.ready,pending:=none,fn:=fr.fn,tm:=t,params:=[k],assign:=.region [.run none (.move (.per (posOf k)))] [some (posOf k')],body:=b })
 generalize s.alloc (.loop { state:=.ready,pending:=none,fn:=fr.fn,tm:=t,params:=[k],assign:=.region [.run none (.move (.per (posOf k)))] [some (posOf k')],body:=b }) = sA at c0 ⊢
 generalize s.next = Lb at c0 ⊢
 refine Zij (p:=p) (I:=fun i s' => ∃ m,J i m∧Ctx s0 W ((Lb,.loop { state:=.ready,pending:=none,fn:=fr.fn,tm:=t,params:=[k],assign:=.region [.run none (.move (.per (posOf k)))] [some (posOf k')],body:=b }) :: (B,C [.slice p 0 l.length (.lim l.length)]) :: m) s') hl (by simp) ?_ ?_ ?_ ?_ ⟨m0,h0,c0⟩ ?_
 ·rintro i s' ⟨m,hj,hc⟩
  obtain ⟨a,b⟩:=hp i m s' hj hc.tail.tail
  exact ⟨hc.wf,a,hc.oi 1 rfl,b,hc.c 1 rfl⟩
 ·rintro i s' s'' ⟨m,hj,hc⟩ hk
  exact ⟨m,hj,hc.keeps hk⟩
 ·rintro i c s' hci hct ⟨m,hj,hc⟩
  exact ⟨m,hskip i c m hci hct hj,hc⟩
 ·rintro i c s' R hci hct ⟨m,hj,hc⟩ hR
  refine Zcw (pl:=[some (posOf k)]) (tree:=PT.set (posOf k) (.int .i64 i) t) (hc.x 0 rfl) hfi hpl rfl rfl ?_
  refine AM.wp_region ?_
  simp
  refine ⟨_,hc.x 0 rfl,rfl,?_⟩
  refine hbody i c _ m Lb _ _ hci hct hj (hc.put 0 rfl _) fun t2 s2 m' hj' hc' => ?_
  refine ⟨_,hc'.x 0 rfl,?_⟩
  exact hR _ ⟨m',hj',hc'.put 0 rfl _⟩
 ·rintro s2 ⟨m,hj,hc⟩
  refine ⟨_,hc.x 0 rfl,rfl,?_⟩
  exact q _ m hj (hc.put 0 rfl _).tail.tail
end
theorem Zk0 {s:St} {p:Pos} {l:List RC} {n:Nat} {K:Nat→List Int} {Q:AVal→St→Prop} (hn:l.length = n) (hw:s.Wf) (hp:s.Old p) (hc:s.cells p = some (encs l)) (hl:n ≤ 400) (hK:∀ j c,l[j]? = some c→Z0c s c.kv (K j))
  (q:∀ pn lv s',Keeps s s'→NodesG s' pn (Zb1 l K)→Z0c s' lv ((takI l n).map fun (a:Nat) => (a:Int))→Q (.tup [.slice pn 0 n (.lim n),lv]) s'):Z0b Tryd.prog 50 [.agg [.slice p 0 n (.lim n)]] s Q:=by
 subst hn
 exact Zut hw hp hc hl hK q
theorem Zcs {s:St} {p:Pos} {nds:List (List UInt8 × List Int)} {n:Nat} {c0:Cap} {Lv:AVal} {L:List Nat} {Q:AVal→St→Prop}
  (hnl:nds.length = n) (hw:s.Wf) (hN:NodesG s p nds) (hn:n ≤ 1000) (hL:Z0c s Lv (L.map fun (a:Nat) => (a:Int))) (hLl:L.length ≤ 1000) (hC:Closed nds L)
  (hkids:∀ (a:Nat) nd,nds[a]? = some nd→nd.2.length ≤ 4∧∀ k ∈ nd.2,0 ≤ k∧k < nds.length)
  (q:∀ Bx s',Keeps s s'→¬ s.Old Bx→s'.own Bx = some (ints (clsF nds L))→Q (.slice Bx 0 n (.lim n)) s'):Z0b Tryd.prog 49 [.slice p 0 n c0,Lv] s Q:=by
 subst hnl
 obtain ⟨R,h1,h2,h3⟩:=Zbe hC
 rw [h1] at q
 exact Zq7 hw hN hn hL hC.lt hLl hkids h3 h2 q
theorem Z74 {nds:List (List UInt8 × List Int)} {L:List Nat} (h:Closed nds L):(clsF nds L).length = nds.length:=by
 obtain ⟨R,h1,_⟩:=Zbe h
 rw [h1,Z63]
theorem own_w {s:St} {p:Pos} {l:List RC} {n:Nat} {K:Nat→List Int} {Q:AVal→St→Prop} (hn:l.length = n) (hw:s.Wf) (hp:s.Old p) (hc:s.cells p = some (encs l)) (h1:1 ≤ n) (hl:n ≤ 400) (hK:∀ j c,l[j]? = some c→Z0c s c.kv (K j)∧(K j).length ≤ 1000)
  (q:∀ pn kvs s',Keeps s s'→¬ s.Old pn→s'.own pn = some (encs (cpI l kvs n))→OwnK s s' pn K kvs n→Q (.agg [.slice pn 0 n (.lim n)]) s'):Z0b Tryd.prog 51 [.agg [.slice p 0 n (.lim n)]] s Q:=by
 subst hn
 exact own_wp hw hp hc h1 hl hK q
theorem Zz4 {s:St} {p Bc:Pos} {l:List RC} {n:Nat} {K:Nat→List Int} {cv:AVal} {cls:List Int} {qs:List Pos} {Q:AVal→St→Prop} (hn:l.length = n) (hw:s.Wf) (hp:s.Old p) (hc:s.cells p = some (encs l)) (hl:n ≤ 400) (hcl:cls.length ≤ 1000)
  (hK:∀ j c,l[j]? = some c→KidV s c.kv (K j)∧(K j).length ≤ 1000∧(c.taken = true→∀ k ∈ K j,0 ≤ k∧k < cls.length))
  (hqs:∀ j c q cp,l[j]? = some c→c.kv = .slice q 0 (K j).length cp→K j ≠ []→q ∈ qs) (hpq:p ∉ qs) (hqo:∀ q ∈ qs,s.Old q)
  (hsep:∀ j j' c c' q cp cp',l[j]? = some c→l[j']? = some c'→c.kv = .slice q 0 (K j).length cp→c'.kv = .slice q 0 (K j').length cp'→K j ≠ []→K j' ≠ []→j = j')
  (hcv:∀ s',Same qs s s'→s'.cells Bc = some [cv]∧Z0c s' cv cls)
  (q:∀ s',Same qs s s'→(∀ j c,l[j]? = some c→KidV s' c.kv (if c.taken = true then (K j).map (toC cls) else K j))→Q (.tup []) s') :
  Z0b Tryd.prog 54 [.agg [.fn 52 [] [.ptr Bc 0]],.agg [.slice p 0 n (.lim n)]] s Q:=by
 subst hn
 exact Zuy hw hp hc hl hcl hK hqs hpq hqo hsep hcv q
theorem over_w {s:St} {p:Pos} {l:List RC} {n:Nat} {Q:AVal→St→Prop} (hn:l.length = n) (hp:s.Old p) (hc:s.cells p = some (encs l)) (hl:n ≤ 400)
  (q:∀ s',Keeps s s'→Q (.bool (l.any fun c => decide (1000 < c.held))) s'):Z0b Tryd.prog 56 [.slice p 0 n (.lim n),.fn 57 [] []] s Q:=by
 subst hn
 exact Zxq hp hc hl q
theorem Zkk {s:St} {p:Pos} {l:List RC} {n:Nat} {v:AVal} {gone:List Int} {Q:AVal→St→Prop} (hn:l.length = n) (hw:s.Wf) (hp:s.own p = some (encs l)) (hmax:gone.length ≤ 1000) (hin:∀ k ∈ gone,0 ≤ k∧k < n)
  (hv:∀ s',Same [p] s s'→Z0c s' v gone) (q:∀ s',Same [p] s s'→s'.own p = some (encs (rel l gone))→Q (.tup []) s'):Z0b Tryd.prog 58 [.agg [.slice p 0 n (.lim n)],v] s Q:=by
 subst hn
 exact Zrg hw hp hmax (by simpa using hin) hv q
end Go.Proofs
end
section
/- moves,of blocks that lie apart. -/
open Go Go.AM
namespace Go.Proofs
set_option maxRecDepth 100000
theorem Z13 {cs:List CV} {j:Nat} {d:CV} (h:cs[j]? = some d):Z0j cs j = d.kids:=by unfold Z0j; rw [h]
theorem Z7a {cs:List CV} {j:Nat} {ks:List Int} (h:(cs.map CV.kids)[j]? = some ks):j < cs.length∧Z0j cs j = ks:=by
 rw [List.getElem?_map] at h
 cases hd:cs[j]? with
 | none => rw [hd] at h; cases h
 | some d =>
  rw [hd] at h
  cases h
  exact ⟨(List.getElem?_eq_some_iff.1 hd).1,Z13 hd⟩
theorem Z5v {cs:List CV} {j:Nat} (h:j < cs.length):(cs.map CV.kids)[j]? = some (Z0j cs j):=by
 rw [List.getElem?_map,List.getElem?_eq_getElem h,Z13 (List.getElem?_eq_getElem h)]
 rfl
theorem Zck {α:Type} {n j:Nat} {f:Nat→α} (h:j < n):((List.range n).map f)[j]? = some (f j):=by
 rw [List.getElem?_map,List.getElem?_range h]
 rfl
theorem Zmb {s0 s:St} {pn:Pos} {cs:List CV} {kvs:Nat→AVal} (h:OwnK s0 s pn (Z0j cs) kvs cs.length) :
  ∃ m,Z0x (cs.map CV.kids) ((List.range cs.length).map kvs) m∧(∀ x ∈ m,s.obj x.1 = some x.2)∧(m.map (·.1)).Nodup∧∀ x ∈ m,¬ s0.Old x.1∧x.1 ≠ pn:=by
 obtain ⟨m,h1,h2,h3,h4⟩:=Zgk (s:=s) (cs.map CV.kids) ((List.range cs.length).map kvs) (by simp) (fun i ks kv hk hv => by
  obtain ⟨hi,e⟩:=Z7a hk
  rw [Zck hi] at hv
  cases hv
  rw [← e]
  exact h.kid i hi) (fun i j ks ks' q c c' hk hk' hn hn' hv hv' => by
  obtain ⟨hi,e⟩:=Z7a hk
  obtain ⟨hj,e'⟩:=Z7a hk'
  rw [Zck hi] at hv
  rw [Zck hj] at hv'
  rw [← e] at hv hn
  rw [← e'] at hv' hn'
  exact h.sep i j q c c' hi hj hn hn' (Option.some.inj hv) (Option.some.inj hv'))
 refine ⟨m,h1,h2,h3,fun x hx => ?_⟩
 obtain ⟨i,ks,c,e1,e2,e3⟩:=h4 x hx
 obtain ⟨hi,e⟩:=Z7a e1
 rw [Zck hi] at e3
 rw [← e] at e2 e3
 exact h.fresh i x.1 c hi (Option.some.inj e3) e2
theorem Z0x.sep:∀ {K:List (List Int)} {V:List AVal} {m:Lets},Z0x K V m→(m.map (·.1)).Nodup→∀ {i j:Nat} {ks ks':List Int} {q:Pos} {c c':Cap},K[i]? = some ks→K[j]? = some ks'→ks ≠ []→ks' ≠ [] →
  V[i]? = some (AVal.slice q 0 ks.length c)→V[j]? = some (AVal.slice q 0 ks'.length c')→i = j
 | [],_,_,_,_,i,_,_,_,_,_,_,h,_,_,_,_,_ => by simp at h
 | _ :: _,[],_,h,_,_,_,_,_,_,_,_,_,_,_,_,_,_ => h.elim
 | k :: K,v :: V,m,⟨m1,m2,h1,h2,h3⟩,hn,i,j,ks,ks',q,c,c',hi,hj,hne,hne',vi,vj => by
  have hn2:((m1 ++ m2).map (·.1)).Nodup:=((h1.map (·.1)).nodup_iff).1 hn
  rw [List.map_append,List.nodup_append] at hn2
  have key:∀ (x:Nat) (ks:List Int) (c:Cap),K[x]? = some ks→ks ≠ []→V[x]? = some (AVal.slice q 0 ks.length c)→q ∈ m2.map (·.1):=by
   intro x ks c hx hne vx
   obtain ⟨kv,g1,g2⟩:=h3.each hx
   rw [vx] at g1
   cases g1
   rcases g2 with ⟨e,_⟩ | ⟨q',c',_,e,e3⟩
   ·exact (hne e).elim
   ·cases e
    exact List.mem_map.2 ⟨_,e3,rfl⟩
  have key0:∀ (ks:List Int) (c:Cap),k = ks→ks ≠ []→v = AVal.slice q 0 ks.length c→q ∈ m1.map (·.1):=by
   intro ks c hx hne vx
   subst hx vx
   rcases h2 with ⟨e,_⟩ | ⟨q',c',_,e,rfl⟩
   ·exact (hne e).elim
   ·cases e
    simp
  match i,j with
  | 0,0 => rfl
  | 0,j + 1 =>
   exact (hn2.2.2 q (key0 ks c (by simpa using hi) hne (by simpa using vi)) q (key j ks' c' (by simpa using hj) hne' (by simpa using vj)) rfl).elim
  | i + 1,0 =>
   exact (hn2.2.2 q (key0 ks' c' (by simpa using hj) hne' (by simpa using vj)) q (key i ks c (by simpa using hi) hne (by simpa using vi)) rfl).elim
  | i + 1,j + 1 =>
   have:=Z0x.sep h3 hn2.2.1 (i:=i) (j:=j) (by simpa using hi) (by simpa using hj) hne hne' (by simpa using vi) (by simpa using vj)
   omega
theorem Ctx.lose {s0 s s':St} {W:Pos→Prop} {m r:Lets} (h:Ctx s0 W (m ++ r) s) (k:Same (m.map (·.1)) s s'):Ctx s0 W r s':=by
 have hn:=h.nodup
 rw [List.map_append,List.nodup_append] at hn
 refine (h.sub (List.sublist_append_right _ _)).same k ?_ ?_
 ·intro b hb ho
  obtain ⟨x,hx,rfl⟩:=List.mem_map.1 hb
  exact h.free x (List.mem_append_left _ hx) ho
 ·intro x hx hb
  exact hn.2.2 _ hb _ (List.mem_map.2 ⟨x,hx,rfl⟩) rfl
theorem Zg4 (cls:List Int) (cs:List CV):(Z4w cls cs).length = cs.length:=by simp [Z4w]
theorem Zkd {cls:List Int} {cs:List CV} {i:Nat} {c:CV} (h:cs[i]? = some c):(Z4w cls cs)[i]? = some (if c.taken = true then { c with kids:=c.kids.map (toC cls) } else c):=by simp [Z4w,h]
theorem Zxl {s0 s:St} {W:Pos→Prop} {pn B4 Bx:Pos} {cs:List CV} {V:List AVal} {cls:List Int} {mk r:Lets} {cp:Cap} {Q:AVal→St→Prop} (h:Ctx s0 W (mk ++ r) s) (hR:Z0x (cs.map CV.kids) V mk) (hO:HOk cs) (hcl:cls.length = cs.length) (h4:cs.length ≤ 400)
  (hpn:(pn,C (encs (rcs cs V))) ∈ r) (hB4:(B4,C [.slice Bx 0 cs.length cp]) ∈ r) (hBx:(Bx,C (ints cls)) ∈ r)
  (q:∀ mk' s',Z0x ((Z4w cls cs).map CV.kids) V mk'→Ctx s0 W (mk' ++ r) s'→Q (.tup []) s') :
  Z0b Tryd.prog 54 [.agg [.fn 52 [] [.ptr B4 0]],.agg [.slice pn 0 cs.length (.lim cs.length)]] s Q:=by
 have hV:V.length = cs.length:=by simpa using hR.len
 have hl:=Z17 hV
 have hn:=h.nodup
 rw [List.map_append,List.nodup_append] at hn
 have hget:∀ j c,(rcs cs V)[j]? = some c→∃ (hj:j < cs.length),V[j]? = some c.kv∧c.taken = cs[j].taken∧c = ⟨cs[j].taken,cs[j].name,c.kv,cs[j].held⟩:=by
  intro j c hc
  have hlt:j < cs.length:=by have:=(List.getElem?_eq_some_iff.1 hc).1; rwa [hl] at this
  have hv:V[j]? = some (V[j]'(by omega)):=List.getElem?_eq_getElem (by omega)
  rw [Z18 (List.getElem?_eq_getElem hlt) hv] at hc
  cases hc
  exact ⟨hlt,hv,rfl,rfl⟩
 have hrow:∀ j c,(rcs cs V)[j]? = some c→(Z0j cs j = []∧Z1b c.kv = some 0) ∨ ∃ q cp,Z0j cs j ≠ []∧c.kv = .slice q 0 (Z0j cs j).length cp∧(q,C (ints (Z0j cs j))) ∈ mk:=by
  intro j c hc
  obtain ⟨hj,hv,_⟩:=hget j c hc
  obtain ⟨kv,g1,g2⟩:=hR.each (Z5v hj)
  rw [hv] at g1
  cases g1
  exact g2
 refine Zz4 (K:=Z0j cs) (cls:=cls) (cv:=.slice Bx 0 cs.length cp) (qs:=mk.map (·.1)) hl h.wf (h.ob (List.mem_append_right _ hpn)) (Z08 (Z0n (h.own _ (List.mem_append_right _ hpn)))) h4 (by omega) ?_ ?_ ?_ ?_ ?_ ?_ ?_
 ·intro j c hc
  obtain ⟨hj,hv,ht,_⟩:=hget j c hc
  have hko:=Z13 (List.getElem?_eq_getElem hj)
  refine ⟨?_,?_,?_⟩
  ·rcases hrow j c hc with ⟨e1,e2⟩ | ⟨q,cp,e1,e2,e3⟩
   ·exact .inl ⟨e2,e1⟩
   ·exact .inr ⟨q,cp,e2,Z0n (h.own _ (List.mem_append_left _ e3))⟩
  ·rw [hko]
   have:=hO.kids4 _ (List.getElem_mem hj)
   omega
  ·intro hct k hk
   rw [hko] at hk
   obtain ⟨h0,d,_,_,hlt⟩:=Z2m (hO.kids _ (List.getElem_mem hj) (ht ▸ hct) k hk)
   exact ⟨h0,by omega⟩
 ·intro j c q cp hc hkv hne
  rcases hrow j c hc with ⟨e1,e2⟩ | ⟨q',cp',e1,e2,e3⟩
  ·exact (hne e1).elim
  ·rw [hkv] at e2
   cases e2
   exact List.mem_map.2 ⟨_,e3,rfl⟩
 ·exact fun hm => hn.2.2 _ hm _ (List.mem_map.2 ⟨_,hpn,rfl⟩) rfl
 ·intro q hq
  obtain ⟨x,hx,rfl⟩:=List.mem_map.1 hq
  exact h.ob (List.mem_append_left _ hx)
 ·intro j j' c c' q cp cp' hc hc' hkv hkv' hne hne'
  obtain ⟨hj,hv,_⟩:=hget j c hc
  obtain ⟨hj',hv',_⟩:=hget j' c' hc'
  rw [hkv] at hv
  rw [hkv'] at hv'
  exact hR.sep hn.1 (Z5v hj) (Z5v hj') hne hne' hv hv'
 ·intro s' hS
  have h':=h.lose hS
  have e:cls.length = cs.length:=hcl
  refine ⟨Z08 (Z0n (h'.own _ hB4)),?_⟩
  rw [← hcl]
  exact Z37 h'.wf (Z0n (h'.own _ hBx)) _
 ·intro s' hS hk
  have h':=h.lose hS
  have hlast:∀ (i:Nat) (ks:List Int) (qq:Pos) (c:Cap),((Z4w cls cs).map CV.kids)[i]? = some ks→ks ≠ []→V[i]? = some (AVal.slice qq 0 ks.length c)→∃ hi:i < cs.length,Z0j cs i ≠ []∧ks.length = (Z0j cs i).length∧qq ∈ mk.map (·.1):=by
   intro i ks qq c hks hne hv
   obtain ⟨hi,e⟩:=Z7a hks
   rw [Zg4] at hi
   have hm:=Zkd (cls:=cls) (List.getElem?_eq_getElem hi)
   have e2:=Z13 hm
   rw [e] at e2
   have e3:=Z13 (List.getElem?_eq_getElem hi)
   have hlen:ks.length = (Z0j cs i).length:=by
    rw [e2,e3]
    split <;> simp
   have hne':Z0j cs i ≠ []:=by
    intro e0
    rw [e0] at hlen
    exact hne (List.length_eq_zero_iff.1 hlen)
   refine ⟨hi,hne',hlen,?_⟩
   rcases hrow i _ (Z18 (List.getElem?_eq_getElem hi) hv) with ⟨e1,_⟩ | ⟨q',cp',_,e5,e6⟩
   ·exact (hne' e1).elim
   ·have:q' = qq:=(AVal.slice.inj e5).1.symm
    subst this
    exact List.mem_map.2 ⟨_,e6,rfl⟩
  obtain ⟨mk',r1,r2,r3,r4⟩:=Zgk (s:=s') ((Z4w cls cs).map CV.kids) V (by simp [hV,Zg4]) (fun i ks kv hks hv => by
   obtain ⟨hi,e⟩:=Z7a hks
   rw [Zg4] at hi
   have:=hk i _ (Z18 (List.getElem?_eq_getElem hi) hv)
   rw [Z13 (Zkd (List.getElem?_eq_getElem hi))] at e
   rw [← e]
   rw [Z13 (List.getElem?_eq_getElem hi)] at this
   have e2:(if cs[i].taken = true then { cs[i] with kids:=cs[i].kids.map (toC cls) } else cs[i]).kids = if cs[i].taken = true then cs[i].kids.map (toC cls) else cs[i].kids:=by split <;> rfl
   rw [e2]
   exact this) (fun i j ks ks' qq c c' hks hks' hne hne' hv hv' => by
   obtain ⟨hi,n1,l1,_⟩:=hlast i ks qq c hks hne hv
   obtain ⟨hj,n2,l2,_⟩:=hlast j ks' qq c' hks' hne' hv'
   rw [l1] at hv
   rw [l2] at hv'
   exact hR.sep hn.1 (Z5v hi) (Z5v hj) n1 n2 hv hv')
  refine q mk' s' r1 (h'.addL r2 r3 ?_ ?_)
  ·intro x hx ho
   obtain ⟨i,ks,c,e1,e2,e3⟩:=r4 x hx
   obtain ⟨_,_,_,hm⟩:=hlast i ks x.1 c e1 e2 e3
   obtain ⟨y,hy,e⟩:=List.mem_map.1 hm
   rw [← e] at ho ⊢
   exact h.free y (List.mem_append_left _ hy) ho
  ·intro x hx hr
   obtain ⟨i,ks,c,e1,e2,e3⟩:=r4 x hx
   obtain ⟨_,_,_,hm⟩:=hlast i ks x.1 c e1 e2 e3
   exact hn.2.2 _ hm _ hr rfl
end Go.Proofs
end
section
/- The contract of Merge. -/
open Go Go.AM
namespace Go.Proofs
set_option maxRecDepth 100000
theorem Ctx.apart {s0 s:St} {W:Pos→Prop} {m:Lets} (h:Ctx s0 W m s) {b:Pos} {x:AObj} (i:Nat) (hi:m[i]? = some (b,x)) {y:Pos × AObj} (hy:y ∈ m.drop (i + 1)):b ≠ y.1:=by
 obtain ⟨j,hj⟩:=List.getElem?_of_mem hy
 rw [List.getElem?_drop] at hj
 exact h.ne i (i + 1 + j) hi (x':=y.2) hj (by omega)
theorem Zse (x:List CV) (k:Nat) (d:Int):(addH x k d).map CV.kids = x.map CV.kids:=by
 unfold addH
 split
 ·rename_i c hc
  rw [List.map_set]
  refine List.ext_getElem? fun j => ?_
  rw [List.getElem?_set]
  split
  ·rename_i e
   subst e
   have:=(List.getElem?_eq_some_iff.1 hc).1
   rw [if_pos (by simpa using this),List.getElem?_map,hc]
   rfl
  ·rfl
 ·rfl
theorem Za2 (cls:List Int) (cs:List CV):∀ i,(Z1q cls cs i).map CV.kids = (Z4w cls cs).map CV.kids
 | 0 => rfl
 | i + 1 => by
  unfold Z1q
  split
  ·split
   ·rw [Zse,Za2 cls cs i]
   ·exact Za2 cls cs i
  ·exact Za2 cls cs i
theorem Zy0 {s0 s:St} {W:Pos→Prop} {hb:Pos} {vs:AVal} {cs:List CV} {m r:Lets} {Q:AVal→St→Prop} (hH:Z1m hb vs cs m) (h:Ctx s0 W (m ++ r) s) (hO:HOk cs)
  (q:∀ m' s',Z1m hb vs (Zdg cs).2.2 m'→Ctx s0 W (m' ++ r) s'→Q (.tup [.int .i64 (Zdg cs).1,.int .i64 (Zdg cs).2.1]) s'):Z0b Tryd.prog 13 [.ptr hb 0] s Q:=by
 obtain ⟨p,V,mr,hc,hR,hV,h1,h4⟩:=Z8p hH h
 have hl:=Z17 hV
 have hno:cs.length ≠ 0:=by omega
 have hKi:∀ {s':St},(∀ x ∈ mr,s'.obj x.1 = some x.2)→s'.Wf→∀ j c,(rcs cs V)[j]? = some c→Z0c s' c.kv (Z0j cs j)∧(Z0j cs j).length ≤ 1000:=by
  intro s' hob hw j c hj
  have hlt:j < cs.length:=by have:=(List.getElem?_eq_some_iff.1 hj).1; rwa [hl] at this
  have hd:cs[j]? = some cs[j]:=List.getElem?_eq_getElem hlt
  obtain ⟨kv,g1,g2⟩:=hR.each (i:=j) (ks:=cs[j].kids) (by rw [List.getElem?_map,hd]; rfl)
  rw [Z18 hd g1] at hj
  cases hj
  have hko:Z0j cs j = cs[j].kids:=by unfold Z0j; rw [hd]
  rw [hko]
  refine ⟨KidV.ints ?_ hw,by have:=hO.kids4 _ (List.getElem_mem hlt); omega⟩
  rcases g2 with ⟨e1,e2⟩ | ⟨q,c,e1,e2,e3⟩
  ·exact .inl ⟨e2,e1⟩
  ·exact .inr ⟨q,c,e2,Z0n (hob _ e3)⟩
 have hcell:∀ {i:Nat} {c:RC},(rcs cs V)[i]? = some c→∃ d:CV,cs[i]? = some d∧c.taken = d.taken∧c.held = d.held:=by
  intro i c hc
  have hlt:i < cs.length:=by have:=(List.getElem?_eq_some_iff.1 hc).1; rwa [hl] at this
  rw [Z18 (List.getElem?_eq_getElem hlt) (List.getElem?_eq_getElem (show i < V.length by omega))] at hc
  cases hc
  exact ⟨_,List.getElem?_eq_getElem hlt,rfl,rfl⟩
 refine Z07 (Z0e (by decide)) fi13 rfl (by decide) rfl ?_
 refine Z00 ?_
 simp
 have c1:=hc.alloc (C [.ptr hb 0])
 generalize s.alloc (.cells [.ptr hb 0] false) = s1 at c1 ⊢
 generalize s.next = B1 at c1 ⊢
 refine AM.wp_seq ?_
 refine Z00 ?_
 simp [c1.c 0 rfl]
 refine Z02 ?_
 refine Z3o (c1.c 1 rfl) rfl hno ?_
 simp
 refine AM.Z04 ?_
 simp
 refine AM.wp_skip ?_
 simp
 refine Z00 ?_
 simp [c1.c 0 rfl,c1.c 1 rfl]
 refine Z02 ?_
 refine Zk0 (K:=Z0j cs) hl c1.wf (c1.oi 2 rfl) (c1.c 2 rfl) h4 (fun j c hj => (hKi (fun x hx => c1.own x (by simp [hx])) c1.wf j c hj).1) fun pn0 lv s2 k2 hN hL => ?_
 rw [Zjk hV] at hN
 rw [Zk5 hV] at hL
 have c2:=c1.keeps k2
 simp
 refine Z02 ?_
 refine Zcs (Z0t cs) c2.wf hN (by omega) hL (by have:(Z0k cs cs.length).length ≤ cs.length:=Nat.le_trans (List.length_filter_le _ _) (by simp); omega) hO.closed hO.Zb6 fun Bx s3 k3 hBx hox => ?_
 have hcl:=Z74 hO.closed
 rw [Z0t] at hcl
 simp only [Zdg] at q
 generalize clsF (Z0d cs) (Z0k cs cs.length) = cls at hox hcl q ⊢
 have c3:=c2.made k3 hBx (St.Z28 hox)
 simp
 have c4:=(c3.alloc (C [.nilSlice])).put 0 rfl (C [.slice Bx 0 cs.length (.lim cs.length)])
 simp only [List.set_cons_zero] at c4
 generalize (s3.alloc (.cells [.nilSlice] false)).put s3.next (.cells [.slice Bx 0 cs.length (.lim cs.length)] false) = s4 at c4 ⊢
 generalize s3.next = B4 at c4 ⊢
 refine Z00 ?_
 simp [c4.c 2 rfl,c4.c 3 rfl]
 refine Z02 ?_
 refine own_w (K:=Z0j cs) hl c4.wf (c4.oi 4 rfl) (c4.c 4 rfl) h1 h4 (hKi (fun x hx => c4.own x (by simp [hx])) c4.wf) fun pn kvs s5 k5 hpn hopn hOwn => ?_
 rw [Zpr hV] at hopn
 obtain ⟨mk,hRk,hok,hnk,hfk⟩:=Zmb hOwn
 generalize (List.range cs.length).map kvs = V' at hRk hopn ⊢
 have hV':V'.length = cs.length:=by simpa using hRk.len
 clear hOwn
 have c5:=(c4.made k5 hpn (St.Z28 hopn)).addL (m:=mk) hok hnk (fun x hx ho => ((hfk x hx).1 (c4.old ho)).elim) (fun x hx => by
  rw [List.map_cons,List.mem_cons]
  rintro (e | hm)
  ·exact (hfk x hx).2 e
  ·obtain ⟨y,hy,e⟩:=List.mem_map.1 hm
   exact (hfk x hx).1 (e ▸ c4.ob hy))
 clear hok hnk hfk hpn hopn k5
 have c5:=c5.perm (m':=((pn,C (encs (rcs cs V'))) :: (B4,C [.slice Bx 0 cs.length (.lim cs.length)]) :: (Bx,C (ints cls)) :: (B1,C [.ptr hb 0]) :: (hb,C [.slice p 0 cs.length (.lim cs.length),vs]) :: (p,C (encs (rcs cs V))) :: (mk ++ (mr ++ r)))) (by
  have:=List.perm_append_comm (l₁:=mk) (l₂:=[(pn,C (encs (rcs cs V'))),(B4,C [.slice Bx 0 cs.length (.lim cs.length)]),(Bx,C (ints cls)),(B1,C [.ptr hb 0]),(hb,C [.slice p 0 cs.length (.lim cs.length),vs]),(p,C (encs (rcs cs V)))])
  have:=this.append (List.Perm.refl (mr ++ r))
  simpa using this)
 simp
 have c6:=(c5.alloc (C [.nilSlice])).put 0 rfl (C [.slice pn 0 cs.length (.lim cs.length)])
 simp only [List.set_cons_zero] at c6
 generalize (s5.alloc (.cells [.nilSlice] false)).put s5.next (.cells [.slice pn 0 cs.length (.lim cs.length)] false) = s6 at c6 ⊢
 generalize s5.next = B5 at c6 ⊢
 refine Z00 ?_
 simp
 have c7:=(c6.alloc (C [.nilFn])).put 0 rfl (C [.fn 52 [] [.ptr B4 0]])
 simp only [List.set_cons_zero] at c7
 generalize (s6.alloc (.cells [.nilFn] false)).put s6.next (.cells [.fn 52 [] [.ptr B4 0]] false) = s7 at c7 ⊢
 generalize s6.next = B6 at c7 ⊢
 refine Z00 ?_
 simp [c7.c 0 rfl,c7.c 1 rfl]
 have c7:=c7.perm (m':=mk ++ ((B6,C [.fn 52 [] [.ptr B4 0]]) :: (B5,C [.slice pn 0 cs.length (.lim cs.length)]) :: (pn,C (encs (rcs cs V'))) :: (B4,C [.slice Bx 0 cs.length (.lim cs.length)]) :: (Bx,C (ints cls)) :: (B1,C [.ptr hb 0]) :: (hb,C [.slice p 0 cs.length (.lim cs.length),vs]) :: (p,C (encs (rcs cs V))) :: (mr ++ r))) (by
  have:=List.perm_append_comm (l₂:=mk) (l₁:=[(B6,C [.fn 52 [] [.ptr B4 0]]),(B5,C [.slice pn 0 cs.length (.lim cs.length)]),(pn,C (encs (rcs cs V'))),(B4,C [.slice Bx 0 cs.length (.lim cs.length)]),(Bx,C (ints cls)),(B1,C [.ptr hb 0]),(hb,C [.slice p 0 cs.length (.lim cs.length),vs]),(p,C (encs (rcs cs V)))])
  have:=this.append (List.Perm.refl (mr ++ r))
  simpa using this)
 refine Z02 ?_
 refine Zxl (pn:=pn) (Bx:=Bx) (cp:=.lim cs.length) (cls:=cls) c7 hRk hO hcl h4 (by simp) (by simp) (by simp) fun mk2 s8 hR2 c8 => ?_
 have hV2:V'.length = cs.length:=hV'
 have c8:=c8.perm (m':=(B6,C [.fn 52 [] [.ptr B4 0]]) :: (B5,C [.slice pn 0 cs.length (.lim cs.length)]) :: (pn,C (encs (rcs cs V'))) :: (B4,C [.slice Bx 0 cs.length (.lim cs.length)]) :: (Bx,C (ints cls)) :: (B1,C [.ptr hb 0]) :: (hb,C [.slice p 0 cs.length (.lim cs.length),vs]) :: (p,C (encs (rcs cs V))) :: (mk2 ++ (mr ++ r))) (by
  have:=List.perm_append_comm (l₁:=mk2) (l₂:=[(B6,C [.fn 52 [] [.ptr B4 0]]),(B5,C [.slice pn 0 cs.length (.lim cs.length)]),(pn,C (encs (rcs cs V'))),(B4,C [.slice Bx 0 cs.length (.lim cs.length)]),(Bx,C (ints cls)),(B1,C [.ptr hb 0]),(hb,C [.slice p 0 cs.length (.lim cs.length),vs]),(p,C (encs (rcs cs V)))])
  have:=this.append (List.Perm.refl (mr ++ r))
  simpa using this)
 clear c7 hRk
 simp
 refine Z00 ?_
 simp
 have c9:=c8.alloc (C [.nilSlice])
 generalize s8.alloc (.cells [.nilSlice] false) = s9 at c9 ⊢
 generalize s8.next = B7 at c9 ⊢
 refine AM.wp_seq ?_
 refine Z00 ?_
 simp [c9.c 6 rfl,c9.c 7 rfl]
 refine Z02 ?_
 refine Z78 fun BB hBB => ?_
 have c10:=c9.alloc (C [.slice p 0 cs.length (.lim cs.length)])
 rw [← hBB] at c10
 generalize s9.alloc (.cells [.slice p 0 cs.length (.lim cs.length)] false) = s10 at c10 ⊢
 simp
 refine AM.wp_block ?_
 refine Zas (B:=BB) (p:=p) (l:=rcs cs V) (J:=fun i m => ∃ lv mg,Z1w lv (Z2h cls cs i) mg∧m = (B7,C [lv]) :: (B6,C [.fn 52 [] [.ptr B4 0]]) :: (B5,C [.slice pn 0 cs.length (.lim cs.length)]) :: (pn,C (encs (rcs (Z1q cls cs i) V'))) :: (B4,C [.slice Bx 0 cs.length (.lim cs.length)]) :: (Bx,C (ints cls)) :: (B1,C [.ptr hb 0]) :: (hb,C [.slice p 0 cs.length (.lim cs.length),vs]) :: (p,C (encs (rcs cs V))) :: (mg ++ (mk2 ++ (mr ++ r))))
  hl h4 (by simp) rfl fi13 rfl ?_ ?_ ?_ ⟨.nilSlice,[],.inl ⟨rfl,rfl,rfl⟩,rfl⟩ (by
   have e:rcs (Z1q cls cs 0) V' = rcs cs V':=Zwb cls cs V'
   rw [e]
   exact c10) ?_
 ·rintro i m s' ⟨lv,mg,hg,rfl⟩ hc'
  exact ⟨hc'.oi 8 rfl,hc'.c 8 rfl⟩
 ·rintro i c m hci hct ⟨lv,mg,hg,rfl⟩
  obtain ⟨d,hd,ht,_⟩:=hcell hci
  rw [ht] at hct
  exact ⟨lv,mg,by rw [Zoe hd hct]; exact hg,by simp [Z1q,hd,hct]⟩
 ·rintro i c s' m Lb X Wx hci hct ⟨lv,mg,hg,rfl⟩ hc' hW
  obtain ⟨d,hd,ht,hh⟩:=hcell hci
  rw [ht] at hct
  have hi:i < cs.length:=(List.getElem?_eq_some_iff.1 hd).1
  obtain ⟨cc,hcc⟩:∃ cc,cls[i]? = some cc:=⟨_,List.getElem?_eq_getElem (by omega)⟩
  obtain ⟨j,hj,hji,hcj,_⟩:=Zhx hcc
  have e:Z32 (fun d => decide (cc = d)) cls = (j:Int):=by rw [← hj]; unfold toC; simp [hcc]
  refine AM.wp_block ?_
  refine Z00 ?_
  simp [hc'.c 3 rfl]
  refine Z02 ?_
  refine Zk9 (cls:=cls) (c:=cc) (hc'.c 6 rfl) (by have:=Z37 hc'.wf (hc'.o 7 rfl) (.lim cs.length); rw [hcl] at this; exact this) (by omega) (by omega) (by simpa using hcc) ?_
  rw [e]
  simp
  refine Z00 ?_
  simp
  refine AM.Z04 ?_
  by_cases hij:j = i
  ·subst hij
   simp
   refine AM.wp_skip ?_
   simp
   refine hW _ _ _ ⟨lv,mg,?_,rfl⟩ ?_
   ·rw [Zo1 hd hct hj]
    exact hg
   ·have:Z1q cls cs (j + 1) = Z1q cls cs j:=by simp [Z1q,hd,hj]
    rw [this]
    exact hc'
  ·have hij':¬ (j:Int) = (i:Int):=by omega
   have hne:toC cls (i:Int) ≠ (i:Int):=by rw [hj]; exact hij'
   simp [hij,hij']
   refine Z00 ?_
   have hjl:j < cs.length:=by omega
   obtain ⟨x,hx⟩:∃ x,(Z1q cls cs i)[j]? = some x:=⟨_,List.getElem?_eq_getElem (by rw [Z2w]; omega)⟩
   obtain ⟨v,hv⟩:∃ v,V'[j]? = some v:=⟨_,List.getElem?_eq_getElem (by omega)⟩
   have hxr:=Z18 hx hv
   have hg3:(encs (rcs (Z1q cls cs i) V'))[j * 4 + 3]? = some (.int .i64 x.held):=Z2k _ j 3 _ hxr (by decide)
   have hg4:(encs (rcs cs V))[i * 4 + 3]? = some (.int .i64 c.held):=Z2k _ i 3 _ hci (by decide)
   have hlay:=Zfg _ j _ (IntKind.wrap .i64 (x.held + c.held)) hxr
   rw [hh] at hlay hg4
   rw [Zvy hx hv] at hlay
   have hstep:Z1q cls cs (i + 1) = addH (Z1q cls cs i) j d.held:=by simp [Z1q,hd,hct,hj,hij']
   rw [← hstep] at hlay
   have hle:j * 4 + 3 + 1 ≤ (encs (rcs (Z1q cls cs i) V')).length:=by rw [Z2c,Z17 (by rw [Z2w]; exact hV2),Z2w]; omega
   simp [lay] at hlay
   simp [hc'.c 4 rfl,hc'.c 8 rfl,hc'.c 9 rfl,hc'.c 10 rfl,hc'.o 5 rfl,hc'.c 5 rfl,hjl,hi,hg3,hg4,hle,Zaf]
   rw [hlay]
   have d1:=hc'.put 5 rfl (C (encs (rcs (Z1q cls cs (i + 1)) V')))
   simp only [List.set_cons_succ,List.set_cons_zero] at d1
   generalize s'.put pn (.cells (encs (rcs (Z1q cls cs (i + 1)) V')) false) = sA at d1 ⊢
   refine AM.wp_region ?_
   have d2:=d1.alloc (C [.int .i64 i])
   have hlt:=hg.ntup
   simp [d1.c 2 rfl,Z1p,srcP,hlt,hg.cells]
   generalize sA.alloc (.cells [.int .i64 i] false) = sB at d2 ⊢
   generalize sA.next = T at d2 ⊢
   have hgl:=Zie cls cs i
   refine Z7i (pre:=[(T,C [.int .i64 i]),(Lb,X),(BB,C [.slice p 0 cs.length (.lim cs.length)]),(B7,C [lv]),(B6,C [.fn 52 [] [.ptr B4 0]]),(B5,C [.slice pn 0 cs.length (.lim cs.length)]),(pn,C (encs (rcs (Z1q cls cs (i + 1)) V'))),(B4,C [.slice Bx 0 cs.length (.lim cs.length)]),(Bx,C (ints cls)),(B1,C [.ptr hb 0]),(hb,C [.slice p 0 cs.length (.lim cs.length),vs]),(p,C (encs (rcs cs V)))]) d2 hg (by omega) fun lv' mg' sC hg' d3 => ?_
   simp at d3
   rw [← Zoa hd hct hne] at hg'
   simp [hg'.ntup,hg'.cells,d3.o 3 rfl]
   have d4:=(d3.put 3 rfl (C [lv'])).tail
   exact hW _ _ _ ⟨lv',mg',hg',rfl⟩ d4
 ·rintro s' m ⟨lv,mg,hg,rfl⟩ hc'
  simp
  have hlh:(rcs (Z1q cls cs cs.length) V').length = cs.length:=by rw [Z17 (by rw [Z2w]; exact hV2),Z2w]
  refine AM.wp_seq ?_
  refine Z00 ?_
  simp [hc'.c 2 rfl]
  refine Z02 ?_
  refine over_w hlh (hc'.oi 3 rfl) (hc'.c 3 rfl) h4 fun s11 k11 => ?_
  rw [Zpd (by rw [Z2w]; exact hV2)]
  have c11:=hc'.keeps k11
  have hperm:∀ (pre x:Lets),(pre ++ (mg ++ (mk2 ++ x))).Perm ((mg ++ (mk2 ++ pre)) ++ x):=by
   intro pre x
   have h1:=List.perm_append_comm (l₁:=pre) (l₂:=mg ++ mk2)
   have h2:=h1.append (List.Perm.refl x)
   simpa using h2
  cases hov:(Z1q cls cs cs.length).any (fun c => decide (1000 < c.held)) with
  | true =>
   rw [hov] at q
   simp at q
   simp
   refine AM.Z04 ?_
   simp
   refine Z00 ?_
   simp
   refine AM.wp_ret ?_
   simp
   refine q _ _ (Z21 (p:=p) hR h1 h4) (c11.sub ?_)
   refine List.Sublist.trans ?_ (List.drop_sublist 7 _)
   refine List.Sublist.cons_cons _ (List.Sublist.cons_cons _ ?_)
   rw [← List.append_assoc,← List.append_assoc]
   exact (List.sublist_append_right (mg ++ mk2) (mr ++ r)).trans (by simp)
  | false =>
   rw [hov] at q
   simp at q
   simp
   refine AM.Z04 ?_
   simp
   refine AM.wp_skip ?_
   simp
   have hglen:=Zie cls cs cs.length
   have hgin:∀ k ∈ Z2h cls cs cs.length,0 ≤ k∧k < cs.length:=fun k hk => by
    obtain ⟨a,b,_⟩:=Ziv.1 hk
    exact ⟨a,b⟩
   refine Z00 ?_
   simp [c11.c 2 rfl,c11.c 0 rfl]
   refine Z02 ?_
   refine Zkk hlh c11.wf (c11.o 3 rfl) (by omega) hgin (fun s' hS => ?_) fun s12 hS hpn2 => ?_
   ·have hmg:Ctx s0 W mg s':=(c11.sub (m':=mg) (by
     refine List.Sublist.trans ?_ (List.drop_sublist 9 _)
     exact List.sublist_append_left _ _)).same hS (fun b hb ho => by
      simp at hb
      subst hb
      exact c11.free _ (List.mem_of_getElem? (i:=3) rfl) ho) (fun x hx hb => by
      simp at hb
      exact c11.apart 3 rfl (y:=x) (by simp [hx]) hb.symm)
    exact (hg.row.kid fun x hx => hmg.own x hx).ints hmg.wf
   ·have c12:=c11.chg 3 rfl hS (St.Z28 hpn2)
    simp only [List.set_cons_succ,List.set_cons_zero] at c12
    obtain ⟨V3,m3,dd,e1,e2,e3⟩:=Zhp (Z2h cls cs cs.length) (cs:=Z1q cls cs cs.length) (V:=V') (m:=mk2) (by rw [Z2w]; exact hV2) (by rw [Za2]; exact hR2) (by rw [Z2w]; exact hgin)
    rw [e1] at c12
    simp
    refine Z00 ?_
    simp [c12.c 6 rfl,c12.c 2 rfl,c12.o 7 rfl]
    have c13:=c12.put 7 rfl (C [.slice pn 0 cs.length (.lim cs.length),vs])
    simp only [List.set_cons_succ,List.set_cons_zero] at c13
    generalize s12.put hb (.cells [.slice pn 0 cs.length (.lim cs.length),vs] false) = s13 at c13 ⊢
    refine Z00 ?_
    simp [c13.c 0 rfl,hg.len]
    refine AM.wp_ret ?_
    simp
    have hlen:(relC (Z1q cls cs cs.length) (Z2h cls cs cs.length)).length = cs.length:=by rw [Zbw,Z2w]
    refine q _ _ (Z21 (p:=pn) e2 (by omega) (by omega)) ?_
    rw [hlen]
    have c14:=c13.sub (m':=(pn,C (encs (rcs (relC (Z1q cls cs cs.length) (Z2h cls cs cs.length)) V3))) :: (hb,C [.slice pn 0 cs.length (.lim cs.length),vs]) :: (mk2 ++ r)) (.cons _ (.cons _ (.cons _ (.cons_cons _ (.cons _ (.cons _ (.cons _ (.cons_cons _ (.cons _
     (List.Sublist.trans ((List.Sublist.refl mk2).append (List.sublist_append_right mr r)) (List.sublist_append_right mg _)))))))))))
    have c15:=c14.perm ((List.Perm.swap _ _ _).trans (List.Perm.cons _ (List.Perm.cons _ (e3.append (List.Perm.refl r)))))
    exact c15.sub (.cons_cons _ (.cons_cons _ ((List.sublist_append_left m3 dd).append (List.Sublist.refl r))))
end Go.Proofs
end
section
/- Rows that are turned: the least turn by which a row stays the same. -/
namespace Go.Proofs
def Turn (n:Nat) (f:Nat→Bool) (d:Nat):Prop:=∀ x,f ((x + d) % n) = f (x % n)
theorem Zdn (n:Nat) (f:Nat→Bool):Turn n f n:=fun x => by rw [Nat.add_mod_right]
theorem Zmh {n:Nat} {f:Nat→Bool} {a b:Nat} (ha:Turn n f a) (hb:Turn n f b) (h:a ≤ b):Turn n f (b - a):=fun x => by
 have h1:=ha (x + (b - a))
 rw [show x + (b - a) + a = x + b by omega] at h1
 rw [← h1]
 exact hb x
theorem Zby {n:Nat} {f:Nat→Bool} {a:Nat} (ha:Turn n f a):∀ k,Turn n f (k * a)
 | 0 => fun x => by simp
 | k + 1 => fun x => by
  rw [show x + (k + 1) * a = (x + k * a) + a by rw [Nat.add_mul]; omega,ha (x + k * a)]
  exact Zby ha k x
structure Least (n:Nat) (f:Nat→Bool) (p:Nat):Prop where
 pos:0 < p
 le:p ≤ n
 turn:Turn n f p
 min:∀ d,0 < d→d < p→n % d = 0→¬ Turn n f d
theorem Least.none {n:Nat} {f:Nat→Bool} {p:Nat} (h:Least n f p):∀ d,0 < d→d < p→¬ Turn n f d:=by
 intro d
 induction d using Nat.strongRecOn with
 | _ d ih =>
  intro hd hlt ht
  have hdiv:∀ m,Turn n f m→m % d = 0:=by
   intro m hm
   refine Classical.byContradiction fun hne => ?_
   have h1:Turn n f (m - m / d * d):=Zmh (Zby ht _) hm (Nat.div_mul_le_self m d)
   have h2:m - m / d * d = m % d:=by have:=Nat.div_add_mod m d; rw [Nat.mul_comm] at this; omega
   rw [h2] at h1
   have h3:=Nat.mod_lt m hd
   exact ih (m % d) h3 (by omega) (by omega) h1
  exact h.min d hd hlt (hdiv n (Zdn n f)) ht
theorem Least.divides {n:Nat} {f:Nat→Bool} {p:Nat} (h:Least n f p) {d:Nat} (hd:Turn n f d):d % p = 0:=by
 refine Classical.byContradiction fun hne => ?_
 have h1:Turn n f (d - d / p * p):=Zmh (Zby h.turn _) hd (Nat.div_mul_le_self d p)
 have h2:d - d / p * p = d % p:=by have:=Nat.div_add_mod d p; rw [Nat.mul_comm] at this; omega
 rw [h2] at h1
 exact h.none (d % p) (by omega) (Nat.mod_lt d h.pos) h1
theorem Zvg {n:Nat} {f:Nat→Bool} {p:Nat} (h:Least n f p) {i j:Nat} (hj:j < n) (hij:i ≤ j):(∀ t,f ((i + t) % n) = f ((j + t) % n)) ↔ (j - i) % p = 0:=by
 have hn:0 < n:=by omega
 constructor
 ·intro hs
  refine h.divides fun x => ?_
  have h1:=hs (x + (n - i))
  have h2:(i + (x + (n - i))) % n = x % n:=by rw [show i + (x + (n - i)) = x + n by omega,Nat.add_mod_right]
  have h3:(j + (x + (n - i))) % n = (x + (j - i)) % n:=by rw [show j + (x + (n - i)) = x + (j - i) + n by omega,Nat.add_mod_right]
  rw [h2,h3] at h1
  exact h1.symm
 ·intro hm t
  have h1:(j - i) = (j - i) / p * p:=by have:=Nat.div_add_mod (j - i) p; rw [Nat.mul_comm] at this; omega
  have h2:=Zby h.turn ((j - i) / p) (i + t)
  rw [← h1,show i + t + (j - i) = j + t by omega] at h2
  exact h2.symm
end Go.Proofs
end
section
/- The law of rings,in plain. -/
open Go Go.AM
namespace Go.Proofs
set_option maxRecDepth 100000
theorem Zb7 {nds:List (List UInt8 × List Int)} {L:List Nat} (h:Closed nds L) {a b:Nat} (ha:a ∈ L) (hb:b ∈ L):(clsF nds L)[a]? = (clsF nds L)[b]? ↔ ∀ r,sim nds r a b:=by
 obtain ⟨R,h1,h2,_⟩:=Zbe h
 rw [h1]
 exact Zh2 h h2 ha hb
/-! ### The ring -/
def nmOf (b:Bool):List UInt8:=if b = true then [117] else [115]
def rowF (bs:List Bool) (x:Nat):Bool:=(bs[x]?).getD false
theorem nm_inj {a b:Bool} (h:nmOf a = nmOf b):a = b:=by
 cases a <;> cases b <;> first | rfl | (simp [nmOf] at h)
section
variable {bs:List Bool} {p:Nat} (hp:Least bs.length (rowF bs) p)
include hp
end
end Go.Proofs
end
section
/- The law of rings: how the ring comes to be. -/
open Go Go.AM
namespace Go.Proofs
set_option maxRecDepth 100000
def Z5n (s:St) (v:AVal) (xs:List AVal):Prop:=(Z1b v = some 0∧xs = []) ∨
 ∃ b o c cs,v = .slice b o xs.length c∧s.Old b∧s.cells b = some cs∧o + xs.length ≤ cs.length∧∀ (i:Nat) x,xs[i]? = some x→cs[o + i]? = some x
theorem Z5n.keep {s s':St} {v:AVal} {xs:List AVal} (h:Z5n s v xs) (hk:∀ b,s.Old b→s'.Old b∧s'.cells b = s.cells b):Z5n s' v xs:=by
 rcases h with h | ⟨b,o,c,cs,h1,h2,h3,h4⟩
 ·exact .inl h
 ·exact .inr ⟨b,o,c,cs,h1,(hk b h2).1,(hk b h2).2.trans h3,h4⟩
theorem Z5n.len {s:St} {v:AVal} {xs:List AVal} (h:Z5n s v xs):Z1b v = some xs.length:=by
 rcases h with ⟨h1,rfl⟩ | ⟨b,o,c,cs,rfl,_⟩
 ·exact h1
 ·rfl
theorem new_c {s0 s:St} {W:Pos→Prop} {r:Lets} {n:Int} {Q:AVal→St→Prop} (h:Ctx s0 W r s) (h1:1 ≤ n) (h2:n ≤ 400)
  (q:∀ hb m s',Z1m hb .nilSlice (List.replicate n.toNat Z0v) m→Ctx s0 W (m ++ r) s'→Q (.tup [.ptr hb 0,.int .i64 0]) s'):Z0b Tryd.prog 10 [.int .i64 n] s Q:=by
 refine new_wp h.wf h1 h2 ?_
 have hV:∀ n:Nat,(List.replicate n [AVal.bool false,.str [],.nilSlice,.int .i64 0]).flatten = encs (rcs (List.replicate n Z0v) (List.replicate n .nilSlice)):=by
  intro n
  simp [encs,rcs,RC.enc,Z0v,List.zipWith_replicate,List.flatMap]
 have hR:∀ n:Nat,Z0x ((List.replicate n Z0v).map CV.kids) (List.replicate n .nilSlice) []:=by
  intro n
  induction n with
  | zero => rfl
  | succ n ih =>
   rw [List.replicate_succ,List.replicate_succ]
   exact ⟨[],[],List.Perm.refl _,.inl ⟨rfl,rfl,rfl⟩,ih⟩
 have c1:=h.alloc (C (List.replicate n.toNat [AVal.bool false,.str [],.nilSlice,.int .i64 0]).flatten)
 have c2:=c1.alloc (C [.slice s.next 0 n.toNat (.lim n.toNat),.nilSlice])
 refine q _ _ _ (Z21 (p:=s.next) (V:=List.replicate n.toNat .nilSlice) (mr:=[]) (hR _) (by simp; omega) (by simp; omega)) ?_
 rw [List.length_replicate,← hV]
 exact c2
end Go.Proofs
end
section
/- Rows of Booleans and of bytes,read as arguments. -/
open Go Go.AM
namespace Go.Proofs
set_option maxRecDepth 100000
theorem c4:Tryd.prog.cellsOf 4 = 1:=by kernel_rfl
theorem c5:Tryd.prog.cellsOf 5 = 1:=by kernel_rfl
theorem Ztu {P:Program} {t e:TypeId} {w:World} {r:Reach} {base:Nat} {v:Value} (ht:P.underlying t = some (.slice e)) (h:Value.okWide P w r base t v):v.cells.toList = [v]:=by
 simp only [Value.okWide,ht,Cell.okWide] at h
 cases v <;> first | rfl | simp_all [Cell.ok]
section
variable {H:Type} {enc:TypeId × Value→H} {W:World} {N fuel:Nat} {cs:List Value} {x:DataW H × List MemPlace}
theorem row_of {α:Type} {s:St} {e:TypeId} {v:Value} {a:AVal} {elems:List (DataW H × List MemPlace)} (mk:α→AVal) (hc1:Tryd.prog.cellsOf e = 1) (he:∀ n vs x l,DataW.trod enc Tryd.prog W 0 (fun _ => true) true n e vs = some x→vs.mapM (Z5m W N) = some l→∃ y:α,l = [mk y])
  (h:SliceW Tryd.prog enc W (fun _ => true) true N e v a elems):∃ ys:List α,Z5n (stW W N) a (ys.map mk):=by
 cases h with
 | nil => exact ⟨[],.inl ⟨rfl,rfl⟩⟩
 | empty => exact ⟨[],.inl ⟨rfl,rfl⟩⟩
 | @row b o len cap n _ cells hb ho hcells hlen hc0 hcap hmax hcs hel =>
  rw [hc1] at hcs
  have hone:∀ i,i < len→∃ y:α,cells[i]? = some (mk y):=by
   intro i hi
   obtain ⟨vs,x,l,h1,_,h3,h4⟩:=hel i hi
   obtain ⟨y,rfl⟩:=he n vs x l h1 h3
   rw [hc1,Nat.mul_one] at h4
   refine ⟨y,?_⟩
   have:=congrArg (fun l => l[0]?) h4
   simpa using this
  obtain ⟨ys,hys,hl⟩:∃ ys:List α,(∀ (i:Nat) (y:α),ys[i]? = some y→cells[i]? = some (mk y))∧ys.length = len:=by
   have key:∀ k,k ≤ len→∃ ys:List α,(∀ (i:Nat) (y:α),ys[i]? = some y→cells[i]? = some (mk y))∧ys.length = k:=by
    intro k
    induction k with
    | zero => exact fun _ => ⟨[],by simp,rfl⟩
    | succ k ih =>
     intro hk
     obtain ⟨ys,h1,h2⟩:=ih (by omega)
     obtain ⟨y,hy⟩:=hone k (by omega)
     refine ⟨ys ++ [y],fun i z hz => ?_,by simp [h2]⟩
     rw [List.getElem?_append] at hz
     split at hz
     ·exact h1 i z hz
     ·rename_i hi
      have:i = k:=by
       have:=(List.getElem?_eq_some_iff.1 hz).1
       simp at this
       omega
      subst this
      simp [h2] at hz
      subst hz
      exact hy
   exact key len (Nat.le_refl _)
  refine ⟨ys,.inr ⟨nameOf N b o,0,.lim cap,cells,by simp [hl],?_,hcells,by simp [hl]; omega,fun i z hz => ?_⟩⟩
  ·unfold St.cells at hcells
   cases hob:(stW W N).obj (nameOf N b o) with
   | none => rw [hob] at hcells; cases hcells
   | some y => exact Z39 (Ztc (w:=W) (N:=N)) hob
  ·rw [List.getElem?_map] at hz
   cases hy:ys[i]? with
   | none => rw [hy] at hz; cases hz
   | some y =>
    rw [hy] at hz
    cases hz
    rw [Nat.zero_add]
    exact hys i y hy
theorem Zrb (hN:Big W N) (h:DataW.trod enc Tryd.prog W 0 (fun _ => true) true fuel 22 cs = some x):∃ v a,∃ bs:List Bool,cs = [v]∧Z5m W N v = some a∧Z5n (stW W N) a (bs.map .bool):=by
 obtain ⟨v,a,elems,rfl,hs⟩:=Zok hN Tryd.underlying22 (by rw [c4]; decide) (fun n vs x h => by
  obtain ⟨b,rfl,_⟩:=DataW.trod_bool Tryd.underlying4 h
  exact ⟨[.bool b],rfl⟩) h
 obtain ⟨bs,hb⟩:=row_of (s:=stW W N) AVal.bool c4 (fun n vs x l h1 h2 => by
  obtain ⟨b,rfl,_⟩:=DataW.trod_bool Tryd.underlying4 h1
  refine ⟨b,?_⟩
  simp [List.mapM_cons,Z5m] at h2
  exact h2.symm) hs
 exact ⟨v,a,bs,rfl,hs.conv,hb⟩
end
end Go.Proofs
end
section
/- The functions codes: the heap. -/
open Go Go.AM
namespace Go.Proofs
/-! (roundelay/heap.state).found -/
def c62_1:MCode:=.region [
 Cr (.box (Cp 0)),
 Cr (.box (Cp 1)),
 Cr (.move (.cst .nilSlice))] [Cs 4,Cs 3,Cs 2]
def c62_3:MCode:=.region [
 Cr (.load (some (some 1)) (Cp 2)),
 Cr (.call (.cst (.fn 50 [] [])) [(.loc 0)]),
 C0,
 Cr (.extract (.loc 0) 0),
 Cr (.extract (.loc 1) 1),
 Cr (.move (.loc 1)),
 Cr (.move (.loc 1))] [Cs 6,Cs 5,none,none,none,none,none]
def c62_5:MCode:=.region [
 Cm 5,
 Cr (.len (some (.slc,0)) (.loc 0)),
 C0] [Cs 7,none,none]
def c62_8:MCode:=.region [
 Cr (.fieldAddr (some 0) (Cp 3)),
 Cr (.load (some none) (.loc 0)),
 Cr (.len (some (.slc,0)) (.loc 0)),
 Cr (.move (Ck 0))] [Cs 26,Cs 25,Cs 24,none]
def c62_12:MCode:=.region [
 Cr (.bin .lss .other none (Cp 26) (Cp 25))] [Cs 27]
def c62_14:MCode:=.cond (Cp 27) .skip (.exit 0)
def c62_18:MCode:=.region [
 Cm 26,
 Cr (.indexAddr .slc (some (2,40)) none (Cp 24) (Cp 26)),
 Cr (.load (some (some 2)) (.loc 0)),
 Cr (.alloc (some [(.str []),.nilSlice])),
 Cr (.move (.loc 3)),
 Cr (.store (some 2) (.loc 1) (.loc 2))] [none,Cs 8,Cs 9,none,none,none]
def c62_20:MCode:=.region [
 Cr (.fieldAddr (some 0) (Cp 9)),
 Cr (.load (some none) (.loc 0)),
 Cr (.build (some [(0,(1,(.loc 0)))]) (some [(.str []),.nilSlice])),
 Cr (.alloc (some [(.str []),.nilSlice])),
 Cr (.store (some 2) (.loc 0) (.loc 1))] [none,Cs 10,none,none,none]
def c62_23:MCode:=.region [
 Cr (.fieldAddr (some 1) (Cp 9)),
 Cr (.load (some none) (.loc 0)),
 Cr (.len (some (.slc,0)) (.loc 0)),
 Cr (.move (Ck 0))] [Cs 37,Cs 36,Cs 35,none]
def c62_27:MCode:=.region [
 Cr (.bin .lss .other none (Cp 37) (Cp 36))] [Cs 38]
def c62_29:MCode:=.cond (Cp 38) .skip (.exit 2)
def c62_33:MCode:=.region [
 Cr (.indexAddr .slc (some (1,8)) none (Cp 35) (Cp 37)),
 Cr (.load (some none) (.loc 0)),
 C0] [Cs 12,none,none]
def c62_34:MCode:=.region [
 Cr (.fieldAddr (some 1) (Cp 10)),
 Cr (.load (some none) (.loc 0)),
 Cm 7,
 Cm 12,
 Cr (.bin .add .other none (.loc 1) (.loc 0)),
 Cr (.buildSlice (some (1,8)) (some [(.int .i64 0)]) 1 [(0,(.loc 0))]),
 Cr (.append (some (1,8)) (.loc 4) (.loc 0)),
 Cr (.fieldAddr (some 1) (Cp 10)),
 Cr (.store (some 1) (.loc 0) (.loc 1))] [none,none,none,none,none,none,none,none,none]
def c62_32:MCode:=.seq c62_33 c62_34
def c62_31:MCode:=.block 3 c62_32
def c62_35:MCode:=.region [
 Cr (.bin .add .other none (Cp 37) (Ck 1)),
 C0] [Cs 37,none]
def c62_30:MCode:=.seq c62_31 c62_35
def c62_28:MCode:=.seq c62_29 c62_30
def c62_26:MCode:=.seq c62_27 c62_28
def c62_25:MCode:=.loop c62_26
def c62_24:MCode:=.block 2 c62_25
def Zsq:MCode:=.seq c62_23 c62_24
def c62_36:MCode:=.region [
 Cm 5,
 Cr (.load (some (some 2)) (Cp 10)),
 Cr (.buildSlice (some (2,40)) (some [(.str []),.nilSlice]) 1 [(0,(.loc 0))]),
 Cr (.append (some (2,40)) (.loc 2) (.loc 0)),
 Cm 6,
 Cm 7,
 Cm 8,
 Cr (.bin .add .other none (.loc 1) (.loc 0)),
 Cr (.buildSlice (some (1,8)) (some [(.int .i64 0)]) 1 [(0,(.loc 0))]),
 Cr (.append (some (1,8)) (.loc 4) (.loc 0)),
 Cr (.move (.loc 6)),
 Cr (.move (.loc 1))] [Cs 6,Cs 5,none,none,none,none,none,none,none,none,none,none]
def c62_21:MCode:=.seq Zsq c62_36
def c62_19:MCode:=.seq c62_20 c62_21
def c62_17:MCode:=.seq c62_18 c62_19
def c62_16:MCode:=.block 1 c62_17
def c62_37:MCode:=.region [
 Cr (.bin .add .other none (Cp 26) (Ck 1)),
 C0] [Cs 26,none]
def c62_15:MCode:=.seq c62_16 c62_37
def c62_13:MCode:=.seq c62_14 c62_15
def c62_11:MCode:=.seq c62_12 c62_13
def c62_10:MCode:=.loop c62_11
def c62_9:MCode:=.block 0 c62_10
def c62_7:MCode:=.seq c62_8 c62_9
def c62_39:MCode:=.region [
 Cm 5,
 Cm 6,
 Cr (.call (.cst (.fn 49 [] [])) [(.loc 1),(.loc 0)]),
 C0] [Cs 13,none,none,none]
def c62_41:MCode:=.region [
 Cr (.fieldAddr (some 0) (Cp 3)),
 Cr (.load (some none) (.loc 0)),
 Cr (.len (some (.slc,0)) (.loc 0)),
 Cr (.makeSlice (some (1,8)) (some [(.int .i64 0)]) (.loc 0) (.loc 0)),
 C0] [Cs 14,none,none,none,none]
def c62_44:MCode:=.region [
 Cm 14,
 Cr (.len (some (.slc,0)) (.loc 0)),
 Cr (.move (Ck 0))] [Cs 70,Cs 69,none]
def c62_48:MCode:=.region [
 Cr (.bin .lss .other none (Cp 70) (Cp 69))] [Cs 71]
def c62_50:MCode:=.cond (Cp 71) .skip (.exit 4)
def c62_54:MCode:=.region [
 Cm 70,
 C0] [Cs 15,none]
def c62_55:MCode:=.region [
 Cm 14,
 Cm 15,
 Cm 13,
 Cm 7,
 Cr (.slice .slc (some (1,8)) none (.loc 1) none (some (.loc 0)) none),
 Cm 13,
 Cm 7,
 Cm 15,
 Cr (.bin .add .other none (.loc 1) (.loc 0)),
 Cr (.indexAddr .slc (some (1,8)) none (.loc 3) (.loc 0)),
 Cr (.load (some none) (.loc 0)),
 Cr (.call (.cst (.fn 53 [] [])) [(.loc 6),(.loc 0)]),
 Cr (.indexAddr .slc (some (1,8)) none (.loc 11) (.loc 10)),
 Cr (.store (some 1) (.loc 0) (.loc 1))] [none,Cs 85,Cs 84,Cs 83,Cs 82,Cs 81,Cs 80,Cs 79,Cs 78,Cs 77,Cs 76,Cs 75,Cs 74,Cs 73]
def c62_53:MCode:=.seq c62_54 c62_55
def c62_52:MCode:=.block 5 c62_53
def c62_56:MCode:=.region [
 Cr (.bin .add .other none (Cp 70) (Ck 1)),
 C0] [Cs 70,none]
def c62_51:MCode:=.seq c62_52 c62_56
def c62_49:MCode:=.seq c62_50 c62_51
def c62_47:MCode:=.seq c62_48 c62_49
def c62_46:MCode:=.loop c62_47
def c62_45:MCode:=.block 4 c62_46
def c62_43:MCode:=.seq c62_44 c62_45
def c62_58:MCode:=.region [
 Cm 14,
 C0] [Cs 4,none]
def c62_57:MCode:=.seq c62_58 .ret
def c62_42:MCode:=.seq c62_43 c62_57
def c62_40:MCode:=.seq c62_41 c62_42
def c62_38:MCode:=.seq c62_39 c62_40
def c62_6:MCode:=.seq c62_7 c62_38
def c62_4:MCode:=.seq c62_5 c62_6
def c62_2:MCode:=.seq c62_3 c62_4
def c62_0:MCode:=.seq c62_1 c62_2
theorem fi62:funInfo Tryd.prog 62 = some { code:=c62_0,ntmps:=88,nargs:=2,ps:=[76,75,13,15,80,79,81,78,82,83,77,74,73,84,85,71,69,70,14,8,6,12,7,10,35,38,36,37,9,24,27,25,26,3,5,2,1,0,4],res:=[.tmp 4] }:=by kernel_rfl
/-! (roundelay/heap.state).breadth -/
def c66_1:MCode:=.region [
 Cr (.box (Cp 0)),
 Cr (.box (Cp 1))] [Cs 4,Cs 3]
def c66_3:MCode:=.region [
 Cr (.fieldAddr (some 0) (Cp 3)),
 Cr (.load (some none) (.loc 0)),
 Cr (.len (some (.slc,0)) (.loc 0)),
 Cr (.makeSlice (some (1,1)) (some [(.bool false)]) (.loc 0) (.loc 0)),
 Cr (.alloc (some [.nilSlice])),
 Cr (.store (some 1) (.loc 0) (.loc 1))] [none,Cs 6,none,none,none,none]
def c66_5:MCode:=.region [
 Cr (.alloc (some [.nilSlice]))] [Cs 7]
def c66_7:MCode:=.region [
 Cr (.func (some 97) [] [(Cp 6),(Cp 7),(Cp 4)]),
 C0] [Cs 8,none]
def c66_9:MCode:=.region [
 Cm 2,
 Cr (.len (some (.slc,0)) (.loc 0)),
 Cr (.move (Ck 0))] [Cs 20,Cs 19,Cs 18]
def c66_13:MCode:=.region [
 Cr (.bin .lss .other none (Cp 20) (Cp 19))] [Cs 21]
def c66_15:MCode:=.cond (Cp 21) .skip (.exit 0)
def c66_19:MCode:=.region [
 Cr (.indexAddr .slc (some (1,8)) none (Cp 18) (Cp 20)),
 Cr (.load (some none) (.loc 0)),
 C0] [Cs 10,none,none]
def c66_21:MCode:=.region [
 Cm 8,
 Cm 10,
 Cr (.call (.loc 1) [(.loc 0)])] [none,none,none]
def c66_26:MCode:=.region [
 Cr (.load (some none) (Cp 7)),
 Cr (.len (some (.slc,0)) (.loc 0)),
 Cr (.bin .gtr .other none (.loc 0) (Ck 0))] [Cs 29,none,none]
def c66_27:MCode:=.cond (Cp 29) .skip (.exit 2)
def c66_25:MCode:=.seq c66_26 c66_27
def c66_31:MCode:=.region [
 Cr (.fieldAddr (some 0) (Cp 3)),
 Cr (.load (some none) (.loc 0)),
 Cr (.load (some none) (Cp 7)),
 Cr (.indexAddr .slc (some (1,8)) none (.loc 0) (Ck 0)),
 Cr (.load (some none) (.loc 0)),
 Cr (.indexAddr .slc (some (4,56)) none (.loc 3) (.loc 0)),
 Cr (.fieldAddr (some 2) (.loc 0)),
 Cr (.load (some none) (.loc 0)),
 Cr (.len (some (.slc,0)) (.loc 0)),
 Cr (.move (Ck 0))] [Cs 41,Cs 40,Cs 39,Cs 38,Cs 37,Cs 36,Cs 35,Cs 34,Cs 33,Cs 32]
def c66_35:MCode:=.region [
 Cr (.bin .lss .other none (Cp 41) (Cp 40))] [Cs 42]
def c66_37:MCode:=.cond (Cp 42) .skip (.exit 4)
def c66_41:MCode:=.region [
 Cr (.indexAddr .slc (some (1,8)) none (Cp 39) (Cp 41)),
 Cr (.load (some none) (.loc 0)),
 C0] [Cs 12,none,none]
def c66_42:MCode:=.region [
 Cm 8,
 Cm 12,
 Cr (.call (.loc 1) [(.loc 0)])] [none,none,none]
def c66_40:MCode:=.seq c66_41 c66_42
def c66_39:MCode:=.block 5 c66_40
def c66_43:MCode:=.region [
 Cr (.bin .add .other none (Cp 41) (Ck 1)),
 C0] [Cs 41,none]
def c66_38:MCode:=.seq c66_39 c66_43
def c66_36:MCode:=.seq c66_37 c66_38
def c66_34:MCode:=.seq c66_35 c66_36
def c66_33:MCode:=.loop c66_34
def c66_32:MCode:=.block 4 c66_33
def Zsy:MCode:=.seq c66_31 c66_32
def c66_29:MCode:=.block 3 Zsy
def c66_44:MCode:=.region [
 Cr (.load (some none) (Cp 7)),
 Cr (.slice .slc (some (1,8)) none (.loc 0) (some (Ck 1)) none none),
 Cr (.store (some 1) (Cp 7) (.loc 0))] [none,none,none]
def c66_28:MCode:=.seq c66_29 c66_44
def c66_24:MCode:=.seq c66_25 c66_28
def c66_23:MCode:=.loop c66_24
def Zsr:MCode:=.block 2 c66_23
def c66_20:MCode:=.seq c66_21 Zsr
def c66_18:MCode:=.seq c66_19 c66_20
def c66_17:MCode:=.block 1 c66_18
def c66_45:MCode:=.region [
 Cr (.bin .add .other none (Cp 20) (Ck 1)),
 C0] [Cs 20,none]
def c66_16:MCode:=.seq c66_17 c66_45
def c66_14:MCode:=.seq c66_15 c66_16
def c66_12:MCode:=.seq c66_13 c66_14
def c66_11:MCode:=.loop c66_12
def c66_10:MCode:=.block 0 c66_11
def c66_8:MCode:=.seq c66_9 c66_10
def c66_6:MCode:=.seq c66_7 c66_8
def c66_4:MCode:=.seq c66_5 c66_6
def c66_2:MCode:=.seq c66_3 c66_4
def c66_0:MCode:=.seq c66_1 c66_2
theorem fi66:funInfo Tryd.prog 66 = some { code:=c66_0,ntmps:=50,nargs:=3,ps:=[12,42,40,41,32,34,35,36,33,37,38,39,29,10,8,18,21,19,20,2,4,7,6,3,1,0],res:=[] }:=by kernel_rfl
/-! (*roundelay/heap.Heap).Get$1 -/
def c67_0:MCode:=.region [
 Cr (.load (some none) (Cp 1)),
 Cm 0,
 Cr (.buildSlice (some (1,8)) (some [(.int .i64 0)]) 1 [(0,(.loc 0))]),
 Cr (.append (some (1,8)) (.loc 2) (.loc 0)),
 Cr (.store (some 1) (Cp 1) (.loc 0))] [none,none,none,none,none]
theorem fi67:funInfo Tryd.prog 67 = some { code:=c67_0,ntmps:=7,nargs:=2,ps:=[0,1],res:=[] }:=by kernel_rfl
/-! (*roundelay/heap.Heap).Sweep$1 -/
def c74_0:MCode:=.region [
 Cr (.load (some none) (Cp 1)),
 Cm 0,
 Cr (.indexAddr .slc (some (1,1)) none (.loc 1) (.loc 0)),
 Cr (.store (some 1) (.loc 0) (.cst (.bool true)))] [none,none,none,none]
theorem fi74:funInfo Tryd.prog 74 = some { code:=c74_0,ntmps:=6,nargs:=2,ps:=[0,1],res:=[] }:=by kernel_rfl
/-! (roundelay/heap.state).holds -/
def c75_1:MCode:=.region [
 Cr (.box (Cp 0)),
 Cr (.move (.cst .nilSlice))] [Cs 2,Cs 1]
def c75_3:MCode:=.region [
 Cr (.alloc (some [.nilSlice]))] [Cs 3]
def c75_6:MCode:=.region [
 Cr (.load (some (some 1)) (Cp 1)),
 Cr (.call (.cst (.fn 55 [] [])) [(.loc 0)])] [Cs 6,none]
def c75_9:MCode:=.region [
 Cm 7] [Cs 4]
def c75_12:MCode:=.region [
 Cr (.fieldAddr (some 0) (Cp 1)),
 Cr (.load (some none) (.loc 0)),
 Cm 4,
 Cr (.indexAddr .slc (some (4,56)) none (.loc 1) (.loc 0)),
 Cr (.fieldAddr (some 3) (.loc 0)),
 Cr (.load (some none) (.loc 0)),
 Cr (.bin .gtr .other none (.loc 0) (Ck 0))] [Cs 14,none,none,none,none,none,none]
def c75_14:MCode:=.region [
 Cr (.load (some none) (Cp 3)),
 Cm 4,
 Cr (.buildSlice (some (1,8)) (some [(.int .i64 0)]) 1 [(0,(.loc 0))]),
 Cr (.append (some (1,8)) (.loc 2) (.loc 0)),
 Cr (.store (some 1) (Cp 3) (.loc 0))] [none,none,none,none,none]
def c75_13:MCode:=.cond (Cp 14) c75_14 .skip
def c75_11:MCode:=.seq c75_12 c75_13
def c75_10:MCode:=.block 1 c75_11
def c75_8:MCode:=.range (Cp 6) [7] c75_9 c75_10
def c75_7:MCode:=.block 0 c75_8
def c75_5:MCode:=.seq c75_6 c75_7
def c75_16:MCode:=.region [
 Cr (.load (some none) (Cp 3)),
 C0] [Cs 2,none]
def c75_15:MCode:=.seq c75_16 .ret
def c75_4:MCode:=.seq c75_5 c75_15
def c75_2:MCode:=.seq c75_3 c75_4
def c75_0:MCode:=.seq c75_1 c75_2
theorem fi75:funInfo Tryd.prog 75 = some { code:=c75_0,ntmps:=20,nargs:=1,ps:=[3,14,4,7,6,1,0,2],res:=[.tmp 2] }:=by kernel_rfl
/-! roundelay/heap.Same$1 -/
def c79_1:MCode:=.region [
 Cr (.box (Cp 0)),
 Cr (.box (Cp 1)),
 Cr (.move (.cst (.bool false)))] [Cs 4,Cs 3,Cs 2]
def c79_3:MCode:=.region [
 Cr (.fieldAddr (some 0) (Cp 2)),
 Cr (.load (some none) (.loc 0)),
 Cr (.fieldAddr (some 0) (Cp 3)),
 Cr (.load (some none) (.loc 0)),
 Cr (.bin .eql .bool none (.loc 2) (.loc 0)),
 C0,
 .run (some (some ((.loc 0),true))) (.fieldAddr (some 1) (Cp 2)),
 .run (some (some ((.loc 1),true))) (.load (some none) (.loc 0)),
 .run (some (some ((.loc 2),true))) (.fieldAddr (some 1) (Cp 3)),
 .run (some (some ((.loc 3),true))) (.load (some none) (.loc 0)),
 .run (some (some ((.loc 4),true))) (.bin .eql .other none (.loc 2) (.loc 0)),
 Cr (.pick (.loc 5) (.loc 0) (.cst (.bool false))),
 C0,
 .run (some (some ((.loc 0),true))) (.fieldAddr (some 3) (Cp 2)),
 .run (some (some ((.loc 1),true))) (.load (some none) (.loc 0)),
 .run (some (some ((.loc 2),true))) (.fieldAddr (some 3) (Cp 3)),
 .run (some (some ((.loc 3),true))) (.load (some none) (.loc 0)),
 .run (some (some ((.loc 4),true))) (.bin .eql .other none (.loc 2) (.loc 0)),
 Cr (.pick (.loc 5) (.loc 0) (.cst (.bool false))),
 C0,
 .run (some (some ((.loc 0),true))) (.fieldAddr (some 2) (Cp 2)),
 .run (some (some ((.loc 1),true))) (.load (some none) (.loc 0)),
 .run (some (some ((.loc 2),true))) (.fieldAddr (some 2) (Cp 3)),
 .run (some (some ((.loc 3),true))) (.load (some none) (.loc 0)),
 .run (some (some ((.loc 4),true))) (.call (.cst (.fn 39 [] [])) [(.loc 2),(.loc 0)]),
 Cr (.pick (.loc 5) (.loc 0) (.cst (.bool false))),
 C0] [Cs 4,none,none,none,none,none,none,none,none,none,none,none,none,none,none,none,none,none,none,none,none,none,none,none,none,none,none]
def c79_2:MCode:=.seq c79_3 .ret
def c79_0:MCode:=.seq c79_1 c79_2
theorem fi79:funInfo Tryd.prog 79 = some { code:=c79_0,ntmps:=31,nargs:=2,ps:=[3,2,1,0,4],res:=[.tmp 4] }:=by kernel_rfl
/-! slices.EqualFunc[[]roundelay/heap.cell,[]roundelay/heap.cell,roundelay/heap.cell,roundelay/heap.cell] -/
def c80_1:MCode:=.region [
 Cr (.move (.cst (.bool false)))] [Cs 6]
def c80_4:MCode:=.region [
 Cm 0,
 Cr (.len (some (.slc,0)) (.loc 0)),
 Cm 1,
 Cr (.len (some (.slc,0)) (.loc 0)),
 Cr (.bin .neq .other none (.loc 2) (.loc 0))] [Cs 14,none,none,none,none]
def c80_7:MCode:=.region [
 Cr (.move (.cst (.bool false)))] [Cs 6]
def c80_6:MCode:=.seq c80_7 .ret
def c80_5:MCode:=.cond (Cp 14) c80_6 .skip
def c80_3:MCode:=.seq c80_4 c80_5
def c80_10:MCode:=.region [
 Cm 0,
 Cr (.len (some (.slc,0)) (.loc 0)),
 Cr (.move (Ck 0))] [Cs 17,Cs 16,Cs 15]
def c80_14:MCode:=.region [
 Cr (.bin .lss .other none (Cp 17) (Cp 16))] [Cs 18]
def c80_16:MCode:=.cond (Cp 18) .skip (.exit 0)
def c80_20:MCode:=.region [
 Cm 17,
 Cr (.indexAddr .slc (some (4,56)) none (Cp 15) (Cp 17)),
 Cr (.load (some (some 4)) (.loc 0)),
 Cr (.alloc (some [(.bool false),(.str []),.nilSlice,(.int .i64 0)])),
 Cr (.move (.loc 3)),
 Cr (.store (some 4) (.loc 1) (.loc 2))] [none,Cs 7,Cs 8,none,none,none]
def c80_22:MCode:=.region [
 Cm 1,
 Cm 7,
 Cr (.indexAddr .slc (some (4,56)) none (.loc 1) (.loc 0)),
 Cr (.load (some (some 4)) (.loc 0)),
 Cr (.alloc (some [(.bool false),(.str []),.nilSlice,(.int .i64 0)])),
 Cr (.store (some 4) (.loc 0) (.loc 1))] [none,Cs 9,none,none,none,none]
def c80_24:MCode:=.region [
 Cm 2,
 Cr (.load (some (some 4)) (Cp 8)),
 Cr (.load (some (some 4)) (Cp 9)),
 Cr (.call (.loc 2) [(.loc 1),(.loc 0)]),
 Cr (.un .not (.loc 0))] [Cs 30,none,none,none,none]
def c80_27:MCode:=.region [
 Cr (.move (.cst (.bool false)))] [Cs 6]
def c80_26:MCode:=.seq c80_27 .ret
def c80_25:MCode:=.cond (Cp 30) c80_26 .skip
def c80_23:MCode:=.seq c80_24 c80_25
def c80_21:MCode:=.seq c80_22 c80_23
def c80_19:MCode:=.seq c80_20 c80_21
def c80_18:MCode:=.block 1 c80_19
def c80_28:MCode:=.region [
 Cr (.bin .add .other none (Cp 17) (Ck 1)),
 C0] [Cs 17,none]
def c80_17:MCode:=.seq c80_18 c80_28
def c80_15:MCode:=.seq c80_16 c80_17
def c80_13:MCode:=.seq c80_14 c80_15
def c80_12:MCode:=.loop c80_13
def c80_11:MCode:=.block 0 c80_12
def c80_9:MCode:=.seq c80_10 c80_11
def c80_30:MCode:=.region [
 Cr (.move (.cst (.bool true)))] [Cs 6]
def c80_29:MCode:=.seq c80_30 .ret
def c80_8:MCode:=.seq c80_9 c80_29
def c80_2:MCode:=.seq c80_3 c80_8
def c80_0:MCode:=.seq c80_1 c80_2
theorem fi80:funInfo Tryd.prog 80 = some { code:=c80_0,ntmps:=32,nargs:=3,ps:=[30,9,8,2,7,15,18,16,17,14,1,0,6],res:=[.tmp 6] }:=by kernel_rfl
/-! (*roundelay/heap.Heap).Pack$1 -/
def c81_1:MCode:=.region [
 Cr (.load (some none) (Cp 2)),
 Cm 0,
 Cr (.load (some none) (Cp 1)),
 Cr (.indexAddr .slc (some (1,8)) none (.loc 2) (.loc 1)),
 Cr (.store (some 1) (.loc 0) (.loc 1))] [none,none,none,none,none]
def c81_3:MCode:=.region [
 Cr (.fieldAddr (some 0) (Cp 4)),
 Cr (.load (some none) (.loc 0)),
 Cr (.load (some none) (Cp 1)),
 Cr (.load (some none) (Cp 3)),
 Cr (.nilck (.loc 0)),
 Cr (.fieldAddr (some 0) (.loc 0)),
 Cr (.fieldAddr (some 0) (.loc 0)),
 Cr (.load (some none) (.loc 0)),
 Cm 0,
 Cr (.indexAddr .slc (some (4,56)) none (.loc 1) (.loc 0)),
 Cr (.load (some (some 4)) (.loc 0)),
 Cr (.indexAddr .slc (some (4,56)) none (.loc 9) (.loc 8)),
 Cr (.store (some 4) (.loc 0) (.loc 1))] [none,Cs 21,Cs 20,Cs 19,Cs 18,Cs 17,Cs 16,Cs 15,Cs 14,Cs 13,Cs 12,Cs 11,Cs 10]
def c81_4:MCode:=.region [
 Cr (.load (some none) (Cp 1)),
 Cr (.bin .add .other none (.loc 0) (Ck 1)),
 Cr (.store (some 1) (Cp 1) (.loc 0))] [none,none,none]
def c81_2:MCode:=.seq c81_3 c81_4
def c81_0:MCode:=.seq c81_1 c81_2
theorem fi81:funInfo Tryd.prog 81 = some { code:=c81_0,ntmps:=24,nargs:=5,ps:=[4,10,3,13,14,15,16,18,17,19,12,11,20,21,1,0,2],res:=[] }:=by kernel_rfl
/-! (*roundelay/heap.Heap).Pack$2 -/
def c82_1:MCode:=.region [
 Cr (.move (Ck 0))] [Cs 3]
def c82_3:MCode:=.region [
 Cr (.load (some none) (Cp 1)),
 Cm 0,
 Cr (.indexAddr .slc (some (1,8)) none (.loc 1) (.loc 0)),
 Cr (.load (some none) (.loc 0)),
 C0] [Cs 3,none,none,none,none]
def c82_2:MCode:=.seq c82_3 .ret
def c82_0:MCode:=.seq c82_1 c82_2
theorem fi82:funInfo Tryd.prog 82 = some { code:=c82_0,ntmps:=8,nargs:=2,ps:=[0,1,3],res:=[.tmp 3] }:=by kernel_rfl
/-! (roundelay/heap.state).breadth$1 -/
def c97_1:MCode:=.region [
 Cr (.load (some none) (Cp 1)),
 Cm 0,
 Cr (.indexAddr .slc (some (1,1)) none (.loc 1) (.loc 0)),
 Cr (.load (some none) (.loc 0)),
 Cr (.un .not (.loc 0))] [Cs 9,none,none,none,none]
def c97_4:MCode:=.region [
 Cr (.load (some none) (Cp 1)),
 Cm 0,
 Cr (.indexAddr .slc (some (1,1)) none (.loc 1) (.loc 0)),
 Cr (.store (some 1) (.loc 0) (.cst (.bool true)))] [none,none,none,none]
def c97_6:MCode:=.region [
 Cr (.load (some none) (Cp 2)),
 Cm 0,
 Cr (.buildSlice (some (1,8)) (some [(.int .i64 0)]) 1 [(0,(.loc 0))]),
 Cr (.append (some (1,8)) (.loc 2) (.loc 0)),
 Cr (.store (some 1) (Cp 2) (.loc 0))] [none,none,none,none,none]
def c97_7:MCode:=.region [
 Cr (.load (some none) (Cp 3)),
 Cm 0,
 Cr (.call (.loc 1) [(.loc 0)])] [none,none,none]
def c97_5:MCode:=.seq c97_6 c97_7
def c97_3:MCode:=.seq c97_4 c97_5
def c97_2:MCode:=.cond (Cp 9) c97_3 .skip
def c97_0:MCode:=.seq c97_1 c97_2
theorem fi97:funInfo Tryd.prog 97 = some { code:=c97_0,ntmps:=20,nargs:=4,ps:=[3,2,9,0,1],res:=[] }:=by kernel_rfl
/-! slices.Equal[[]int,int] -/
def c39_1:MCode:=.region [
 Cr (.move (.cst (.bool false)))] [Cs 4]
def c39_4:MCode:=.region [
 Cm 0,
 Cr (.len (some (.slc,0)) (.loc 0)),
 Cm 1,
 Cr (.len (some (.slc,0)) (.loc 0)),
 Cr (.bin .neq .other none (.loc 2) (.loc 0))] [Cs 10,none,none,none,none]
def c39_7:MCode:=.region [
 Cr (.move (.cst (.bool false)))] [Cs 4]
def c39_6:MCode:=.seq c39_7 .ret
def c39_5:MCode:=.cond (Cp 10) c39_6 .skip
def c39_3:MCode:=.seq c39_4 c39_5
def c39_10:MCode:=.region [
 Cm 0,
 Cr (.len (some (.slc,0)) (.loc 0)),
 Cr (.move (Ck 0))] [Cs 13,Cs 12,none]
def c39_14:MCode:=.region [
 Cr (.bin .lss .other none (Cp 13) (Cp 12))] [Cs 14]
def c39_16:MCode:=.cond (Cp 14) .skip (.exit 0)
def c39_20:MCode:=.region [
 Cm 13,
 C0] [Cs 5,none]
def c39_22:MCode:=.region [
 Cm 0,
 Cm 5,
 Cr (.indexAddr .slc (some (1,8)) none (.loc 1) (.loc 0)),
 Cr (.load (some none) (.loc 0)),
 Cm 1,
 Cm 5,
 Cr (.indexAddr .slc (some (1,8)) none (.loc 1) (.loc 0)),
 Cr (.load (some none) (.loc 0)),
 Cr (.bin .neq .other none (.loc 4) (.loc 0))] [Cs 24,Cs 23,Cs 22,Cs 21,Cs 20,Cs 19,Cs 18,Cs 17,Cs 16]
def c39_25:MCode:=.region [
 Cr (.move (.cst (.bool false)))] [Cs 4]
def c39_24:MCode:=.seq c39_25 .ret
def c39_23:MCode:=.cond (Cp 24) c39_24 .skip
def c39_21:MCode:=.seq c39_22 c39_23
def c39_19:MCode:=.seq c39_20 c39_21
def c39_18:MCode:=.block 1 c39_19
def c39_26:MCode:=.region [
 Cr (.bin .add .other none (Cp 13) (Ck 1)),
 C0] [Cs 13,none]
def c39_17:MCode:=.seq c39_18 c39_26
def c39_15:MCode:=.seq c39_16 c39_17
def c39_13:MCode:=.seq c39_14 c39_15
def c39_12:MCode:=.loop c39_13
def c39_11:MCode:=.block 0 c39_12
def c39_9:MCode:=.seq c39_10 c39_11
def c39_28:MCode:=.region [
 Cr (.move (.cst (.bool true)))] [Cs 4]
def c39_27:MCode:=.seq c39_28 .ret
def c39_8:MCode:=.seq c39_9 c39_27
def c39_2:MCode:=.seq c39_3 c39_8
def c39_0:MCode:=.seq c39_1 c39_2
theorem fi39:funInfo Tryd.prog 39 = some { code:=c39_0,ntmps:=26,nargs:=2,ps:=[24,17,16,18,5,21,20,22,23,19,14,12,13,10,1,0,4],res:=[.tmp 4] }:=by kernel_rfl
end Go.Proofs
end
section
/- The functions codes: trees. -/
open Go Go.AM
namespace Go.Proofs
/-! roundelay/alike.Least -/
def c23_1:MCode:=.region [
 Cr (.box (Cp 0)),
 Cr (.alloc (some [.nilSlice,(.int .i64 0)])),
 Cr (.move (Ck 0))] [Cs 3,Cs 2,Cs 1]
def c23_4:MCode:=.region [
 Cr (.load (some (some 2)) (Cp 1)),
 Cr (.buildSlice (some (2,32)) (some [.nilSlice,(.int .i64 0)]) 1 [(0,(.loc 0))]),
 Cr (.call (.cst (.fn 68 [] [])) [(.loc 0)]),
 C0] [Cs 4,none,none,none]
def c23_6:MCode:=.region [
 Cm 4,
 Cr (.bin .neq .other none (.loc 0) (Ck 0))] [Cs 12,none]
def c23_9:MCode:=.region [
 Cr (.build (some []) (some [.nilSlice,(.int .i64 0)])),
 Cm 4,
 Cr (.store (some 2) (Cp 2) (.loc 1)),
 Cr (.move (.loc 1))] [Cs 3,none,none,none]
def c23_8:MCode:=.seq c23_9 .ret
def c23_7:MCode:=.cond (Cp 12) c23_8 .skip
def c23_5:MCode:=.seq c23_6 c23_7
def c23_3:MCode:=.seq c23_4 c23_5
def c23_11:MCode:=.region [
 Cr (.fieldAddr (some 0) (Cp 1)),
 Cr (.load (some none) (.loc 0)),
 Cr (.fieldAddr (some 1) (Cp 1)),
 Cr (.load (some none) (.loc 0)),
 Cr (.buildSlice (some (1,8)) (some [(.int .i64 0)]) 1 [(0,(.loc 0))]),
 Cr (.call (.cst (.fn 69 [] [])) [(.loc 3),(.loc 0)]),
 C0] [Cs 5,none,none,none,none,none,none]
def c23_13:MCode:=.region [
 Cr (.fieldAddr (some 0) (Cp 1)),
 Cr (.load (some none) (.loc 0)),
 Cm 5,
 Cr (.call (.cst (.fn 70 [] [])) [(.loc 1),(.loc 0)]),
 C0,
 Cr (.extract (.loc 0) 0),
 Cr (.extract (.loc 1) 1),
 Cr (.move (.loc 1)),
 Cr (.move (.loc 1))] [Cs 7,Cs 6,none,none,none,none,none,none,none]
def c23_15:MCode:=.region [
 Cr (.fieldAddr (some 0) (Cp 1)),
 Cr (.load (some none) (.loc 0)),
 Cm 5,
 Cm 6,
 Cm 7,
 Cr (.call (.cst (.fn 71 [] [])) [(.loc 3),(.loc 2),(.loc 1),(.loc 0)]),
 Cr (.store (some 2) (Cp 2) (.loc 0)),
 Cr (.move (Ck 0))] [Cs 3,none,none,none,none,none,none,none]
def c23_14:MCode:=.seq c23_15 .ret
def c23_12:MCode:=.seq c23_13 c23_14
def c23_10:MCode:=.seq c23_11 c23_12
def c23_2:MCode:=.seq c23_3 c23_10
def c23_0:MCode:=.seq c23_1 c23_2
theorem fi23:funInfo Tryd.prog 23 = some { code:=c23_0,ntmps:=34,nargs:=1,ps:=[7,6,5,12,4,1,0,2,3],res:=[.cell 2 42,.tmp 3] }:=by kernel_rfl
/-! roundelay/tree.Check -/
def c63_1:MCode:=.region [
 Cr (.box (Cp 0)),
 Cr (.move (Ck 0))] [Cs 2,Cs 1]
def c63_3:MCode:=.region [
 Cr (.func (some 89) [] [(Cp 1)]),
 Cr (.alloc (some [.nilFn])),
 Cr (.store (some 1) (.loc 0) (.loc 1))] [none,Cs 3,none]
def c63_7:MCode:=.region [
 Cr (.fieldAddr (some 0) (Cp 1)),
 Cr (.load (some none) (.loc 0)),
 Cr (.len (some (.slc,0)) (.loc 0)),
 Cr (.bin .lss .other none (.loc 0) (Ck 1)),
 C0,
 .run (some (some ((.loc 0),false))) (.fieldAddr (some 0) (Cp 1)),
 .run (some (some ((.loc 1),false))) (.load (some none) (.loc 0)),
 .run (some (some ((.loc 2),false))) (.len (some (.slc,0)) (.loc 0)),
 .run (some (some ((.loc 3),false))) (.bin .gtr .other none (.loc 0) (Ck 60)),
 Cr (.pick (.loc 4) (.cst (.bool true)) (.loc 0)),
 C0,
 .run (some (some ((.loc 0),false))) (.fieldAddr (some 0) (Cp 1)),
 .run (some (some ((.loc 1),false))) (.load (some none) (.loc 0)),
 .run (some (some ((.loc 2),false))) (.call (.cst (.fn 90 [] [])) [(.loc 0),(.cst (.fn 91 [] []))]),
 .run (some (some ((.loc 3),false))) (.un .not (.loc 0)),
 Cr (.pick (.loc 4) (.cst (.bool true)) (.loc 0)),
 C0] [Cs 5,none,none,none,none,none,none,none,none,none,none,none,none,none,none,none,none]
def c63_10:MCode:=.region [
 Cr (.move (Ck 2))] [Cs 2]
def c63_9:MCode:=.seq c63_10 .ret
def c63_12:MCode:=.region [
 Cr (.fieldAddr (some 0) (Cp 1)),
 Cr (.load (some none) (.loc 0)),
 Cr (.call (.cst (.fn 90 [] [])) [(.loc 0),(.cst (.fn 92 [] []))]),
 Cr (.un .not (.loc 0)),
 C0] [Cs 22,none,none,none,none]
def c63_15:MCode:=.region [
 Cr (.move (Ck 4))] [Cs 2]
def c63_14:MCode:=.seq c63_15 .ret
def c63_17:MCode:=.region [
 Cr (.load (some none) (Cp 3)),
 Cr (.fieldAddr (some 1) (Cp 1)),
 Cr (.load (some none) (.loc 0)),
 Cr (.call (.loc 2) [(.loc 0)]),
 Cr (.un .not (.loc 0)),
 C0,
 .run (some (some ((.loc 0),false))) (.fieldAddr (some 0) (Cp 1)),
 .run (some (some ((.loc 1),false))) (.load (some none) (.loc 0)),
 .run (some (some ((.loc 2),false))) (.func (some 94) [] [(Cp 3)]),
 .run (some (some ((.loc 3),false))) (.call (.cst (.fn 90 [] [])) [(.loc 1),(.loc 0)]),
 .run (some (some ((.loc 4),false))) (.un .not (.loc 0)),
 Cr (.pick (.loc 5) (.cst (.bool true)) (.loc 0)),
 C0] [Cs 27,none,none,none,none,none,none,none,none,none,none,none,none]
def c63_20:MCode:=.region [
 Cr (.move (Ck 1))] [Cs 2]
def c63_19:MCode:=.seq c63_20 .ret
def c63_18:MCode:=.cond (Cp 27) c63_19 .skip
def c63_16:MCode:=.seq c63_17 c63_18
def c63_13:MCode:=.cond (Cp 22) c63_14 c63_16
def c63_11:MCode:=.seq c63_12 c63_13
def c63_8:MCode:=.cond (Cp 5) c63_9 c63_11
def c63_6:MCode:=.seq c63_7 c63_8
def c63_5:MCode:=.block 0 c63_6
def c63_22:MCode:=.region [
 Cr (.move (Ck 0))] [Cs 2]
def c63_21:MCode:=.seq c63_22 .ret
def c63_4:MCode:=.seq c63_5 c63_21
def c63_2:MCode:=.seq c63_3 c63_4
def c63_0:MCode:=.seq c63_1 c63_2
theorem fi63:funInfo Tryd.prog 63 = some { code:=c63_0,ntmps:=40,nargs:=1,ps:=[27,3,22,5,1,0,2],res:=[.tmp 2] }:=by kernel_rfl
/-! roundelay/alike.checked -/
def c68_1:MCode:=.region [
 Cr (.move (Ck 0))] [Cs 2]
def c68_3:MCode:=.region [
 Cm 0,
 Cr (.call (.cst (.fn 98 [] [])) [(.loc 0),(.cst (.fn 99 [] []))]),
 C0,
 Cr (.extract (.loc 0) 0),
 Cr (.extract (.loc 1) 1),
 Cr (.alloc (some [.nilSlice,(.int .i64 0)])),
 Cr (.store (some 2) (.loc 0) (.loc 2)),
 Cr (.move (.loc 2))] [Cs 4,none,Cs 3,none,none,none,none,none]
def c68_6:MCode:=.region [
 Cm 4,
 Cr (.un .not (.loc 0))] [Cs 11,none]
def c68_9:MCode:=.region [
 Cr (.move (Ck 0))] [Cs 2]
def c68_8:MCode:=.seq c68_9 .ret
def c68_7:MCode:=.cond (Cp 11) c68_8 .skip
def c68_5:MCode:=.seq c68_6 c68_7
def c68_11:MCode:=.region [
 Cr (.load (some (some 2)) (Cp 3)),
 Cr (.call (.cst (.fn 63 [] [])) [(.loc 0)]),
 C0] [Cs 2,none,none]
def c68_10:MCode:=.seq c68_11 .ret
def c68_4:MCode:=.seq c68_5 c68_10
def c68_2:MCode:=.seq c68_3 c68_4
def c68_0:MCode:=.seq c68_1 c68_2
theorem fi68:funInfo Tryd.prog 68 = some { code:=c68_0,ntmps:=14,nargs:=1,ps:=[3,11,4,0,2],res:=[.tmp 2] }:=by kernel_rfl
/-! roundelay/alike.breadth -/
def c69_1:MCode:=.region [
 Cr (.move (.cst .nilSlice))] [Cs 4]
def c69_3:MCode:=.region [
 Cm 0,
 Cr (.len (some (.slc,0)) (.loc 0)),
 Cr (.makeSlice (some (1,1)) (some [(.bool false)]) (.loc 0) (.loc 0)),
 C0] [Cs 5,none,none,none]
def c69_5:MCode:=.region [
 Cr (.move (.cst .nilSlice))] [Cs 6]
def c69_8:MCode:=.region [
 Cm 1,
 Cr (.len (some (.slc,0)) (.loc 0)),
 Cr (.move (Ck 0))] [Cs 17,Cs 16,Cs 15]
def c69_12:MCode:=.region [
 Cr (.bin .lss .other none (Cp 17) (Cp 16))] [Cs 18]
def c69_14:MCode:=.cond (Cp 18) .skip (.exit 0)
def c69_18:MCode:=.region [
 Cr (.indexAddr .slc (some (1,8)) none (Cp 15) (Cp 17)),
 Cr (.load (some none) (.loc 0)),
 C0] [Cs 8,none,none]
def c69_20:MCode:=.region [
 Cm 6,
 Cr (.len (some (.slc,0)) (.loc 0)),
 C0] [Cs 9,none,none]
def c69_23:MCode:=.region [
 Cm 5,
 Cm 8,
 Cr (.indexAddr .slc (some (1,1)) none (.loc 1) (.loc 0)),
 Cr (.load (some none) (.loc 0)),
 Cr (.un .not (.loc 0))] [Cs 27,none,none,none,none]
def c69_26:MCode:=.region [
 Cm 5,
 Cm 8,
 Cr (.indexAddr .slc (some (1,1)) none (.loc 1) (.loc 0)),
 Cr (.store (some 1) (.loc 0) (.cst (.bool true)))] [none,none,none,none]
def c69_27:MCode:=.region [
 Cm 6,
 Cm 8,
 Cr (.buildSlice (some (1,8)) (some [(.int .i64 0)]) 1 [(0,(.loc 0))]),
 Cr (.append (some (1,8)) (.loc 2) (.loc 0)),
 C0] [Cs 6,none,none,none,none]
def c69_25:MCode:=.seq c69_26 c69_27
def c69_24:MCode:=.cond (Cp 27) c69_25 .skip
def c69_22:MCode:=.seq c69_23 c69_24
def c69_32:MCode:=.region [
 Cm 9,
 Cm 6,
 Cr (.len (some (.slc,0)) (.loc 0)),
 Cr (.bin .lss .other none (.loc 2) (.loc 0))] [Cs 38,none,none,none]
def c69_33:MCode:=.cond (Cp 38) .skip (.exit 2)
def c69_31:MCode:=.seq c69_32 c69_33
def c69_37:MCode:=.region [
 Cm 0,
 Cm 6,
 Cm 9,
 Cr (.indexAddr .slc (some (1,8)) none (.loc 1) (.loc 0)),
 Cr (.load (some none) (.loc 0)),
 Cr (.indexAddr .slc (some (2,40)) none (.loc 4) (.loc 0)),
 Cr (.fieldAddr (some 1) (.loc 0)),
 Cr (.load (some none) (.loc 0)),
 Cr (.len (some (.slc,0)) (.loc 0)),
 Cr (.move (Ck 0))] [Cs 50,Cs 49,Cs 48,none,none,none,none,none,none,none]
def c69_41:MCode:=.region [
 Cr (.bin .lss .other none (Cp 50) (Cp 49))] [Cs 51]
def c69_43:MCode:=.cond (Cp 51) .skip (.exit 4)
def c69_47:MCode:=.region [
 Cr (.indexAddr .slc (some (1,8)) none (Cp 48) (Cp 50)),
 Cr (.load (some none) (.loc 0)),
 C0] [Cs 11,none,none]
def c69_49:MCode:=.region [
 Cm 5,
 Cm 11,
 Cr (.indexAddr .slc (some (1,1)) none (.loc 1) (.loc 0)),
 Cr (.load (some none) (.loc 0)),
 Cr (.un .not (.loc 0))] [Cs 58,none,none,none,none]
def c69_52:MCode:=.region [
 Cm 5,
 Cm 11,
 Cr (.indexAddr .slc (some (1,1)) none (.loc 1) (.loc 0)),
 Cr (.store (some 1) (.loc 0) (.cst (.bool true)))] [none,none,none,none]
def c69_53:MCode:=.region [
 Cm 6,
 Cm 11,
 Cr (.buildSlice (some (1,8)) (some [(.int .i64 0)]) 1 [(0,(.loc 0))]),
 Cr (.append (some (1,8)) (.loc 2) (.loc 0)),
 C0] [Cs 6,none,none,none,none]
def c69_51:MCode:=.seq c69_52 c69_53
def c69_50:MCode:=.cond (Cp 58) c69_51 .skip
def c69_48:MCode:=.seq c69_49 c69_50
def c69_46:MCode:=.seq c69_47 c69_48
def c69_45:MCode:=.block 5 c69_46
def c69_54:MCode:=.region [
 Cr (.bin .add .other none (Cp 50) (Ck 1)),
 C0] [Cs 50,none]
def c69_44:MCode:=.seq c69_45 c69_54
def c69_42:MCode:=.seq c69_43 c69_44
def c69_40:MCode:=.seq c69_41 c69_42
def c69_39:MCode:=.loop c69_40
def c69_38:MCode:=.block 4 c69_39
def Zsz:MCode:=.seq c69_37 c69_38
def c69_35:MCode:=.block 3 Zsz
def c69_55:MCode:=.region [
 Cm 9,
 Cr (.bin .add .other none (.loc 0) (Ck 1)),
 C0] [Cs 9,none,none]
def c69_34:MCode:=.seq c69_35 c69_55
def c69_30:MCode:=.seq c69_31 c69_34
def c69_29:MCode:=.loop c69_30
def Zsb:MCode:=.block 2 c69_29
def c69_21:MCode:=.seq c69_22 Zsb
def c69_19:MCode:=.seq c69_20 c69_21
def c69_17:MCode:=.seq c69_18 c69_19
def c69_16:MCode:=.block 1 c69_17
def c69_56:MCode:=.region [
 Cr (.bin .add .other none (Cp 17) (Ck 1)),
 C0] [Cs 17,none]
def c69_15:MCode:=.seq c69_16 c69_56
def c69_13:MCode:=.seq c69_14 c69_15
def c69_11:MCode:=.seq c69_12 c69_13
def c69_10:MCode:=.loop c69_11
def c69_9:MCode:=.block 0 c69_10
def c69_7:MCode:=.seq c69_8 c69_9
def c69_58:MCode:=.region [
 Cm 6,
 C0] [Cs 4,none]
def c69_57:MCode:=.seq c69_58 .ret
def c69_6:MCode:=.seq c69_7 c69_57
def c69_4:MCode:=.seq c69_5 c69_6
def c69_2:MCode:=.seq c69_3 c69_4
def c69_0:MCode:=.seq c69_1 c69_2
theorem fi69:funInfo Tryd.prog 69 = some { code:=c69_0,ntmps:=69,nargs:=2,ps:=[58,11,48,51,49,50,38,9,27,8,5,6,15,18,16,17,1,0,4],res:=[.tmp 4] }:=by kernel_rfl
/-! roundelay/alike.classes -/
def c70_1:MCode:=.region [
 Cr (.move (.cst .nilSlice)),
 Cr (.move (Ck 0))] [Cs 5,Cs 4]
def c70_3:MCode:=.region [
 Cm 0,
 Cr (.len (some (.slc,0)) (.loc 0)),
 Cr (.makeSlice (some (1,8)) (some [(.int .i64 0)]) (.loc 0) (.loc 0)),
 C0] [Cs 6,none,none,none]
def c70_5:MCode:=.region [
 Cr (.move (Ck 1))] [Cs 7]
def c70_10:MCode:=.region [
 Cm 0,
 Cr (.len (some (.slc,0)) (.loc 0)),
 Cr (.makeSlice (some (1,8)) (some [(.int .i64 0)]) (.loc 0) (.loc 0)),
 C0] [Cs 8,none,none,none]
def c70_13:MCode:=.region [
 Cm 8,
 Cr (.len (some (.slc,0)) (.loc 0)),
 Cr (.move (Ck 0))] [Cs 26,Cs 25,none]
def c70_17:MCode:=.region [
 Cr (.bin .lss .other none (Cp 26) (Cp 25))] [Cs 27]
def c70_19:MCode:=.cond (Cp 27) .skip (.exit 2)
def c70_23:MCode:=.region [
 Cm 26,
 C0] [Cs 9,none]
def c70_24:MCode:=.region [
 Cm 8,
 Cm 9,
 Cr (.indexAddr .slc (some (1,8)) none (.loc 1) (.loc 0)),
 Cr (.store (some 1) (.loc 0) (.cst (.int .i64 (-1))))] [none,none,none,none]
def c70_22:MCode:=.seq c70_23 c70_24
def c70_21:MCode:=.block 3 c70_22
def c70_25:MCode:=.region [
 Cr (.bin .add .other none (Cp 26) (Ck 1)),
 C0] [Cs 26,none]
def c70_20:MCode:=.seq c70_21 c70_25
def c70_18:MCode:=.seq c70_19 c70_20
def c70_16:MCode:=.seq c70_17 c70_18
def c70_15:MCode:=.loop c70_16
def c70_14:MCode:=.block 2 c70_15
def Zrw:MCode:=.seq c70_13 c70_14
def c70_27:MCode:=.region [
 Cr (.makeMap true),
 C0] [Cs 10,none]
def c70_30:MCode:=.region [
 Cm 1,
 Cr (.len (some (.slc,0)) (.loc 0)),
 Cr (.move (Ck 0))] [Cs 36,Cs 35,Cs 34]
def c70_34:MCode:=.region [
 Cr (.bin .lss .other none (Cp 36) (Cp 35))] [Cs 37]
def c70_36:MCode:=.cond (Cp 37) .skip (.exit 4)
def c70_40:MCode:=.region [
 Cr (.indexAddr .slc (some (1,8)) none (Cp 34) (Cp 36)),
 Cr (.load (some none) (.loc 0)),
 C0] [Cs 12,none,none]
def c70_42:MCode:=.region [
 Cm 0,
 Cm 12,
 Cr (.indexAddr .slc (some (2,40)) none (.loc 1) (.loc 0)),
 Cr (.fieldAddr (some 0) (.loc 0)),
 Cr (.load (some none) (.loc 0)),
 Cm 0,
 Cm 12,
 Cr (.indexAddr .slc (some (2,40)) none (.loc 1) (.loc 0)),
 Cr (.fieldAddr (some 1) (.loc 0)),
 Cr (.load (some none) (.loc 0)),
 Cr (.len (some (.slc,0)) (.loc 0)),
 Cr (.build (some [(0,(1,(.loc 6))),(1,(1,(.loc 0)))]) (some [(.str []),(.int .i64 0),(.int .i64 0),(.int .i64 0),(.int .i64 0),(.int .i64 0)])),
 .fresh,
 Cr (.alloc (some [(.str []),(.int .i64 0),(.int .i64 0),(.int .i64 0),(.int .i64 0),(.int .i64 0)])),
 Cr (.store (some 6) (.loc 0) (.loc 1))] [none,Cs 13,Cs 51,Cs 50,Cs 49,Cs 48,Cs 47,Cs 46,Cs 45,Cs 44,Cs 43,Cs 42,Cs 41,Cs 40]
def c70_45:MCode:=.region [
 Cm 0,
 Cm 12,
 Cr (.indexAddr .slc (some (2,40)) none (.loc 1) (.loc 0)),
 Cr (.fieldAddr (some 1) (.loc 0)),
 Cr (.load (some none) (.loc 0)),
 Cr (.len (some (.slc,0)) (.loc 0)),
 Cr (.move (Ck 0))] [Cs 58,Cs 57,Cs 56,none,none,none,none]
def c70_49:MCode:=.region [
 Cr (.bin .lss .other none (Cp 58) (Cp 57))] [Cs 59]
def c70_51:MCode:=.cond (Cp 59) .skip (.exit 6)
def c70_55:MCode:=.region [
 Cm 58,
 Cr (.indexAddr .slc (some (1,8)) none (Cp 56) (Cp 58)),
 Cr (.load (some none) (.loc 0)),
 Cr (.move (.loc 2)),
 Cr (.move (.loc 1))] [Cs 15,Cs 14,none,none,none]
def c70_56:MCode:=.region [
 Cm 14,
 Cm 6,
 Cm 15,
 Cr (.indexAddr .slc (some (1,8)) none (.loc 1) (.loc 0)),
 Cr (.load (some none) (.loc 0)),
 Cr (.fieldAddr (some 2) (Cp 13)),
 Cr (.indexAddr .arr none (some (4,1)) (.loc 0) (.loc 5)),
 Cr (.store (some 1) (.loc 0) (.loc 2))] [none,none,none,none,none,none,none,none]
def c70_54:MCode:=.seq c70_55 c70_56
def c70_53:MCode:=.block 7 c70_54
def c70_57:MCode:=.region [
 Cr (.bin .add .other none (Cp 58) (Ck 1)),
 C0] [Cs 58,none]
def c70_52:MCode:=.seq c70_53 c70_57
def c70_50:MCode:=.seq c70_51 c70_52
def c70_48:MCode:=.seq c70_49 c70_50
def c70_47:MCode:=.loop c70_48
def c70_46:MCode:=.block 6 c70_47
def Zss:MCode:=.seq c70_45 c70_46
def c70_59:MCode:=.region [
 Cm 10,
 Cr (.load (some (some 6)) (Cp 13)),
 Cr (.lookup (some (true,([.str,.int,.int,.int,.int,.int],(.int .i64 0)))) true (.loc 1) (.loc 0)),
 C0,
 Cr (.extract (.loc 0) 0),
 Cr (.extract (.loc 1) 1),
 Cr (.move (.loc 1)),
 Cr (.move (.loc 1))] [Cs 17,Cs 16,none,none,none,none,none,none]
def c70_62:MCode:=.region [
 Cm 17,
 Cr (.un .not (.loc 0))] [Cs 78,none]
def c70_65:MCode:=.region [
 Cm 10,
 Cr (.len (some (.map,0)) (.loc 0)),
 C0] [Cs 16,none,none]
def c70_66:MCode:=.region [
 Cm 10,
 Cr (.load (some (some 6)) (Cp 13)),
 Cm 16,
 Cr (.mapSet (some (true,([.str,.int,.int,.int,.int,.int],(.int .i64 0)))) (.loc 2) (.loc 1) (.loc 0))] [none,none,none,none]
def c70_64:MCode:=.seq c70_65 c70_66
def c70_63:MCode:=.cond (Cp 78) c70_64 .skip
def c70_61:MCode:=.seq c70_62 c70_63
def Zsp:MCode:=.region [
 Cm 8,
 Cm 12,
 Cm 16,
 Cr (.indexAddr .slc (some (1,8)) none (.loc 2) (.loc 1)),
 Cr (.store (some 1) (.loc 0) (.loc 1))] [none,none,none,none,none]
def c70_60:MCode:=.seq c70_61 Zsp
def c70_58:MCode:=.seq c70_59 c70_60
def c70_43:MCode:=.seq Zss c70_58
def Ztm:MCode:=.seq c70_42 c70_43
def c70_39:MCode:=.seq c70_40 Ztm
def c70_38:MCode:=.block 5 c70_39
def c70_68:MCode:=.region [
 Cr (.bin .add .other none (Cp 36) (Ck 1)),
 C0] [Cs 36,none]
def c70_37:MCode:=.seq c70_38 c70_68
def c70_35:MCode:=.seq c70_36 c70_37
def c70_33:MCode:=.seq c70_34 c70_35
def c70_32:MCode:=.loop c70_33
def c70_31:MCode:=.block 4 c70_32
def Ztf:MCode:=.seq c70_30 c70_31
def c70_71:MCode:=.region [
 Cm 10,
 Cr (.len (some (.map,0)) (.loc 0)),
 Cm 7,
 Cr (.bin .eql .other none (.loc 1) (.loc 0))] [Cs 92,none,none,none]
def c70_74:MCode:=.region [
 Cm 8,
 Cm 7,
 Cr (.move (.loc 1)),
 Cr (.move (.loc 1))] [Cs 5,Cs 4,none,none]
def c70_73:MCode:=.seq c70_74 .ret
def c70_72:MCode:=.cond (Cp 92) c70_73 .skip
def c70_70:MCode:=.seq c70_71 c70_72
def c70_75:MCode:=.region [
 Cm 8,
 Cm 10,
 Cr (.len (some (.map,0)) (.loc 0)),
 Cr (.move (.loc 2)),
 Cr (.move (.loc 1))] [Cs 7,Cs 6,none,none,none]
def c70_69:MCode:=.seq c70_70 c70_75
def c70_28:MCode:=.seq Ztf c70_69
def c70_26:MCode:=.seq c70_27 c70_28
def c70_11:MCode:=.seq Zrw c70_26
def c70_9:MCode:=.seq c70_10 c70_11
def c70_8:MCode:=.block 1 c70_9
def c70_7:MCode:=.loop c70_8
def c70_6:MCode:=.block 0 c70_7
def c70_4:MCode:=.seq c70_5 c70_6
def c70_2:MCode:=.seq c70_3 c70_4
def c70_0:MCode:=.seq c70_1 c70_2
theorem fi70:funInfo Tryd.prog 70 = some { code:=c70_0,ntmps:=98,nargs:=2,ps:=[92,7,16,78,17,10,15,6,14,56,59,57,58,41,40,42,43,12,46,45,47,48,49,50,44,51,13,34,37,35,36,1,9,27,25,26,8,0,4,5],res:=[.tmp 4,.tmp 5] }:=by kernel_rfl
/-! roundelay/alike.merged -/
def c71_1:MCode:=.region [
 Cr (.alloc (some [.nilSlice,(.int .i64 0)]))] [Cs 8]
def c71_3:MCode:=.region [
 Cm 3,
 Cr (.makeSlice (some (2,40)) (some [(.str []),.nilSlice]) (.loc 0) (.loc 0)),
 Cr (.build (some [(0,(1,(.loc 0)))]) (some [.nilSlice,(.int .i64 0)])),
 Cr (.alloc (some [.nilSlice,(.int .i64 0)])),
 Cr (.store (some 2) (.loc 0) (.loc 1))] [none,Cs 9,none,none,none]
def c71_6:MCode:=.region [
 Cm 1,
 Cr (.len (some (.slc,0)) (.loc 0)),
 Cr (.move (Ck 0))] [Cs 20,Cs 19,Cs 18]
def c71_10:MCode:=.region [
 Cr (.bin .lss .other none (Cp 20) (Cp 19))] [Cs 21]
def c71_12:MCode:=.cond (Cp 21) .skip (.exit 0)
def c71_16:MCode:=.region [
 Cr (.indexAddr .slc (some (1,8)) none (Cp 18) (Cp 20)),
 Cr (.load (some none) (.loc 0)),
 C0] [Cs 11,none,none]
def c71_18:MCode:=.region [
 Cr (.fieldAddr (some 0) (Cp 9)),
 Cr (.load (some none) (.loc 0)),
 Cm 2,
 Cm 11,
 Cr (.indexAddr .slc (some (1,8)) none (.loc 1) (.loc 0)),
 Cr (.load (some none) (.loc 0)),
 Cr (.indexAddr .slc (some (2,40)) none (.loc 4) (.loc 0)),
 C0] [Cs 12,Cs 30,Cs 29,Cs 28,Cs 27,Cs 26,Cs 25,Cs 24]
def c71_21:MCode:=.region [
 Cm 12,
 Cr (.nilck (.loc 0)),
 Cr (.fieldAddr (some 0) (.loc 0)),
 Cr (.load (some none) (.loc 0)),
 Cr (.bin .neq .other none (.loc 0) (.cst (.str [])))] [Cs 35,none,none,none,none]
def c71_22:MCode:=.cond (Cp 35) (.exit 1) .skip
def c71_20:MCode:=.seq c71_21 c71_22
def c71_24:MCode:=.region [
 Cm 12,
 Cm 0,
 Cm 11,
 Cr (.indexAddr .slc (some (2,40)) none (.loc 1) (.loc 0)),
 Cr (.fieldAddr (some 0) (.loc 0)),
 Cr (.load (some none) (.loc 0)),
 Cr (.nilck (.loc 5)),
 Cr (.fieldAddr (some 0) (.loc 0)),
 Cr (.store (some 1) (.loc 0) (.loc 2))] [none,none,none,none,none,none,none,none,none]
def c71_26:MCode:=.region [
 Cm 12,
 Cm 0,
 Cm 11,
 Cr (.indexAddr .slc (some (2,40)) none (.loc 1) (.loc 0)),
 Cr (.fieldAddr (some 1) (.loc 0)),
 Cr (.load (some none) (.loc 0)),
 Cr (.len (some (.slc,0)) (.loc 0)),
 Cr (.makeSlice (some (1,8)) (some [(.int .i64 0)]) (.loc 0) (.loc 0)),
 Cr (.nilck (.loc 7)),
 Cr (.fieldAddr (some 1) (.loc 0)),
 Cr (.store (some 1) (.loc 0) (.loc 2))] [none,none,none,none,none,none,none,none,none,none,none]
def c71_28:MCode:=.region [
 Cm 12,
 Cr (.nilck (.loc 0)),
 Cr (.fieldAddr (some 1) (.loc 0)),
 Cr (.load (some none) (.loc 0)),
 Cm 0,
 Cm 11,
 Cr (.indexAddr .slc (some (2,40)) none (.loc 1) (.loc 0)),
 Cr (.fieldAddr (some 1) (.loc 0)),
 Cr (.load (some none) (.loc 0)),
 Cr (.copy (some 1) (.loc 5) (.loc 0))] [none,Cs 62,Cs 61,Cs 60,Cs 59,Cs 58,Cs 57,Cs 56,Cs 55,Cs 54]
def c71_30:MCode:=.region [
 Cm 12,
 Cr (.nilck (.loc 0)),
 Cr (.fieldAddr (some 1) (.loc 0)),
 Cr (.load (some none) (.loc 0)),
 Cr (.len (some (.slc,0)) (.loc 0)),
 Cr (.move (Ck 0))] [Cs 69,Cs 68,Cs 67,none,none,none]
def c71_34:MCode:=.region [
 Cr (.bin .lss .other none (Cp 69) (Cp 68))] [Cs 70]
def c71_36:MCode:=.cond (Cp 70) .skip (.exit 2)
def c71_40:MCode:=.region [
 Cm 69,
 Cr (.indexAddr .slc (some (1,8)) none (Cp 67) (Cp 69)),
 Cr (.load (some none) (.loc 0)),
 Cr (.move (.loc 2)),
 Cr (.move (.loc 1))] [Cs 14,Cs 13,none,none,none]
def c71_41:MCode:=.region [
 Cm 12,
 Cr (.nilck (.loc 0)),
 Cr (.fieldAddr (some 1) (.loc 0)),
 Cr (.load (some none) (.loc 0)),
 Cm 13,
 Cm 2,
 Cm 14,
 Cr (.indexAddr .slc (some (1,8)) none (.loc 1) (.loc 0)),
 Cr (.load (some none) (.loc 0)),
 Cr (.indexAddr .slc (some (1,8)) none (.loc 5) (.loc 4)),
 Cr (.store (some 1) (.loc 0) (.loc 1))] [none,Cs 83,Cs 82,Cs 81,Cs 80,Cs 79,Cs 78,Cs 77,Cs 76,Cs 75,Cs 74]
def c71_39:MCode:=.seq c71_40 c71_41
def c71_38:MCode:=.block 3 c71_39
def c71_42:MCode:=.region [
 Cr (.bin .add .other none (Cp 69) (Ck 1)),
 C0] [Cs 69,none]
def c71_37:MCode:=.seq c71_38 c71_42
def c71_35:MCode:=.seq c71_36 c71_37
def c71_33:MCode:=.seq c71_34 c71_35
def c71_32:MCode:=.loop c71_33
def c71_31:MCode:=.block 2 c71_32
def c71_29:MCode:=.seq c71_30 c71_31
def c71_27:MCode:=.seq c71_28 c71_29
def c71_25:MCode:=.seq c71_26 c71_27
def c71_23:MCode:=.seq c71_24 c71_25
def c71_19:MCode:=.seq c71_20 c71_23
def c71_17:MCode:=.seq c71_18 c71_19
def c71_15:MCode:=.seq c71_16 c71_17
def c71_14:MCode:=.block 1 c71_15
def c71_43:MCode:=.region [
 Cr (.bin .add .other none (Cp 20) (Ck 1)),
 C0] [Cs 20,none]
def c71_13:MCode:=.seq c71_14 c71_43
def c71_11:MCode:=.seq c71_12 c71_13
def c71_9:MCode:=.seq c71_10 c71_11
def c71_8:MCode:=.loop c71_9
def c71_7:MCode:=.block 0 c71_8
def c71_5:MCode:=.seq c71_6 c71_7
def c71_45:MCode:=.region [
 Cr (.load (some (some 2)) (Cp 9)),
 Cr (.store (some 2) (Cp 8) (.loc 0))] [none,none]
def c71_44:MCode:=.seq c71_45 .ret
def c71_4:MCode:=.seq c71_5 c71_44
def c71_2:MCode:=.seq c71_3 c71_4
def c71_0:MCode:=.seq c71_1 c71_2
theorem fi71:funInfo Tryd.prog 71 = some { code:=c71_0,ntmps:=87,nargs:=4,ps:=[74,75,76,13,14,80,79,81,78,77,82,83,67,70,68,69,54,55,56,59,58,60,61,62,57,0,35,12,9,24,2,11,27,26,28,29,25,30,18,21,19,20,1,3,8],res:=[.cell 8 42] }:=by kernel_rfl
/-! roundelay/tree.Check$1 -/
def c89_1:MCode:=.region [
 Cr (.move (.cst (.bool false)))] [Cs 3]
def c89_3:MCode:=.region [
 Cm 0,
 Cr (.bin .geq .other none (.loc 0) (Ck 0)),
 C0,
 .run (some (some ((.loc 0),true))) (.move (Cp 0)),
 .run (some (some ((.loc 1),true))) (.fieldAddr (some 0) (Cp 1)),
 .run (some (some ((.loc 2),true))) (.load (some none) (.loc 0)),
 .run (some (some ((.loc 3),true))) (.len (some (.slc,0)) (.loc 0)),
 .run (some (some ((.loc 4),true))) (.bin .lss .other none (.loc 3) (.loc 0)),
 Cr (.pick (.loc 5) (.loc 0) (.cst (.bool false))),
 C0] [Cs 3,none,none,none,none,none,none,none,none,none]
def c89_2:MCode:=.seq c89_3 .ret
def c89_0:MCode:=.seq c89_1 c89_2
theorem fi89:funInfo Tryd.prog 89 = some { code:=c89_0,ntmps:=13,nargs:=2,ps:=[1,0,3],res:=[.tmp 3] }:=by kernel_rfl
/-! roundelay/tree.every[roundelay/api.Node] -/
def c90_1:MCode:=.region [
 Cr (.box (Cp 1)),
 Cr (.move (.cst (.bool false)))] [Cs 4,Cs 3]
def c90_3:MCode:=.region [
 Cm 0,
 Cr (.func (some 111) [] [(Cp 3)]),
 Cr (.call (.cst (.fn 101 [] [])) [(.loc 1),(.loc 0)]),
 Cr (.un .not (.loc 0)),
 C0] [Cs 4,none,none,none,none]
def c90_2:MCode:=.seq c90_3 .ret
def c90_0:MCode:=.seq c90_1 c90_2
theorem fi90:funInfo Tryd.prog 90 = some { code:=c90_0,ntmps:=9,nargs:=2,ps:=[3,0,1,4],res:=[.tmp 4] }:=by kernel_rfl
/-! roundelay/tree.Check$2 -/
def c91_1:MCode:=.region [
 Cr (.box (Cp 0)),
 Cr (.move (.cst (.bool false)))] [Cs 2,Cs 1]
def c91_3:MCode:=.region [
 Cr (.fieldAddr (some 1) (Cp 1)),
 Cr (.load (some none) (.loc 0)),
 Cr (.len (some (.slc,0)) (.loc 0)),
 Cr (.bin .leq .other none (.loc 0) (Ck 4)),
 C0] [Cs 2,none,none,none,none]
def c91_2:MCode:=.seq c91_3 .ret
def c91_0:MCode:=.seq c91_1 c91_2
theorem fi91:funInfo Tryd.prog 91 = some { code:=c91_0,ntmps:=7,nargs:=1,ps:=[1,0,2],res:=[.tmp 2] }:=by kernel_rfl
/-! roundelay/tree.Check$3 -/
def c92_1:MCode:=.region [
 Cr (.box (Cp 0)),
 Cr (.move (.cst (.bool false)))] [Cs 2,Cs 1]
def c92_3:MCode:=.region [
 Cr (.fieldAddr (some 0) (Cp 1)),
 Cr (.load (some none) (.loc 0)),
 Cr (.call (.cst (.fn 93 [] [])) [(.loc 0)]),
 C0] [Cs 2,none,none,none]
def c92_2:MCode:=.seq c92_3 .ret
def c92_0:MCode:=.seq c92_1 c92_2
theorem fi92:funInfo Tryd.prog 92 = some { code:=c92_0,ntmps:=6,nargs:=1,ps:=[1,0,2],res:=[.tmp 2] }:=by kernel_rfl
/-! roundelay/tree.Check$4 -/
def c94_1:MCode:=.region [
 Cr (.box (Cp 0)),
 Cr (.move (.cst (.bool false)))] [Cs 3,Cs 2]
def c94_3:MCode:=.region [
 Cr (.fieldAddr (some 1) (Cp 2)),
 Cr (.load (some none) (.loc 0)),
 Cr (.load (some none) (Cp 1)),
 Cr (.call (.cst (.fn 95 [] [])) [(.loc 1),(.loc 0)]),
 C0] [Cs 3,none,none,none,none]
def c94_2:MCode:=.seq c94_3 .ret
def c94_0:MCode:=.seq c94_1 c94_2
theorem fi94:funInfo Tryd.prog 94 = some { code:=c94_0,ntmps:=8,nargs:=2,ps:=[1,2,0,3],res:=[.tmp 3] }:=by kernel_rfl
/-! roundelay/tree.every[int] -/
def c95_1:MCode:=.region [
 Cr (.box (Cp 1)),
 Cr (.move (.cst (.bool false)))] [Cs 4,Cs 3]
def c95_3:MCode:=.region [
 Cm 0,
 Cr (.func (some 112) [] [(Cp 3)]),
 Cr (.call (.cst (.fn 85 [] [])) [(.loc 1),(.loc 0)]),
 Cr (.un .not (.loc 0)),
 C0] [Cs 4,none,none,none,none]
def c95_2:MCode:=.seq c95_3 .ret
def c95_0:MCode:=.seq c95_1 c95_2
theorem fi95:funInfo Tryd.prog 95 = some { code:=c95_0,ntmps:=9,nargs:=2,ps:=[3,0,1,4],res:=[.tmp 4] }:=by kernel_rfl
/-! roundelay/alike.found[roundelay/api.Tree] -/
def c98_1:MCode:=.region [
 Cr (.alloc (some [.nilSlice,(.int .i64 0)])),
 Cr (.move (.cst (.bool false)))] [Cs 5,Cs 4]
def c98_3:MCode:=.region [
 Cr (.alloc (some [.nilSlice,(.int .i64 0)]))] [Cs 6]
def c98_5:MCode:=.region [
 Cm 0,
 Cm 1,
 Cr (.call (.cst (.fn 113 [] [])) [(.loc 1),(.loc 0)]),
 C0] [Cs 7,none,none,none]
def c98_8:MCode:=.region [
 Cm 7,
 Cr (.bin .lss .other none (.loc 0) (Ck 0))] [Cs 12,none]
def c98_11:MCode:=.region [
 Cr (.load (some (some 2)) (Cp 6)),
 Cr (.store (some 2) (Cp 4) (.loc 0)),
 Cr (.move (.cst (.bool false)))] [Cs 5,none,none]
def c98_10:MCode:=.seq c98_11 .ret
def c98_9:MCode:=.cond (Cp 12) c98_10 .skip
def c98_7:MCode:=.seq c98_8 c98_9
def c98_13:MCode:=.region [
 Cm 0,
 Cm 7,
 Cr (.indexAddr .slc (some (2,32)) none (.loc 1) (.loc 0)),
 Cr (.load (some (some 2)) (.loc 0)),
 Cr (.store (some 2) (Cp 4) (.loc 0)),
 Cr (.move (.cst (.bool true)))] [Cs 5,none,none,none,none,none]
def c98_12:MCode:=.seq c98_13 .ret
def c98_6:MCode:=.seq c98_7 c98_12
def c98_4:MCode:=.seq c98_5 c98_6
def c98_2:MCode:=.seq c98_3 c98_4
def c98_0:MCode:=.seq c98_1 c98_2
theorem fi98:funInfo Tryd.prog 98 = some { code:=c98_0,ntmps:=18,nargs:=2,ps:=[6,12,7,1,0,4,5],res:=[.cell 4 42,.tmp 5] }:=by kernel_rfl
/-! roundelay/alike.checked$1 -/
def c99_1:MCode:=.region [
 Cr (.box (Cp 0)),
 Cr (.move (.cst (.bool false)))] [Cs 2,Cs 1]
def c99_3:MCode:=.region [
 Cr (.load (some (some 2)) (Cp 1)),
 Cr (.call (.cst (.fn 63 [] [])) [(.loc 0)]),
 Cr (.bin .neq .other none (.loc 0) (Ck 0)),
 C0] [Cs 2,none,none,none]
def c99_2:MCode:=.seq c99_3 .ret
def c99_0:MCode:=.seq c99_1 c99_2
theorem fi99:funInfo Tryd.prog 99 = some { code:=c99_0,ntmps:=6,nargs:=1,ps:=[1,0,2],res:=[.tmp 2] }:=by kernel_rfl
/-! roundelay/tree.every[roundelay/api.Node]$1 -/
def c111_1:MCode:=.region [
 Cr (.box (Cp 0)),
 Cr (.move (.cst (.bool false)))] [Cs 3,Cs 2]
def c111_3:MCode:=.region [
 Cr (.load (some none) (Cp 1)),
 Cr (.load (some (some 2)) (Cp 2)),
 Cr (.call (.loc 1) [(.loc 0)]),
 Cr (.un .not (.loc 0)),
 C0] [Cs 3,none,none,none,none]
def c111_2:MCode:=.seq c111_3 .ret
def c111_0:MCode:=.seq c111_1 c111_2
theorem fi111:funInfo Tryd.prog 111 = some { code:=c111_0,ntmps:=8,nargs:=2,ps:=[2,1,0,3],res:=[.tmp 3] }:=by kernel_rfl
/-! roundelay/tree.every[int]$1 -/
def c112_1:MCode:=.region [
 Cr (.move (.cst (.bool false)))] [Cs 3]
def c112_3:MCode:=.region [
 Cr (.load (some none) (Cp 1)),
 Cm 0,
 Cr (.call (.loc 1) [(.loc 0)]),
 Cr (.un .not (.loc 0)),
 C0] [Cs 3,none,none,none,none]
def c112_2:MCode:=.seq c112_3 .ret
def c112_0:MCode:=.seq c112_1 c112_2
theorem fi112:funInfo Tryd.prog 112 = some { code:=c112_0,ntmps:=8,nargs:=2,ps:=[0,1,3],res:=[.tmp 3] }:=by kernel_rfl
/-! slices.IndexFunc[[]roundelay/api.Tree,roundelay/api.Tree] -/
def c113_1:MCode:=.region [
 Cr (.move (Ck 0))] [Cs 4]
def c113_4:MCode:=.region [
 Cm 0,
 Cr (.len (some (.slc,0)) (.loc 0)),
 Cr (.move (Ck 0))] [Cs 8,Cs 7,none]
def c113_8:MCode:=.region [
 Cr (.bin .lss .other none (Cp 8) (Cp 7))] [Cs 9]
def Zwi:MCode:=.cond (Cp 9) .skip (.exit 0)
def Zwk:MCode:=.region [
 Cm 8,
 C0] [Cs 5,none]
def Zy8:MCode:=.region [
 Cm 1,
 Cm 0,
 Cm 5,
 Cr (.indexAddr .slc (some (2,32)) none (.loc 1) (.loc 0)),
 Cr (.load (some (some 2)) (.loc 0)),
 Cr (.call (.loc 4) [(.loc 0)])] [Cs 16,none,none,none,none,none]
def Zye:MCode:=.region [
 Cm 5,
 C0] [Cs 4,none]
def Zxz:MCode:=.seq Zye .ret
def Zyu:MCode:=.cond (Cp 16) Zxz .skip
def Zxr:MCode:=.seq Zy8 Zyu
def Zxe:MCode:=.seq Zwk Zxr
def Zxx:MCode:=.block 1 Zxe
def Zy7:MCode:=.region [
 Cr (.bin .add .other none (Cp 8) (Ck 1)),
 C0] [Cs 8,none]
def Zwp:MCode:=.seq Zxx Zy7
def c113_9:MCode:=.seq Zwi Zwp
def c113_7:MCode:=.seq c113_8 c113_9
def c113_6:MCode:=.loop c113_7
def c113_5:MCode:=.block 0 c113_6
def c113_3:MCode:=.seq c113_4 c113_5
def Zy5:MCode:=.region [
 Cr (.move (.cst (.int .i64 (-1))))] [Cs 4]
def Zwl:MCode:=.seq Zy5 .ret
def c113_2:MCode:=.seq c113_3 Zwl
def c113_0:MCode:=.seq c113_1 c113_2
theorem fi113:funInfo Tryd.prog 113 = some { code:=c113_0,ntmps:=19,nargs:=2,ps:=[16,5,1,9,7,8,0,4],res:=[.tmp 4] }:=by kernel_rfl
end Go.Proofs
end
section
/- Rows of nodes that grow. -/
open Go Go.AM
namespace Go.Proofs
set_option maxRecDepth 100000
abbrev ND:=List UInt8 × List Int
def Z0p (ns:List ND) (V:List AVal):List AVal:=penc (List.zipWith (fun nd kv => (nd.1,kv)) ns V)
theorem Z5z {ns:List ND} {V:List AVal} (h:V.length = ns.length):(Z0p ns V).length = 2 * ns.length:=by
 unfold Z0p
 rw [Zc0]
 simp [h]
theorem Zjc {ns:List ND} {V:List AVal} (h:V.length = ns.length) (nd:ND) (kv:AVal):Z0p (ns ++ [nd]) (V ++ [kv]) = Z0p ns V ++ [.str nd.1,kv]:=by
 unfold Z0p
 rw [List.zipWith_append (by simp [h])]
 simp [penc]
theorem Z8i {ns:List ND} {V:List AVal} {i:Nat} {nd:ND} {kv:AVal} (h1:ns[i]? = some nd) (h2:V[i]? = some kv):(Z0p ns V)[i * 2]? = some (.str nd.1)∧(Z0p ns V)[i * 2 + 1]? = some kv:=by
 unfold Z0p
 exact Zhy _ i (nd.1,kv) (by simp [List.getElem?_zipWith,h1,h2])
theorem Z0x.snoc:∀ {K:List (List Int)} {V:List AVal} {m mk:Lets} {ks:List Int} {kv:AVal},Z0x K V m→RowR kv ks mk→Z0x (K ++ [ks]) (V ++ [kv]) (m ++ mk)
 | [],[],m,mk,ks,kv,h,hk => by
  have h:m = []:=h
  subst h
  exact ⟨mk,[],by simp,hk,rfl⟩
 | k :: K,v :: V,m,mk,ks,kv,⟨m1,m2,h1,h2,h3⟩,hk => ⟨m1,m2 ++ mk,by rw [← List.append_assoc]; exact h1.append (List.Perm.refl mk),h2,Z0x.snoc h3 hk⟩
 | [],_ :: _,_,_,_,_,h,_ => h.elim
 | _ :: _,[],_,_,_,_,h,_ => h.elim
def Z2q (nv:AVal) (ns:List ND) (m:Lets):Prop:=(ns = []∧nv = .nilSlice∧m = []) ∨
 ∃ q V mr,ns ≠ []∧nv = .slice q 0 ns.length (.opn 2)∧m.Perm ((q,C (Z0p ns V)) :: mr)∧Z0x (ns.map Prod.snd) V mr
theorem Z2q.len {nv:AVal} {ns:List ND} {m:Lets} (h:Z2q nv ns m):Z1b nv = some ns.length:=by
 rcases h with ⟨rfl,rfl,_⟩ | ⟨q,V,mr,_,rfl,_⟩ <;> rfl
theorem Z2q.ntup {nv:AVal} {ns:List ND} {m:Lets} (h:Z2q nv ns m):∀ t,¬ nv = .tup t:=by
 rintro t rfl
 have:=h.len
 cases this
theorem Z2q.cells {nv:AVal} {ns:List ND} {m:Lets} (h:Z2q nv ns m):nv.cells = [nv]:=by
 rcases h with ⟨rfl,rfl,_⟩ | ⟨q,V,mr,_,rfl,_⟩ <;> rfl
theorem Zl9 {s0 s:St} {W:Pos→Prop} {r pre mk mn:Lets} {nv kv:AVal} {ns:List ND} {nm:List UInt8} {ks:List Int} {Q:AVal→St→Prop} (h:Ctx s0 W (pre ++ (mk ++ (mn ++ r))) s) (hg:Z2q nv ns mn) (hk:RowR kv ks mk) (hs:ns.length ≤ 1000)
  (q:∀ nv' mn' s',Z2q nv' (ns ++ [(nm,ks)]) mn'→Ctx s0 W (pre ++ (mn' ++ r)) s'→Q nv' s'):appP (2,40) nv [.str nm,kv] 1 s Q:=by
 rcases hg with ⟨rfl,rfl,rfl⟩ | ⟨b,V,mr,hne,rfl,hp,hR⟩
 ·simp only [appP,Z3t]
  rw [if_neg (by decide)]
  refine ⟨by unfold Z0h; omega,?_⟩
  have:=h.alloc (C [.str nm,kv])
  refine q (.slice s.next 0 1 (.opn 2)) ((s.next,C [.str nm,kv]) :: mk) _ (.inr ⟨_,[kv],mk,by simp,rfl,List.Perm.refl _,⟨mk,[],by simp,hk,rfl⟩⟩) (this.perm ?_)
  simp only [List.nil_append,List.cons_append]
  exact List.perm_middle.symm
 ·have hV:V.length = ns.length:=by simpa using hR.len
  have hmem:(b,C (Z0p ns V)) ∈ pre ++ (mk ++ (mn ++ r)):=by
   have:(b,C (Z0p ns V)) ∈ mn:=hp.mem_iff.2 (by simp)
   simp [this]
  have hb:s.own b = some (Z0p ns V):=Z0n (h.own _ hmem)
  have hl:ns.length ≠ 0:=by simpa using hne
  have h1:Ctx s0 W ((b,C (Z0p ns V)) :: (pre ++ (mk ++ (mr ++ r)))) s:=by
   refine h.perm ?_
   have h2:(pre ++ (mk ++ (mn ++ r))).Perm (pre ++ (mk ++ (((b,C (Z0p ns V)) :: mr) ++ r))):=(List.Perm.refl pre).append ((List.Perm.refl mk).append (hp.append (List.Perm.refl r)))
   refine h2.trans ?_
   have h3:pre ++ (mk ++ (((b,C (Z0p ns V)) :: mr) ++ r)) = (pre ++ mk) ++ (b,C (Z0p ns V)) :: (mr ++ r):=by simp
   rw [h3]
   refine List.perm_middle.trans ?_
   simp
  have hlen:=Z5z hV
  have h2:=(h1.put0 .dead).tail.alloc (C (Z0p ns V ++ [.str nm,kv]))
  simp only [appP,Z3t]
  rw [if_neg (by decide)]
  refine ⟨trivial,?_⟩
  rw [hb]
  simp only [Z0u]
  rw [if_neg hl,if_neg (by omega)]
  refine ⟨by omega,by unfold Z0h; omega,?_⟩
  have ht:List.take (ns.length * 2) (List.drop 0 (Z0p ns V)) = Z0p ns V:=by rw [List.drop_zero]; exact List.take_of_length_le (by omega)
  rw [ht]
  have hn:(s.put b .dead).next = s.next:=rfl
  refine q (.slice s.next 0 (ns.length + 1) (.opn 2)) ((s.next,C (Z0p (ns ++ [(nm,ks)]) (V ++ [kv]))) :: (mr ++ mk)) _ (.inr ⟨_,V ++ [kv],mr ++ mk,by simp,by simp,List.Perm.refl _,by rw [List.map_append]; exact hR.snoc hk⟩) ?_
  rw [Zjc hV]
  refine h2.perm ?_
  rw [hn]
  have h3:(mk ++ (mr ++ r)).Perm ((mr ++ mk) ++ r):=by
   rw [← List.append_assoc]
   exact List.perm_append_comm.append (List.Perm.refl r)
  refine (List.Perm.cons _ ((List.Perm.refl pre).append h3)).trans ?_
  simp only [List.cons_append]
  exact List.perm_middle.symm
def Z1c (s:St) (nv:AVal) (ns:List ND):Prop:=(Z1b nv = some 0∧ns = []) ∨
 ∃ b o c cs,nv = .slice b o ns.length c∧s.Old b∧s.cells b = some cs∧o + 2 * ns.length ≤ cs.length∧∀ (i:Nat) (nd:ND),ns[i]? = some nd→cs[o + i * 2]? = some (.str nd.1)∧∃ kv,cs[o + i * 2 + 1]? = some kv∧Z0c s kv nd.2
theorem Z1c.keep {s s':St} {nv:AVal} {ns:List ND} (h:Z1c s nv ns) (k:Keeps s s'):Z1c s' nv ns:=by
 rcases h with h | ⟨b,o,c,cs,h1,h2,h3,h4,h5⟩
 ·exact .inl h
 ·refine .inr ⟨b,o,c,cs,h1,k.old h2,(k.cells h2).trans h3,h4,fun i nd hi => ?_⟩
  obtain ⟨g1,kv,g2,g3⟩:=h5 i nd hi
  exact ⟨g1,kv,g2,g3.keep k⟩
theorem Z1c.len {s:St} {nv:AVal} {ns:List ND} (h:Z1c s nv ns):Z1b nv = some ns.length:=by
 rcases h with ⟨h1,rfl⟩ | ⟨b,o,c,cs,rfl,_⟩
 ·exact h1
 ·rfl
theorem Z1c.ntup {s:St} {nv:AVal} {ns:List ND} (h:Z1c s nv ns):∀ t,¬ nv = .tup t:=by
 rintro t rfl
 have:=h.len
 cases this
theorem Z1c.Z8b {s:St} {nv:AVal} {ns:List ND} (h:Z1c s nv ns):nv.cells = [nv]:=by
 have:=h.len
 cases nv <;> first | rfl | cases this
theorem Z0c.Z8b {s:St} {nv:AVal} {ns:List Int} (h:Z0c s nv ns):nv.cells = [nv]:=by
 have:=h.len
 cases nv <;> first | rfl | cases this
theorem Z2q.at {s0 s:St} {W:Pos→Prop} {nv:AVal} {ns:List ND} {m:Lets} (h:Z2q nv ns m) (hc:Ctx s0 W m s):Z1c s nv ns:=by
 rcases h with ⟨rfl,rfl,_⟩ | ⟨q,V,mr,hne,rfl,hp,hR⟩
 ·exact .inl ⟨rfl,rfl⟩
 ·have hc':=hc.perm hp
  have hV:V.length = ns.length:=by simpa using hR.len
  refine .inr ⟨q,0,.opn 2,_,rfl,hc'.oi 0 rfl,hc'.c 0 rfl,by rw [Z5z hV]; omega,fun i nd hi => ?_⟩
  obtain ⟨kv,g1,g2⟩:=hR.each (i:=i) (ks:=nd.2) (by rw [List.getElem?_map,hi]; rfl)
  obtain ⟨e1,e2⟩:=Z8i hi g1
  rw [Nat.zero_add]
  refine ⟨e1,kv,e2,?_⟩
  rcases g2 with ⟨e3,e4⟩ | ⟨q',c',e3,e4,e5⟩
  ·exact .inl ⟨e4,e3⟩
  ·rw [e4]
   exact Z37 hc'.wf (Z0n (hc'.own _ (List.mem_cons_of_mem _ e5))) c'
theorem NodesG.of {s:St} {p:Pos} {ns:List ND} (h:NodesG s p ns) (c:Cap):Z1c s (.slice p 0 ns.length c) ns:=by
 obtain ⟨cs,h1,h2,h3⟩:=h.ex
 exact .inr ⟨p,0,c,cs,rfl,h.old,h1,by omega,fun i nd hi => by
  obtain ⟨e1,kv,e2,e3⟩:=h3 i nd hi
  rw [Nat.zero_add]
  exact ⟨e1,kv,e2,e3⟩⟩
end Go.Proofs
end
section
/- tree.Check: all nodes are asked. -/
open Go Go.AM
namespace Go.Proofs
set_option maxRecDepth 100000
theorem Zhc {cs:List AVal} {k:Nat} {a b:AVal} (h1:cs[k]? = some a) (h2:cs[k + 1]? = some b):(cs.drop k).take 2 = [a,b]:=by
 have l1:=(List.getElem?_eq_some_iff.1 h1).1
 have l2:=(List.getElem?_eq_some_iff.1 h2).1
 rw [List.drop_eq_getElem_cons l1,List.drop_eq_getElem_cons l2]
 rw [List.getElem?_eq_getElem l1] at h1
 rw [List.getElem?_eq_getElem l2] at h2
 simp [Option.some.inj h1,Option.some.inj h2]
theorem Zs7 {s:St} {nv fv:AVal} {ns:List ND} {f:ND→Bool} {Q:AVal→St→Prop} (hv:Z1c s nv ns) (hmax:ns.length ≤ 2 ^ 62)
  (hf:∀ (s':St) (nd:ND) (kv:AVal) (R:AVal→St→Prop),Keeps s s'→nd ∈ ns→Z0c s' kv nd.2→(∀ s'',Keeps s' s''→R (.bool (f nd)) s'')→Z2u Tryd.prog fv [.agg [.str nd.1,kv]] s' R)
  (q:∀ (i:Int) s',Keeps s s'→(!decide (i < 0)) = ns.any f→Q (.int .i64 i) s'):Z0b Tryd.prog 115 [nv,fv] s Q:=by
 refine Z07 (Z0e (by decide)) fi115 rfl (by decide) rfl ?_
 refine Z00 ?_
 simp
 refine AM.wp_seq ?_
 refine Z00 ?_
 simp [hv.len,hv.ntup]
 refine AM.wp_block ?_
 refine AM.wp_loop (fun m t s' => ∃ i:Nat,i ≤ ns.length∧m = ns.length - i∧PT.get (posOf 0) t = some nv∧PT.get (posOf 1) t = some fv∧PT.get (posOf 7) t = some (.int .i64 ns.length)∧PT.get (posOf 8) t = some (.int .i64 i)∧Keeps s s'∧∀ j d,j < i→ns[j]? = some d→f d = false) ns.length ⟨0,by simp,by simp,by simp,by simp,by simp,by simp,Keeps.refl s,by simp⟩ ?_
 rintro m t s' ⟨i,hi,rfl,t0,t1,t7,t8,hk,hall⟩
 refine Z00 ?_
 simp [t7,t8]
 refine AM.wp_seq ?_
 refine AM.Z04 ?_
 by_cases hlt:i < ns.length
 ·obtain ⟨nd,hnd⟩:∃ nd,ns[i]? = some nd:=⟨_,List.getElem?_eq_getElem hlt⟩
  have hwr:IntKind.wrap .i64 ((i:Int) + 1) = ((i + 1:Nat):Int):=by rw [IntWalk.i64_in _ (by omega)]; omega
  rcases hv.keep hk with ⟨_,h0⟩ | ⟨b,o,c,cs,rfl,hb,hcs,hle,hel⟩
  ·subst h0
   simp at hlt
  obtain ⟨g1,kv,g2,g3⟩:=hel i nd hnd
  have hseg:=Zhc g1 g2
  have hlen:o + i * 2 + 2 ≤ cs.length:=by have:=(List.getElem?_eq_some_iff.1 g2).1; omega
  simp [hlt]
  refine AM.wp_skip ?_
  simp
  refine AM.wp_seq ?_
  refine AM.wp_block ?_
  refine Z00 ?_
  simp [t8]
  refine Z00 ?_
  simp [t0,t1,hlt,hcs,hseg,hlen]
  refine hf s' nd kv _ hk (List.mem_of_getElem? hnd) g3 fun s2 hk2 => ?_
  simp
  refine AM.Z04 ?_
  cases hct:f nd with
  | true =>
   simp
   refine Z00 ?_
   simp
   refine AM.wp_ret ?_
   simp
   refine q _ _ (hk.trans hk2) ?_
   have h1:ns.any f = true:=List.any_eq_true.2 ⟨nd,List.mem_of_getElem? hnd,hct⟩
   have h2:¬ ((i:Int) < 0):=by omega
   rw [h1]
   simp [h2]
  | false =>
   simp
   refine AM.wp_skip ?_
   simp
   refine AM.wp_region ?_
   simp [t8,hwr]
   refine ⟨ns.length - (i + 1),by omega,i + 1,by omega,by omega,by simp [t0],by simp [t1],by simp [t7],by simp,hk.trans hk2,?_⟩
   intro j k l hj hd
   by_cases hji:j = i
   ·subst hji
    rw [hnd] at hd
    cases hd
    exact hct
   ·exact hall j (k,l) (by omega) hd
 ·simp [hlt]
  refine AM.wp_exit ?_
  simp
  refine Z00 ?_
  simp
  refine AM.wp_ret ?_
  simp
  refine q _ _ hk ?_
  have h1:ns.any f = false:=by
   rw [List.any_eq_false]
   intro d hd
   obtain ⟨j,hj,e⟩:=List.getElem_of_mem hd
   have:=hall j d (by omega) (by rw [List.getElem?_eq_getElem hj,e])
   simp [this]
  rw [h1]
  rfl
theorem Zmi {s:St} {nv fv:AVal} {ns:List ND} {f:ND→Bool} {Q:AVal→St→Prop} (hv:Z1c s nv ns) (hmax:ns.length ≤ 2 ^ 62)
  (hf:∀ (s':St) (nd:ND) (kv:AVal) (R:AVal→St→Prop),Keeps s s'→nd ∈ ns→Z0c s' kv nd.2→(∀ s'',Keeps s' s''→R (.bool (f nd)) s'')→Z2u Tryd.prog fv [.agg [.str nd.1,kv]] s' R)
  (q:∀ s',Keeps s s'→Q (.bool (ns.any f)) s'):Z0b Tryd.prog 101 [nv,fv] s Q:=by
 refine Z07 (Z0e (by decide)) fi101 rfl (by decide) rfl ?_
 refine Z00 ?_
 simp
 refine Z00 ?_
 simp
 refine Z02 ?_
 refine Zs7 hv hmax hf fun i s' hk e => ?_
 simp
 refine AM.wp_ret ?_
 simp
 rw [e]
 exact q _ hk
theorem Zu7 (g:ND→Bool):∀ ns:List ND,(!ns.any fun x => !g x) = ns.all g
 | [] => rfl
 | k :: r => by
  have:=Zu7 g r
  simp only [List.any_cons,List.all_cons,Bool.not_or,Bool.not_not]
  rw [this]
theorem Zf4 {s:St} {nv:AVal} {ns:List ND} {f:Nat} {a c:List AVal} {g:ND→Bool} {Q:AVal→St→Prop} (hwf:s.Wf) (hv:Z1c s nv ns) (hmax:ns.length ≤ 2 ^ 62)
  (hf:∀ (s':St) (nd:ND) (kv:AVal) (R:AVal→St→Prop),Keeps s s'→nd ∈ ns→Z0c s' kv nd.2→(∀ s'',Keeps s' s''→R (.bool (g nd)) s'')→Z2u Tryd.prog (.fn f a c) [.agg [.str nd.1,kv]] s' R)
  (q:∀ s',Keeps s s'→Q (.bool (ns.all g)) s'):Z0b Tryd.prog 90 [nv,.fn f a c] s Q:=by
 refine Z07 (Z0e (by decide)) fi90 rfl (by decide) rfl ?_
 refine Z00 ?_
 simp
 have c1:=(Ctx.start (fun _ => False) hwf).alloc (C [.fn f a c])
 generalize s.alloc (.cells [.fn f a c] false) = s1 at c1 ⊢
 generalize s.next = B at c1 ⊢
 have k1:=c1.Z0f
 refine Z00 ?_
 simp [hv.ntup]
 refine Z02 ?_
 refine Zmi (f:=fun x => !g x) (hv.keep k1) hmax (fun s' nd kv R hk hnd hkv hR => ?_) fun s' hk => ?_
 ·refine Z02 ?_
  have hkt:=hkv.ntup
  refine Z07 (Z0e (by decide)) fi111 rfl (by decide) rfl ?_
  refine Z00 ?_
  simp
  have c2:=((Ctx.start (fun _ => False) (hk.wf c1.wf))).alloc (C [.str nd.1,kv])
  have hB:s'.cells B = some [.fn f a c]:=(hk.cells (c1.oi 0 rfl)).trans (c1.c 0 rfl)
  have hBo:s'.Old B:=hk.old (c1.oi 0 rfl)
  generalize s'.alloc (.cells [.str nd.1,kv] false) = s2 at c2 ⊢
  generalize s'.next = B2 at c2 ⊢
  have k2:=c2.Z0f
  refine Z00 ?_
  simp [(k2.cells hBo).trans hB,c2.c 0 rfl]
  refine hf s2 nd kv _ ((k1.trans hk).trans k2) hnd (hkv.keep k2) fun s3 k3 => ?_
  simp
  refine AM.wp_ret ?_
  simp
  exact hR s3 (k2.trans k3)
 ·simp
  refine AM.wp_ret ?_
  simp
  have:=q _ (k1.trans hk)
  rw [← Zu7] at this
  exact this
end Go.Proofs
end
section
/- tree.Check: the contract. -/
open Go Go.AM
namespace Go.Proofs
set_option maxRecDepth 100000
theorem Zrl {s:St} {v:AVal} {ks:List Int} {f:Nat} {a c:List AVal} {g:Int→Bool} {Q:AVal→St→Prop} (hwf:s.Wf) (hv:Z0c s v ks) (hmax:ks.length ≤ 2 ^ 62)
  (hf:∀ (s':St) (x:Int) (R:AVal→St→Prop),Keeps s s'→x ∈ ks→(∀ s'',Keeps s' s''→R (.bool (g x)) s'')→Z2u Tryd.prog (.fn f a c) [.int .i64 x] s' R)
  (q:∀ s',Keeps s s'→Q (.bool (ks.all g)) s'):Z0b Tryd.prog 95 [v,.fn f a c] s Q:=by
 refine Z07 (Z0e (by decide)) fi95 rfl (by decide) rfl ?_
 refine Z00 ?_
 simp
 have c1:=(Ctx.start (fun _ => False) hwf).alloc (C [.fn f a c])
 generalize s.alloc (.cells [.fn f a c] false) = s1 at c1 ⊢
 generalize s.next = B at c1 ⊢
 have k1:=c1.Z0f
 refine Z00 ?_
 simp [hv.ntup]
 refine Z02 ?_
 refine Zc8 (hv.keep k1) hmax (f:=fun x => !g x) (fun s' x R hk hx hR => ?_) fun s' hk => ?_
 ·refine Z02 ?_
  have hB:s'.cells B = some [.fn f a c]:=(hk.cells (c1.oi 0 rfl)).trans (c1.c 0 rfl)
  refine Z07 (Z0e (by decide)) fi112 rfl (by decide) rfl ?_
  refine Z00 ?_
  simp
  refine Z00 ?_
  simp [hB]
  refine hf s' x _ (k1.trans hk) hx fun s3 k3 => ?_
  simp
  refine AM.wp_ret ?_
  simp
  exact hR s3 k3
 ·simp
  refine AM.wp_ret ?_
  simp
  have:=q _ (k1.trans hk)
  rw [← Zjs] at this
  exact this
def Z1k (ns:List ND) (root:Int):Int :=
 if ns.length < 1 ∨ 60 < ns.length ∨ (ns.all fun nd => decide (nd.2.length ≤ 4)) = false then 2
 else if (ns.all fun nd => Z3j nd.1) = false then 4
 else if (decide (0 ≤ root) && decide (root < ns.length)) = false ∨ (ns.all fun nd => nd.2.all fun k => decide (0 ≤ k) && decide (k < ns.length)) = false then 1
 else 0
def Zdh (ns:List ND):Prop:=∀ nd ∈ ns,nd.1.length ≤ 2 ^ 62∧nd.2.length ≤ 2 ^ 62
theorem Zko {s:St} {B:Pos} {nv:AVal} {ns:List ND} {rt k:Int} {Q:AVal→St→Prop} (hB:s.cells B = some [nv,.int .i64 rt]) (hv:Z1b nv = some ns.length) (q:Q (.bool (decide (0 ≤ k) && decide (k < ns.length))) s):Z0b Tryd.prog 89 [.int .i64 k,.ptr B 0] s Q:=by
 have hnt:∀ t,¬ nv = .tup t:=by
  rintro t rfl
  cases hv
 refine Z07 (Z0e (by decide)) fi89 rfl (by decide) rfl ?_
 refine Z00 ?_
 simp
 refine Z00 ?_
 by_cases h0:k < 0
 ·have h0':¬ 0 ≤ k:=by omega
  simp [h0]
  refine AM.wp_ret ?_
  simp
  simpa [h0'] using q
 ·have h0':0 ≤ k:=by omega
  simp [h0,hB,hnt,hv]
  refine AM.wp_ret ?_
  simp
  simpa [h0'] using q
theorem Zhb {s:St} {nv:AVal} {ns:List ND} {rt:Int} {Q:AVal→St→Prop} (hwf:s.Wf) (hv:Z1c s nv ns) (hmax:ns.length ≤ 2 ^ 62) (hsm:Zdh ns)
  (q:∀ s',Keeps s s'→Q (.int .i64 (Z1k ns rt)) s'):Z0b Tryd.prog 63 [.agg [nv,.int .i64 rt]] s Q:=by
 have hnt:=hv.ntup
 have hln:=hv.len
 refine Z07 (Z0e (by decide)) fi63 rfl (by decide) rfl ?_
 refine Z00 ?_
 simp
 have c1:=(Ctx.start (fun _ => False) hwf).alloc (C [nv,.int .i64 rt])
 generalize s.alloc (.cells [nv,.int .i64 rt] false) = s1 at c1 ⊢
 generalize s.next = B1 at c1 ⊢
 refine Z00 ?_
 simp
 have c2:=(c1.alloc (C [.nilFn])).put 0 rfl (C [.fn 89 [] [.ptr B1 0]])
 simp only [List.set_cons_zero] at c2
 generalize (s1.alloc (.cells [.nilFn] false)).put s1.next (.cells [.fn 89 [] [.ptr B1 0]] false) = s2 at c2 ⊢
 generalize s1.next = B3 at c2 ⊢
 have k2:=c2.Z0f
 refine AM.wp_seq ?_
 refine AM.wp_block ?_
 refine Z00 ?_
 by_cases hA:ns.length < 1
 ·have hF:Z1k ns rt = 2:=by unfold Z1k; rw [if_pos (.inl hA)]
  rw [hF] at q
  have hA':(ns.length:Int) < 1:=by omega
  have hA0:ns.length = 0:=by omega
  simp [c2.c 1 rfl,hnt,hln,hA0]
  refine AM.Z04 ?_
  simp
  refine Z00 ?_
  simp
  refine AM.wp_ret ?_
  simp
  exact q s2 k2
 have hA':¬ (ns.length:Int) < 1:=by omega
 by_cases hB:60 < ns.length
 ·have hF:Z1k ns rt = 2:=by unfold Z1k; rw [if_pos (.inr (.inl hB))]
  rw [hF] at q
  have hB':(60:Int) < ns.length:=by omega
  simp [c2.c 1 rfl,hnt,hln,hA',hB']
  refine AM.Z04 ?_
  simp
  refine Z00 ?_
  simp
  refine AM.wp_ret ?_
  simp
  exact q s2 k2
 have hB':¬ (60:Int) < ns.length:=by omega
 simp [c2.c 1 rfl,hnt,hln,hA',hB']
 refine Z02 ?_
 refine Zf4 (g:=fun nd => decide (nd.2.length ≤ 4)) c2.wf (hv.keep k2) hmax (fun s' nd kv R hk hnd hkv hR => ?_) fun s3 k3 => ?_
 ·refine Z02 ?_
  have hkt:=hkv.ntup
  refine Z07 (Z0e (by decide)) fi91 rfl (by decide) rfl ?_
  refine Z00 ?_
  simp
  have d:=(Ctx.start (fun _ => False) (hk.wf c2.wf)).alloc (C [.str nd.1,kv])
  generalize s'.alloc (.cells [.str nd.1,kv] false) = sA at d ⊢
  generalize s'.next = BA at d ⊢
  refine Z00 ?_
  simp [d.c 0 rfl,hkt,hkv.len]
  refine AM.wp_ret ?_
  simp
  have e:(!decide ((4:Int) < (nd.2.length:Int))) = decide (nd.2.length ≤ 4):=by
   by_cases h:nd.2.length ≤ 4
   ·have h':¬ (4:Int) < nd.2.length:=by omega
    simp [h,h']
   ·have h':(4:Int) < nd.2.length:=by omega
    simp [h,h']
  have:=hR sA d.Z0f
  rw [← e] at this
  simpa using this
 have c3:=c2.keeps k3
 have K3:=k2.trans k3
 cases h4:ns.all (fun nd => decide (nd.2.length ≤ 4)) with
 | false =>
  have hF:Z1k ns rt = 2:=by unfold Z1k; rw [if_pos (.inr (.inr h4))]
  rw [hF] at q
  simp
  refine AM.Z04 ?_
  simp
  refine Z00 ?_
  simp
  refine AM.wp_ret ?_
  simp
  exact q s3 K3
 | true =>
 simp
 refine AM.Z04 ?_
 simp
 refine Z00 ?_
 simp [c3.c 1 rfl,hnt]
 refine Z02 ?_
 refine Zf4 (g:=fun nd => Z3j nd.1) c3.wf (hv.keep K3) hmax (fun s' nd kv R hk hnd hkv hR => ?_) fun s4 k4 => ?_
 ·refine Z02 ?_
  have hkt:=hkv.ntup
  refine Z07 (Z0e (by decide)) fi92 rfl (by decide) rfl ?_
  refine Z00 ?_
  simp
  have d:=(Ctx.start (fun _ => False) (hk.wf c3.wf)).alloc (C [.str nd.1,kv])
  generalize s'.alloc (.cells [.str nd.1,kv] false) = sA at d ⊢
  generalize s'.next = BA at d ⊢
  refine Z00 ?_
  simp [d.c 0 rfl]
  refine Z02 ?_
  refine Zqi (hsm nd hnd).1 fun sB kB => ?_
  simp
  refine AM.wp_ret ?_
  simp
  exact hR sB (d.Z0f.trans kB)
 have c4:=c3.keeps k4
 have K4:=K3.trans k4
 cases hN:ns.all (fun nd => Z3j nd.1) with
 | false =>
  have hF:Z1k ns rt = 4:=by unfold Z1k; rw [if_neg (fun h => h.elim hA (fun h => h.elim hB (fun h => by rw [h4] at h; cases h))),if_pos hN]
  rw [hF] at q
  simp
  refine AM.Z04 ?_
  simp
  refine Z00 ?_
  simp
  refine AM.wp_ret ?_
  simp
  exact q s4 K4
 | true =>
 simp
 refine AM.Z04 ?_
 simp
 refine Z00 ?_
 simp [c4.c 0 rfl,c4.c 1 rfl]
 refine Z02 ?_
 refine Zko (c4.c 1 rfl) hln ?_
 cases hr:(decide (0 ≤ rt) && decide (rt < ns.length)) with
 | false =>
  have hF:Z1k ns rt = 1:=by unfold Z1k; rw [if_neg (fun h => h.elim hA (fun h => h.elim hB (fun h => by rw [h4] at h; cases h))),if_neg (by simp [hN]),if_pos (.inl hr)]
  rw [hF] at q
  simp
  refine AM.Z04 ?_
  simp
  refine Z00 ?_
  simp
  refine AM.wp_ret ?_
  simp
  exact q s4 K4
 | true =>
 simp [c4.c 0 rfl,c4.c 1 rfl,hnt]
 refine Z02 ?_
 refine Zf4 (g:=fun nd => nd.2.all fun k => decide (0 ≤ k) && decide (k < ns.length)) c4.wf (hv.keep K4) hmax (fun s' nd kv R hk hnd hkv hR => ?_) fun s5 k5 => ?_
 ·refine Z02 ?_
  have hkt:=hkv.ntup
  refine Z07 (Z0e (by decide)) fi94 rfl (by decide) rfl ?_
  refine Z00 ?_
  simp
  have d:=(c4.keeps hk).alloc (C [.str nd.1,kv])
  have d':=(Ctx.start (fun _ => False) (hk.wf c4.wf)).alloc (C [.str nd.1,kv])
  generalize s'.alloc (.cells [.str nd.1,kv] false) = sA at d d' ⊢
  generalize s'.next = BA at d d' ⊢
  have kA:=d'.Z0f
  refine Z00 ?_
  simp [d.c 0 rfl,d.c 1 rfl,hkt]
  refine Z02 ?_
  refine Zrl (g:=fun k => decide (0 ≤ k) && decide (k < ns.length)) d.wf (hkv.keep kA) (hsm nd hnd).2 (fun s6 x R6 k6 hx hR6 => ?_) fun s6 k6 => ?_
  ·refine Z02 ?_
   exact Zko ((d.keeps k6).c 2 rfl) hln (hR6 s6 (Keeps.refl _))
  ·simp
   refine AM.wp_ret ?_
   simp
   exact hR s6 (kA.trans k6)
 have K5:=K4.trans k5
 cases hK:ns.all (fun nd => nd.2.all fun k => decide (0 ≤ k) && decide (k < ns.length)) with
 | false =>
  have hF:Z1k ns rt = 1:=by unfold Z1k; rw [if_neg (fun h => h.elim hA (fun h => h.elim hB (fun h => by rw [h4] at h; cases h))),if_neg (by simp [hN]),if_pos (.inr hK)]
  rw [hF] at q
  simp
  refine AM.Z04 ?_
  simp
  refine Z00 ?_
  simp
  refine AM.wp_ret ?_
  simp
  exact q s5 K5
 | true =>
  have hF:Z1k ns rt = 0:=by unfold Z1k; rw [if_neg (fun h => h.elim hA (fun h => h.elim hB (fun h => by rw [h4] at h; cases h))),if_neg (by simp [hN]),if_neg (by simp only [hr,hK]; simp)]
  rw [hF] at q
  simp
  refine AM.Z04 ?_
  simp
  refine AM.wp_skip ?_
  simp
  refine Z00 ?_
  simp
  refine AM.wp_ret ?_
  simp
  exact q s5 K5
end Go.Proofs
end
section
/- alike.checked: the first error of some trees. -/
open Go Go.AM
namespace Go.Proofs
set_option maxRecDepth 100000
abbrev TV:=List ND × Int
def Z6k (s:St) (v:AVal) (ts:List TV):Prop:=(Z1b v = some 0∧ts = []) ∨
 ∃ b o c cs,v = .slice b o ts.length c∧s.Old b∧s.cells b = some cs∧o + 2 * ts.length ≤ cs.length∧∀ (i:Nat) (t:TV),ts[i]? = some t→∃ nv,cs[o + i * 2]? = some nv∧cs[o + i * 2 + 1]? = some (.int .i64 t.2)∧Z1c s nv t.1
theorem Z6k.keep {s s':St} {v:AVal} {ts:List TV} (h:Z6k s v ts) (k:Keeps s s'):Z6k s' v ts:=by
 rcases h with h | ⟨b,o,c,cs,h1,h2,h3,h4,h5⟩
 ·exact .inl h
 ·refine .inr ⟨b,o,c,cs,h1,k.old h2,(k.cells h2).trans h3,h4,fun i t hi => ?_⟩
  obtain ⟨nv,g1,g2,g3⟩:=h5 i t hi
  exact ⟨nv,g1,g2,g3.keep k⟩
theorem Z6k.len {s:St} {v:AVal} {ts:List TV} (h:Z6k s v ts):Z1b v = some ts.length:=by
 rcases h with ⟨h1,rfl⟩ | ⟨b,o,c,cs,rfl,_⟩
 ·exact h1
 ·rfl
theorem Z6k.ntup {s:St} {v:AVal} {ts:List TV} (h:Z6k s v ts):∀ t,¬ v = .tup t:=by
 rintro t rfl
 have:=h.len
 cases this
def Zp4 (ts:List TV):Prop:=∀ t ∈ ts,t.1.length ≤ 2 ^ 62∧Zdh t.1
def Z8d (ts:List TV):Int:=match ts.find? (fun t => decide (Z1k t.1 t.2 ≠ 0)) with
 | some t => Z1k t.1 t.2
 | none => 0
theorem Ztb {s:St} {v:AVal} {ts:List TV} {Q:AVal→St→Prop} (hwf:s.Wf) (hv:Z6k s v ts) (hsm:Zp4 ts) (hmax:ts.length ≤ 1000)
  (q:∀ (i:Int) s',Keeps s s'→((i = -1∧ts.find? (fun t => decide (Z1k t.1 t.2 ≠ 0)) = none) ∨ ∃ (j:Nat) (t:TV),i = j∧ts[j]? = some t∧ts.find? (fun t => decide (Z1k t.1 t.2 ≠ 0)) = some t)→Q (.int .i64 i) s'):Z0b Tryd.prog 113 [v,.fn 99 [] []] s Q:=by
 refine Z07 (Z0e (by decide)) fi113 rfl (by decide) rfl ?_
 refine Z00 ?_
 simp
 refine AM.wp_seq ?_
 refine Z00 ?_
 simp [hv.len,hv.ntup]
 refine AM.wp_block ?_
 refine AM.wp_loop (fun m t s' => ∃ i:Nat,i ≤ ts.length∧m = ts.length - i∧PT.get (posOf 0) t = some v∧PT.get (posOf 1) t = some (.fn 99 [] [])∧PT.get (posOf 7) t = some (.int .i64 ts.length)∧PT.get (posOf 8) t = some (.int .i64 i)∧Keeps s s'∧(ts.take i).find? (fun t => decide (Z1k t.1 t.2 ≠ 0)) = none) ts.length ⟨0,by simp,by simp,by simp,by simp,by simp,by simp,Keeps.refl s,by simp⟩ ?_
 rintro m t s' ⟨i,hi,rfl,t0,t1,t7,t8,hk,hall⟩
 refine Z00 ?_
 simp [t7,t8]
 refine AM.wp_seq ?_
 refine AM.Z04 ?_
 by_cases hlt:i < ts.length
 ·obtain ⟨tt,htt⟩:∃ tt,ts[i]? = some tt:=⟨_,List.getElem?_eq_getElem hlt⟩
  have hwr:IntKind.wrap .i64 ((i:Int) + 1) = ((i + 1:Nat):Int):=by rw [IntWalk.i64_in _ (by omega)]; omega
  rcases hv.keep hk with ⟨_,h0⟩ | ⟨b,o,c,cs,rfl,hb,hcs,hle,hel⟩
  ·subst h0
   simp at hlt
  obtain ⟨nv,g1,g2,g3⟩:=hel i tt htt
  have hseg:=Zhc g1 g2
  have hlen:o + i * 2 + 2 ≤ cs.length:=by have:=(List.getElem?_eq_some_iff.1 g2).1; omega
  have hnt:=g3.ntup
  obtain ⟨hs1,hs2⟩:=hsm tt (List.mem_of_getElem? htt)
  simp [hlt]
  refine AM.wp_skip ?_
  simp
  refine AM.wp_seq ?_
  refine AM.wp_block ?_
  refine Z00 ?_
  simp [t8]
  refine Z00 ?_
  simp [t0,t1,hlt,hcs,hseg,hlen]
  refine Z02 ?_
  refine Z07 (Z0e (by decide)) fi99 rfl (by decide) rfl ?_
  refine Z00 ?_
  simp
  have d:=(Ctx.start (fun _ => False) (hk.wf hwf)).alloc (C [nv,.int .i64 tt.2])
  generalize s'.alloc (.cells [nv,.int .i64 tt.2] false) = sA at d ⊢
  generalize s'.next = BA at d ⊢
  have kA:=d.Z0f
  refine Z00 ?_
  simp [d.c 0 rfl]
  refine Z02 ?_
  refine Zhb (rt:=tt.2) d.wf (g3.keep kA) hs1 hs2 fun sB kB => ?_
  have hkB:=(hk.trans kA).trans kB
  simp
  refine AM.wp_ret ?_
  simp
  refine AM.Z04 ?_
  by_cases hct:Z1k tt.1 tt.2 = 0
  ·simp [hct]
   refine AM.wp_skip ?_
   simp
   refine AM.wp_region ?_
   simp [t8,hwr]
   refine ⟨ts.length - (i + 1),by omega,i + 1,by omega,by omega,by simp [t0],by simp [t1],by simp [t7],by simp,hkB,?_⟩
   have:(ts.take (i + 1)).find? (fun t => decide (Z1k t.1 t.2 ≠ 0)) = none:=by
    rw [List.take_add_one,htt,List.find?_append,hall]
    simp [hct]
   simpa using this
  ·simp [hct]
   refine Z00 ?_
   simp
   refine AM.wp_ret ?_
   simp
   refine q _ _ hkB (.inr ⟨i,tt,rfl,htt,?_⟩)
   rw [← List.take_append_drop i ts,List.find?_append,hall,List.drop_eq_getElem_cons hlt]
   have e:ts[i] = tt:=by rw [List.getElem?_eq_getElem hlt] at htt; exact Option.some.inj htt
   rw [e]
   simp [hct]
 ·simp [hlt]
  refine AM.wp_exit ?_
  simp
  refine Z00 ?_
  simp
  refine AM.wp_ret ?_
  simp
  have:i = ts.length:=by omega
  subst this
  rw [List.take_length] at hall
  exact q _ _ hk (.inl ⟨rfl,hall⟩)
theorem Zq3 {s:St} {v:AVal} {ts:List TV} {Q:AVal→St→Prop} (hwf:s.Wf) (hv:Z6k s v ts) (hsm:Zp4 ts) (hmax:ts.length ≤ 1000)
  (q:∀ s',Keeps s s'→Q (.int .i64 (Z8d ts)) s'):Z0b Tryd.prog 68 [v] s Q:=by
 have hvt:=hv.ntup
 refine Z07 (Z0e (by decide)) fi68 rfl (by decide) rfl ?_
 refine Z00 ?_
 simp
 refine Z00 ?_
 simp [hvt]
 refine Z02 ?_
 refine Z07 (Z0e (by decide)) fi98 rfl (by decide) rfl ?_
 refine Z00 ?_
 simp
 have d1:=(Ctx.start (fun _ => False) hwf).alloc (C [.nilSlice,.int .i64 0])
 generalize s.alloc (.cells [.nilSlice,.int .i64 0] false) = s1 at d1 ⊢
 generalize s.next = B4 at d1 ⊢
 refine Z00 ?_
 simp
 have d2:=d1.alloc (C [.nilSlice,.int .i64 0])
 generalize s1.alloc (.cells [.nilSlice,.int .i64 0] false) = s2 at d2 ⊢
 generalize s1.next = B6 at d2 ⊢
 have k2:=d2.Z0f
 refine Z00 ?_
 simp [hvt]
 refine Z02 ?_
 refine Ztb d2.wf (hv.keep k2) hsm hmax fun i s3 k3 hi => ?_
 have d3:=d2.keeps k3
 have K3:=k2.trans k3
 simp
 refine AM.wp_seq ?_
 refine Z00 ?_
 rcases hi with ⟨rfl,hn⟩ | ⟨j,tt,rfl,htt,hf⟩
 ·have hF:Z8d ts = 0:=by unfold Z8d; rw [hn]
  rw [hF] at q
  simp
  refine AM.Z04 ?_
  simp
  refine Z00 ?_
  simp [d3.c 0 rfl,d3.o 1 rfl]
  have d4:=d3.put 1 rfl (C [.nilSlice,.int .i64 0])
  simp only [List.set_cons_succ,List.set_cons_zero] at d4
  generalize s3.put B4 (.cells [.nilSlice,.int .i64 0] false) = s4 at d4 ⊢
  refine AM.wp_ret ?_
  simp [d4.c 1 rfl]
  have d5:=(d4.alloc (C [.nilSlice,.int .i64 0])).put 0 rfl (C [.nilSlice,.int .i64 0])
  simp only [List.set_cons_zero] at d5
  generalize (s4.alloc (.cells [.nilSlice,.int .i64 0] false)).put s4.next (.cells [.nilSlice,.int .i64 0] false) = s5 at d5 ⊢
  refine AM.wp_seq ?_
  refine Z00 ?_
  simp
  refine AM.Z04 ?_
  simp
  refine Z00 ?_
  simp
  refine AM.wp_ret ?_
  simp
  exact q s5 d5.Z0f
 ·have hF:Z8d ts = Z1k tt.1 tt.2:=by unfold Z8d; rw [hf]
  rw [hF] at q
  have hneg:¬ ((j:Int) < 0):=by omega
  have hlt:=(List.getElem?_eq_some_iff.1 htt).1
  rcases hv.keep K3 with ⟨_,h0⟩ | ⟨b,o,c,cs,rfl,hb,hcs,hle,hel⟩
  ·subst h0
   simp at hlt
  obtain ⟨nv,g1,g2,g3⟩:=hel j tt htt
  have hseg:=Zhc g1 g2
  have hlen:o + j * 2 + 2 ≤ cs.length:=by have:=(List.getElem?_eq_some_iff.1 g2).1; omega
  have hnt:=g3.ntup
  have hnc:=g3.Z8b
  obtain ⟨hs1,hs2⟩:=hsm tt (List.mem_of_getElem? htt)
  simp [hneg]
  refine AM.Z04 ?_
  simp
  refine AM.wp_skip ?_
  simp
  refine Z00 ?_
  simp [hlt,hcs,hseg,hlen,d3.o 1 rfl]
  have d4:=d3.put 1 rfl (C [nv,.int .i64 tt.2])
  simp only [List.set_cons_succ,List.set_cons_zero] at d4
  generalize s3.put B4 (.cells [nv,.int .i64 tt.2] false) = s4 at d4 ⊢
  refine AM.wp_ret ?_
  simp [d4.c 1 rfl]
  have d5:=(d4.alloc (C [.nilSlice,.int .i64 0])).put 0 rfl (C [nv,.int .i64 tt.2])
  simp only [List.set_cons_zero] at d5
  generalize (s4.alloc (.cells [.nilSlice,.int .i64 0] false)).put s4.next (.cells [nv,.int .i64 tt.2] false) = s5 at d5 ⊢
  generalize s4.next = B3 at d5 ⊢
  refine AM.wp_seq ?_
  refine Z00 ?_
  simp
  refine AM.Z04 ?_
  simp
  refine AM.wp_skip ?_
  simp
  refine Z00 ?_
  simp [d5.c 0 rfl]
  refine Z02 ?_
  have K5:=d5.Z0f
  have hN5:Z1c s5 nv tt.1:=by
   rcases hv.keep K5 with ⟨_,h0⟩ | ⟨b',o',c',cs',e,hb',hcs',hle',hel'⟩
   ·subst h0
    simp at hlt
   cases e
   obtain ⟨nv',e1,e2,e3⟩:=hel' j tt htt
   have:cs' = cs:=by
    have h1:s5.cells b = s.cells b:=by
     rcases hv with ⟨_,h0⟩ | ⟨b2,o2,c2,cs2,e',hb2,_⟩
     ·subst h0
      simp at hlt
     cases e'
     exact K5.cells hb2
    have h2:s3.cells b = s.cells b:=by
     rcases hv with ⟨_,h0⟩ | ⟨b2,o2,c2,cs2,e',hb2,_⟩
     ·subst h0
      simp at hlt
     cases e'
     exact K3.cells hb2
    rw [hcs'] at h1
    rw [hcs] at h2
    rw [← h2] at h1
    exact Option.some.inj h1
   subst this
   rw [g1] at e1
   cases e1
   exact e3
  refine Zhb (rt:=tt.2) d5.wf hN5 hs1 hs2 fun s6 k6 => ?_
  simp
  refine AM.wp_ret ?_
  simp
  exact q s6 (K5.trans k6)
end Go.Proofs
end
section
/- The law of rings: the loops. -/
open Go Go.AM
namespace Go.Proofs
set_option maxRecDepth 100000
section
variable {s0 s:St} {fr:FI} {t0:PT AVal} {hb:Pos} {m r:Lets} {v:AVal} {bs:List Bool} {xs:List AVal} {Q:Ex→PT AVal→St→Prop}
end
end Go.Proofs
end
