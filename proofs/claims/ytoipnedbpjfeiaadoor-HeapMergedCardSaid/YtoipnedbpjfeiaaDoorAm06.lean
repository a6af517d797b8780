/- Parts of the proof: Wrap, Mov3, Mrg5, Per, Ring1, Ring2, Open3, CodesH, CodesA, Nod, Chk1, Chk2, Chk3, Ring3, Brd1, Brd2, Brd3, Hm1. -/
import Derived.Test.YtoipnedbpjfeiaaDoorChecked
import Derived.Test.YtoipnedbpjfeiaaDoorTie
import Derived.ProofKit
import Derived.Test.YtoipnedbpjfeiaaDoorAm05
set_option linter.all false
set_option linter.unusedSectionVars false
set_option linter.unusedSimpArgs false
set_option linter.unusedVariables false
section
open Go Go.AM
namespace Go.Proofs
set_option maxRecDepth 100000
theorem KidV.ints {s:St} {kv:AVal} {ks:List Int} (h:KidV s kv ks) (hw:s.Wf):Z0h s kv ks:=by
 rcases h with h | ⟨q,c,rfl,h⟩
 ·exact .inl h
 ·exact .inr ⟨q,0,c,_,rfl,Z0b hw h,Z0a h,by simp,fun i k hk => by simp [hk]⟩
theorem Z4l {s:St} {b:Pos} {ks:List Int} (hw:s.Wf) (h:s.own b = some (ints ks)) (c:Cap):Z0h s (.slice b 0 ks.length c) ks:=KidV.ints (.inr ⟨b,c,rfl,h⟩) hw
def Z1d (lv:AVal) (g:List Int) (m:Lets):Prop:=(g = []∧lv = .nilSlice∧m = []) ∨ ∃ q,g ≠ []∧lv = .slice q 0 g.length (.opn 1)∧m = [(q,C (ints g))]
theorem Z1d.len {lv:AVal} {g:List Int} {m:Lets} (h:Z1d lv g m):Z1o lv = some g.length:=by
 rcases h with ⟨rfl,rfl,_⟩ | ⟨q,_,rfl,_⟩ <;> rfl
theorem Z1d.ntup {lv:AVal} {g:List Int} {m:Lets} (h:Z1d lv g m):∀ t,¬ lv = .tup t:=by
 rintro t rfl
 have:=h.len
 cases this
theorem Z1d.cells {lv:AVal} {g:List Int} {m:Lets} (h:Z1d lv g m):lv.cells = [lv]:=by
 rcases h with ⟨rfl,rfl,_⟩ | ⟨q,_,rfl,_⟩ <;> rfl
theorem Z1d.row {lv:AVal} {g:List Int} {m:Lets} (h:Z1d lv g m):RowR lv g m:=by
 rcases h with ⟨h1,rfl,h2⟩ | ⟨q,h1,h2,h3⟩
 ·exact .inl ⟨h1,rfl,h2⟩
 ·exact .inr ⟨q,_,h1,h2,h3⟩
theorem RowR.kid {s:St} {kv:AVal} {ks:List Int} {m:Lets} (h:RowR kv ks m) (ho:∀ x ∈ m,s.obj x.1 = some x.2):KidV s kv ks:=by
 rcases h with ⟨h1,h2,h3⟩ | ⟨q,c,h1,h2,rfl⟩
 ·exact .inl ⟨h2,h1⟩
 ·exact .inr ⟨q,c,h2,Z17 (ho (q,C (ints ks)) (by simp))⟩
section
variable {s0 s:St} {W:Pos→Prop} {m r:Lets}
theorem Ctx.chg0 {b:Pos} {x y:AObj} (h:Ctx s0 W ((b,x) :: m) s) {s':St} (k:Same [b] s s') (hy:s'.obj b = some y):Ctx s0 W ((b,y) :: m) s':=by
 have hn:=h.nodup
 rw [List.map_cons,List.nodup_cons] at hn
 refine (h.tail.same k ?_ ?_).add hy (h.free (b,x) (by simp)) hn.1
 ·intro c hc ho
  simp at hc
  subst hc
  exact h.free (c,x) (by simp) ho
 ·intro z hz hb
  simp at hb
  exact hn.1 (List.mem_map.2 ⟨z,hz,hb⟩)
theorem Ctx.chg {b:Pos} {x y:AObj} (h:Ctx s0 W m s) (i:Nat) (hi:m[i]? = some (b,x)) {s':St} (k:Same [b] s s') (hy:s'.obj b = some y):Ctx s0 W (m.set i (b,y)) s' :=
 ((h.perm (Z8g m i _ hi)).chg0 k hy).perm (set_perm m i _ _ hi)
theorem Z5c {pre mg:Lets} {lv:AVal} {g:List Int} {x:Int} {Q:AVal→St→Prop} (h:Ctx s0 W (pre ++ (mg ++ r)) s) (hg:Z1d lv g mg) (hs:g.length ≤ 1000)
  (q:∀ lv' mg' s',Z1d lv' (g ++ [x]) mg'→Ctx s0 W (pre ++ (mg' ++ r)) s'→Q lv' s'):appP (1,8) lv [.int .i64 x] 1 s Q:=by
 rcases hg with ⟨rfl,rfl,rfl⟩ | ⟨b,hne,rfl,rfl⟩
 ·simp only [appP,Z4r]
  rw [if_neg (by decide)]
  refine ⟨by unfold Z0n; omega,?_⟩
  have:=h.alloc (C [.int .i64 x])
  refine q (.slice s.next 0 1 (.opn 1)) [(s.next,C (ints [x]))] _ (.inr ⟨_,by simp,rfl,rfl⟩) (this.perm ?_)
  simp only [List.nil_append]
  exact List.perm_middle.symm
 ·have hb:s.own b = some (ints g):=Z17 (h.own (b,C (ints g)) (by simp))
  have hl:g.length ≠ 0:=by simpa using hne
  have h1:Ctx s0 W ((b,C (ints g)) :: (pre ++ r)) s:=h.perm (by simp)
  have h2:=(h1.put0 .dead).tail.alloc (C (ints g ++ [.int .i64 x]))
  simp only [appP,Z4r]
  rw [if_neg (by decide)]
  refine ⟨trivial,?_⟩
  rw [hb]
  simp only [Z13]
  rw [if_neg hl,if_neg (by simp)]
  refine ⟨by simp,by unfold Z0n; omega,?_⟩
  have ht:List.take (g.length * 1) (List.drop 0 (ints g)) = ints g:=by rw [List.drop_zero]; exact List.take_of_length_le (by simp)
  rw [ht]
  have hi:ints g ++ [AVal.int .i64 x] = ints (g ++ [x]):=by simp [ints]
  rw [hi] at h2 ⊢
  have hn:(s.put b .dead).next = s.next:=rfl
  refine q (.slice s.next 0 (g.length + 1) (.opn 1)) [(s.next,C (ints (g ++ [x])))] _ (.inr ⟨_,by simp,by simp,rfl⟩) (h2.perm ?_)
  rw [hn]
  exact List.perm_middle.symm
theorem Zb1 {fr:FI} {t:PT AVal} {Q:Ex→PT AVal→St→Prop} {f:RO} {k k':Nat} {b:MCode} {fi:FInfo} {p B:Pos} {l:List RC} {n:Nat} {m0:Lets} (J:Nat→Lets→Prop) (hn:l.length = n) (hl:n ≤ 400)
  (hx:getO t [] f = some (.fn 87 [] [.ptr B 0])) (hr:fr.round = none) (hfi:funInfo Tryd.prog fr.fn = some fi) (hpl:Z6g fi.ps fi.ntmps [k] = some [some (posOf k)])
  (hp:∀ i m s',J i m→Ctx s0 W m s'→s'.Old p∧s'.cells p = some (encs l))
  (hskip:∀ i c m,l[i]? = some c→c.taken = false→J i m→J (i + 1) m)
  (hbody:∀ (i:Nat) c s1 m Lb X (Wx:Ex→PT AVal→St→Prop),l[i]? = some c→c.taken = true→J i m→Ctx s0 W ((Lb,X) :: (B,C [.slice p 0 n (.lim n)]) :: m) s1 →
   (∀ t s2 m',J (i + 1) m'→Ctx s0 W ((Lb,X) :: (B,C [.slice p 0 n (.lim n)]) :: m') s2→Wx .normal t s2) →
   wp Tryd.prog b { fn:=fr.fn,ntmps:=fi.ntmps,ps:=fi.ps,round:=some Lb } (PT.set (posOf k') (.int .i64 i) (PT.set (posOf k) (.int .i64 i) t)) s1 Wx)
  (h0:J 0 m0) (hc:Ctx s0 W ((B,C [.slice p 0 n (.lim n)]) :: m0) s) (q:∀ s' m,J n m→Ctx s0 W m s'→Q .normal t s') :
  wp Tryd.prog (.range f [k] (.region [.run none (.move (.per (posOf k)))] [some (posOf k')]) b) fr t s Q:=by
 subst hn
 refine AM.Zij hx (fun l0 e => by rw [hr] at e; cases e) ?_
 have c0:=hc.alloc (.loop { state:=.ready,pending:=none,fn:=fr.fn,tm:=t,params:=[k],assign:=.region [.run none (.move (.per (posOf k)))] [some (posOf k')],body:=b })
 generalize s.alloc (.loop { state:=.ready,pending:=none,fn:=fr.fn,tm:=t,params:=[k],assign:=.region [.run none (.move (.per (posOf k)))] [some (posOf k')],body:=b }) = sA at c0 ⊢
 generalize s.next = Lb at c0 ⊢
 refine Zjv (p:=p) (I:=fun i s' => ∃ m,J i m∧Ctx s0 W ((Lb,.loop { state:=.ready,pending:=none,fn:=fr.fn,tm:=t,params:=[k],assign:=.region [.run none (.move (.per (posOf k)))] [some (posOf k')],body:=b }) :: (B,C [.slice p 0 l.length (.lim l.length)]) :: m) s') hl (by simp) ?_ ?_ ?_ ?_ ⟨m0,h0,c0⟩ ?_
 ·rintro i s' ⟨m,hj,hc⟩
  obtain ⟨a,b⟩:=hp i m s' hj hc.tail.tail
  exact ⟨hc.wf,a,hc.oi 1 rfl,b,hc.c 1 rfl⟩
 ·rintro i s' s'' ⟨m,hj,hc⟩ hk
  exact ⟨m,hj,hc.keeps hk⟩
 ·rintro i c s' hci hct ⟨m,hj,hc⟩
  exact ⟨m,hskip i c m hci hct hj,hc⟩
 ·rintro i c s' R hci hct ⟨m,hj,hc⟩ hR
  refine Zda (pl:=[some (posOf k)]) (tree:=PT.set (posOf k) (.int .i64 i) t) (hc.x 0 rfl) hfi hpl rfl rfl ?_
  refine AM.wp_region ?_
  simp
  refine ⟨_,hc.x 0 rfl,rfl,?_⟩
  refine hbody i c _ m Lb _ _ hci hct hj (hc.put 0 rfl _) fun t2 s2 m' hj' hc' => ?_
  refine ⟨_,hc'.x 0 rfl,?_⟩
  exact hR _ ⟨m',hj',hc'.put 0 rfl _⟩
 ·rintro s2 ⟨m,hj,hc⟩
  refine ⟨_,hc.x 0 rfl,rfl,?_⟩
  exact q _ m hj (hc.put 0 rfl _).tail.tail
end
theorem Zk7 {s:St} {p:Pos} {l:List RC} {n:Nat} {K:Nat→List Int} {Q:AVal→St→Prop} (hn:l.length = n) (hw:s.Wf) (hp:s.Old p) (hc:s.cells p = some (encs l)) (hl:n ≤ 400) (hK:∀ j c,l[j]? = some c→Z0h s c.kv (K j))
  (q:∀ pn lv s',Keeps s s'→NodesG s' pn (Zbb l K)→Z0h s' lv ((takI l n).map fun (a:Nat) => (a:Int))→Q (.tup [.slice pn 0 n (.lim n),lv]) s'):Z0c Tryd.prog 50 [.agg [.slice p 0 n (.lim n)]] s Q:=by
 subst hn
 exact Zws hw hp hc hl hK q
theorem Zcc {s:St} {p:Pos} {nds:List (List UInt8 × List Int)} {n:Nat} {c0:Cap} {Lv:AVal} {L:List Nat} {Q:AVal→St→Prop}
  (hnl:nds.length = n) (hw:s.Wf) (hN:NodesG s p nds) (hn:n ≤ 1000) (hL:Z0h s Lv (L.map fun (a:Nat) => (a:Int))) (hLl:L.length ≤ 1000) (hC:Closed nds L)
  (hkids:∀ (a:Nat) nd,nds[a]? = some nd→nd.2.length ≤ 4∧∀ k ∈ nd.2,0 ≤ k∧k < nds.length)
  (q:∀ Bx s',Keeps s s'→¬ s.Old Bx→s'.own Bx = some (ints (clsF nds L))→Q (.slice Bx 0 n (.lim n)) s'):Z0c Tryd.prog 49 [.slice p 0 n c0,Lv] s Q:=by
 subst hnl
 obtain ⟨R,h1,h2,h3⟩:=Z9j hC
 rw [h1] at q
 exact Zrn hw hN hn hL hC.lt hLl hkids h3 h2 q
theorem Z9k {nds:List (List UInt8 × List Int)} {L:List Nat} (h:Closed nds L):(clsF nds L).length = nds.length:=by
 obtain ⟨R,h1,_⟩:=Z9j h
 rw [h1,Z6n]
theorem own_w {s:St} {p:Pos} {l:List RC} {n:Nat} {K:Nat→List Int} {Q:AVal→St→Prop} (hn:l.length = n) (hw:s.Wf) (hp:s.Old p) (hc:s.cells p = some (encs l)) (h1:1 ≤ n) (hl:n ≤ 400) (hK:∀ j c,l[j]? = some c→Z0h s c.kv (K j)∧(K j).length ≤ 1000)
  (q:∀ pn kvs s',Keeps s s'→¬ s.Old pn→s'.own pn = some (encs (cpI l kvs n))→OwnK s s' pn K kvs n→Q (.agg [.slice pn 0 n (.lim n)]) s'):Z0c Tryd.prog 51 [.agg [.slice p 0 n (.lim n)]] s Q:=by
 subst hn
 exact own_wp hw hp hc h1 hl hK q
theorem moves_w {s:St} {p Bc:Pos} {l:List RC} {n:Nat} {K:Nat→List Int} {cv:AVal} {cls:List Int} {qs:List Pos} {Q:AVal→St→Prop} (hn:l.length = n) (hw:s.Wf) (hp:s.Old p) (hc:s.cells p = some (encs l)) (hl:n ≤ 400) (hcl:cls.length ≤ 1000)
  (hK:∀ j c,l[j]? = some c→KidV s c.kv (K j)∧(K j).length ≤ 1000∧(c.taken = true→∀ k ∈ K j,0 ≤ k∧k < cls.length))
  (hqs:∀ j c q cp,l[j]? = some c→c.kv = .slice q 0 (K j).length cp→K j ≠ []→q ∈ qs) (hpq:p ∉ qs) (hqo:∀ q ∈ qs,s.Old q)
  (hsep:∀ j j' c c' q cp cp',l[j]? = some c→l[j']? = some c'→c.kv = .slice q 0 (K j).length cp→c'.kv = .slice q 0 (K j').length cp'→K j ≠ []→K j' ≠ []→j = j')
  (hcv:∀ s',Same qs s s'→s'.cells Bc = some [cv]∧Z0h s' cv cls)
  (q:∀ s',Same qs s s'→(∀ j c,l[j]? = some c→KidV s' c.kv (if c.taken = true then (K j).map (toC cls) else K j))→Q (.tup []) s') :
  Z0c Tryd.prog 54 [.agg [.fn 52 [] [.ptr Bc 0]],.agg [.slice p 0 n (.lim n)]] s Q:=by
 subst hn
 exact Zx2 hw hp hc hl hcl hK hqs hpq hqo hsep hcv q
theorem over_w {s:St} {p:Pos} {l:List RC} {n:Nat} {Q:AVal→St→Prop} (hn:l.length = n) (hp:s.Old p) (hc:s.cells p = some (encs l)) (hl:n ≤ 400)
  (q:∀ s',Keeps s s'→Q (.bool (l.any fun c => decide (1000 < c.held))) s'):Z0c Tryd.prog 56 [.slice p 0 n (.lim n),.fn 57 [] []] s Q:=by
 subst hn
 exact over_wp hp hc hl q
theorem Zly {s:St} {p:Pos} {l:List RC} {n:Nat} {v:AVal} {gone:List Int} {Q:AVal→St→Prop} (hn:l.length = n) (hw:s.Wf) (hp:s.own p = some (encs l)) (hmax:gone.length ≤ 1000) (hin:∀ k ∈ gone,0 ≤ k∧k < n)
  (hv:∀ s',Same [p] s s'→Z0h s' v gone) (q:∀ s',Same [p] s s'→s'.own p = some (encs (rel l gone))→Q (.tup []) s'):Z0c Tryd.prog 58 [.agg [.slice p 0 n (.lim n)],v] s Q:=by
 subst hn
 exact Zsx hw hp hmax (by simpa using hin) hv q
theorem Z1l {cs:List CV} {j:Nat} {d:CV} (h:cs[j]? = some d):Z0y cs j = d.kids:=by unfold Z0y; rw [h]
theorem Z9p {cs:List CV} {j:Nat} {ks:List Int} (h:(cs.map CV.kids)[j]? = some ks):j < cs.length∧Z0y cs j = ks:=by
 rw [List.getElem?_map] at h
 cases hd:cs[j]? with
 | none => rw [hd] at h; cases h
 | some d =>
  rw [hd] at h
  cases h
  exact ⟨(List.getElem?_eq_some_iff.1 hd).1,Z1l hd⟩
theorem Zdj {cs:List CV} {j:Nat} (h:j < cs.length):(cs.map CV.kids)[j]? = some (Z0y cs j):=by
 rw [List.getElem?_map,List.getElem?_eq_getElem h,Z1l (List.getElem?_eq_getElem h)]
 rfl
theorem Zcv {α:Type} {n j:Nat} {f:Nat→α} (h:j < n):((List.range n).map f)[j]? = some (f j):=by
 rw [List.getElem?_map,List.getElem?_range h]
 rfl
theorem Zoa {s0 s:St} {pn:Pos} {cs:List CV} {kvs:Nat→AVal} (h:OwnK s0 s pn (Z0y cs) kvs cs.length) :
  ∃ m,Z16 (cs.map CV.kids) ((List.range cs.length).map kvs) m∧(∀ x ∈ m,s.obj x.1 = some x.2)∧(m.map (·.1)).Nodup∧∀ x ∈ m,¬ s0.Old x.1∧x.1 ≠ pn:=by
 obtain ⟨m,h1,h2,h3,h4⟩:=Zkp (s:=s) (cs.map CV.kids) ((List.range cs.length).map kvs) (by simp) (fun i ks kv hk hv => by
  obtain ⟨hi,e⟩:=Z9p hk
  rw [Zcv hi] at hv
  cases hv
  rw [← e]
  exact h.kid i hi) (fun i j ks ks' q c c' hk hk' hn hn' hv hv' => by
  obtain ⟨hi,e⟩:=Z9p hk
  obtain ⟨hj,e'⟩:=Z9p hk'
  rw [Zcv hi] at hv
  rw [Zcv hj] at hv'
  rw [← e] at hv hn
  rw [← e'] at hv' hn'
  exact h.sep i j q c c' hi hj hn hn' (Option.some.inj hv) (Option.some.inj hv'))
 refine ⟨m,h1,h2,h3,fun x hx => ?_⟩
 obtain ⟨i,ks,c,e1,e2,e3⟩:=h4 x hx
 obtain ⟨hi,e⟩:=Z9p e1
 rw [Zcv hi] at e3
 rw [← e] at e2 e3
 exact h.fresh i x.1 c hi (Option.some.inj e3) e2
theorem Z16.sep:∀ {K:List (List Int)} {V:List AVal} {m:Lets},Z16 K V m→(m.map (·.1)).Nodup→∀ {i j:Nat} {ks ks':List Int} {q:Pos} {c c':Cap},K[i]? = some ks→K[j]? = some ks'→ks ≠ []→ks' ≠ [] →
  V[i]? = some (AVal.slice q 0 ks.length c)→V[j]? = some (AVal.slice q 0 ks'.length c')→i = j
 | [],_,_,_,_,i,_,_,_,_,_,_,h,_,_,_,_,_ => by simp at h
 | _ :: _,[],_,h,_,_,_,_,_,_,_,_,_,_,_,_,_,_ => h.elim
 | k :: K,v :: V,m,⟨m1,m2,h1,h2,h3⟩,hn,i,j,ks,ks',q,c,c',hi,hj,hne,hne',vi,vj => by
  have hn2:((m1 ++ m2).map (·.1)).Nodup:=((h1.map (·.1)).nodup_iff).1 hn
  rw [List.map_append,List.nodup_append] at hn2
  have key:∀ (x:Nat) (ks:List Int) (c:Cap),K[x]? = some ks→ks ≠ []→V[x]? = some (AVal.slice q 0 ks.length c)→q ∈ m2.map (·.1):=by
   intro x ks c hx hne vx
   obtain ⟨kv,g1,g2⟩:=h3.each hx
   rw [vx] at g1
   cases g1
   rcases g2 with ⟨e,_⟩ | ⟨q',c',_,e,e3⟩
   ·exact (hne e).elim
   ·cases e
    exact List.mem_map.2 ⟨_,e3,rfl⟩
  have key0:∀ (ks:List Int) (c:Cap),k = ks→ks ≠ []→v = AVal.slice q 0 ks.length c→q ∈ m1.map (·.1):=by
   intro ks c hx hne vx
   subst hx vx
   rcases h2 with ⟨e,_⟩ | ⟨q',c',_,e,rfl⟩
   ·exact (hne e).elim
   ·cases e
    simp
  match i,j with
  | 0,0 => rfl
  | 0,j + 1 =>
   exact (hn2.2.2 q (key0 ks c (by simpa using hi) hne (by simpa using vi)) q (key j ks' c' (by simpa using hj) hne' (by simpa using vj)) rfl).elim
  | i + 1,0 =>
   exact (hn2.2.2 q (key0 ks' c' (by simpa using hj) hne' (by simpa using vj)) q (key i ks c (by simpa using hi) hne (by simpa using vi)) rfl).elim
  | i + 1,j + 1 =>
   have:=Z16.sep h3 hn2.2.1 (i:=i) (j:=j) (by simpa using hi) (by simpa using hj) hne hne' (by simpa using vi) (by simpa using vj)
   omega
theorem Ctx.lose {s0 s s':St} {W:Pos→Prop} {m r:Lets} (h:Ctx s0 W (m ++ r) s) (k:Same (m.map (·.1)) s s'):Ctx s0 W r s':=by
 have hn:=h.nodup
 rw [List.map_append,List.nodup_append] at hn
 refine (h.sub (List.sublist_append_right _ _)).same k ?_ ?_
 ·intro b hb ho
  obtain ⟨x,hx,rfl⟩:=List.mem_map.1 hb
  exact h.free x (List.mem_append_left _ hx) ho
 ·intro x hx hb
  exact hn.2.2 _ hb _ (List.mem_map.2 ⟨x,hx,rfl⟩) rfl
theorem Zfw (cls:List Int) (cs:List CV):(Z58 cls cs).length = cs.length:=by simp [Z58]
theorem Zlj {cls:List Int} {cs:List CV} {i:Nat} {c:CV} (h:cs[i]? = some c):(Z58 cls cs)[i]? = some (if c.taken = true then { c with kids:=c.kids.map (toC cls) } else c):=by simp [Z58,h]
theorem moves_c {s0 s:St} {W:Pos→Prop} {pn B4 Bx:Pos} {cs:List CV} {V:List AVal} {cls:List Int} {mk r:Lets} {cp:Cap} {Q:AVal→St→Prop} (h:Ctx s0 W (mk ++ r) s) (hR:Z16 (cs.map CV.kids) V mk) (hO:HOk cs) (hcl:cls.length = cs.length) (h4:cs.length ≤ 400)
  (hpn:(pn,C (encs (rcs cs V))) ∈ r) (hB4:(B4,C [.slice Bx 0 cs.length cp]) ∈ r) (hBx:(Bx,C (ints cls)) ∈ r)
  (q:∀ mk' s',Z16 ((Z58 cls cs).map CV.kids) V mk'→Ctx s0 W (mk' ++ r) s'→Q (.tup []) s') :
  Z0c Tryd.prog 54 [.agg [.fn 52 [] [.ptr B4 0]],.agg [.slice pn 0 cs.length (.lim cs.length)]] s Q:=by
 have hV:V.length = cs.length:=by simpa using hR.len
 have hl:=Z24 hV
 have hn:=h.nodup
 rw [List.map_append,List.nodup_append] at hn
 have hget:∀ j c,(rcs cs V)[j]? = some c→∃ (hj:j < cs.length),V[j]? = some c.kv∧c.taken = cs[j].taken∧c = ⟨cs[j].taken,cs[j].name,c.kv,cs[j].held⟩:=by
  intro j c hc
  have hlt:j < cs.length:=by have:=(List.getElem?_eq_some_iff.1 hc).1; rwa [hl] at this
  have hv:V[j]? = some (V[j]'(by omega)):=List.getElem?_eq_getElem (by omega)
  rw [Z1u (List.getElem?_eq_getElem hlt) hv] at hc
  cases hc
  exact ⟨hlt,hv,rfl,rfl⟩
 have hrow:∀ j c,(rcs cs V)[j]? = some c→(Z0y cs j = []∧Z1o c.kv = some 0) ∨ ∃ q cp,Z0y cs j ≠ []∧c.kv = .slice q 0 (Z0y cs j).length cp∧(q,C (ints (Z0y cs j))) ∈ mk:=by
  intro j c hc
  obtain ⟨hj,hv,_⟩:=hget j c hc
  obtain ⟨kv,g1,g2⟩:=hR.each (Zdj hj)
  rw [hv] at g1
  cases g1
  exact g2
 refine moves_w (K:=Z0y cs) (cls:=cls) (cv:=.slice Bx 0 cs.length cp) (qs:=mk.map (·.1)) hl h.wf (h.ob (List.mem_append_right _ hpn)) (Z0a (Z17 (h.own _ (List.mem_append_right _ hpn)))) h4 (by omega) ?_ ?_ ?_ ?_ ?_ ?_ ?_
 ·intro j c hc
  obtain ⟨hj,hv,ht,_⟩:=hget j c hc
  have hko:=Z1l (List.getElem?_eq_getElem hj)
  refine ⟨?_,?_,?_⟩
  ·rcases hrow j c hc with ⟨e1,e2⟩ | ⟨q,cp,e1,e2,e3⟩
   ·exact .inl ⟨e2,e1⟩
   ·exact .inr ⟨q,cp,e2,Z17 (h.own _ (List.mem_append_left _ e3))⟩
  ·rw [hko]
   have:=hO.kids4 _ (List.getElem_mem hj)
   omega
  ·intro hct k hk
   rw [hko] at hk
   obtain ⟨h0,d,_,_,hlt⟩:=Z1v (hO.kids _ (List.getElem_mem hj) (ht ▸ hct) k hk)
   exact ⟨h0,by omega⟩
 ·intro j c q cp hc hkv hne
  rcases hrow j c hc with ⟨e1,e2⟩ | ⟨q',cp',e1,e2,e3⟩
  ·exact (hne e1).elim
  ·rw [hkv] at e2
   cases e2
   exact List.mem_map.2 ⟨_,e3,rfl⟩
 ·exact fun hm => hn.2.2 _ hm _ (List.mem_map.2 ⟨_,hpn,rfl⟩) rfl
 ·intro q hq
  obtain ⟨x,hx,rfl⟩:=List.mem_map.1 hq
  exact h.ob (List.mem_append_left _ hx)
 ·intro j j' c c' q cp cp' hc hc' hkv hkv' hne hne'
  obtain ⟨hj,hv,_⟩:=hget j c hc
  obtain ⟨hj',hv',_⟩:=hget j' c' hc'
  rw [hkv] at hv
  rw [hkv'] at hv'
  exact hR.sep hn.1 (Zdj hj) (Zdj hj') hne hne' hv hv'
 ·intro s' hS
  have h':=h.lose hS
  have e:cls.length = cs.length:=hcl
  refine ⟨Z0a (Z17 (h'.own _ hB4)),?_⟩
  rw [← hcl]
  exact Z4l h'.wf (Z17 (h'.own _ hBx)) _
 ·intro s' hS hk
  have h':=h.lose hS
  have hlast:∀ (i:Nat) (ks:List Int) (qq:Pos) (c:Cap),((Z58 cls cs).map CV.kids)[i]? = some ks→ks ≠ []→V[i]? = some (AVal.slice qq 0 ks.length c)→∃ hi:i < cs.length,Z0y cs i ≠ []∧ks.length = (Z0y cs i).length∧qq ∈ mk.map (·.1):=by
   intro i ks qq c hks hne hv
   obtain ⟨hi,e⟩:=Z9p hks
   rw [Zfw] at hi
   have hm:=Zlj (cls:=cls) (List.getElem?_eq_getElem hi)
   have e2:=Z1l hm
   rw [e] at e2
   have e3:=Z1l (List.getElem?_eq_getElem hi)
   have hlen:ks.length = (Z0y cs i).length:=by
    rw [e2,e3]
    split <;> simp
   have hne':Z0y cs i ≠ []:=by
    intro e0
    rw [e0] at hlen
    exact hne (List.length_eq_zero_iff.1 hlen)
   refine ⟨hi,hne',hlen,?_⟩
   rcases hrow i _ (Z1u (List.getElem?_eq_getElem hi) hv) with ⟨e1,_⟩ | ⟨q',cp',_,e5,e6⟩
   ·exact (hne' e1).elim
   ·have:q' = qq:=(AVal.slice.inj e5).1.symm
    subst this
    exact List.mem_map.2 ⟨_,e6,rfl⟩
  obtain ⟨mk',r1,r2,r3,r4⟩:=Zkp (s:=s') ((Z58 cls cs).map CV.kids) V (by simp [hV,Zfw]) (fun i ks kv hks hv => by
   obtain ⟨hi,e⟩:=Z9p hks
   rw [Zfw] at hi
   have:=hk i _ (Z1u (List.getElem?_eq_getElem hi) hv)
   rw [Z1l (Zlj (List.getElem?_eq_getElem hi))] at e
   rw [← e]
   rw [Z1l (List.getElem?_eq_getElem hi)] at this
   have e2:(if cs[i].taken = true then { cs[i] with kids:=cs[i].kids.map (toC cls) } else cs[i]).kids = if cs[i].taken = true then cs[i].kids.map (toC cls) else cs[i].kids:=by split <;> rfl
   rw [e2]
   exact this) (fun i j ks ks' qq c c' hks hks' hne hne' hv hv' => by
   obtain ⟨hi,n1,l1,_⟩:=hlast i ks qq c hks hne hv
   obtain ⟨hj,n2,l2,_⟩:=hlast j ks' qq c' hks' hne' hv'
   rw [l1] at hv
   rw [l2] at hv'
   exact hR.sep hn.1 (Zdj hi) (Zdj hj) n1 n2 hv hv')
  refine q mk' s' r1 (h'.addL r2 r3 ?_ ?_)
  ·intro x hx ho
   obtain ⟨i,ks,c,e1,e2,e3⟩:=r4 x hx
   obtain ⟨_,_,_,hm⟩:=hlast i ks x.1 c e1 e2 e3
   obtain ⟨y,hy,e⟩:=List.mem_map.1 hm
   rw [← e] at ho ⊢
   exact h.free y (List.mem_append_left _ hy) ho
  ·intro x hx hr
   obtain ⟨i,ks,c,e1,e2,e3⟩:=r4 x hx
   obtain ⟨_,_,_,hm⟩:=hlast i ks x.1 c e1 e2 e3
   exact hn.2.2 _ hm _ hr rfl
theorem Ctx.apart {s0 s:St} {W:Pos→Prop} {m:Lets} (h:Ctx s0 W m s) {b:Pos} {x:AObj} (i:Nat) (hi:m[i]? = some (b,x)) {y:Pos × AObj} (hy:y ∈ m.drop (i + 1)):b ≠ y.1:=by
 obtain ⟨j,hj⟩:=List.getElem?_of_mem hy
 rw [List.getElem?_drop] at hj
 exact h.ne i (i + 1 + j) hi (x':=y.2) hj (by omega)
theorem Zth (x:List CV) (k:Nat) (d:Int):(addH x k d).map CV.kids = x.map CV.kids:=by
 unfold addH
 split
 ·rename_i c hc
  rw [List.map_set]
  refine List.ext_getElem? fun j => ?_
  rw [List.getElem?_set]
  split
  ·rename_i e
   subst e
   have:=(List.getElem?_eq_some_iff.1 hc).1
   rw [if_pos (by simpa using this),List.getElem?_map,hc]
   rfl
  ·rfl
 ·rfl
theorem Za7 (cls:List Int) (cs:List CV):∀ i,(Z0o cls cs i).map CV.kids = (Z58 cls cs).map CV.kids
 | 0 => rfl
 | i + 1 => by
  unfold Z0o
  split
  ·split
   ·rw [Zth,Za7 cls cs i]
   ·exact Za7 cls cs i
  ·exact Za7 cls cs i
theorem merge_c {s0 s:St} {W:Pos→Prop} {hb:Pos} {vs:AVal} {cs:List CV} {m r:Lets} {Q:AVal→St→Prop} (hH:Z26 hb vs cs m) (h:Ctx s0 W (m ++ r) s) (hO:HOk cs)
  (q:∀ m' s',Z26 hb vs (Zc6 cs).2.2 m'→Ctx s0 W (m' ++ r) s'→Q (.tup [.int .i64 (Zc6 cs).1,.int .i64 (Zc6 cs).2.1]) s'):Z0c Tryd.prog 13 [.ptr hb 0] s Q:=by
 obtain ⟨p,V,mr,hc,hR,hV,h1,h4⟩:=Zar hH h
 have hl:=Z24 hV
 have hno:cs.length ≠ 0:=by omega
 have hKi:∀ {s':St},(∀ x ∈ mr,s'.obj x.1 = some x.2)→s'.Wf→∀ j c,(rcs cs V)[j]? = some c→Z0h s' c.kv (Z0y cs j)∧(Z0y cs j).length ≤ 1000:=by
  intro s' hob hw j c hj
  have hlt:j < cs.length:=by have:=(List.getElem?_eq_some_iff.1 hj).1; rwa [hl] at this
  have hd:cs[j]? = some cs[j]:=List.getElem?_eq_getElem hlt
  obtain ⟨kv,g1,g2⟩:=hR.each (i:=j) (ks:=cs[j].kids) (by rw [List.getElem?_map,hd]; rfl)
  rw [Z1u hd g1] at hj
  cases hj
  have hko:Z0y cs j = cs[j].kids:=by unfold Z0y; rw [hd]
  rw [hko]
  refine ⟨KidV.ints ?_ hw,by have:=hO.kids4 _ (List.getElem_mem hlt); omega⟩
  rcases g2 with ⟨e1,e2⟩ | ⟨q,c,e1,e2,e3⟩
  ·exact .inl ⟨e2,e1⟩
  ·exact .inr ⟨q,c,e2,Z17 (hob _ e3)⟩
 have hcell:∀ {i:Nat} {c:RC},(rcs cs V)[i]? = some c→∃ d:CV,cs[i]? = some d∧c.taken = d.taken∧c.held = d.held:=by
  intro i c hc
  have hlt:i < cs.length:=by have:=(List.getElem?_eq_some_iff.1 hc).1; rwa [hl] at this
  rw [Z1u (List.getElem?_eq_getElem hlt) (List.getElem?_eq_getElem (show i < V.length by omega))] at hc
  cases hc
  exact ⟨_,List.getElem?_eq_getElem hlt,rfl,rfl⟩
 refine Z08 (Z0i (by decide)) fi13 rfl (by decide) rfl ?_
 refine Z00 ?_
 simp
 have c1:=hc.alloc (C [.ptr hb 0])
 generalize s.alloc (.cells [.ptr hb 0] false) = s1 at c1 ⊢
 generalize s.next = B1 at c1 ⊢
 refine AM.wp_seq ?_
 refine Z00 ?_
 simp [c1.c 0 rfl]
 refine Z02 ?_
 refine Z6b (c1.c 1 rfl) rfl hno ?_
 simp
 refine AM.Z03 ?_
 simp
 refine AM.wp_skip ?_
 simp
 refine Z00 ?_
 simp [c1.c 0 rfl,c1.c 1 rfl]
 refine Z02 ?_
 refine Zk7 (K:=Z0y cs) hl c1.wf (c1.oi 2 rfl) (c1.c 2 rfl) h4 (fun j c hj => (hKi (fun x hx => c1.own x (by simp [hx])) c1.wf j c hj).1) fun pn0 lv s2 k2 hN hL => ?_
 rw [Zkf hV] at hN
 rw [Zkt hV] at hL
 have c2:=c1.keeps k2
 simp
 refine Z02 ?_
 refine Zcc (Z0t cs) c2.wf hN (by omega) hL (by have:(Z0z cs cs.length).length ≤ cs.length:=Nat.le_trans (List.length_filter_le _ _) (by simp); omega) hO.closed hO.Z97 fun Bx s3 k3 hBx hox => ?_
 have hcl:=Z9k hO.closed
 rw [Z0t] at hcl
 simp only [Zc6] at q
 generalize clsF (Z0f cs) (Z0z cs cs.length) = cls at hox hcl q ⊢
 have c3:=c2.made k3 hBx (St.Z28 hox)
 simp
 have c4:=(c3.alloc (C [.nilSlice])).put 0 rfl (C [.slice Bx 0 cs.length (.lim cs.length)])
 simp only [List.set_cons_zero] at c4
 generalize (s3.alloc (.cells [.nilSlice] false)).put s3.next (.cells [.slice Bx 0 cs.length (.lim cs.length)] false) = s4 at c4 ⊢
 generalize s3.next = B4 at c4 ⊢
 refine Z00 ?_
 simp [c4.c 2 rfl,c4.c 3 rfl]
 refine Z02 ?_
 refine own_w (K:=Z0y cs) hl c4.wf (c4.oi 4 rfl) (c4.c 4 rfl) h1 h4 (hKi (fun x hx => c4.own x (by simp [hx])) c4.wf) fun pn kvs s5 k5 hpn hopn hOwn => ?_
 rw [Zqj hV] at hopn
 obtain ⟨mk,hRk,hok,hnk,hfk⟩:=Zoa hOwn
 generalize (List.range cs.length).map kvs = V' at hRk hopn ⊢
 have hV':V'.length = cs.length:=by simpa using hRk.len
 clear hOwn
 have c5:=(c4.made k5 hpn (St.Z28 hopn)).addL (m:=mk) hok hnk (fun x hx ho => ((hfk x hx).1 (c4.old ho)).elim) (fun x hx => by
  rw [List.map_cons,List.mem_cons]
  rintro (e | hm)
  ·exact (hfk x hx).2 e
  ·obtain ⟨y,hy,e⟩:=List.mem_map.1 hm
   exact (hfk x hx).1 (e ▸ c4.ob hy))
 clear hok hnk hfk hpn hopn k5
 have c5:=c5.perm (m':=((pn,C (encs (rcs cs V'))) :: (B4,C [.slice Bx 0 cs.length (.lim cs.length)]) :: (Bx,C (ints cls)) :: (B1,C [.ptr hb 0]) :: (hb,C [.slice p 0 cs.length (.lim cs.length),vs]) :: (p,C (encs (rcs cs V))) :: (mk ++ (mr ++ r)))) (by
  have:=List.perm_append_comm (l₁:=mk) (l₂:=[(pn,C (encs (rcs cs V'))),(B4,C [.slice Bx 0 cs.length (.lim cs.length)]),(Bx,C (ints cls)),(B1,C [.ptr hb 0]),(hb,C [.slice p 0 cs.length (.lim cs.length),vs]),(p,C (encs (rcs cs V)))])
  have:=this.append (List.Perm.refl (mr ++ r))
  simpa using this)
 simp
 have c6:=(c5.alloc (C [.nilSlice])).put 0 rfl (C [.slice pn 0 cs.length (.lim cs.length)])
 simp only [List.set_cons_zero] at c6
 generalize (s5.alloc (.cells [.nilSlice] false)).put s5.next (.cells [.slice pn 0 cs.length (.lim cs.length)] false) = s6 at c6 ⊢
 generalize s5.next = B5 at c6 ⊢
 refine Z00 ?_
 simp
 have c7:=(c6.alloc (C [.nilFn])).put 0 rfl (C [.fn 52 [] [.ptr B4 0]])
 simp only [List.set_cons_zero] at c7
 generalize (s6.alloc (.cells [.nilFn] false)).put s6.next (.cells [.fn 52 [] [.ptr B4 0]] false) = s7 at c7 ⊢
 generalize s6.next = B6 at c7 ⊢
 refine Z00 ?_
 simp [c7.c 0 rfl,c7.c 1 rfl]
 have c7:=c7.perm (m':=mk ++ ((B6,C [.fn 52 [] [.ptr B4 0]]) :: (B5,C [.slice pn 0 cs.length (.lim cs.length)]) :: (pn,C (encs (rcs cs V'))) :: (B4,C [.slice Bx 0 cs.length (.lim cs.length)]) :: (Bx,C (ints cls)) :: (B1,C [.ptr hb 0]) :: (hb,C [.slice p 0 cs.length (.lim cs.length),vs]) :: (p,C (encs (rcs cs V))) :: (mr ++ r))) (by
  have:=List.perm_append_comm (l₂:=mk) (l₁:=[(B6,C [.fn 52 [] [.ptr B4 0]]),(B5,C [.slice pn 0 cs.length (.lim cs.length)]),(pn,C (encs (rcs cs V'))),(B4,C [.slice Bx 0 cs.length (.lim cs.length)]),(Bx,C (ints cls)),(B1,C [.ptr hb 0]),(hb,C [.slice p 0 cs.length (.lim cs.length),vs]),(p,C (encs (rcs cs V)))])
  have:=this.append (List.Perm.refl (mr ++ r))
  simpa using this)
 refine Z02 ?_
 refine moves_c (pn:=pn) (Bx:=Bx) (cp:=.lim cs.length) (cls:=cls) c7 hRk hO hcl h4 (by simp) (by simp) (by simp) fun mk2 s8 hR2 c8 => ?_
 have hV2:V'.length = cs.length:=hV'
 have c8:=c8.perm (m':=(B6,C [.fn 52 [] [.ptr B4 0]]) :: (B5,C [.slice pn 0 cs.length (.lim cs.length)]) :: (pn,C (encs (rcs cs V'))) :: (B4,C [.slice Bx 0 cs.length (.lim cs.length)]) :: (Bx,C (ints cls)) :: (B1,C [.ptr hb 0]) :: (hb,C [.slice p 0 cs.length (.lim cs.length),vs]) :: (p,C (encs (rcs cs V))) :: (mk2 ++ (mr ++ r))) (by
  have:=List.perm_append_comm (l₁:=mk2) (l₂:=[(B6,C [.fn 52 [] [.ptr B4 0]]),(B5,C [.slice pn 0 cs.length (.lim cs.length)]),(pn,C (encs (rcs cs V'))),(B4,C [.slice Bx 0 cs.length (.lim cs.length)]),(Bx,C (ints cls)),(B1,C [.ptr hb 0]),(hb,C [.slice p 0 cs.length (.lim cs.length),vs]),(p,C (encs (rcs cs V)))])
  have:=this.append (List.Perm.refl (mr ++ r))
  simpa using this)
 clear c7 hRk
 simp
 refine Z00 ?_
 simp
 have c9:=c8.alloc (C [.nilSlice])
 generalize s8.alloc (.cells [.nilSlice] false) = s9 at c9 ⊢
 generalize s8.next = B7 at c9 ⊢
 refine AM.wp_seq ?_
 refine Z00 ?_
 simp [c9.c 6 rfl,c9.c 7 rfl]
 refine Z02 ?_
 refine Z8m fun BB hBB => ?_
 have c10:=c9.alloc (C [.slice p 0 cs.length (.lim cs.length)])
 rw [← hBB] at c10
 generalize s9.alloc (.cells [.slice p 0 cs.length (.lim cs.length)] false) = s10 at c10 ⊢
 simp
 refine AM.wp_block ?_
 refine Zb1 (B:=BB) (p:=p) (l:=rcs cs V) (J:=fun i m => ∃ lv mg,Z1d lv (Z1e cls cs i) mg∧m = (B7,C [lv]) :: (B6,C [.fn 52 [] [.ptr B4 0]]) :: (B5,C [.slice pn 0 cs.length (.lim cs.length)]) :: (pn,C (encs (rcs (Z0o cls cs i) V'))) :: (B4,C [.slice Bx 0 cs.length (.lim cs.length)]) :: (Bx,C (ints cls)) :: (B1,C [.ptr hb 0]) :: (hb,C [.slice p 0 cs.length (.lim cs.length),vs]) :: (p,C (encs (rcs cs V))) :: (mg ++ (mk2 ++ (mr ++ r))))
  hl h4 (by simp) rfl fi13 rfl ?_ ?_ ?_ ⟨.nilSlice,[],.inl ⟨rfl,rfl,rfl⟩,rfl⟩ (by
   have e:rcs (Z0o cls cs 0) V' = rcs cs V':=Zxj cls cs V'
   rw [e]
   exact c10) ?_
 ·rintro i m s' ⟨lv,mg,hg,rfl⟩ hc'
  exact ⟨hc'.oi 8 rfl,hc'.c 8 rfl⟩
 ·rintro i c m hci hct ⟨lv,mg,hg,rfl⟩
  obtain ⟨d,hd,ht,_⟩:=hcell hci
  rw [ht] at hct
  exact ⟨lv,mg,by rw [Zha hd hct]; exact hg,by simp [Z0o,hd,hct]⟩
 ·rintro i c s' m Lb X Wx hci hct ⟨lv,mg,hg,rfl⟩ hc' hW
  obtain ⟨d,hd,ht,hh⟩:=hcell hci
  rw [ht] at hct
  have hi:i < cs.length:=(List.getElem?_eq_some_iff.1 hd).1
  obtain ⟨cc,hcc⟩:∃ cc,cls[i]? = some cc:=⟨_,List.getElem?_eq_getElem (by omega)⟩
  obtain ⟨j,hj,hji,hcj,_⟩:=Zp0 hcc
  have e:Z3c (fun d => decide (cc = d)) cls = (j:Int):=by rw [← hj]; unfold toC; simp [hcc]
  refine AM.wp_block ?_
  refine Z00 ?_
  simp [hc'.c 3 rfl]
  refine Z02 ?_
  refine Zlg (cls:=cls) (c:=cc) (hc'.c 6 rfl) (by have:=Z4l hc'.wf (hc'.o 7 rfl) (.lim cs.length); rw [hcl] at this; exact this) (by omega) (by omega) (by simpa using hcc) ?_
  rw [e]
  simp
  refine Z00 ?_
  simp
  refine AM.Z03 ?_
  by_cases hij:j = i
  ·subst hij
   simp
   refine AM.wp_skip ?_
   simp
   refine hW _ _ _ ⟨lv,mg,?_,rfl⟩ ?_
   ·rw [Zhb hd hct hj]
    exact hg
   ·have:Z0o cls cs (j + 1) = Z0o cls cs j:=by simp [Z0o,hd,hj]
    rw [this]
    exact hc'
  ·have hij':¬ (j:Int) = (i:Int):=by omega
   have hne:toC cls (i:Int) ≠ (i:Int):=by rw [hj]; exact hij'
   simp [hij,hij']
   refine Z00 ?_
   have hjl:j < cs.length:=by omega
   obtain ⟨x,hx⟩:∃ x,(Z0o cls cs i)[j]? = some x:=⟨_,List.getElem?_eq_getElem (by rw [Z2q]; omega)⟩
   obtain ⟨v,hv⟩:∃ v,V'[j]? = some v:=⟨_,List.getElem?_eq_getElem (by omega)⟩
   have hxr:=Z1u hx hv
   have hg3:(encs (rcs (Z0o cls cs i) V'))[j * 4 + 3]? = some (.int .i64 x.held):=Z35 _ j 3 _ hxr (by decide)
   have hg4:(encs (rcs cs V))[i * 4 + 3]? = some (.int .i64 c.held):=Z35 _ i 3 _ hci (by decide)
   have hlay:=Zfj _ j _ (IntKind.wrap .i64 (x.held + c.held)) hxr
   rw [hh] at hlay hg4
   rw [Zxi hx hv] at hlay
   have hstep:Z0o cls cs (i + 1) = addH (Z0o cls cs i) j d.held:=by simp [Z0o,hd,hct,hj,hij']
   rw [← hstep] at hlay
   have hle:j * 4 + 3 + 1 ≤ (encs (rcs (Z0o cls cs i) V')).length:=by rw [Z36,Z24 (by rw [Z2q]; exact hV2),Z2q]; omega
   simp [lay] at hlay
   simp [hc'.c 4 rfl,hc'.c 8 rfl,hc'.c 9 rfl,hc'.c 10 rfl,hc'.o 5 rfl,hc'.c 5 rfl,hjl,hi,hg3,hg4,hle,Zaj]
   rw [hlay]
   have d1:=hc'.put 5 rfl (C (encs (rcs (Z0o cls cs (i + 1)) V')))
   simp only [List.set_cons_succ,List.set_cons_zero] at d1
   generalize s'.put pn (.cells (encs (rcs (Z0o cls cs (i + 1)) V')) false) = sA at d1 ⊢
   refine AM.wp_region ?_
   have d2:=d1.alloc (C [.int .i64 i])
   have hlt:=hg.ntup
   simp [d1.c 2 rfl,Z1p,srcP,hlt,hg.cells]
   generalize sA.alloc (.cells [.int .i64 i] false) = sB at d2 ⊢
   generalize sA.next = T at d2 ⊢
   have hgl:=Zj7 cls cs i
   refine Z5c (pre:=[(T,C [.int .i64 i]),(Lb,X),(BB,C [.slice p 0 cs.length (.lim cs.length)]),(B7,C [lv]),(B6,C [.fn 52 [] [.ptr B4 0]]),(B5,C [.slice pn 0 cs.length (.lim cs.length)]),(pn,C (encs (rcs (Z0o cls cs (i + 1)) V'))),(B4,C [.slice Bx 0 cs.length (.lim cs.length)]),(Bx,C (ints cls)),(B1,C [.ptr hb 0]),(hb,C [.slice p 0 cs.length (.lim cs.length),vs]),(p,C (encs (rcs cs V)))]) d2 hg (by omega) fun lv' mg' sC hg' d3 => ?_
   simp at d3
   rw [← Zh9 hd hct hne] at hg'
   simp [hg'.ntup,hg'.cells,d3.o 3 rfl]
   have d4:=(d3.put 3 rfl (C [lv'])).tail
   exact hW _ _ _ ⟨lv',mg',hg',rfl⟩ d4
 ·rintro s' m ⟨lv,mg,hg,rfl⟩ hc'
  simp
  have hlh:(rcs (Z0o cls cs cs.length) V').length = cs.length:=by rw [Z24 (by rw [Z2q]; exact hV2),Z2q]
  refine AM.wp_seq ?_
  refine Z00 ?_
  simp [hc'.c 2 rfl]
  refine Z02 ?_
  refine over_w hlh (hc'.oi 3 rfl) (hc'.c 3 rfl) h4 fun s11 k11 => ?_
  rw [Zqf (by rw [Z2q]; exact hV2)]
  have c11:=hc'.keeps k11
  have hperm:∀ (pre x:Lets),(pre ++ (mg ++ (mk2 ++ x))).Perm ((mg ++ (mk2 ++ pre)) ++ x):=by
   intro pre x
   have h1:=List.perm_append_comm (l₁:=pre) (l₂:=mg ++ mk2)
   have h2:=h1.append (List.Perm.refl x)
   simpa using h2
  cases hov:(Z0o cls cs cs.length).any (fun c => decide (1000 < c.held)) with
  | true =>
   rw [hov] at q
   simp at q
   simp
   refine AM.Z03 ?_
   simp
   refine Z00 ?_
   simp
   refine AM.wp_ret ?_
   simp
   refine q _ _ (Z2n (p:=p) hR h1 h4) (c11.sub ?_)
   refine List.Sublist.trans ?_ (List.drop_sublist 7 _)
   refine List.Sublist.cons_cons _ (List.Sublist.cons_cons _ ?_)
   rw [← List.append_assoc,← List.append_assoc]
   exact (List.sublist_append_right (mg ++ mk2) (mr ++ r)).trans (by simp)
  | false =>
   rw [hov] at q
   simp at q
   simp
   refine AM.Z03 ?_
   simp
   refine AM.wp_skip ?_
   simp
   have hglen:=Zj7 cls cs cs.length
   have hgin:∀ k ∈ Z1e cls cs cs.length,0 ≤ k∧k < cs.length:=fun k hk => by
    obtain ⟨a,b,_⟩:=Z96.1 hk
    exact ⟨a,b⟩
   refine Z00 ?_
   simp [c11.c 2 rfl,c11.c 0 rfl]
   refine Z02 ?_
   refine Zly hlh c11.wf (c11.o 3 rfl) (by omega) hgin (fun s' hS => ?_) fun s12 hS hpn2 => ?_
   ·have hmg:Ctx s0 W mg s':=(c11.sub (m':=mg) (by
     refine List.Sublist.trans ?_ (List.drop_sublist 9 _)
     exact List.sublist_append_left _ _)).same hS (fun b hb ho => by
      simp at hb
      subst hb
      exact c11.free _ (List.mem_of_getElem? (i:=3) rfl) ho) (fun x hx hb => by
      simp at hb
      exact c11.apart 3 rfl (y:=x) (by simp [hx]) hb.symm)
    exact (hg.row.kid fun x hx => hmg.own x hx).ints hmg.wf
   ·have c12:=c11.chg 3 rfl hS (St.Z28 hpn2)
    simp only [List.set_cons_succ,List.set_cons_zero] at c12
    obtain ⟨V3,m3,dd,e1,e2,e3⟩:=Zic (Z1e cls cs cs.length) (cs:=Z0o cls cs cs.length) (V:=V') (m:=mk2) (by rw [Z2q]; exact hV2) (by rw [Za7]; exact hR2) (by rw [Z2q]; exact hgin)
    rw [e1] at c12
    simp
    refine Z00 ?_
    simp [c12.c 6 rfl,c12.c 2 rfl,c12.o 7 rfl]
    have c13:=c12.put 7 rfl (C [.slice pn 0 cs.length (.lim cs.length),vs])
    simp only [List.set_cons_succ,List.set_cons_zero] at c13
    generalize s12.put hb (.cells [.slice pn 0 cs.length (.lim cs.length),vs] false) = s13 at c13 ⊢
    refine Z00 ?_
    simp [c13.c 0 rfl,hg.len]
    refine AM.wp_ret ?_
    simp
    have hlen:(relC (Z0o cls cs cs.length) (Z1e cls cs cs.length)).length = cs.length:=by rw [Zc8,Z2q]
    refine q _ _ (Z2n (p:=pn) e2 (by omega) (by omega)) ?_
    rw [hlen]
    have c14:=c13.sub (m':=(pn,C (encs (rcs (relC (Z0o cls cs cs.length) (Z1e cls cs cs.length)) V3))) :: (hb,C [.slice pn 0 cs.length (.lim cs.length),vs]) :: (mk2 ++ r)) (.cons _ (.cons _ (.cons _ (.cons_cons _ (.cons _ (.cons _ (.cons _ (.cons_cons _ (.cons _
     (List.Sublist.trans ((List.Sublist.refl mk2).append (List.sublist_append_right mr r)) (List.sublist_append_right mg _)))))))))))
    have c15:=c14.perm ((List.Perm.swap _ _ _).trans (List.Perm.cons _ (List.Perm.cons _ (e3.append (List.Perm.refl r)))))
    exact c15.sub (.cons_cons _ (.cons_cons _ ((List.sublist_append_left m3 dd).append (List.Sublist.refl r))))
end Go.Proofs
end
section
namespace Go.Proofs
end Go.Proofs
end
section
open Go Go.AM
namespace Go.Proofs
set_option maxRecDepth 100000
theorem Ze0 {nds:List (List UInt8 × List Int)} {L:List Nat} (h:Closed nds L) {a b:Nat} (ha:a ∈ L) (hb:b ∈ L):(clsF nds L)[a]? = (clsF nds L)[b]? ↔ ∀ r,sim nds r a b:=by
 obtain ⟨R,h1,h2,_⟩:=Z9j h
 rw [h1]
 exact Zh5 h h2 ha hb
theorem Znc (cls:List Int) (cs:List CV) (i:Nat):(Z1e cls cs i).Nodup:=by
 unfold Z1e Z0z
 refine List.Pairwise.map _ (fun a b h => ?_) (((List.nodup_range).filter _).filter _)
 intro e
 exact h (by omega)
def Zrf (s:St) (v:AVal) (xs:List AVal):Prop:=(Z1o v = some 0∧xs = []) ∨
 ∃ b o c cs,v = .slice b o xs.length c∧s.Old b∧s.cells b = some cs∧o + xs.length ≤ cs.length∧∀ (i:Nat) x,xs[i]? = some x→cs[o + i]? = some x
theorem new_c {s0 s:St} {W:Pos→Prop} {r:Lets} {n:Int} {Q:AVal→St→Prop} (h:Ctx s0 W r s) (h1:1 ≤ n) (h2:n ≤ 400)
  (q:∀ hb m s',Z26 hb .nilSlice (List.replicate n.toNat Z2g) m→Ctx s0 W (m ++ r) s'→Q (.tup [.ptr hb 0,.int .i64 0]) s'):Z0c Tryd.prog 10 [.int .i64 n] s Q:=by
 refine new_wp h.wf h1 h2 ?_
 have hV:∀ n:Nat,(List.replicate n [AVal.bool false,.str [],.nilSlice,.int .i64 0]).flatten = encs (rcs (List.replicate n Z2g) (List.replicate n .nilSlice)):=by
  intro n
  simp [encs,rcs,RC.enc,Z2g,List.zipWith_replicate,List.flatMap]
 have hR:∀ n:Nat,Z16 ((List.replicate n Z2g).map CV.kids) (List.replicate n .nilSlice) []:=by
  intro n
  induction n with
  | zero => rfl
  | succ n ih =>
   rw [List.replicate_succ,List.replicate_succ]
   exact ⟨[],[],List.Perm.refl _,.inl ⟨rfl,rfl,rfl⟩,ih⟩
 have c1:=h.alloc (C (List.replicate n.toNat [AVal.bool false,.str [],.nilSlice,.int .i64 0]).flatten)
 have c2:=c1.alloc (C [.slice s.next 0 n.toNat (.lim n.toNat),.nilSlice])
 refine q _ _ _ (Z2n (p:=s.next) (V:=List.replicate n.toNat .nilSlice) (mr:=[]) (hR _) (by simp; omega) (by simp; omega)) ?_
 rw [List.length_replicate,← hV]
 exact c2
theorem c5:Tryd.prog.cellsOf 5 = 1:=by kernel_rfl
theorem Zm5 {P:Program} {t e:TypeId} {w:World} {r:Reach} {base:Nat} {v:Value} (ht:P.underlying t = some (.slice e)) (h:Value.okWide P w r base t v):v.cells.toList = [v]:=by
 simp only [Value.okWide,ht,Cell.okWide] at h
 cases v <;> first | rfl | simp_all [Cell.ok]
section
variable {H:Type} {enc:TypeId × Value→H} {W:World} {N fuel:Nat} {cs:List Value} {x:DataW H × List MemPlace}
theorem row_of {α:Type} {s:St} {e:TypeId} {v:Value} {a:AVal} {elems:List (DataW H × List MemPlace)} (mk:α→AVal) (hc1:Tryd.prog.cellsOf e = 1) (he:∀ n vs x l,DataW.trod enc Tryd.prog W 0 (fun _ => true) true n e vs = some x→vs.mapM (Z63 W N) = some l→∃ y:α,l = [mk y])
  (h:SliceW Tryd.prog enc W (fun _ => true) true N e v a elems):∃ ys:List α,Zrf (stW W N) a (ys.map mk):=by
 cases h with
 | nil => exact ⟨[],.inl ⟨rfl,rfl⟩⟩
 | empty => exact ⟨[],.inl ⟨rfl,rfl⟩⟩
 | @row b o len cap n _ cells hb ho hcells hlen hc0 hcap hmax hcs hel =>
  rw [hc1] at hcs
  have hone:∀ i,i < len→∃ y:α,cells[i]? = some (mk y):=by
   intro i hi
   obtain ⟨vs,x,l,h1,_,h3,h4⟩:=hel i hi
   obtain ⟨y,rfl⟩:=he n vs x l h1 h3
   rw [hc1,Nat.mul_one] at h4
   refine ⟨y,?_⟩
   have:=congrArg (fun l => l[0]?) h4
   simpa using this
  obtain ⟨ys,hys,hl⟩:∃ ys:List α,(∀ (i:Nat) (y:α),ys[i]? = some y→cells[i]? = some (mk y))∧ys.length = len:=by
   have key:∀ k,k ≤ len→∃ ys:List α,(∀ (i:Nat) (y:α),ys[i]? = some y→cells[i]? = some (mk y))∧ys.length = k:=by
    intro k
    induction k with
    | zero => exact fun _ => ⟨[],by simp,rfl⟩
    | succ k ih =>
     intro hk
     obtain ⟨ys,h1,h2⟩:=ih (by omega)
     obtain ⟨y,hy⟩:=hone k (by omega)
     refine ⟨ys ++ [y],fun i z hz => ?_,by simp [h2]⟩
     rw [List.getElem?_append] at hz
     split at hz
     ·exact h1 i z hz
     ·rename_i hi
      have:i = k:=by
       have:=(List.getElem?_eq_some_iff.1 hz).1
       simp at this
       omega
      subst this
      simp [h2] at hz
      subst hz
      exact hy
   exact key len (Nat.le_refl _)
  refine ⟨ys,.inr ⟨nameOf N b o,0,.lim cap,cells,by simp [hl],?_,hcells,by simp [hl]; omega,fun i z hz => ?_⟩⟩
  ·unfold St.cells at hcells
   cases hob:(stW W N).obj (nameOf N b o) with
   | none => rw [hob] at hcells; cases hcells
   | some y => exact Z3r (Zvy (w:=W) (N:=N)) hob
  ·rw [List.getElem?_map] at hz
   cases hy:ys[i]? with
   | none => rw [hy] at hz; cases hz
   | some y =>
    rw [hy] at hz
    cases hz
    rw [Nat.zero_add]
    exact hys i y hy
theorem Zjl (hN:Big W N) (h:DataW.trod enc Tryd.prog W 0 (fun _ => true) true fuel 35 cs = some x):∃ v a,∃ bs:List UInt8,cs = [v]∧Z63 W N v = some a∧Zrf (stW W N) a (bs.map fun b => .int .u8 (b.toNat:Int)):=by
 obtain ⟨v,a,elems,rfl,hs⟩:=Zq6 hN Tryd.underlying35 (by rw [c5]; decide) (fun n vs x h => by
  obtain ⟨k,rfl,_,_⟩:=DataW.trod_int Tryd.underlying5 h
  exact ⟨[.int .u8 k],rfl⟩) h
 obtain ⟨bs,hb⟩:=row_of (s:=stW W N) (fun b:UInt8 => AVal.int .u8 (b.toNat:Int)) c5 (fun n vs x l h1 h2 => by
  obtain ⟨k,rfl,_,hk⟩:=DataW.trod_int Tryd.underlying5 h1
  have hk:0 ≤ k∧k ≤ 255:=by
   rw [Lit.wf,Bool.and_eq_true,decide_eq_true_eq,decide_eq_true_eq] at hk
   exact hk
  refine ⟨UInt8.ofNat k.toNat,?_⟩
  have e:((UInt8.ofNat k.toNat).toNat:Int) = k:=by
   rw [UInt8.toNat_ofNat_of_lt' (by show k.toNat < 256; omega)]
   omega
  rw [e]
  simp [List.mapM_cons,Z63] at h2
  exact h2.symm) hs
 exact ⟨v,a,bs,rfl,hs.conv,hb⟩
end
end Go.Proofs
end
section
open Go Go.AM
namespace Go.Proofs
def c62_1:MCode:=.region [Cr (.box (Cp 0)),Cr (.box (Cp 1)),Yo .nilSlice] [Cs 4,Cs 3,Cs 2]
def c62_3:MCode:=.region [Yr 1 (Cp 2),Ym 50 [(Yq 0)],C0,Yg 0 0,Yg 1 1,Yn 1,Yn 1] [Cs 6,Cs 5,none,none,none,none,none]
def c62_5:MCode:=.region [Cm 5,Yl (Yq 0),C0] [Cs 7,none,none]
def c62_8:MCode:=.region [Yd 0 3,Ya 0,Yl (Yq 0),Yp 0] [Cs 26,Cs 25,Cs 24,none]
def c62_12:MCode:=.region [Yh .lss (Cp 26) (Cp 25)] [Cs 27]
def c62_14:MCode:=.cond (Cp 27) .skip (.exit 0)
def c62_18:MCode:=.region [Cm 26,Ye 2 40 (Cp 24) (Cp 26),Yr 2 (Yq 0),Cr (.alloc (some [(.str []),.nilSlice])),Yn 3,Yk 2 (Yq 1) (Yq 2)] [none,Cs 8,Cs 9,none,none,none]
def c62_20:MCode:=.region [Yd 0 9,Ya 0,Cr (.build (some [(0,(1,(Yq 0)))]) (some [(.str []),.nilSlice])),Cr (.alloc (some [(.str []),.nilSlice])),Yk 2 (Yq 0) (Yq 1)] [none,Cs 10,none,none,none]
def c62_23:MCode:=.region [Yd 1 9,Ya 0,Yl (Yq 0),Yp 0] [Cs 37,Cs 36,Cs 35,none]
def c62_27:MCode:=.region [Yh .lss (Cp 37) (Cp 36)] [Cs 38]
def c62_29:MCode:=.cond (Cp 38) .skip (.exit 2)
def c62_33:MCode:=.region [Ye 1 8 (Cp 35) (Cp 37),Ya 0,C0] [Cs 12,none,none]
def c62_34:MCode:=.region [Yd 1 10,Ya 0,Cm 7,Cm 12,Yh .add (Yq 1) (Yq 0),Cr (.buildSlice (some (1,8)) (some [(.int .i64 0)]) 1 [(0,(Yq 0))]),Cr (.append (some (1,8)) (Yq 4) (Yq 0)),Yd 1 10,Yk 1 (Yq 0) (Yq 1)] [none,none,none,none,none,none,none,none,none]
def c62_32:MCode:=.seq c62_33 c62_34
def c62_31:MCode:=.block 3 c62_32
def c62_35:MCode:=.region [Yh .add (Cp 37) (Ck 1),C0] [Cs 37,none]
def c62_30:MCode:=.seq c62_31 c62_35
def c62_28:MCode:=.seq c62_29 c62_30
def c62_26:MCode:=.seq c62_27 c62_28
def c62_25:MCode:=.loop c62_26
def c62_24:MCode:=.block 2 c62_25
def Zu0:MCode:=.seq c62_23 c62_24
def c62_36:MCode:=.region [Cm 5,Yr 2 (Cp 10),Cr (.buildSlice (some (2,40)) (some [(.str []),.nilSlice]) 1 [(0,(Yq 0))]),Cr (.append (some (2,40)) (Yq 2) (Yq 0)),Cm 6,Cm 7,Cm 8,Yh .add (Yq 1) (Yq 0),Cr (.buildSlice (some (1,8)) (some [(.int .i64 0)]) 1 [(0,(Yq 0))]),Cr (.append (some (1,8)) (Yq 4) (Yq 0)),Yn 6,Yn 1] [Cs 6,Cs 5,none,none,none,none,none,none,none,none,none,none]
def c62_21:MCode:=.seq Zu0 c62_36
def c62_19:MCode:=.seq c62_20 c62_21
def c62_17:MCode:=.seq c62_18 c62_19
def c62_16:MCode:=.block 1 c62_17
def c62_37:MCode:=.region [Yh .add (Cp 26) (Ck 1),C0] [Cs 26,none]
def c62_15:MCode:=.seq c62_16 c62_37
def c62_13:MCode:=.seq c62_14 c62_15
def c62_11:MCode:=.seq c62_12 c62_13
def c62_10:MCode:=.loop c62_11
def c62_9:MCode:=.block 0 c62_10
def c62_7:MCode:=.seq c62_8 c62_9
def c62_39:MCode:=.region [Cm 5,Cm 6,Ym 49 [(Yq 1),(Yq 0)],C0] [Cs 13,none,none,none]
def c62_41:MCode:=.region [Yd 0 3,Ya 0,Yl (Yq 0),Cr (.makeSlice (some (1,8)) (some [(.int .i64 0)]) (Yq 0) (Yq 0)),C0] [Cs 14,none,none,none,none]
def c62_44:MCode:=.region [Cm 14,Yl (Yq 0),Yp 0] [Cs 70,Cs 69,none]
def c62_48:MCode:=.region [Yh .lss (Cp 70) (Cp 69)] [Cs 71]
def c62_50:MCode:=.cond (Cp 71) .skip (.exit 4)
def c62_54:MCode:=.region [Cm 70,C0] [Cs 15,none]
def c62_55:MCode:=.region [Cm 14,Cm 15,Cm 13,Cm 7,Cr (.slice .slc (some (1,8)) none (Yq 1) none (some (Yq 0)) none),Cm 13,Cm 7,Cm 15,Yh .add (Yq 1) (Yq 0),Ye 1 8 (Yq 3) (Yq 0),Ya 0,Ym 53 [(Yq 6),(Yq 0)],Ye 1 8 (Yq 11) (Yq 10),Yk 1 (Yq 0) (Yq 1)] [none,Cs 85,Cs 84,Cs 83,Cs 82,Cs 81,Cs 80,Cs 79,Cs 78,Cs 77,Cs 76,Cs 75,Cs 74,Cs 73]
def c62_53:MCode:=.seq c62_54 c62_55
def c62_52:MCode:=.block 5 c62_53
def c62_56:MCode:=.region [Yh .add (Cp 70) (Ck 1),C0] [Cs 70,none]
def c62_51:MCode:=.seq c62_52 c62_56
def c62_49:MCode:=.seq c62_50 c62_51
def c62_47:MCode:=.seq c62_48 c62_49
def c62_46:MCode:=.loop c62_47
def c62_45:MCode:=.block 4 c62_46
def c62_43:MCode:=.seq c62_44 c62_45
def c62_58:MCode:=.region [Cm 14,C0] [Cs 4,none]
def c62_57:MCode:=.seq c62_58 .ret
def c62_42:MCode:=.seq c62_43 c62_57
def c62_40:MCode:=.seq c62_41 c62_42
def c62_38:MCode:=.seq c62_39 c62_40
def c62_6:MCode:=.seq c62_7 c62_38
def c62_4:MCode:=.seq c62_5 c62_6
def c62_2:MCode:=.seq c62_3 c62_4
def c62_0:MCode:=.seq c62_1 c62_2
theorem fi62:funInfo Tryd.prog 62 = some { code:=c62_0,ntmps:=88,nargs:=2,ps:=[76,75,13,15,80,79,81,78,82,83,77,74,73,84,85,71,69,70,14,8,6,12,7,10,35,38,36,37,9,24,27,25,26,3,5,2,1,0,4],res:=[.tmp 4] }:=by kernel_rfl
def c66_1:MCode:=.region [Cr (.box (Cp 0)),Cr (.box (Cp 1))] [Cs 4,Cs 3]
def c66_3:MCode:=.region [Yd 0 3,Ya 0,Yl (Yq 0),Cr (.makeSlice (some (1,1)) (some [(.bool false)]) (Yq 0) (Yq 0)),Cr (.alloc (some [.nilSlice])),Yk 1 (Yq 0) (Yq 1)] [none,Cs 6,none,none,none,none]
def c66_5:MCode:=.region [Cr (.alloc (some [.nilSlice]))] [Cs 7]
def c66_7:MCode:=.region [Cr (.func (some 97) [] [(Cp 6),(Cp 7),(Cp 4)]),C0] [Cs 8,none]
def c66_9:MCode:=.region [Cm 2,Yl (Yq 0),Yp 0] [Cs 20,Cs 19,Cs 18]
def c66_13:MCode:=.region [Yh .lss (Cp 20) (Cp 19)] [Cs 21]
def c66_15:MCode:=.cond (Cp 21) .skip (.exit 0)
def c66_19:MCode:=.region [Ye 1 8 (Cp 18) (Cp 20),Ya 0,C0] [Cs 10,none,none]
def c66_21:MCode:=.region [Cm 8,Cm 10,Cr (.call (Yq 1) [(Yq 0)])] [none,none,none]
def c66_26:MCode:=.region [Yb 7,Yl (Yq 0),Yh .gtr (Yq 0) (Ck 0)] [Cs 29,none,none]
def c66_27:MCode:=.cond (Cp 29) .skip (.exit 2)
def c66_25:MCode:=.seq c66_26 c66_27
def c66_31:MCode:=.region [Yd 0 3,Ya 0,Yb 7,Ye 1 8 (Yq 0) (Ck 0),Ya 0,Ye 4 56 (Yq 3) (Yq 0),Yc 2 0,Ya 0,Yl (Yq 0),Yp 0] [Cs 41,Cs 40,Cs 39,Cs 38,Cs 37,Cs 36,Cs 35,Cs 34,Cs 33,Cs 32]
def c66_35:MCode:=.region [Yh .lss (Cp 41) (Cp 40)] [Cs 42]
def c66_37:MCode:=.cond (Cp 42) .skip (.exit 4)
def c66_41:MCode:=.region [Ye 1 8 (Cp 39) (Cp 41),Ya 0,C0] [Cs 12,none,none]
def c66_42:MCode:=.region [Cm 8,Cm 12,Cr (.call (Yq 1) [(Yq 0)])] [none,none,none]
def c66_40:MCode:=.seq c66_41 c66_42
def c66_39:MCode:=.block 5 c66_40
def c66_43:MCode:=.region [Yh .add (Cp 41) (Ck 1),C0] [Cs 41,none]
def c66_38:MCode:=.seq c66_39 c66_43
def c66_36:MCode:=.seq c66_37 c66_38
def c66_34:MCode:=.seq c66_35 c66_36
def c66_33:MCode:=.loop c66_34
def c66_32:MCode:=.block 4 c66_33
def Zu2:MCode:=.seq c66_31 c66_32
def c66_29:MCode:=.block 3 Zu2
def c66_44:MCode:=.region [Yb 7,Cr (.slice .slc (some (1,8)) none (Yq 0) (some (Ck 1)) none none),Yk 1 (Cp 7) (Yq 0)] [none,none,none]
def c66_28:MCode:=.seq c66_29 c66_44
def c66_24:MCode:=.seq c66_25 c66_28
def c66_23:MCode:=.loop c66_24
def Zu1:MCode:=.block 2 c66_23
def c66_20:MCode:=.seq c66_21 Zu1
def c66_18:MCode:=.seq c66_19 c66_20
def c66_17:MCode:=.block 1 c66_18
def c66_45:MCode:=.region [Yh .add (Cp 20) (Ck 1),C0] [Cs 20,none]
def c66_16:MCode:=.seq c66_17 c66_45
def c66_14:MCode:=.seq c66_15 c66_16
def c66_12:MCode:=.seq c66_13 c66_14
def c66_11:MCode:=.loop c66_12
def c66_10:MCode:=.block 0 c66_11
def c66_8:MCode:=.seq c66_9 c66_10
def c66_6:MCode:=.seq c66_7 c66_8
def c66_4:MCode:=.seq c66_5 c66_6
def c66_2:MCode:=.seq c66_3 c66_4
def c66_0:MCode:=.seq c66_1 c66_2
theorem fi66:funInfo Tryd.prog 66 = some { code:=c66_0,ntmps:=50,nargs:=3,ps:=[12,42,40,41,32,34,35,36,33,37,38,39,29,10,8,18,21,19,20,2,4,7,6,3,1,0],res:=[] }:=by kernel_rfl
def c67_0:MCode:=.region [Yb 1,Cm 0,Cr (.buildSlice (some (1,8)) (some [(.int .i64 0)]) 1 [(0,(Yq 0))]),Cr (.append (some (1,8)) (Yq 2) (Yq 0)),Yk 1 (Cp 1) (Yq 0)] [none,none,none,none,none]
theorem fi67:funInfo Tryd.prog 67 = some { code:=c67_0,ntmps:=7,nargs:=2,ps:=[0,1],res:=[] }:=by kernel_rfl
def c74_0:MCode:=.region [Yb 1,Cm 0,Ye 1 1 (Yq 1) (Yq 0),Cr (.store (some 1) (Yq 0) (.cst (.bool true)))] [none,none,none,none]
theorem fi74:funInfo Tryd.prog 74 = some { code:=c74_0,ntmps:=6,nargs:=2,ps:=[0,1],res:=[] }:=by kernel_rfl
def c75_1:MCode:=.region [Cr (.box (Cp 0)),Yo .nilSlice] [Cs 2,Cs 1]
def c75_3:MCode:=.region [Cr (.alloc (some [.nilSlice]))] [Cs 3]
def c75_6:MCode:=.region [Yr 1 (Cp 1),Ym 55 [(Yq 0)]] [Cs 6,none]
def c75_9:MCode:=.region [Cm 7] [Cs 4]
def c75_12:MCode:=.region [Yd 0 1,Ya 0,Cm 4,Ye 4 56 (Yq 1) (Yq 0),Yc 3 0,Ya 0,Yh .gtr (Yq 0) (Ck 0)] [Cs 14,none,none,none,none,none,none]
def c75_14:MCode:=.region [Yb 3,Cm 4,Cr (.buildSlice (some (1,8)) (some [(.int .i64 0)]) 1 [(0,(Yq 0))]),Cr (.append (some (1,8)) (Yq 2) (Yq 0)),Yk 1 (Cp 3) (Yq 0)] [none,none,none,none,none]
def c75_13:MCode:=.cond (Cp 14) c75_14 .skip
def c75_11:MCode:=.seq c75_12 c75_13
def c75_10:MCode:=.block 1 c75_11
def c75_8:MCode:=.range (Cp 6) [7] c75_9 c75_10
def c75_7:MCode:=.block 0 c75_8
def c75_5:MCode:=.seq c75_6 c75_7
def c75_16:MCode:=.region [Yb 3,C0] [Cs 2,none]
def c75_15:MCode:=.seq c75_16 .ret
def c75_4:MCode:=.seq c75_5 c75_15
def c75_2:MCode:=.seq c75_3 c75_4
def c75_0:MCode:=.seq c75_1 c75_2
theorem fi75:funInfo Tryd.prog 75 = some { code:=c75_0,ntmps:=20,nargs:=1,ps:=[3,14,4,7,6,1,0,2],res:=[.tmp 2] }:=by kernel_rfl
def c97_1:MCode:=.region [Yb 1,Cm 0,Ye 1 1 (Yq 1) (Yq 0),Ya 0,Cr (.un .not (Yq 0))] [Cs 9,none,none,none,none]
def c97_4:MCode:=.region [Yb 1,Cm 0,Ye 1 1 (Yq 1) (Yq 0),Cr (.store (some 1) (Yq 0) (.cst (.bool true)))] [none,none,none,none]
def c97_6:MCode:=.region [Yb 2,Cm 0,Cr (.buildSlice (some (1,8)) (some [(.int .i64 0)]) 1 [(0,(Yq 0))]),Cr (.append (some (1,8)) (Yq 2) (Yq 0)),Yk 1 (Cp 2) (Yq 0)] [none,none,none,none,none]
def c97_7:MCode:=.region [Yb 3,Cm 0,Cr (.call (Yq 1) [(Yq 0)])] [none,none,none]
def c97_5:MCode:=.seq c97_6 c97_7
def c97_3:MCode:=.seq c97_4 c97_5
def c97_2:MCode:=.cond (Cp 9) c97_3 .skip
def c97_0:MCode:=.seq c97_1 c97_2
theorem fi97:funInfo Tryd.prog 97 = some { code:=c97_0,ntmps:=20,nargs:=4,ps:=[3,2,9,0,1],res:=[] }:=by kernel_rfl
def c39_1:MCode:=.region [Yo (.bool false)] [Cs 4]
def c39_4:MCode:=.region [Cm 0,Yl (Yq 0),Cm 1,Yl (Yq 0),Yh .neq (Yq 2) (Yq 0)] [Cs 10,none,none,none,none]
def c39_7:MCode:=.region [Yo (.bool false)] [Cs 4]
def c39_6:MCode:=.seq c39_7 .ret
def c39_5:MCode:=.cond (Cp 10) c39_6 .skip
def c39_3:MCode:=.seq c39_4 c39_5
def c39_10:MCode:=.region [Cm 0,Yl (Yq 0),Yp 0] [Cs 13,Cs 12,none]
def c39_14:MCode:=.region [Yh .lss (Cp 13) (Cp 12)] [Cs 14]
def c39_16:MCode:=.cond (Cp 14) .skip (.exit 0)
def c39_20:MCode:=.region [Cm 13,C0] [Cs 5,none]
def c39_22:MCode:=.region [Cm 0,Cm 5,Ye 1 8 (Yq 1) (Yq 0),Ya 0,Cm 1,Cm 5,Ye 1 8 (Yq 1) (Yq 0),Ya 0,Yh .neq (Yq 4) (Yq 0)] [Cs 24,Cs 23,Cs 22,Cs 21,Cs 20,Cs 19,Cs 18,Cs 17,Cs 16]
def c39_25:MCode:=.region [Yo (.bool false)] [Cs 4]
def c39_24:MCode:=.seq c39_25 .ret
def c39_23:MCode:=.cond (Cp 24) c39_24 .skip
def c39_21:MCode:=.seq c39_22 c39_23
def c39_19:MCode:=.seq c39_20 c39_21
def c39_18:MCode:=.block 1 c39_19
def c39_26:MCode:=.region [Yh .add (Cp 13) (Ck 1),C0] [Cs 13,none]
def c39_17:MCode:=.seq c39_18 c39_26
def c39_15:MCode:=.seq c39_16 c39_17
def c39_13:MCode:=.seq c39_14 c39_15
def c39_12:MCode:=.loop c39_13
def c39_11:MCode:=.block 0 c39_12
def c39_9:MCode:=.seq c39_10 c39_11
def c39_28:MCode:=.region [Yo (.bool true)] [Cs 4]
def c39_27:MCode:=.seq c39_28 .ret
def c39_8:MCode:=.seq c39_9 c39_27
def c39_2:MCode:=.seq c39_3 c39_8
def c39_0:MCode:=.seq c39_1 c39_2
theorem fi39:funInfo Tryd.prog 39 = some { code:=c39_0,ntmps:=26,nargs:=2,ps:=[24,17,16,18,5,21,20,22,23,19,14,12,13,10,1,0,4],res:=[.tmp 4] }:=by kernel_rfl
end Go.Proofs
end
section
open Go Go.AM
namespace Go.Proofs
def c23_1:MCode:=.region [Cr (.box (Cp 0)),Cr (.alloc (some [.nilSlice,(.int .i64 0)])),Yp 0] [Cs 3,Cs 2,Cs 1]
def c23_4:MCode:=.region [Yr 2 (Cp 1),Cr (.buildSlice (some (2,32)) (some [.nilSlice,(.int .i64 0)]) 1 [(0,(Yq 0))]),Ym 68 [(Yq 0)],C0] [Cs 4,none,none,none]
def c23_6:MCode:=.region [Cm 4,Yh .neq (Yq 0) (Ck 0)] [Cs 12,none]
def c23_9:MCode:=.region [Cr (.build (some []) (some [.nilSlice,(.int .i64 0)])),Cm 4,Yk 2 (Cp 2) (Yq 1),Yn 1] [Cs 3,none,none,none]
def c23_8:MCode:=.seq c23_9 .ret
def c23_7:MCode:=.cond (Cp 12) c23_8 .skip
def c23_5:MCode:=.seq c23_6 c23_7
def c23_3:MCode:=.seq c23_4 c23_5
def c23_11:MCode:=.region [Yd 0 1,Ya 0,Yd 1 1,Ya 0,Cr (.buildSlice (some (1,8)) (some [(.int .i64 0)]) 1 [(0,(Yq 0))]),Ym 69 [(Yq 3),(Yq 0)],C0] [Cs 5,none,none,none,none,none,none]
def c23_13:MCode:=.region [Yd 0 1,Ya 0,Cm 5,Ym 70 [(Yq 1),(Yq 0)],C0,Yg 0 0,Yg 1 1,Yn 1,Yn 1] [Cs 7,Cs 6,none,none,none,none,none,none,none]
def c23_15:MCode:=.region [Yd 0 1,Ya 0,Cm 5,Cm 6,Cm 7,Ym 71 [(Yq 3),(Yq 2),(Yq 1),(Yq 0)],Yk 2 (Cp 2) (Yq 0),Yp 0] [Cs 3,none,none,none,none,none,none,none]
def c23_14:MCode:=.seq c23_15 .ret
def c23_12:MCode:=.seq c23_13 c23_14
def c23_10:MCode:=.seq c23_11 c23_12
def c23_2:MCode:=.seq c23_3 c23_10
def c23_0:MCode:=.seq c23_1 c23_2
theorem fi23:funInfo Tryd.prog 23 = some { code:=c23_0,ntmps:=34,nargs:=1,ps:=[7,6,5,12,4,1,0,2,3],res:=[.cell 2 42,.tmp 3] }:=by kernel_rfl
def c63_1:MCode:=.region [Cr (.box (Cp 0)),Yp 0] [Cs 2,Cs 1]
def c63_3:MCode:=.region [Cr (.func (some 89) [] [(Cp 1)]),Cr (.alloc (some [.nilFn])),Yk 1 (Yq 0) (Yq 1)] [none,Cs 3,none]
def c63_7:MCode:=.region [Yd 0 1,Ya 0,Yl (Yq 0),Yh .lss (Yq 0) (Ck 1),C0,Yi 0 (.fieldAddr (some 0) (Cp 1)),Yi 1 (.load (some none) (Yq 0)),Yi 2 (.len (some (.slc,0)) (Yq 0)),Yi 3 (.bin .gtr .other none (Yq 0) (Ck 60)),Cr (.pick (Yq 4) (.cst (.bool true)) (Yq 0)),C0,Yi 0 (.fieldAddr (some 0) (Cp 1)),Yi 1 (.load (some none) (Yq 0)),Yi 2 (.call (.cst (.fn 90 [] [])) [(Yq 0),(.cst (.fn 91 [] []))]),Yi 3 (.un .not (Yq 0)),Cr (.pick (Yq 4) (.cst (.bool true)) (Yq 0)),C0] [Cs 5,none,none,none,none,none,none,none,none,none,none,none,none,none,none,none,none]
def c63_10:MCode:=.region [Yp 2] [Cs 2]
def c63_9:MCode:=.seq c63_10 .ret
def c63_12:MCode:=.region [Yd 0 1,Ya 0,Cr (.call (.cst (.fn 90 [] [])) [(Yq 0),(.cst (.fn 92 [] []))]),Cr (.un .not (Yq 0)),C0] [Cs 22,none,none,none,none]
def c63_15:MCode:=.region [Yp 4] [Cs 2]
def c63_14:MCode:=.seq c63_15 .ret
def c63_17:MCode:=.region [Yb 3,Yd 1 1,Ya 0,Cr (.call (Yq 2) [(Yq 0)]),Cr (.un .not (Yq 0)),C0,Yi 0 (.fieldAddr (some 0) (Cp 1)),Yi 1 (.load (some none) (Yq 0)),Yi 2 (.func (some 94) [] [(Cp 3)]),Yi 3 (.call (.cst (.fn 90 [] [])) [(Yq 1),(Yq 0)]),Yi 4 (.un .not (Yq 0)),Cr (.pick (Yq 5) (.cst (.bool true)) (Yq 0)),C0] [Cs 27,none,none,none,none,none,none,none,none,none,none,none,none]
def c63_20:MCode:=.region [Yp 1] [Cs 2]
def c63_19:MCode:=.seq c63_20 .ret
def c63_18:MCode:=.cond (Cp 27) c63_19 .skip
def c63_16:MCode:=.seq c63_17 c63_18
def c63_13:MCode:=.cond (Cp 22) c63_14 c63_16
def c63_11:MCode:=.seq c63_12 c63_13
def c63_8:MCode:=.cond (Cp 5) c63_9 c63_11
def c63_6:MCode:=.seq c63_7 c63_8
def c63_5:MCode:=.block 0 c63_6
def c63_22:MCode:=.region [Yp 0] [Cs 2]
def c63_21:MCode:=.seq c63_22 .ret
def c63_4:MCode:=.seq c63_5 c63_21
def c63_2:MCode:=.seq c63_3 c63_4
def c63_0:MCode:=.seq c63_1 c63_2
theorem fi63:funInfo Tryd.prog 63 = some { code:=c63_0,ntmps:=40,nargs:=1,ps:=[27,3,22,5,1,0,2],res:=[.tmp 2] }:=by kernel_rfl
def c68_1:MCode:=.region [Yp 0] [Cs 2]
def c68_3:MCode:=.region [Cm 0,Cr (.call (.cst (.fn 98 [] [])) [(Yq 0),(.cst (.fn 99 [] []))]),C0,Yg 0 0,Yg 1 1,Cr (.alloc (some [.nilSlice,(.int .i64 0)])),Yk 2 (Yq 0) (Yq 2),Yn 2] [Cs 4,none,Cs 3,none,none,none,none,none]
def c68_6:MCode:=.region [Cm 4,Cr (.un .not (Yq 0))] [Cs 11,none]
def c68_9:MCode:=.region [Yp 0] [Cs 2]
def c68_8:MCode:=.seq c68_9 .ret
def c68_7:MCode:=.cond (Cp 11) c68_8 .skip
def c68_5:MCode:=.seq c68_6 c68_7
def c68_11:MCode:=.region [Yr 2 (Cp 3),Ym 63 [(Yq 0)],C0] [Cs 2,none,none]
def c68_10:MCode:=.seq c68_11 .ret
def c68_4:MCode:=.seq c68_5 c68_10
def c68_2:MCode:=.seq c68_3 c68_4
def c68_0:MCode:=.seq c68_1 c68_2
theorem fi68:funInfo Tryd.prog 68 = some { code:=c68_0,ntmps:=14,nargs:=1,ps:=[3,11,4,0,2],res:=[.tmp 2] }:=by kernel_rfl
def c69_1:MCode:=.region [Yo .nilSlice] [Cs 4]
def c69_3:MCode:=.region [Cm 0,Yl (Yq 0),Cr (.makeSlice (some (1,1)) (some [(.bool false)]) (Yq 0) (Yq 0)),C0] [Cs 5,none,none,none]
def c69_5:MCode:=.region [Yo .nilSlice] [Cs 6]
def c69_8:MCode:=.region [Cm 1,Yl (Yq 0),Yp 0] [Cs 17,Cs 16,Cs 15]
def c69_12:MCode:=.region [Yh .lss (Cp 17) (Cp 16)] [Cs 18]
def c69_14:MCode:=.cond (Cp 18) .skip (.exit 0)
def c69_18:MCode:=.region [Ye 1 8 (Cp 15) (Cp 17),Ya 0,C0] [Cs 8,none,none]
def c69_20:MCode:=.region [Cm 6,Yl (Yq 0),C0] [Cs 9,none,none]
def c69_23:MCode:=.region [Cm 5,Cm 8,Ye 1 1 (Yq 1) (Yq 0),Ya 0,Cr (.un .not (Yq 0))] [Cs 27,none,none,none,none]
def c69_26:MCode:=.region [Cm 5,Cm 8,Ye 1 1 (Yq 1) (Yq 0),Cr (.store (some 1) (Yq 0) (.cst (.bool true)))] [none,none,none,none]
def c69_27:MCode:=.region [Cm 6,Cm 8,Cr (.buildSlice (some (1,8)) (some [(.int .i64 0)]) 1 [(0,(Yq 0))]),Cr (.append (some (1,8)) (Yq 2) (Yq 0)),C0] [Cs 6,none,none,none,none]
def c69_25:MCode:=.seq c69_26 c69_27
def c69_24:MCode:=.cond (Cp 27) c69_25 .skip
def c69_22:MCode:=.seq c69_23 c69_24
def c69_32:MCode:=.region [Cm 9,Cm 6,Yl (Yq 0),Yh .lss (Yq 2) (Yq 0)] [Cs 38,none,none,none]
def c69_33:MCode:=.cond (Cp 38) .skip (.exit 2)
def c69_31:MCode:=.seq c69_32 c69_33
def c69_37:MCode:=.region [Cm 0,Cm 6,Cm 9,Ye 1 8 (Yq 1) (Yq 0),Ya 0,Ye 2 40 (Yq 4) (Yq 0),Yc 1 0,Ya 0,Yl (Yq 0),Yp 0] [Cs 50,Cs 49,Cs 48,none,none,none,none,none,none,none]
def c69_41:MCode:=.region [Yh .lss (Cp 50) (Cp 49)] [Cs 51]
def c69_43:MCode:=.cond (Cp 51) .skip (.exit 4)
def c69_47:MCode:=.region [Ye 1 8 (Cp 48) (Cp 50),Ya 0,C0] [Cs 11,none,none]
def c69_49:MCode:=.region [Cm 5,Cm 11,Ye 1 1 (Yq 1) (Yq 0),Ya 0,Cr (.un .not (Yq 0))] [Cs 58,none,none,none,none]
def c69_52:MCode:=.region [Cm 5,Cm 11,Ye 1 1 (Yq 1) (Yq 0),Cr (.store (some 1) (Yq 0) (.cst (.bool true)))] [none,none,none,none]
def c69_53:MCode:=.region [Cm 6,Cm 11,Cr (.buildSlice (some (1,8)) (some [(.int .i64 0)]) 1 [(0,(Yq 0))]),Cr (.append (some (1,8)) (Yq 2) (Yq 0)),C0] [Cs 6,none,none,none,none]
def c69_51:MCode:=.seq c69_52 c69_53
def c69_50:MCode:=.cond (Cp 58) c69_51 .skip
def c69_48:MCode:=.seq c69_49 c69_50
def c69_46:MCode:=.seq c69_47 c69_48
def c69_45:MCode:=.block 5 c69_46
def c69_54:MCode:=.region [Yh .add (Cp 50) (Ck 1),C0] [Cs 50,none]
def c69_44:MCode:=.seq c69_45 c69_54
def c69_42:MCode:=.seq c69_43 c69_44
def c69_40:MCode:=.seq c69_41 c69_42
def c69_39:MCode:=.loop c69_40
def c69_38:MCode:=.block 4 c69_39
def Zu4:MCode:=.seq c69_37 c69_38
def c69_35:MCode:=.block 3 Zu4
def c69_55:MCode:=.region [Cm 9,Yh .add (Yq 0) (Ck 1),C0] [Cs 9,none,none]
def c69_34:MCode:=.seq c69_35 c69_55
def c69_30:MCode:=.seq c69_31 c69_34
def c69_29:MCode:=.loop c69_30
def Zu3:MCode:=.block 2 c69_29
def c69_21:MCode:=.seq c69_22 Zu3
def c69_19:MCode:=.seq c69_20 c69_21
def c69_17:MCode:=.seq c69_18 c69_19
def c69_16:MCode:=.block 1 c69_17
def c69_56:MCode:=.region [Yh .add (Cp 17) (Ck 1),C0] [Cs 17,none]
def c69_15:MCode:=.seq c69_16 c69_56
def c69_13:MCode:=.seq c69_14 c69_15
def c69_11:MCode:=.seq c69_12 c69_13
def c69_10:MCode:=.loop c69_11
def c69_9:MCode:=.block 0 c69_10
def c69_7:MCode:=.seq c69_8 c69_9
def c69_58:MCode:=.region [Cm 6,C0] [Cs 4,none]
def c69_57:MCode:=.seq c69_58 .ret
def c69_6:MCode:=.seq c69_7 c69_57
def c69_4:MCode:=.seq c69_5 c69_6
def c69_2:MCode:=.seq c69_3 c69_4
def c69_0:MCode:=.seq c69_1 c69_2
theorem fi69:funInfo Tryd.prog 69 = some { code:=c69_0,ntmps:=69,nargs:=2,ps:=[58,11,48,51,49,50,38,9,27,8,5,6,15,18,16,17,1,0,4],res:=[.tmp 4] }:=by kernel_rfl
def c70_1:MCode:=.region [Yo .nilSlice,Yp 0] [Cs 5,Cs 4]
def c70_3:MCode:=.region [Cm 0,Yl (Yq 0),Cr (.makeSlice (some (1,8)) (some [(.int .i64 0)]) (Yq 0) (Yq 0)),C0] [Cs 6,none,none,none]
def c70_5:MCode:=.region [Yp 1] [Cs 7]
def c70_10:MCode:=.region [Cm 0,Yl (Yq 0),Cr (.makeSlice (some (1,8)) (some [(.int .i64 0)]) (Yq 0) (Yq 0)),C0] [Cs 8,none,none,none]
def c70_13:MCode:=.region [Cm 8,Yl (Yq 0),Yp 0] [Cs 26,Cs 25,none]
def c70_17:MCode:=.region [Yh .lss (Cp 26) (Cp 25)] [Cs 27]
def c70_19:MCode:=.cond (Cp 27) .skip (.exit 2)
def c70_23:MCode:=.region [Cm 26,C0] [Cs 9,none]
def c70_24:MCode:=.region [Cm 8,Cm 9,Ye 1 8 (Yq 1) (Yq 0),Cr (.store (some 1) (Yq 0) (.cst (.int .i64 (-1))))] [none,none,none,none]
def c70_22:MCode:=.seq c70_23 c70_24
def c70_21:MCode:=.block 3 c70_22
def c70_25:MCode:=.region [Yh .add (Cp 26) (Ck 1),C0] [Cs 26,none]
def c70_20:MCode:=.seq c70_21 c70_25
def c70_18:MCode:=.seq c70_19 c70_20
def c70_16:MCode:=.seq c70_17 c70_18
def c70_15:MCode:=.loop c70_16
def c70_14:MCode:=.block 2 c70_15
def Zu5:MCode:=.seq c70_13 c70_14
def c70_27:MCode:=.region [Cr (.makeMap true),C0] [Cs 10,none]
def c70_30:MCode:=.region [Cm 1,Yl (Yq 0),Yp 0] [Cs 36,Cs 35,Cs 34]
def c70_34:MCode:=.region [Yh .lss (Cp 36) (Cp 35)] [Cs 37]
def c70_36:MCode:=.cond (Cp 37) .skip (.exit 4)
def c70_40:MCode:=.region [Ye 1 8 (Cp 34) (Cp 36),Ya 0,C0] [Cs 12,none,none]
def c70_42:MCode:=.region [Cm 0,Cm 12,Ye 2 40 (Yq 1) (Yq 0),Yc 0 0,Ya 0,Cm 0,Cm 12,Ye 2 40 (Yq 1) (Yq 0),Yc 1 0,Ya 0,Yl (Yq 0),Cr (.build (some [(0,(1,(Yq 6))),(1,(1,(Yq 0)))]) (some [(.str []),(.int .i64 0),(.int .i64 0),(.int .i64 0),(.int .i64 0),(.int .i64 0)])),.fresh,Cr (.alloc (some [(.str []),(.int .i64 0),(.int .i64 0),(.int .i64 0),(.int .i64 0),(.int .i64 0)])),Yk 6 (Yq 0) (Yq 1)] [none,Cs 13,Cs 51,Cs 50,Cs 49,Cs 48,Cs 47,Cs 46,Cs 45,Cs 44,Cs 43,Cs 42,Cs 41,Cs 40]
def c70_45:MCode:=.region [Cm 0,Cm 12,Ye 2 40 (Yq 1) (Yq 0),Yc 1 0,Ya 0,Yl (Yq 0),Yp 0] [Cs 58,Cs 57,Cs 56,none,none,none,none]
def c70_49:MCode:=.region [Yh .lss (Cp 58) (Cp 57)] [Cs 59]
def c70_51:MCode:=.cond (Cp 59) .skip (.exit 6)
def c70_55:MCode:=.region [Cm 58,Ye 1 8 (Cp 56) (Cp 58),Ya 0,Yn 2,Yn 1] [Cs 15,Cs 14,none,none,none]
def c70_56:MCode:=.region [Cm 14,Cm 6,Cm 15,Ye 1 8 (Yq 1) (Yq 0),Ya 0,Yd 2 13,Cr (.indexAddr .arr none (some (4,1)) (Yq 0) (Yq 5)),Yk 1 (Yq 0) (Yq 2)] [none,none,none,none,none,none,none,none]
def c70_54:MCode:=.seq c70_55 c70_56
def c70_53:MCode:=.block 7 c70_54
def c70_57:MCode:=.region [Yh .add (Cp 58) (Ck 1),C0] [Cs 58,none]
def c70_52:MCode:=.seq c70_53 c70_57
def c70_50:MCode:=.seq c70_51 c70_52
def c70_48:MCode:=.seq c70_49 c70_50
def c70_47:MCode:=.loop c70_48
def c70_46:MCode:=.block 6 c70_47
def Zu8:MCode:=.seq c70_45 c70_46
def c70_59:MCode:=.region [Cm 10,Yr 6 (Cp 13),Cr (.lookup (some (true,([.str,.int,.int,.int,.int,.int],(.int .i64 0)))) true (Yq 1) (Yq 0)),C0,Yg 0 0,Yg 1 1,Yn 1,Yn 1] [Cs 17,Cs 16,none,none,none,none,none,none]
def c70_62:MCode:=.region [Cm 17,Cr (.un .not (Yq 0))] [Cs 78,none]
def c70_65:MCode:=.region [Cm 10,Cr (.len (some (.map,0)) (Yq 0)),C0] [Cs 16,none,none]
def c70_66:MCode:=.region [Cm 10,Yr 6 (Cp 13),Cm 16,Cr (.mapSet (some (true,([.str,.int,.int,.int,.int,.int],(.int .i64 0)))) (Yq 2) (Yq 1) (Yq 0))] [none,none,none,none]
def c70_64:MCode:=.seq c70_65 c70_66
def c70_63:MCode:=.cond (Cp 78) c70_64 .skip
def c70_61:MCode:=.seq c70_62 c70_63
def Zu9:MCode:=.region [Cm 8,Cm 12,Cm 16,Ye 1 8 (Yq 2) (Yq 1),Yk 1 (Yq 0) (Yq 1)] [none,none,none,none,none]
def c70_60:MCode:=.seq c70_61 Zu9
def c70_58:MCode:=.seq c70_59 c70_60
def c70_43:MCode:=.seq Zu8 c70_58
def Zu7:MCode:=.seq c70_42 c70_43
def c70_39:MCode:=.seq c70_40 Zu7
def c70_38:MCode:=.block 5 c70_39
def c70_68:MCode:=.region [Yh .add (Cp 36) (Ck 1),C0] [Cs 36,none]
def c70_37:MCode:=.seq c70_38 c70_68
def c70_35:MCode:=.seq c70_36 c70_37
def c70_33:MCode:=.seq c70_34 c70_35
def c70_32:MCode:=.loop c70_33
def c70_31:MCode:=.block 4 c70_32
def Zu6:MCode:=.seq c70_30 c70_31
def c70_71:MCode:=.region [Cm 10,Cr (.len (some (.map,0)) (Yq 0)),Cm 7,Yh .eql (Yq 1) (Yq 0)] [Cs 92,none,none,none]
def c70_74:MCode:=.region [Cm 8,Cm 7,Yn 1,Yn 1] [Cs 5,Cs 4,none,none]
def c70_73:MCode:=.seq c70_74 .ret
def c70_72:MCode:=.cond (Cp 92) c70_73 .skip
def c70_70:MCode:=.seq c70_71 c70_72
def c70_75:MCode:=.region [Cm 8,Cm 10,Cr (.len (some (.map,0)) (Yq 0)),Yn 2,Yn 1] [Cs 7,Cs 6,none,none,none]
def c70_69:MCode:=.seq c70_70 c70_75
def c70_28:MCode:=.seq Zu6 c70_69
def c70_26:MCode:=.seq c70_27 c70_28
def c70_11:MCode:=.seq Zu5 c70_26
def c70_9:MCode:=.seq c70_10 c70_11
def c70_8:MCode:=.block 1 c70_9
def c70_7:MCode:=.loop c70_8
def c70_6:MCode:=.block 0 c70_7
def c70_4:MCode:=.seq c70_5 c70_6
def c70_2:MCode:=.seq c70_3 c70_4
def c70_0:MCode:=.seq c70_1 c70_2
theorem fi70:funInfo Tryd.prog 70 = some { code:=c70_0,ntmps:=98,nargs:=2,ps:=[92,7,16,78,17,10,15,6,14,56,59,57,58,41,40,42,43,12,46,45,47,48,49,50,44,51,13,34,37,35,36,1,9,27,25,26,8,0,4,5],res:=[.tmp 4,.tmp 5] }:=by kernel_rfl
def c71_1:MCode:=.region [Cr (.alloc (some [.nilSlice,(.int .i64 0)]))] [Cs 8]
def c71_3:MCode:=.region [Cm 3,Cr (.makeSlice (some (2,40)) (some [(.str []),.nilSlice]) (Yq 0) (Yq 0)),Cr (.build (some [(0,(1,(Yq 0)))]) (some [.nilSlice,(.int .i64 0)])),Cr (.alloc (some [.nilSlice,(.int .i64 0)])),Yk 2 (Yq 0) (Yq 1)] [none,Cs 9,none,none,none]
def c71_6:MCode:=.region [Cm 1,Yl (Yq 0),Yp 0] [Cs 20,Cs 19,Cs 18]
def c71_10:MCode:=.region [Yh .lss (Cp 20) (Cp 19)] [Cs 21]
def c71_12:MCode:=.cond (Cp 21) .skip (.exit 0)
def c71_16:MCode:=.region [Ye 1 8 (Cp 18) (Cp 20),Ya 0,C0] [Cs 11,none,none]
def c71_18:MCode:=.region [Yd 0 9,Ya 0,Cm 2,Cm 11,Ye 1 8 (Yq 1) (Yq 0),Ya 0,Ye 2 40 (Yq 4) (Yq 0),C0] [Cs 12,Cs 30,Cs 29,Cs 28,Cs 27,Cs 26,Cs 25,Cs 24]
def c71_21:MCode:=.region [Cm 12,Yf 0,Yc 0 0,Ya 0,Cr (.bin .neq .other none (Yq 0) (.cst (.str [])))] [Cs 35,none,none,none,none]
def c71_22:MCode:=.cond (Cp 35) (.exit 1) .skip
def c71_20:MCode:=.seq c71_21 c71_22
def c71_24:MCode:=.region [Cm 12,Cm 0,Cm 11,Ye 2 40 (Yq 1) (Yq 0),Yc 0 0,Ya 0,Yf 5,Yc 0 0,Yk 1 (Yq 0) (Yq 2)] [none,none,none,none,none,none,none,none,none]
def c71_26:MCode:=.region [Cm 12,Cm 0,Cm 11,Ye 2 40 (Yq 1) (Yq 0),Yc 1 0,Ya 0,Yl (Yq 0),Cr (.makeSlice (some (1,8)) (some [(.int .i64 0)]) (Yq 0) (Yq 0)),Yf 7,Yc 1 0,Yk 1 (Yq 0) (Yq 2)] [none,none,none,none,none,none,none,none,none,none,none]
def c71_28:MCode:=.region [Cm 12,Yf 0,Yc 1 0,Ya 0,Cm 0,Cm 11,Ye 2 40 (Yq 1) (Yq 0),Yc 1 0,Ya 0,Cr (.copy (some 1) (Yq 5) (Yq 0))] [none,Cs 62,Cs 61,Cs 60,Cs 59,Cs 58,Cs 57,Cs 56,Cs 55,Cs 54]
def c71_30:MCode:=.region [Cm 12,Yf 0,Yc 1 0,Ya 0,Yl (Yq 0),Yp 0] [Cs 69,Cs 68,Cs 67,none,none,none]
def c71_34:MCode:=.region [Yh .lss (Cp 69) (Cp 68)] [Cs 70]
def c71_36:MCode:=.cond (Cp 70) .skip (.exit 2)
def c71_40:MCode:=.region [Cm 69,Ye 1 8 (Cp 67) (Cp 69),Ya 0,Yn 2,Yn 1] [Cs 14,Cs 13,none,none,none]
def c71_41:MCode:=.region [Cm 12,Yf 0,Yc 1 0,Ya 0,Cm 13,Cm 2,Cm 14,Ye 1 8 (Yq 1) (Yq 0),Ya 0,Ye 1 8 (Yq 5) (Yq 4),Yk 1 (Yq 0) (Yq 1)] [none,Cs 83,Cs 82,Cs 81,Cs 80,Cs 79,Cs 78,Cs 77,Cs 76,Cs 75,Cs 74]
def c71_39:MCode:=.seq c71_40 c71_41
def c71_38:MCode:=.block 3 c71_39
def c71_42:MCode:=.region [Yh .add (Cp 69) (Ck 1),C0] [Cs 69,none]
def c71_37:MCode:=.seq c71_38 c71_42
def c71_35:MCode:=.seq c71_36 c71_37
def c71_33:MCode:=.seq c71_34 c71_35
def c71_32:MCode:=.loop c71_33
def c71_31:MCode:=.block 2 c71_32
def c71_29:MCode:=.seq c71_30 c71_31
def c71_27:MCode:=.seq c71_28 c71_29
def c71_25:MCode:=.seq c71_26 c71_27
def c71_23:MCode:=.seq c71_24 c71_25
def c71_19:MCode:=.seq c71_20 c71_23
def c71_17:MCode:=.seq c71_18 c71_19
def c71_15:MCode:=.seq c71_16 c71_17
def c71_14:MCode:=.block 1 c71_15
def c71_43:MCode:=.region [Yh .add (Cp 20) (Ck 1),C0] [Cs 20,none]
def c71_13:MCode:=.seq c71_14 c71_43
def c71_11:MCode:=.seq c71_12 c71_13
def c71_9:MCode:=.seq c71_10 c71_11
def c71_8:MCode:=.loop c71_9
def c71_7:MCode:=.block 0 c71_8
def c71_5:MCode:=.seq c71_6 c71_7
def c71_45:MCode:=.region [Yr 2 (Cp 9),Yk 2 (Cp 8) (Yq 0)] [none,none]
def c71_44:MCode:=.seq c71_45 .ret
def c71_4:MCode:=.seq c71_5 c71_44
def c71_2:MCode:=.seq c71_3 c71_4
def c71_0:MCode:=.seq c71_1 c71_2
theorem fi71:funInfo Tryd.prog 71 = some { code:=c71_0,ntmps:=87,nargs:=4,ps:=[74,75,76,13,14,80,79,81,78,77,82,83,67,70,68,69,54,55,56,59,58,60,61,62,57,0,35,12,9,24,2,11,27,26,28,29,25,30,18,21,19,20,1,3,8],res:=[.cell 8 42] }:=by kernel_rfl
def c89_1:MCode:=.region [Yo (.bool false)] [Cs 3]
def c89_3:MCode:=.region [Cm 0,Yh .geq (Yq 0) (Ck 0),C0,Yj 0 (.move (Cp 0)),Yj 1 (.fieldAddr (some 0) (Cp 1)),Yj 2 (.load (some none) (Yq 0)),Yj 3 (.len (some (.slc,0)) (Yq 0)),Yj 4 (.bin .lss .other none (Yq 3) (Yq 0)),Cr (.pick (Yq 5) (Yq 0) (.cst (.bool false))),C0] [Cs 3,none,none,none,none,none,none,none,none,none]
def c89_2:MCode:=.seq c89_3 .ret
def c89_0:MCode:=.seq c89_1 c89_2
theorem fi89:funInfo Tryd.prog 89 = some { code:=c89_0,ntmps:=13,nargs:=2,ps:=[1,0,3],res:=[.tmp 3] }:=by kernel_rfl
def c90_1:MCode:=.region [Cr (.box (Cp 1)),Yo (.bool false)] [Cs 4,Cs 3]
def c90_3:MCode:=.region [Cm 0,Cr (.func (some 111) [] [(Cp 3)]),Ym 101 [(Yq 1),(Yq 0)],Cr (.un .not (Yq 0)),C0] [Cs 4,none,none,none,none]
def c90_2:MCode:=.seq c90_3 .ret
def c90_0:MCode:=.seq c90_1 c90_2
theorem fi90:funInfo Tryd.prog 90 = some { code:=c90_0,ntmps:=9,nargs:=2,ps:=[3,0,1,4],res:=[.tmp 4] }:=by kernel_rfl
def c91_1:MCode:=.region [Cr (.box (Cp 0)),Yo (.bool false)] [Cs 2,Cs 1]
def c91_3:MCode:=.region [Yd 1 1,Ya 0,Yl (Yq 0),Yh .leq (Yq 0) (Ck 4),C0] [Cs 2,none,none,none,none]
def c91_2:MCode:=.seq c91_3 .ret
def c91_0:MCode:=.seq c91_1 c91_2
theorem fi91:funInfo Tryd.prog 91 = some { code:=c91_0,ntmps:=7,nargs:=1,ps:=[1,0,2],res:=[.tmp 2] }:=by kernel_rfl
def c92_1:MCode:=.region [Cr (.box (Cp 0)),Yo (.bool false)] [Cs 2,Cs 1]
def c92_3:MCode:=.region [Yd 0 1,Ya 0,Ym 93 [(Yq 0)],C0] [Cs 2,none,none,none]
def c92_2:MCode:=.seq c92_3 .ret
def c92_0:MCode:=.seq c92_1 c92_2
theorem fi92:funInfo Tryd.prog 92 = some { code:=c92_0,ntmps:=6,nargs:=1,ps:=[1,0,2],res:=[.tmp 2] }:=by kernel_rfl
def c94_1:MCode:=.region [Cr (.box (Cp 0)),Yo (.bool false)] [Cs 3,Cs 2]
def c94_3:MCode:=.region [Yd 1 2,Ya 0,Yb 1,Ym 95 [(Yq 1),(Yq 0)],C0] [Cs 3,none,none,none,none]
def c94_2:MCode:=.seq c94_3 .ret
def c94_0:MCode:=.seq c94_1 c94_2
theorem fi94:funInfo Tryd.prog 94 = some { code:=c94_0,ntmps:=8,nargs:=2,ps:=[1,2,0,3],res:=[.tmp 3] }:=by kernel_rfl
def c95_1:MCode:=.region [Cr (.box (Cp 1)),Yo (.bool false)] [Cs 4,Cs 3]
def c95_3:MCode:=.region [Cm 0,Cr (.func (some 112) [] [(Cp 3)]),Ym 85 [(Yq 1),(Yq 0)],Cr (.un .not (Yq 0)),C0] [Cs 4,none,none,none,none]
def c95_2:MCode:=.seq c95_3 .ret
def c95_0:MCode:=.seq c95_1 c95_2
theorem fi95:funInfo Tryd.prog 95 = some { code:=c95_0,ntmps:=9,nargs:=2,ps:=[3,0,1,4],res:=[.tmp 4] }:=by kernel_rfl
def c98_1:MCode:=.region [Cr (.alloc (some [.nilSlice,(.int .i64 0)])),Yo (.bool false)] [Cs 5,Cs 4]
def c98_3:MCode:=.region [Cr (.alloc (some [.nilSlice,(.int .i64 0)]))] [Cs 6]
def c98_5:MCode:=.region [Cm 0,Cm 1,Ym 113 [(Yq 1),(Yq 0)],C0] [Cs 7,none,none,none]
def c98_8:MCode:=.region [Cm 7,Yh .lss (Yq 0) (Ck 0)] [Cs 12,none]
def c98_11:MCode:=.region [Yr 2 (Cp 6),Yk 2 (Cp 4) (Yq 0),Yo (.bool false)] [Cs 5,none,none]
def c98_10:MCode:=.seq c98_11 .ret
def c98_9:MCode:=.cond (Cp 12) c98_10 .skip
def c98_7:MCode:=.seq c98_8 c98_9
def c98_13:MCode:=.region [Cm 0,Cm 7,Ye 2 32 (Yq 1) (Yq 0),Yr 2 (Yq 0),Yk 2 (Cp 4) (Yq 0),Yo (.bool true)] [Cs 5,none,none,none,none,none]
def c98_12:MCode:=.seq c98_13 .ret
def c98_6:MCode:=.seq c98_7 c98_12
def c98_4:MCode:=.seq c98_5 c98_6
def c98_2:MCode:=.seq c98_3 c98_4
def c98_0:MCode:=.seq c98_1 c98_2
theorem fi98:funInfo Tryd.prog 98 = some { code:=c98_0,ntmps:=18,nargs:=2,ps:=[6,12,7,1,0,4,5],res:=[.cell 4 42,.tmp 5] }:=by kernel_rfl
def c99_1:MCode:=.region [Cr (.box (Cp 0)),Yo (.bool false)] [Cs 2,Cs 1]
def c99_3:MCode:=.region [Yr 2 (Cp 1),Ym 63 [(Yq 0)],Yh .neq (Yq 0) (Ck 0),C0] [Cs 2,none,none,none]
def c99_2:MCode:=.seq c99_3 .ret
def c99_0:MCode:=.seq c99_1 c99_2
theorem fi99:funInfo Tryd.prog 99 = some { code:=c99_0,ntmps:=6,nargs:=1,ps:=[1,0,2],res:=[.tmp 2] }:=by kernel_rfl
def c111_1:MCode:=.region [Cr (.box (Cp 0)),Yo (.bool false)] [Cs 3,Cs 2]
def c111_3:MCode:=.region [Yb 1,Yr 2 (Cp 2),Cr (.call (Yq 1) [(Yq 0)]),Cr (.un .not (Yq 0)),C0] [Cs 3,none,none,none,none]
def c111_2:MCode:=.seq c111_3 .ret
def c111_0:MCode:=.seq c111_1 c111_2
theorem fi111:funInfo Tryd.prog 111 = some { code:=c111_0,ntmps:=8,nargs:=2,ps:=[2,1,0,3],res:=[.tmp 3] }:=by kernel_rfl
def c112_1:MCode:=.region [Yo (.bool false)] [Cs 3]
def c112_3:MCode:=.region [Yb 1,Cm 0,Cr (.call (Yq 1) [(Yq 0)]),Cr (.un .not (Yq 0)),C0] [Cs 3,none,none,none,none]
def c112_2:MCode:=.seq c112_3 .ret
def c112_0:MCode:=.seq c112_1 c112_2
theorem fi112:funInfo Tryd.prog 112 = some { code:=c112_0,ntmps:=8,nargs:=2,ps:=[0,1,3],res:=[.tmp 3] }:=by kernel_rfl
def c113_1:MCode:=.region [Yp 0] [Cs 4]
def c113_4:MCode:=.region [Cm 0,Yl (Yq 0),Yp 0] [Cs 8,Cs 7,none]
def c113_8:MCode:=.region [Yh .lss (Cp 8) (Cp 7)] [Cs 9]
def Zyu:MCode:=.cond (Cp 9) .skip (.exit 0)
def Zyy:MCode:=.region [Cm 8,C0] [Cs 5,none]
def Zz0:MCode:=.region [Cm 1,Cm 0,Cm 5,Ye 2 32 (Yq 1) (Yq 0),Yr 2 (Yq 0),Cr (.call (Yq 4) [(Yq 0)])] [Cs 16,none,none,none,none,none]
def Zz3:MCode:=.region [Cm 5,C0] [Cs 4,none]
def Zz2:MCode:=.seq Zz3 .ret
def Zz1:MCode:=.cond (Cp 16) Zz2 .skip
def Zyz:MCode:=.seq Zz0 Zz1
def Zyx:MCode:=.seq Zyy Zyz
def Zyw:MCode:=.block 1 Zyx
def Zz4:MCode:=.region [Yh .add (Cp 8) (Ck 1),C0] [Cs 8,none]
def Zyv:MCode:=.seq Zyw Zz4
def c113_9:MCode:=.seq Zyu Zyv
def c113_7:MCode:=.seq c113_8 c113_9
def c113_6:MCode:=.loop c113_7
def c113_5:MCode:=.block 0 c113_6
def c113_3:MCode:=.seq c113_4 c113_5
def Zz6:MCode:=.region [Cr (.move (.cst (.int .i64 (-1))))] [Cs 4]
def Zz5:MCode:=.seq Zz6 .ret
def c113_2:MCode:=.seq c113_3 Zz5
def c113_0:MCode:=.seq c113_1 c113_2
theorem fi113:funInfo Tryd.prog 113 = some { code:=c113_0,ntmps:=19,nargs:=2,ps:=[16,5,1,9,7,8,0,4],res:=[.tmp 4] }:=by kernel_rfl
end Go.Proofs
end
section
open Go Go.AM
namespace Go.Proofs
set_option maxRecDepth 100000
abbrev ND:=List UInt8 × List Int
def Z0l (ns:List ND) (V:List AVal):List AVal:=penc (List.zipWith (fun nd kv => (nd.1,kv)) ns V)
theorem Z6e {ns:List ND} {V:List AVal} (h:V.length = ns.length):(Z0l ns V).length = 2 * ns.length:=by
 unfold Z0l
 rw [Zc7]
 simp [h]
theorem Zjh {ns:List ND} {V:List AVal} (h:V.length = ns.length) (nd:ND) (kv:AVal):Z0l (ns ++ [nd]) (V ++ [kv]) = Z0l ns V ++ [.str nd.1,kv]:=by
 unfold Z0l
 rw [List.zipWith_append (by simp [h])]
 simp [penc]
theorem Z7h {ns:List ND} {V:List AVal} {i:Nat} {nd:ND} {kv:AVal} (h1:ns[i]? = some nd) (h2:V[i]? = some kv):(Z0l ns V)[i * 2]? = some (.str nd.1)∧(Z0l ns V)[i * 2 + 1]? = some kv:=by
 unfold Z0l
 exact Zia _ i (nd.1,kv) (by simp [List.getElem?_zipWith,h1,h2])
theorem Z16.snoc:∀ {K:List (List Int)} {V:List AVal} {m mk:Lets} {ks:List Int} {kv:AVal},Z16 K V m→RowR kv ks mk→Z16 (K ++ [ks]) (V ++ [kv]) (m ++ mk)
 | [],[],m,mk,ks,kv,h,hk => by
  have h:m = []:=h
  subst h
  exact ⟨mk,[],by simp,hk,rfl⟩
 | k :: K,v :: V,m,mk,ks,kv,⟨m1,m2,h1,h2,h3⟩,hk => ⟨m1,m2 ++ mk,by rw [← List.append_assoc]; exact h1.append (List.Perm.refl mk),h2,Z16.snoc h3 hk⟩
 | [],_ :: _,_,_,_,_,h,_ => h.elim
 | _ :: _,[],_,_,_,_,h,_ => h.elim
def Z3a (nv:AVal) (ns:List ND) (m:Lets):Prop:=(ns = []∧nv = .nilSlice∧m = []) ∨
 ∃ q V mr,ns ≠ []∧nv = .slice q 0 ns.length (.opn 2)∧m.Perm ((q,C (Z0l ns V)) :: mr)∧Z16 (ns.map Prod.snd) V mr
theorem Z3a.len {nv:AVal} {ns:List ND} {m:Lets} (h:Z3a nv ns m):Z1o nv = some ns.length:=by
 rcases h with ⟨rfl,rfl,_⟩ | ⟨q,V,mr,_,rfl,_⟩ <;> rfl
theorem Z3a.ntup {nv:AVal} {ns:List ND} {m:Lets} (h:Z3a nv ns m):∀ t,¬ nv = .tup t:=by
 rintro t rfl
 have:=h.len
 cases this
theorem Z3a.cells {nv:AVal} {ns:List ND} {m:Lets} (h:Z3a nv ns m):nv.cells = [nv]:=by
 rcases h with ⟨rfl,rfl,_⟩ | ⟨q,V,mr,_,rfl,_⟩ <;> rfl
theorem Zlm {s0 s:St} {W:Pos→Prop} {r pre mk mn:Lets} {nv kv:AVal} {ns:List ND} {nm:List UInt8} {ks:List Int} {Q:AVal→St→Prop} (h:Ctx s0 W (pre ++ (mk ++ (mn ++ r))) s) (hg:Z3a nv ns mn) (hk:RowR kv ks mk) (hs:ns.length ≤ 1000)
  (q:∀ nv' mn' s',Z3a nv' (ns ++ [(nm,ks)]) mn'→Ctx s0 W (pre ++ (mn' ++ r)) s'→Q nv' s'):appP (2,40) nv [.str nm,kv] 1 s Q:=by
 rcases hg with ⟨rfl,rfl,rfl⟩ | ⟨b,V,mr,hne,rfl,hp,hR⟩
 ·simp only [appP,Z4r]
  rw [if_neg (by decide)]
  refine ⟨by unfold Z0n; omega,?_⟩
  have:=h.alloc (C [.str nm,kv])
  refine q (.slice s.next 0 1 (.opn 2)) ((s.next,C [.str nm,kv]) :: mk) _ (.inr ⟨_,[kv],mk,by simp,rfl,List.Perm.refl _,⟨mk,[],by simp,hk,rfl⟩⟩) (this.perm ?_)
  simp only [List.nil_append,List.cons_append]
  exact List.perm_middle.symm
 ·have hV:V.length = ns.length:=by simpa using hR.len
  have hmem:(b,C (Z0l ns V)) ∈ pre ++ (mk ++ (mn ++ r)):=by
   have:(b,C (Z0l ns V)) ∈ mn:=hp.mem_iff.2 (by simp)
   simp [this]
  have hb:s.own b = some (Z0l ns V):=Z17 (h.own _ hmem)
  have hl:ns.length ≠ 0:=by simpa using hne
  have h1:Ctx s0 W ((b,C (Z0l ns V)) :: (pre ++ (mk ++ (mr ++ r)))) s:=by
   refine h.perm ?_
   have h2:(pre ++ (mk ++ (mn ++ r))).Perm (pre ++ (mk ++ (((b,C (Z0l ns V)) :: mr) ++ r))):=(List.Perm.refl pre).append ((List.Perm.refl mk).append (hp.append (List.Perm.refl r)))
   refine h2.trans ?_
   have h3:pre ++ (mk ++ (((b,C (Z0l ns V)) :: mr) ++ r)) = (pre ++ mk) ++ (b,C (Z0l ns V)) :: (mr ++ r):=by simp
   rw [h3]
   refine List.perm_middle.trans ?_
   simp
  have hlen:=Z6e hV
  have h2:=(h1.put0 .dead).tail.alloc (C (Z0l ns V ++ [.str nm,kv]))
  simp only [appP,Z4r]
  rw [if_neg (by decide)]
  refine ⟨trivial,?_⟩
  rw [hb]
  simp only [Z13]
  rw [if_neg hl,if_neg (by omega)]
  refine ⟨by omega,by unfold Z0n; omega,?_⟩
  have ht:List.take (ns.length * 2) (List.drop 0 (Z0l ns V)) = Z0l ns V:=by rw [List.drop_zero]; exact List.take_of_length_le (by omega)
  rw [ht]
  have hn:(s.put b .dead).next = s.next:=rfl
  refine q (.slice s.next 0 (ns.length + 1) (.opn 2)) ((s.next,C (Z0l (ns ++ [(nm,ks)]) (V ++ [kv]))) :: (mr ++ mk)) _ (.inr ⟨_,V ++ [kv],mr ++ mk,by simp,by simp,List.Perm.refl _,by rw [List.map_append]; exact hR.snoc hk⟩) ?_
  rw [Zjh hV]
  refine h2.perm ?_
  rw [hn]
  have h3:(mk ++ (mr ++ r)).Perm ((mr ++ mk) ++ r):=by
   rw [← List.append_assoc]
   exact List.perm_append_comm.append (List.Perm.refl r)
  refine (List.Perm.cons _ ((List.Perm.refl pre).append h3)).trans ?_
  simp only [List.cons_append]
  exact List.perm_middle.symm
def Z1i (s:St) (nv:AVal) (ns:List ND):Prop:=(Z1o nv = some 0∧ns = []) ∨
 ∃ b o c cs,nv = .slice b o ns.length c∧s.Old b∧s.cells b = some cs∧o + 2 * ns.length ≤ cs.length∧∀ (i:Nat) (nd:ND),ns[i]? = some nd→cs[o + i * 2]? = some (.str nd.1)∧∃ kv,cs[o + i * 2 + 1]? = some kv∧Z0h s kv nd.2
theorem Z1i.keep {s s':St} {nv:AVal} {ns:List ND} (h:Z1i s nv ns) (k:Keeps s s'):Z1i s' nv ns:=by
 rcases h with h | ⟨b,o,c,cs,h1,h2,h3,h4,h5⟩
 ·exact .inl h
 ·refine .inr ⟨b,o,c,cs,h1,k.old h2,(k.cells h2).trans h3,h4,fun i nd hi => ?_⟩
  obtain ⟨g1,kv,g2,g3⟩:=h5 i nd hi
  exact ⟨g1,kv,g2,g3.keep k⟩
theorem Z1i.len {s:St} {nv:AVal} {ns:List ND} (h:Z1i s nv ns):Z1o nv = some ns.length:=by
 rcases h with ⟨h1,rfl⟩ | ⟨b,o,c,cs,rfl,_⟩
 ·exact h1
 ·rfl
theorem Z1i.ntup {s:St} {nv:AVal} {ns:List ND} (h:Z1i s nv ns):∀ t,¬ nv = .tup t:=by
 rintro t rfl
 have:=h.len
 cases this
theorem Z1i.Z8h {s:St} {nv:AVal} {ns:List ND} (h:Z1i s nv ns):nv.cells = [nv]:=by
 have:=h.len
 cases nv <;> first | rfl | cases this
theorem Z0h.Z8h {s:St} {nv:AVal} {ns:List Int} (h:Z0h s nv ns):nv.cells = [nv]:=by
 have:=h.len
 cases nv <;> first | rfl | cases this
theorem Z3a.at {s0 s:St} {W:Pos→Prop} {nv:AVal} {ns:List ND} {m:Lets} (h:Z3a nv ns m) (hc:Ctx s0 W m s):Z1i s nv ns:=by
 rcases h with ⟨rfl,rfl,_⟩ | ⟨q,V,mr,hne,rfl,hp,hR⟩
 ·exact .inl ⟨rfl,rfl⟩
 ·have hc':=hc.perm hp
  have hV:V.length = ns.length:=by simpa using hR.len
  refine .inr ⟨q,0,.opn 2,_,rfl,hc'.oi 0 rfl,hc'.c 0 rfl,by rw [Z6e hV]; omega,fun i nd hi => ?_⟩
  obtain ⟨kv,g1,g2⟩:=hR.each (i:=i) (ks:=nd.2) (by rw [List.getElem?_map,hi]; rfl)
  obtain ⟨e1,e2⟩:=Z7h hi g1
  rw [Nat.zero_add]
  refine ⟨e1,kv,e2,?_⟩
  rcases g2 with ⟨e3,e4⟩ | ⟨q',c',e3,e4,e5⟩
  ·exact .inl ⟨e4,e3⟩
  ·rw [e4]
   exact Z4l hc'.wf (Z17 (hc'.own _ (List.mem_cons_of_mem _ e5))) c'
theorem NodesG.of {s:St} {p:Pos} {ns:List ND} (h:NodesG s p ns) (c:Cap):Z1i s (.slice p 0 ns.length c) ns:=by
 obtain ⟨cs,h1,h2,h3⟩:=h.ex
 exact .inr ⟨p,0,c,cs,rfl,h.old,h1,by omega,fun i nd hi => by
  obtain ⟨e1,kv,e2,e3⟩:=h3 i nd hi
  rw [Nat.zero_add]
  exact ⟨e1,kv,e2,e3⟩⟩
theorem Zig {cs:List AVal} {k:Nat} {a b:AVal} (h1:cs[k]? = some a) (h2:cs[k + 1]? = some b):(cs.drop k).take 2 = [a,b]:=by
 have l1:=(List.getElem?_eq_some_iff.1 h1).1
 have l2:=(List.getElem?_eq_some_iff.1 h2).1
 rw [List.drop_eq_getElem_cons l1,List.drop_eq_getElem_cons l2]
 rw [List.getElem?_eq_getElem l1] at h1
 rw [List.getElem?_eq_getElem l2] at h2
 simp [Option.some.inj h1,Option.some.inj h2]
theorem Zuu {s:St} {nv fv:AVal} {ns:List ND} {f:ND→Bool} {Q:AVal→St→Prop} (hv:Z1i s nv ns) (hmax:ns.length ≤ 2 ^ 62)
  (hf:∀ (s':St) (nd:ND) (kv:AVal) (R:AVal→St→Prop),Keeps s s'→nd ∈ ns→Z0h s' kv nd.2→(∀ s'',Keeps s' s''→R (.bool (f nd)) s'')→Z39 Tryd.prog fv [.agg [.str nd.1,kv]] s' R)
  (q:∀ (i:Int) s',Keeps s s'→(!decide (i < 0)) = ns.any f→Q (.int .i64 i) s'):Z0c Tryd.prog 115 [nv,fv] s Q:=by
 refine Z08 (Z0i (by decide)) fi115 rfl (by decide) rfl ?_
 refine Z00 ?_
 simp
 refine AM.wp_seq ?_
 refine Z00 ?_
 simp [hv.len,hv.ntup]
 refine AM.wp_block ?_
 refine AM.wp_loop (fun m t s' => ∃ i:Nat,i ≤ ns.length∧m = ns.length - i∧PT.get (posOf 0) t = some nv∧PT.get (posOf 1) t = some fv∧PT.get (posOf 7) t = some (.int .i64 ns.length)∧PT.get (posOf 8) t = some (.int .i64 i)∧Keeps s s'∧∀ j d,j < i→ns[j]? = some d→f d = false) ns.length ⟨0,by simp,by simp,by simp,by simp,by simp,by simp,Keeps.refl s,by simp⟩ ?_
 rintro m t s' ⟨i,hi,rfl,t0,t1,t7,t8,hk,hall⟩
 refine Z00 ?_
 simp [t7,t8]
 refine AM.wp_seq ?_
 refine AM.Z03 ?_
 by_cases hlt:i < ns.length
 ·obtain ⟨nd,hnd⟩:∃ nd,ns[i]? = some nd:=⟨_,List.getElem?_eq_getElem hlt⟩
  have hwr:IntKind.wrap .i64 ((i:Int) + 1) = ((i + 1:Nat):Int):=by rw [IntWalk.i64_in _ (by omega)]; omega
  rcases hv.keep hk with ⟨_,h0⟩ | ⟨b,o,c,cs,rfl,hb,hcs,hle,hel⟩
  ·subst h0
   simp at hlt
  obtain ⟨g1,kv,g2,g3⟩:=hel i nd hnd
  have hseg:=Zig g1 g2
  have hlen:o + i * 2 + 2 ≤ cs.length:=by have:=(List.getElem?_eq_some_iff.1 g2).1; omega
  simp [hlt]
  refine AM.wp_skip ?_
  simp
  refine AM.wp_seq ?_
  refine AM.wp_block ?_
  refine Z00 ?_
  simp [t8]
  refine Z00 ?_
  simp [t0,t1,hlt,hcs,hseg,hlen]
  refine hf s' nd kv _ hk (List.mem_of_getElem? hnd) g3 fun s2 hk2 => ?_
  simp
  refine AM.Z03 ?_
  cases hct:f nd with
  | true =>
   simp
   refine Z00 ?_
   simp
   refine AM.wp_ret ?_
   simp
   refine q _ _ (hk.trans hk2) ?_
   have h1:ns.any f = true:=List.any_eq_true.2 ⟨nd,List.mem_of_getElem? hnd,hct⟩
   have h2:¬ ((i:Int) < 0):=by omega
   rw [h1]
   simp [h2]
  | false =>
   simp
   refine AM.wp_skip ?_
   simp
   refine AM.wp_region ?_
   simp [t8,hwr]
   refine ⟨ns.length - (i + 1),by omega,i + 1,by omega,by omega,by simp [t0],by simp [t1],by simp [t7],by simp,hk.trans hk2,?_⟩
   intro j k l hj hd
   by_cases hji:j = i
   ·subst hji
    rw [hnd] at hd
    cases hd
    exact hct
   ·exact hall j (k,l) (by omega) hd
 ·simp [hlt]
  refine AM.wp_exit ?_
  simp
  refine Z00 ?_
  simp
  refine AM.wp_ret ?_
  simp
  refine q _ _ hk ?_
  have h1:ns.any f = false:=by
   rw [List.any_eq_false]
   intro d hd
   obtain ⟨j,hj,e⟩:=List.getElem_of_mem hd
   have:=hall j d (by omega) (by rw [List.getElem?_eq_getElem hj,e])
   simp [this]
  rw [h1]
  rfl
theorem Zn0 {s:St} {nv fv:AVal} {ns:List ND} {f:ND→Bool} {Q:AVal→St→Prop} (hv:Z1i s nv ns) (hmax:ns.length ≤ 2 ^ 62)
  (hf:∀ (s':St) (nd:ND) (kv:AVal) (R:AVal→St→Prop),Keeps s s'→nd ∈ ns→Z0h s' kv nd.2→(∀ s'',Keeps s' s''→R (.bool (f nd)) s'')→Z39 Tryd.prog fv [.agg [.str nd.1,kv]] s' R)
  (q:∀ s',Keeps s s'→Q (.bool (ns.any f)) s'):Z0c Tryd.prog 101 [nv,fv] s Q:=by
 refine Z08 (Z0i (by decide)) fi101 rfl (by decide) rfl ?_
 refine Z00 ?_
 simp
 refine Z00 ?_
 simp
 refine Z02 ?_
 refine Zuu hv hmax hf fun i s' hk e => ?_
 simp
 refine AM.wp_ret ?_
 simp
 rw [e]
 exact q _ hk
theorem Zvb (g:ND→Bool):∀ ns:List ND,(!ns.any fun x => !g x) = ns.all g
 | [] => rfl
 | k :: r => by
  have:=Zvb g r
  simp only [List.any_cons,List.all_cons,Bool.not_or,Bool.not_not]
  rw [this]
theorem Zfl {s:St} {nv:AVal} {ns:List ND} {f:Nat} {a c:List AVal} {g:ND→Bool} {Q:AVal→St→Prop} (hwf:s.Wf) (hv:Z1i s nv ns) (hmax:ns.length ≤ 2 ^ 62)
  (hf:∀ (s':St) (nd:ND) (kv:AVal) (R:AVal→St→Prop),Keeps s s'→nd ∈ ns→Z0h s' kv nd.2→(∀ s'',Keeps s' s''→R (.bool (g nd)) s'')→Z39 Tryd.prog (.fn f a c) [.agg [.str nd.1,kv]] s' R)
  (q:∀ s',Keeps s s'→Q (.bool (ns.all g)) s'):Z0c Tryd.prog 90 [nv,.fn f a c] s Q:=by
 refine Z08 (Z0i (by decide)) fi90 rfl (by decide) rfl ?_
 refine Z00 ?_
 simp
 have c1:=(Ctx.start (fun _ => False) hwf).alloc (C [.fn f a c])
 generalize s.alloc (.cells [.fn f a c] false) = s1 at c1 ⊢
 generalize s.next = B at c1 ⊢
 have k1:=c1.Z0g
 refine Z00 ?_
 simp [hv.ntup]
 refine Z02 ?_
 refine Zn0 (f:=fun x => !g x) (hv.keep k1) hmax (fun s' nd kv R hk hnd hkv hR => ?_) fun s' hk => ?_
 ·refine Z02 ?_
  have hkt:=hkv.ntup
  refine Z08 (Z0i (by decide)) fi111 rfl (by decide) rfl ?_
  refine Z00 ?_
  simp
  have c2:=((Ctx.start (fun _ => False) (hk.wf c1.wf))).alloc (C [.str nd.1,kv])
  have hB:s'.cells B = some [.fn f a c]:=(hk.cells (c1.oi 0 rfl)).trans (c1.c 0 rfl)
  have hBo:s'.Old B:=hk.old (c1.oi 0 rfl)
  generalize s'.alloc (.cells [.str nd.1,kv] false) = s2 at c2 ⊢
  generalize s'.next = B2 at c2 ⊢
  have k2:=c2.Z0g
  refine Z00 ?_
  simp [(k2.cells hBo).trans hB,c2.c 0 rfl]
  refine hf s2 nd kv _ ((k1.trans hk).trans k2) hnd (hkv.keep k2) fun s3 k3 => ?_
  simp
  refine AM.wp_ret ?_
  simp
  exact hR s3 (k2.trans k3)
 ·simp
  refine AM.wp_ret ?_
  simp
  have:=q _ (k1.trans hk)
  rw [← Zvb] at this
  exact this
theorem Zrz {s:St} {v:AVal} {ks:List Int} {f:Nat} {a c:List AVal} {g:Int→Bool} {Q:AVal→St→Prop} (hwf:s.Wf) (hv:Z0h s v ks) (hmax:ks.length ≤ 2 ^ 62)
  (hf:∀ (s':St) (x:Int) (R:AVal→St→Prop),Keeps s s'→x ∈ ks→(∀ s'',Keeps s' s''→R (.bool (g x)) s'')→Z39 Tryd.prog (.fn f a c) [.int .i64 x] s' R)
  (q:∀ s',Keeps s s'→Q (.bool (ks.all g)) s'):Z0c Tryd.prog 95 [v,.fn f a c] s Q:=by
 refine Z08 (Z0i (by decide)) fi95 rfl (by decide) rfl ?_
 refine Z00 ?_
 simp
 have c1:=(Ctx.start (fun _ => False) hwf).alloc (C [.fn f a c])
 generalize s.alloc (.cells [.fn f a c] false) = s1 at c1 ⊢
 generalize s.next = B at c1 ⊢
 have k1:=c1.Z0g
 refine Z00 ?_
 simp [hv.ntup]
 refine Z02 ?_
 refine Zcd (hv.keep k1) hmax (f:=fun x => !g x) (fun s' x R hk hx hR => ?_) fun s' hk => ?_
 ·refine Z02 ?_
  have hB:s'.cells B = some [.fn f a c]:=(hk.cells (c1.oi 0 rfl)).trans (c1.c 0 rfl)
  refine Z08 (Z0i (by decide)) fi112 rfl (by decide) rfl ?_
  refine Z00 ?_
  simp
  refine Z00 ?_
  simp [hB]
  refine hf s' x _ (k1.trans hk) hx fun s3 k3 => ?_
  simp
  refine AM.wp_ret ?_
  simp
  exact hR s3 k3
 ·simp
  refine AM.wp_ret ?_
  simp
  have:=q _ (k1.trans hk)
  rw [← Zk2] at this
  exact this
def Z15 (ns:List ND) (root:Int):Int :=
 if ns.length < 1 ∨ 60 < ns.length ∨ (ns.all fun nd => decide (nd.2.length ≤ 4)) = false then 2
 else if (ns.all fun nd => Z1s nd.1) = false then 4
 else if (decide (0 ≤ root) && decide (root < ns.length)) = false ∨ (ns.all fun nd => nd.2.all fun k => decide (0 ≤ k) && decide (k < ns.length)) = false then 1
 else 0
def Zbm (ns:List ND):Prop:=∀ nd ∈ ns,nd.1.length ≤ 2 ^ 62∧nd.2.length ≤ 2 ^ 62
theorem Zl2 {s:St} {B:Pos} {nv:AVal} {ns:List ND} {rt k:Int} {Q:AVal→St→Prop} (hB:s.cells B = some [nv,.int .i64 rt]) (hv:Z1o nv = some ns.length) (q:Q (.bool (decide (0 ≤ k) && decide (k < ns.length))) s):Z0c Tryd.prog 89 [.int .i64 k,.ptr B 0] s Q:=by
 have hnt:∀ t,¬ nv = .tup t:=by
  rintro t rfl
  cases hv
 refine Z08 (Z0i (by decide)) fi89 rfl (by decide) rfl ?_
 refine Z00 ?_
 simp
 refine Z00 ?_
 by_cases h0:k < 0
 ·have h0':¬ 0 ≤ k:=by omega
  simp [h0]
  refine AM.wp_ret ?_
  simp
  simpa [h0'] using q
 ·have h0':0 ≤ k:=by omega
  simp [h0,hB,hnt,hv]
  refine AM.wp_ret ?_
  simp
  simpa [h0'] using q
theorem Zhs {s:St} {nv:AVal} {ns:List ND} {rt:Int} {Q:AVal→St→Prop} (hwf:s.Wf) (hv:Z1i s nv ns) (hmax:ns.length ≤ 2 ^ 62) (hsm:Zbm ns)
  (q:∀ s',Keeps s s'→Q (.int .i64 (Z15 ns rt)) s'):Z0c Tryd.prog 63 [.agg [nv,.int .i64 rt]] s Q:=by
 have hnt:=hv.ntup
 have hln:=hv.len
 refine Z08 (Z0i (by decide)) fi63 rfl (by decide) rfl ?_
 refine Z00 ?_
 simp
 have c1:=(Ctx.start (fun _ => False) hwf).alloc (C [nv,.int .i64 rt])
 generalize s.alloc (.cells [nv,.int .i64 rt] false) = s1 at c1 ⊢
 generalize s.next = B1 at c1 ⊢
 refine Z00 ?_
 simp
 have c2:=(c1.alloc (C [.nilFn])).put 0 rfl (C [.fn 89 [] [.ptr B1 0]])
 simp only [List.set_cons_zero] at c2
 generalize (s1.alloc (.cells [.nilFn] false)).put s1.next (.cells [.fn 89 [] [.ptr B1 0]] false) = s2 at c2 ⊢
 generalize s1.next = B3 at c2 ⊢
 have k2:=c2.Z0g
 refine AM.wp_seq ?_
 refine AM.wp_block ?_
 refine Z00 ?_
 by_cases hA:ns.length < 1
 ·have hF:Z15 ns rt = 2:=by unfold Z15; rw [if_pos (.inl hA)]
  rw [hF] at q
  have hA':(ns.length:Int) < 1:=by omega
  have hA0:ns.length = 0:=by omega
  simp [c2.c 1 rfl,hnt,hln,hA0]
  refine AM.Z03 ?_
  simp
  refine Z00 ?_
  simp
  refine AM.wp_ret ?_
  simp
  exact q s2 k2
 have hA':¬ (ns.length:Int) < 1:=by omega
 by_cases hB:60 < ns.length
 ·have hF:Z15 ns rt = 2:=by unfold Z15; rw [if_pos (.inr (.inl hB))]
  rw [hF] at q
  have hB':(60:Int) < ns.length:=by omega
  simp [c2.c 1 rfl,hnt,hln,hA',hB']
  refine AM.Z03 ?_
  simp
  refine Z00 ?_
  simp
  refine AM.wp_ret ?_
  simp
  exact q s2 k2
 have hB':¬ (60:Int) < ns.length:=by omega
 simp [c2.c 1 rfl,hnt,hln,hA',hB']
 refine Z02 ?_
 refine Zfl (g:=fun nd => decide (nd.2.length ≤ 4)) c2.wf (hv.keep k2) hmax (fun s' nd kv R hk hnd hkv hR => ?_) fun s3 k3 => ?_
 ·refine Z02 ?_
  have hkt:=hkv.ntup
  refine Z08 (Z0i (by decide)) fi91 rfl (by decide) rfl ?_
  refine Z00 ?_
  simp
  have d:=(Ctx.start (fun _ => False) (hk.wf c2.wf)).alloc (C [.str nd.1,kv])
  generalize s'.alloc (.cells [.str nd.1,kv] false) = sA at d ⊢
  generalize s'.next = BA at d ⊢
  refine Z00 ?_
  simp [d.c 0 rfl,hkt,hkv.len]
  refine AM.wp_ret ?_
  simp
  have e:(!decide ((4:Int) < (nd.2.length:Int))) = decide (nd.2.length ≤ 4):=by
   by_cases h:nd.2.length ≤ 4
   ·have h':¬ (4:Int) < nd.2.length:=by omega
    simp [h,h']
   ·have h':(4:Int) < nd.2.length:=by omega
    simp [h,h']
  have:=hR sA d.Z0g
  rw [← e] at this
  simpa using this
 have c3:=c2.keeps k3
 have K3:=k2.trans k3
 cases h4:ns.all (fun nd => decide (nd.2.length ≤ 4)) with
 | false =>
  have hF:Z15 ns rt = 2:=by unfold Z15; rw [if_pos (.inr (.inr h4))]
  rw [hF] at q
  simp
  refine AM.Z03 ?_
  simp
  refine Z00 ?_
  simp
  refine AM.wp_ret ?_
  simp
  exact q s3 K3
 | true =>
 simp
 refine AM.Z03 ?_
 simp
 refine Z00 ?_
 simp [c3.c 1 rfl,hnt]
 refine Z02 ?_
 refine Zfl (g:=fun nd => Z1s nd.1) c3.wf (hv.keep K3) hmax (fun s' nd kv R hk hnd hkv hR => ?_) fun s4 k4 => ?_
 ·refine Z02 ?_
  have hkt:=hkv.ntup
  refine Z08 (Z0i (by decide)) fi92 rfl (by decide) rfl ?_
  refine Z00 ?_
  simp
  have d:=(Ctx.start (fun _ => False) (hk.wf c3.wf)).alloc (C [.str nd.1,kv])
  generalize s'.alloc (.cells [.str nd.1,kv] false) = sA at d ⊢
  generalize s'.next = BA at d ⊢
  refine Z00 ?_
  simp [d.c 0 rfl]
  refine Z02 ?_
  refine Zsi (hsm nd hnd).1 fun sB kB => ?_
  simp
  refine AM.wp_ret ?_
  simp
  exact hR sB (d.Z0g.trans kB)
 have c4:=c3.keeps k4
 have K4:=K3.trans k4
 cases hN:ns.all (fun nd => Z1s nd.1) with
 | false =>
  have hF:Z15 ns rt = 4:=by unfold Z15; rw [if_neg (fun h => h.elim hA (fun h => h.elim hB (fun h => by rw [h4] at h; cases h))),if_pos hN]
  rw [hF] at q
  simp
  refine AM.Z03 ?_
  simp
  refine Z00 ?_
  simp
  refine AM.wp_ret ?_
  simp
  exact q s4 K4
 | true =>
 simp
 refine AM.Z03 ?_
 simp
 refine Z00 ?_
 simp [c4.c 0 rfl,c4.c 1 rfl]
 refine Z02 ?_
 refine Zl2 (c4.c 1 rfl) hln ?_
 cases hr:(decide (0 ≤ rt) && decide (rt < ns.length)) with
 | false =>
  have hF:Z15 ns rt = 1:=by unfold Z15; rw [if_neg (fun h => h.elim hA (fun h => h.elim hB (fun h => by rw [h4] at h; cases h))),if_neg (by simp [hN]),if_pos (.inl hr)]
  rw [hF] at q
  simp
  refine AM.Z03 ?_
  simp
  refine Z00 ?_
  simp
  refine AM.wp_ret ?_
  simp
  exact q s4 K4
 | true =>
 simp [c4.c 0 rfl,c4.c 1 rfl,hnt]
 refine Z02 ?_
 refine Zfl (g:=fun nd => nd.2.all fun k => decide (0 ≤ k) && decide (k < ns.length)) c4.wf (hv.keep K4) hmax (fun s' nd kv R hk hnd hkv hR => ?_) fun s5 k5 => ?_
 ·refine Z02 ?_
  have hkt:=hkv.ntup
  refine Z08 (Z0i (by decide)) fi94 rfl (by decide) rfl ?_
  refine Z00 ?_
  simp
  have d:=(c4.keeps hk).alloc (C [.str nd.1,kv])
  have d':=(Ctx.start (fun _ => False) (hk.wf c4.wf)).alloc (C [.str nd.1,kv])
  generalize s'.alloc (.cells [.str nd.1,kv] false) = sA at d d' ⊢
  generalize s'.next = BA at d d' ⊢
  have kA:=d'.Z0g
  refine Z00 ?_
  simp [d.c 0 rfl,d.c 1 rfl,hkt]
  refine Z02 ?_
  refine Zrz (g:=fun k => decide (0 ≤ k) && decide (k < ns.length)) d.wf (hkv.keep kA) (hsm nd hnd).2 (fun s6 x R6 k6 hx hR6 => ?_) fun s6 k6 => ?_
  ·refine Z02 ?_
   exact Zl2 ((d.keeps k6).c 2 rfl) hln (hR6 s6 (Keeps.refl _))
  ·simp
   refine AM.wp_ret ?_
   simp
   exact hR s6 (kA.trans k6)
 have K5:=K4.trans k5
 cases hK:ns.all (fun nd => nd.2.all fun k => decide (0 ≤ k) && decide (k < ns.length)) with
 | false =>
  have hF:Z15 ns rt = 1:=by unfold Z15; rw [if_neg (fun h => h.elim hA (fun h => h.elim hB (fun h => by rw [h4] at h; cases h))),if_neg (by simp [hN]),if_pos (.inr hK)]
  rw [hF] at q
  simp
  refine AM.Z03 ?_
  simp
  refine Z00 ?_
  simp
  refine AM.wp_ret ?_
  simp
  exact q s5 K5
 | true =>
  have hF:Z15 ns rt = 0:=by unfold Z15; rw [if_neg (fun h => h.elim hA (fun h => h.elim hB (fun h => by rw [h4] at h; cases h))),if_neg (by simp [hN]),if_neg (by simp only [hr,hK]; simp)]
  rw [hF] at q
  simp
  refine AM.Z03 ?_
  simp
  refine AM.wp_skip ?_
  simp
  refine Z00 ?_
  simp
  refine AM.wp_ret ?_
  simp
  exact q s5 K5
abbrev TV:=List ND × Int
def Z6w (s:St) (v:AVal) (ts:List TV):Prop:=(Z1o v = some 0∧ts = []) ∨
 ∃ b o c cs,v = .slice b o ts.length c∧s.Old b∧s.cells b = some cs∧o + 2 * ts.length ≤ cs.length∧∀ (i:Nat) (t:TV),ts[i]? = some t→∃ nv,cs[o + i * 2]? = some nv∧cs[o + i * 2 + 1]? = some (.int .i64 t.2)∧Z1i s nv t.1
theorem Z6w.keep {s s':St} {v:AVal} {ts:List TV} (h:Z6w s v ts) (k:Keeps s s'):Z6w s' v ts:=by
 rcases h with h | ⟨b,o,c,cs,h1,h2,h3,h4,h5⟩
 ·exact .inl h
 ·refine .inr ⟨b,o,c,cs,h1,k.old h2,(k.cells h2).trans h3,h4,fun i t hi => ?_⟩
  obtain ⟨nv,g1,g2,g3⟩:=h5 i t hi
  exact ⟨nv,g1,g2,g3.keep k⟩
theorem Z6w.len {s:St} {v:AVal} {ts:List TV} (h:Z6w s v ts):Z1o v = some ts.length:=by
 rcases h with ⟨h1,rfl⟩ | ⟨b,o,c,cs,rfl,_⟩
 ·exact h1
 ·rfl
theorem Z6w.ntup {s:St} {v:AVal} {ts:List TV} (h:Z6w s v ts):∀ t,¬ v = .tup t:=by
 rintro t rfl
 have:=h.len
 cases this
def Zqc (ts:List TV):Prop:=∀ t ∈ ts,t.1.length ≤ 2 ^ 62∧Zbm t.1
def Z8i (ts:List TV):Int:=match ts.find? (fun t => decide (Z15 t.1 t.2 ≠ 0)) with
 | some t => Z15 t.1 t.2
 | none => 0
theorem Zuv {s:St} {v:AVal} {ts:List TV} {Q:AVal→St→Prop} (hwf:s.Wf) (hv:Z6w s v ts) (hsm:Zqc ts) (hmax:ts.length ≤ 1000)
  (q:∀ (i:Int) s',Keeps s s'→((i = -1∧ts.find? (fun t => decide (Z15 t.1 t.2 ≠ 0)) = none) ∨ ∃ (j:Nat) (t:TV),i = j∧ts[j]? = some t∧ts.find? (fun t => decide (Z15 t.1 t.2 ≠ 0)) = some t)→Q (.int .i64 i) s'):Z0c Tryd.prog 113 [v,.fn 99 [] []] s Q:=by
 refine Z08 (Z0i (by decide)) fi113 rfl (by decide) rfl ?_
 refine Z00 ?_
 simp
 refine AM.wp_seq ?_
 refine Z00 ?_
 simp [hv.len,hv.ntup]
 refine AM.wp_block ?_
 refine AM.wp_loop (fun m t s' => ∃ i:Nat,i ≤ ts.length∧m = ts.length - i∧PT.get (posOf 0) t = some v∧PT.get (posOf 1) t = some (.fn 99 [] [])∧PT.get (posOf 7) t = some (.int .i64 ts.length)∧PT.get (posOf 8) t = some (.int .i64 i)∧Keeps s s'∧(ts.take i).find? (fun t => decide (Z15 t.1 t.2 ≠ 0)) = none) ts.length ⟨0,by simp,by simp,by simp,by simp,by simp,by simp,Keeps.refl s,by simp⟩ ?_
 rintro m t s' ⟨i,hi,rfl,t0,t1,t7,t8,hk,hall⟩
 refine Z00 ?_
 simp [t7,t8]
 refine AM.wp_seq ?_
 refine AM.Z03 ?_
 by_cases hlt:i < ts.length
 ·obtain ⟨tt,htt⟩:∃ tt,ts[i]? = some tt:=⟨_,List.getElem?_eq_getElem hlt⟩
  have hwr:IntKind.wrap .i64 ((i:Int) + 1) = ((i + 1:Nat):Int):=by rw [IntWalk.i64_in _ (by omega)]; omega
  rcases hv.keep hk with ⟨_,h0⟩ | ⟨b,o,c,cs,rfl,hb,hcs,hle,hel⟩
  ·subst h0
   simp at hlt
  obtain ⟨nv,g1,g2,g3⟩:=hel i tt htt
  have hseg:=Zig g1 g2
  have hlen:o + i * 2 + 2 ≤ cs.length:=by have:=(List.getElem?_eq_some_iff.1 g2).1; omega
  have hnt:=g3.ntup
  obtain ⟨hs1,hs2⟩:=hsm tt (List.mem_of_getElem? htt)
  simp [hlt]
  refine AM.wp_skip ?_
  simp
  refine AM.wp_seq ?_
  refine AM.wp_block ?_
  refine Z00 ?_
  simp [t8]
  refine Z00 ?_
  simp [t0,t1,hlt,hcs,hseg,hlen]
  refine Z02 ?_
  refine Z08 (Z0i (by decide)) fi99 rfl (by decide) rfl ?_
  refine Z00 ?_
  simp
  have d:=(Ctx.start (fun _ => False) (hk.wf hwf)).alloc (C [nv,.int .i64 tt.2])
  generalize s'.alloc (.cells [nv,.int .i64 tt.2] false) = sA at d ⊢
  generalize s'.next = BA at d ⊢
  have kA:=d.Z0g
  refine Z00 ?_
  simp [d.c 0 rfl]
  refine Z02 ?_
  refine Zhs (rt:=tt.2) d.wf (g3.keep kA) hs1 hs2 fun sB kB => ?_
  have hkB:=(hk.trans kA).trans kB
  simp
  refine AM.wp_ret ?_
  simp
  refine AM.Z03 ?_
  by_cases hct:Z15 tt.1 tt.2 = 0
  ·simp [hct]
   refine AM.wp_skip ?_
   simp
   refine AM.wp_region ?_
   simp [t8,hwr]
   refine ⟨ts.length - (i + 1),by omega,i + 1,by omega,by omega,by simp [t0],by simp [t1],by simp [t7],by simp,hkB,?_⟩
   have:(ts.take (i + 1)).find? (fun t => decide (Z15 t.1 t.2 ≠ 0)) = none:=by
    rw [List.take_add_one,htt,List.find?_append,hall]
    simp [hct]
   simpa using this
  ·simp [hct]
   refine Z00 ?_
   simp
   refine AM.wp_ret ?_
   simp
   refine q _ _ hkB (.inr ⟨i,tt,rfl,htt,?_⟩)
   rw [← List.take_append_drop i ts,List.find?_append,hall,List.drop_eq_getElem_cons hlt]
   have e:ts[i] = tt:=by rw [List.getElem?_eq_getElem hlt] at htt; exact Option.some.inj htt
   rw [e]
   simp [hct]
 ·simp [hlt]
  refine AM.wp_exit ?_
  simp
  refine Z00 ?_
  simp
  refine AM.wp_ret ?_
  simp
  have:i = ts.length:=by omega
  subst this
  rw [List.take_length] at hall
  exact q _ _ hk (.inl ⟨rfl,hall⟩)
theorem Zrm {s:St} {v:AVal} {ts:List TV} {Q:AVal→St→Prop} (hwf:s.Wf) (hv:Z6w s v ts) (hsm:Zqc ts) (hmax:ts.length ≤ 1000)
  (q:∀ s',Keeps s s'→Q (.int .i64 (Z8i ts)) s'):Z0c Tryd.prog 68 [v] s Q:=by
 have hvt:=hv.ntup
 refine Z08 (Z0i (by decide)) fi68 rfl (by decide) rfl ?_
 refine Z00 ?_
 simp
 refine Z00 ?_
 simp [hvt]
 refine Z02 ?_
 refine Z08 (Z0i (by decide)) fi98 rfl (by decide) rfl ?_
 refine Z00 ?_
 simp
 have d1:=(Ctx.start (fun _ => False) hwf).alloc (C [.nilSlice,.int .i64 0])
 generalize s.alloc (.cells [.nilSlice,.int .i64 0] false) = s1 at d1 ⊢
 generalize s.next = B4 at d1 ⊢
 refine Z00 ?_
 simp
 have d2:=d1.alloc (C [.nilSlice,.int .i64 0])
 generalize s1.alloc (.cells [.nilSlice,.int .i64 0] false) = s2 at d2 ⊢
 generalize s1.next = B6 at d2 ⊢
 have k2:=d2.Z0g
 refine Z00 ?_
 simp [hvt]
 refine Z02 ?_
 refine Zuv d2.wf (hv.keep k2) hsm hmax fun i s3 k3 hi => ?_
 have d3:=d2.keeps k3
 have K3:=k2.trans k3
 simp
 refine AM.wp_seq ?_
 refine Z00 ?_
 rcases hi with ⟨rfl,hn⟩ | ⟨j,tt,rfl,htt,hf⟩
 ·have hF:Z8i ts = 0:=by unfold Z8i; rw [hn]
  rw [hF] at q
  simp
  refine AM.Z03 ?_
  simp
  refine Z00 ?_
  simp [d3.c 0 rfl,d3.o 1 rfl]
  have d4:=d3.put 1 rfl (C [.nilSlice,.int .i64 0])
  simp only [List.set_cons_succ,List.set_cons_zero] at d4
  generalize s3.put B4 (.cells [.nilSlice,.int .i64 0] false) = s4 at d4 ⊢
  refine AM.wp_ret ?_
  simp [d4.c 1 rfl]
  have d5:=(d4.alloc (C [.nilSlice,.int .i64 0])).put 0 rfl (C [.nilSlice,.int .i64 0])
  simp only [List.set_cons_zero] at d5
  generalize (s4.alloc (.cells [.nilSlice,.int .i64 0] false)).put s4.next (.cells [.nilSlice,.int .i64 0] false) = s5 at d5 ⊢
  refine AM.wp_seq ?_
  refine Z00 ?_
  simp
  refine AM.Z03 ?_
  simp
  refine Z00 ?_
  simp
  refine AM.wp_ret ?_
  simp
  exact q s5 d5.Z0g
 ·have hF:Z8i ts = Z15 tt.1 tt.2:=by unfold Z8i; rw [hf]
  rw [hF] at q
  have hneg:¬ ((j:Int) < 0):=by omega
  have hlt:=(List.getElem?_eq_some_iff.1 htt).1
  rcases hv.keep K3 with ⟨_,h0⟩ | ⟨b,o,c,cs,rfl,hb,hcs,hle,hel⟩
  ·subst h0
   simp at hlt
  obtain ⟨nv,g1,g2,g3⟩:=hel j tt htt
  have hseg:=Zig g1 g2
  have hlen:o + j * 2 + 2 ≤ cs.length:=by have:=(List.getElem?_eq_some_iff.1 g2).1; omega
  have hnt:=g3.ntup
  have hnc:=g3.Z8h
  obtain ⟨hs1,hs2⟩:=hsm tt (List.mem_of_getElem? htt)
  simp [hneg]
  refine AM.Z03 ?_
  simp
  refine AM.wp_skip ?_
  simp
  refine Z00 ?_
  simp [hlt,hcs,hseg,hlen,d3.o 1 rfl]
  have d4:=d3.put 1 rfl (C [nv,.int .i64 tt.2])
  simp only [List.set_cons_succ,List.set_cons_zero] at d4
  generalize s3.put B4 (.cells [nv,.int .i64 tt.2] false) = s4 at d4 ⊢
  refine AM.wp_ret ?_
  simp [d4.c 1 rfl]
  have d5:=(d4.alloc (C [.nilSlice,.int .i64 0])).put 0 rfl (C [nv,.int .i64 tt.2])
  simp only [List.set_cons_zero] at d5
  generalize (s4.alloc (.cells [.nilSlice,.int .i64 0] false)).put s4.next (.cells [nv,.int .i64 tt.2] false) = s5 at d5 ⊢
  generalize s4.next = B3 at d5 ⊢
  refine AM.wp_seq ?_
  refine Z00 ?_
  simp
  refine AM.Z03 ?_
  simp
  refine AM.wp_skip ?_
  simp
  refine Z00 ?_
  simp [d5.c 0 rfl]
  refine Z02 ?_
  have K5:=d5.Z0g
  have hN5:Z1i s5 nv tt.1:=by
   rcases hv.keep K5 with ⟨_,h0⟩ | ⟨b',o',c',cs',e,hb',hcs',hle',hel'⟩
   ·subst h0
    simp at hlt
   cases e
   obtain ⟨nv',e1,e2,e3⟩:=hel' j tt htt
   have:cs' = cs:=by
    have h1:s5.cells b = s.cells b:=by
     rcases hv with ⟨_,h0⟩ | ⟨b2,o2,c2,cs2,e',hb2,_⟩
     ·subst h0
      simp at hlt
     cases e'
     exact K5.cells hb2
    have h2:s3.cells b = s.cells b:=by
     rcases hv with ⟨_,h0⟩ | ⟨b2,o2,c2,cs2,e',hb2,_⟩
     ·subst h0
      simp at hlt
     cases e'
     exact K3.cells hb2
    rw [hcs'] at h1
    rw [hcs] at h2
    rw [← h2] at h1
    exact Option.some.inj h1
   subst this
   rw [g1] at e1
   cases e1
   exact e3
  refine Zhs (rt:=tt.2) d5.wf hN5 hs1 hs2 fun s6 k6 => ?_
  simp
  refine AM.wp_ret ?_
  simp
  exact q s6 (K5.trans k6)
def addN (v:List Nat) (k:Nat):List Nat:=if k ∈ v then v else v ++ [k]
def Z0d (v:List Nat) (ks:List Nat):List Nat:=ks.foldl addN v
def runB (K:Nat→List Nat):Nat→List Nat→Nat→List Nat
 | 0,v,_ => v
 | f + 1,v,i => match v[i]? with
  | none => v
  | some a => runB K f (Z0d v (K a)) (i + 1)
def bfsF (K:Nat→List Nat) (n:Nat) (roots:List Nat):List Nat:=roots.foldl (fun v r => runB K (n + 1 - v.length) (addN v r) v.length) []
theorem Zwc {v:List Nat} {k a:Nat} (h:a ∈ v):a ∈ addN v k:=by
 unfold addN
 split
 ·exact h
 ·exact List.mem_append_left _ h
theorem Zmp (v:List Nat) (k:Nat):∃ w,addN v k = v ++ w:=by
 unfold addN
 split
 ·exact ⟨[],by simp⟩
 ·exact ⟨[k],rfl⟩
theorem Z6h:∀ (ks v:List Nat),∃ w,Z0d v ks = v ++ w
 | [],v => ⟨[],by simp [Z0d]⟩
 | k :: ks,v => by
  obtain ⟨w,h⟩:=Zmp v k
  obtain ⟨w',h'⟩:=Z6h ks (addN v k)
  exact ⟨w ++ w',by show Z0d (addN v k) ks = _; rw [h',h,List.append_assoc]⟩
theorem Zh2 {v ks:List Nat} {j k:Nat} (h:ks[j]? = some k):Z0d v (ks.take (j + 1)) = addN (Z0d v (ks.take j)) k:=by
 unfold Z0d
 rw [List.take_add_one,h,List.foldl_append]
 rfl
theorem Z91 {v:List Nat} {k:Nat} (h:v.Nodup):(addN v k).Nodup:=by
 unfold addN
 split
 ·exact h
 ·rename_i hk
  rw [List.nodup_append]
  exact ⟨h,by simp,by rintro a ha b hb rfl; simp at hb; exact hk (hb ▸ ha)⟩
theorem Zdc {v:List Nat} {k n:Nat} (h:∀ a ∈ v,a < n) (hk:k < n):∀ a ∈ addN v k,a < n:=by
 unfold addN
 split
 ·exact h
 ·intro a ha
  rcases List.mem_append.1 ha with ha | ha
  ·exact h a ha
  ·simp at ha
   omega
theorem Zaf {n:Nat}:∀ {ks v:List Nat},v.Nodup→(∀ a ∈ v,a < n)→(∀ k ∈ ks,k < n)→(Z0d v ks).Nodup∧∀ a ∈ Z0d v ks,a < n
 | [],v,h1,h2,_ => ⟨h1,h2⟩
 | k :: ks,v,h1,h2,h3 => Zaf (ks:=ks) (v:=addN v k) (Z91 h1) (Zdc h2 (h3 k (by simp))) (fun x hx => h3 x (by simp [hx]))
theorem Z2w:∀ {n:Nat} {v:List Nat},v.Nodup→(∀ a ∈ v,a < n)→v.length ≤ n
 | 0,v,_,h => by
  cases v with
  | nil => simp
  | cons a v => exact (Nat.not_lt_zero a (h a (by simp))).elim
 | n + 1,v,h1,h2 => by
  have ih:=Z2w (n:=n) (v:=v.erase n) (h1.erase n) (fun a ha => by
   have h3:=h2 a (List.mem_of_mem_erase ha)
   have h4:a ≠ n:=fun e => by
    subst e
    exact (List.Nodup.mem_erase_iff h1).1 ha |>.1 rfl
   omega)
  rw [List.length_erase] at ih
  split at ih <;> omega
def metL (n:Nat) (v:List Nat):List AVal:=(List.range n).map fun i => .bool (decide (i ∈ v))
theorem Z60 {n a:Nat} (v:List Nat) (h:a < n):(metL n v)[a]? = some (.bool (decide (a ∈ v))):=by
 unfold metL
 rw [List.getElem?_map,List.getElem?_range h]
 rfl
theorem Z3p (n:Nat) (v:List Nat):(metL n v).length = n:=by simp [metL]
theorem Zeh {n a:Nat} {v:List Nat} (h:a < n) (hv:a ∉ v):lay (metL n v) a [.bool true] = metL n (addN v a):=by
 have e:addN v a = v ++ [a]:=by unfold addN; rw [if_neg hv]
 refine List.ext_getElem? fun j => ?_
 unfold lay
 by_cases hj:j < n
 ·rw [Z60 _ hj]
  rcases Nat.lt_trichotomy j a with hl | rfl | hg
  ·rw [List.append_assoc,List.getElem?_append_left (by simp [Z3p]; omega),List.getElem?_take_of_lt hl,Z60 _ hj,e]
   have:¬ j = a:=by omega
   simp [this]
  ·rw [List.append_assoc,List.getElem?_append_right (by simp [Z3p]; omega)]
   simp [Z3p,e,Nat.min_eq_left (Nat.le_of_lt h)]
  ·rw [List.getElem?_append_right (by simp [Z3p]; omega),List.getElem?_drop]
   have e2:a + [AVal.bool true].length + (j - (List.take a (metL n v) ++ [AVal.bool true]).length) = j:=by simp [Z3p]; omega
   rw [e2,Z60 _ hj,e]
   have:¬ j = a:=by omega
   simp [this]
 ·rw [List.getElem?_eq_none (by simp [Z3p]; omega),List.getElem?_eq_none (by rw [Z3p]; omega)]
def Z78 (qv:AVal) (g:List Int) (m:Lets):Prop:=(g = []∧qv = .nilSlice∧m = []) ∨ ∃ b pre,qv = .slice b pre.length g.length (.opn 1)∧m = [(b,C (ints (pre ++ g)))]
theorem Z78.len {qv:AVal} {g:List Int} {m:Lets} (h:Z78 qv g m):Z1o qv = some g.length:=by
 rcases h with ⟨rfl,rfl,_⟩ | ⟨q,_,rfl,_⟩ <;> rfl
theorem Z78.ntup {qv:AVal} {g:List Int} {m:Lets} (h:Z78 qv g m):∀ t,¬ qv = .tup t:=by
 rintro t rfl
 have:=h.len
 cases this
theorem Z78.cells {qv:AVal} {g:List Int} {m:Lets} (h:Z78 qv g m):qv.cells = [qv]:=by
 rcases h with ⟨rfl,rfl,_⟩ | ⟨q,_,rfl,_⟩ <;> rfl
theorem Zvl {s0 s:St} {W:Pos→Prop} {r pre mg:Lets} {qv:AVal} {g:List Int} {x:Int} {Q:AVal→St→Prop} (h:Ctx s0 W (pre ++ (mg ++ r)) s) (hg:Z78 qv g mg) (hs:g.length ≤ 1000)
  (q:∀ qv' mg' s',Z78 qv' (g ++ [x]) mg'→Ctx s0 W (pre ++ (mg' ++ r)) s'→Q qv' s'):appP (1,8) qv [.int .i64 x] 1 s Q:=by
 rcases hg with ⟨rfl,rfl,rfl⟩ | ⟨b,p0,rfl,rfl⟩
 ·simp only [appP,Z4r]
  rw [if_neg (by decide)]
  refine ⟨by unfold Z0n; omega,?_⟩
  have:=h.alloc (C [.int .i64 x])
  refine q (.slice s.next 0 1 (.opn 1)) [(s.next,C (ints ([] ++ [x])))] _ (.inr ⟨_,[],rfl,rfl⟩) (this.perm ?_)
  simp only [List.nil_append]
  exact List.perm_middle.symm
 ·have hb:s.own b = some (ints (p0 ++ g)):=Z17 (h.own (b,C (ints (p0 ++ g))) (by simp))
  have h1:Ctx s0 W ((b,C (ints (p0 ++ g))) :: (pre ++ r)) s:=h.perm (by simp)
  have hn:(s.put b .dead).next = s.next:=rfl
  simp only [appP,Z4r]
  rw [if_neg (by decide)]
  refine ⟨trivial,?_⟩
  rw [hb]
  simp only [Z13]
  by_cases hl:g.length = 0
  ·rw [if_pos hl]
   have hg0:g = []:=List.length_eq_zero_iff.1 hl
   subst hg0
   refine ⟨by unfold Z0n; omega,?_⟩
   have h2:=(h1.put0 .dead).tail.alloc (C [.int .i64 x])
   refine q (.slice s.next 0 1 (.opn 1)) [(s.next,C (ints ([] ++ ([] ++ [x]))))] _ (.inr ⟨_,[],rfl,rfl⟩) (h2.perm ?_)
   rw [hn]
   exact List.perm_middle.symm
  ·have h2:=(h1.put0 .dead).tail.alloc (C (ints g ++ [.int .i64 x]))
   rw [if_neg hl,if_neg (by simp)]
   refine ⟨by simp,by unfold Z0n; omega,?_⟩
   have ht:List.take (g.length * 1) (List.drop p0.length (ints (p0 ++ g))) = ints g:=by
    unfold ints
    rw [List.map_append,List.drop_left' (by simp)]
    exact List.take_of_length_le (by simp)
   rw [ht]
   have hi:ints g ++ [AVal.int .i64 x] = ints ([] ++ (g ++ [x])):=by simp [ints]
   rw [hi] at h2 ⊢
   refine q (.slice s.next 0 (g.length + 1) (.opn 1)) [(s.next,C (ints ([] ++ (g ++ [x]))))] _ (.inr ⟨_,[],by simp,rfl⟩) (h2.perm ?_)
   rw [hn]
   exact List.perm_middle.symm
abbrev nats (v:List Nat):List Int:=v.map fun (a:Nat) => (a:Int)
theorem meet_wp {s0 s:St} {W:Pos→Prop} {n a:Nat} {v g:List Nat} {qv fv:AVal} {B7 B6 Bm B4:Pos} {pre mq m base:Lets} {J:List Nat→Lets→Prop} {Q:AVal→St→Prop}
  (hc:Ctx s0 W ((B7,C [qv]) :: (B6,C [.slice Bm 0 n (.lim n)]) :: (Bm,C (metL n v)) :: (B4,C [fv]) :: (pre ++ (mq ++ (m ++ base)))) s) (hq:Z78 qv (nats g) mq) (hg:g.length ≤ 1000) (hJ:J v m) (ha:a < n) (hft:∀ t,¬ fv = .tup t)
  (hmeet:∀ (x m:Lets) (s':St) (R:AVal→St→Prop),J v m→a ∉ v→Ctx s0 W (x ++ (m ++ base)) s'→(∀ u m' s'',J (v ++ [a]) m'→Ctx s0 W (x ++ (m' ++ base)) s''→R u s'')→Z39 Tryd.prog fv [.int .i64 a] s' R)
  (q:∀ qv' mq' m' s',Z78 qv' (nats (if a ∈ v then g else g ++ [a])) mq'→J (addN v a) m'→Ctx s0 W ((B7,C [qv']) :: (B6,C [.slice Bm 0 n (.lim n)]) :: (Bm,C (metL n (addN v a))) :: (B4,C [fv]) :: (pre ++ (mq' ++ (m' ++ base)))) s'→Q (.tup []) s') :
  Z0c Tryd.prog 97 [.int .i64 a,.ptr B6 0,.ptr B7 0,.ptr B4 0] s Q:=by
 have hget:=Z60 v ha
 refine Z08 (Z0i (by decide)) fi97 rfl (by decide) rfl ?_
 refine Z00 ?_
 simp [hc.c 1 rfl,hc.c 2 rfl,ha,hget]
 refine AM.Z03 ?_
 by_cases hv:a ∈ v
 ·simp [hv]
  refine AM.wp_skip ?_
  simp
  refine q qv mq m s (by rw [if_pos hv]; exact hq) ?_ ?_
  ·unfold addN
   rw [if_pos hv]
   exact hJ
  ·unfold addN
   rw [if_pos hv]
   exact hc
 ·have hset:=Zeh ha hv
  have hle:a + 1 ≤ (metL n v).length:=by rw [Z3p]; omega
  simp [lay] at hset
  simp [hv]
  refine Z00 ?_
  simp [hc.c 1 rfl,hc.c 2 rfl,hc.o 2 rfl,ha,hle]
  rw [hset]
  have c1:=hc.put 2 rfl (C (metL n (addN v a)))
  simp only [List.set_cons_succ,List.set_cons_zero] at c1
  generalize s.put Bm (.cells (metL n (addN v a)) false) = s1 at c1 ⊢
  refine Z00 ?_
  simp [c1.c 0 rfl,hq.ntup,hq.cells,Z1p,srcP]
  have c2:=c1.alloc (C [.int .i64 a])
  generalize s1.alloc (.cells [.int .i64 a] false) = s2 at c2 ⊢
  generalize s1.next = T at c2 ⊢
  refine Zvl (pre:=(T,C [.int .i64 a]) :: (B7,C [qv]) :: (B6,C [.slice Bm 0 n (.lim n)]) :: (Bm,C (metL n (addN v a))) :: (B4,C [fv]) :: pre) (r:=m ++ base) (by simpa using c2) hq (by simpa using hg) fun qv' mq' s3 hq' c3 => ?_
  simp only [List.cons_append] at c3
  simp [hq'.ntup,hq'.cells,c3.o 1 rfl]
  have c4:=(c3.put 1 rfl (C [qv'])).tail
  simp only [List.set_cons_succ,List.set_cons_zero] at c4
  generalize s3.put B7 (.cells [qv'] false) = s4 at c4 ⊢
  refine AM.wp_region ?_
  simp [c4.c 3 rfl,hft]
  refine hmeet ((B7,C [qv']) :: (B6,C [.slice Bm 0 n (.lim n)]) :: (Bm,C (metL n (addN v a))) :: (B4,C [fv]) :: (pre ++ mq')) m s4 _ hJ hv (by simpa using c4) fun u m' s5 hJ' c5 => ?_
  simp
  refine q qv' mq' m' s5 (by rw [if_neg hv]; simpa using hq') ?_ (by simpa using c5)
  unfold addN
  rw [if_neg hv]
  exact hJ'
def kidN (cs:List CV) (a:Nat):List Nat:=(Z0y cs a).map Int.toNat
theorem Zm0 {K:Nat→List Nat} {f:Nat} {v:List Nat} {i:Nat} (h:v.length ≤ i):runB K f v i = v:=by
 cases f with
 | zero => rfl
 | succ f =>
  unfold runB
  rw [List.getElem?_eq_none h]
theorem Zm1 {K:Nat→List Nat} {n:Nat} {v:List Nat} {i a:Nat} (hi:i ≤ n) (h:v[i]? = some a):runB K (n + 1 - i) v i = runB K (n + 1 - (i + 1)) (Z0d v (K a)) (i + 1):=by
 have e:n + 1 - i = (n + 1 - (i + 1)) + 1:=by omega
 rw [e]
 show (match v[i]? with | none => v | some a => runB K (n + 1 - (i + 1)) (Z0d v (K a)) (i + 1)) = _
 rw [h]
section
variable {s0 s:St} {W:Pos→Prop} {p:Pos} {cs:List CV} {V:List AVal} {base m0:Lets} {rv:AVal} {roots:List Nat} {J:List Nat→Lets→Prop} {f:Nat} {fx fy:List AVal}
structure Leans (s0:St) (W:Pos→Prop) (p:Pos) (cs:List CV) (V:List AVal) (base:Lets) (rv:AVal) (roots:List Nat) (J:List Nat→Lets→Prop) (fv:AVal):Prop where
 len:V.length = cs.length
 max:cs.length ≤ 400
 read:∀ (x m:Lets) s',Ctx s0 W (x ++ (m ++ base)) s'→(∃ v,J v m)→s'.Old p∧s'.cells p = some (encs (rcs cs V))∧Z0h s' rv (nats roots)∧∀ (i:Nat) (d:CV),cs[i]? = some d→∃ kv,V[i]? = some kv∧Z0h s' kv d.kids
 roots_ok:∀ a ∈ roots,a < cs.length
 rlen:roots.length ≤ 400
 kids:∀ a,a < cs.length→(Z0y cs a).length ≤ 4∧∀ k ∈ Z0y cs a,0 ≤ k∧k < cs.length
 meet:∀ (a:Nat) (v:List Nat) (x m:Lets) (s':St) (R:AVal→St→Prop),J v m→a ∉ v→a < cs.length→v.Nodup→(∀ y ∈ v,y < cs.length)→Ctx s0 W (x ++ (m ++ base)) s'→(∀ u m' s'',J (v ++ [a]) m'→Ctx s0 W (x ++ (m' ++ base)) s''→R u s'')→Z39 Tryd.prog fv [.int .i64 a] s' R
def BrdI (s0:St) (W:Pos→Prop) (p:Pos) (n:Nat) (base:Lets) (J:List Nat→Lets→Prop) (fv:AVal) (B7 B6 Bm B4 B3:Pos) (v g:List Nat) (s:St):Prop :=
 ∃ qv mq m,Z78 qv (nats g) mq∧J v m∧v.Nodup∧(∀ a ∈ v,a < n)∧Ctx s0 W ((B7,C [qv]) :: (B6,C [.slice Bm 0 n (.lim n)]) :: (Bm,C (metL n v)) :: (B4,C [fv]) :: (B3,C [.slice p 0 n (.lim n)]) :: (mq ++ (m ++ base))) s
theorem Zmv {B7 B6 Bm B4 B3:Pos} {v g:List Nat} {a:Nat} {Q:AVal→St→Prop} (hL:Leans s0 W p cs V base rv roots J (.fn f fx fy)) (h:BrdI s0 W p cs.length base J (.fn f fx fy) B7 B6 Bm B4 B3 v g s) (hg:g.length ≤ 1000) (ha:a < cs.length)
  (q:∀ s',BrdI s0 W p cs.length base J (.fn f fx fy) B7 B6 Bm B4 B3 (addN v a) (if a ∈ v then g else g ++ [a]) s'→Q (.tup []) s'):Z39 Tryd.prog (.fn 97 [] [.ptr B6 0,.ptr B7 0,.ptr B4 0]) [.int .i64 a] s Q:=by
 obtain ⟨qv,mq,m,h1,h2,h3,h4,h5⟩:=h
 refine Z02 ?_
 refine meet_wp (pre:=[(B3,C [.slice p 0 cs.length (.lim cs.length)])]) (by simpa using h5) h1 hg h2 ha (by simp) (fun x m s' R hJ hv hc hR => hL.meet a v x m s' R hJ hv ha h3 h4 hc hR) fun qv' mq' m' s' g1 g2 g3 => ?_
 exact q s' ⟨qv',mq',m',g1,g2,Z91 h3,Zdc h4 ha,by simpa using g3⟩
theorem Zwh {fr:FI} {t0:PT AVal} {B7 B6 Bm B4 B3:Pos} {v:List Nat} {i a:Nat} {Q:Ex→PT AVal→St→Prop} (hL:Leans s0 W p cs V base rv roots J (.fn f fx fy)) (h:BrdI s0 W p cs.length base J (.fn f fx fy) B7 B6 Bm B4 B3 v (v.drop i) s) (hi:v[i]? = some a)
  (t3:PT.get (posOf 3) t0 = some (.ptr B3 0)) (t7:PT.get (posOf 7) t0 = some (.ptr B7 0)) (t8:PT.get (posOf 8) t0 = some (.fn 97 [] [.ptr B6 0,.ptr B7 0,.ptr B4 0]))
  (q:∀ t s',Fr [12,32,33,34,35,36,37,38,39,40,41,42] t0 t→BrdI s0 W p cs.length base J (.fn f fx fy) B7 B6 Bm B4 B3 (Z0d v (kidN cs a)) ((Z0d v (kidN cs a)).drop i) s'→Q .normal t s'):wp Tryd.prog Zu2 fr t0 s Q:=by
 have hil:i < v.length:=(List.getElem?_eq_some_iff.1 hi).1
 obtain ⟨qv,mq,m,h1,h2,h3,h4,h5⟩:=h
 have ha:a < cs.length:=h4 a (List.mem_of_getElem? hi)
 have hcd:cs[a]? = some cs[a]:=List.getElem?_eq_getElem ha
 obtain ⟨r1,r2,_,r4⟩:=hL.read ((B7,C [qv]) :: (B6,C [.slice Bm 0 cs.length (.lim cs.length)]) :: (Bm,C (metL cs.length v)) :: (B4,C [.fn f fx fy]) :: (B3,C [.slice p 0 cs.length (.lim cs.length)]) :: mq) m s (by simpa using h5) ⟨v,h2⟩
 obtain ⟨kv,k1,k2⟩:=r4 a _ hcd
 have hko:=Z1l hcd
 obtain ⟨l4,lin⟩:=hL.kids a ha
 rw [hko] at l4 lin
 have hg2:(encs (rcs cs V))[a * 4 + 2]? = some kv:=Z35 _ a 2 _ (Z1u hcd k1) (by decide)
 have hdr:v.drop i = a :: v.drop (i + 1):=by
  rw [List.drop_eq_getElem_cons hil]
  congr 1
  have:=List.getElem?_eq_getElem hil
  rw [hi] at this
  exact (Option.some.inj this).symm
 have hq0:∃ b pre,qv = .slice b pre.length (v.drop i).length (.opn 1)∧mq = [(b,C (ints (pre ++ nats (v.drop i))))]:=by
  rcases h1 with ⟨e,_⟩ | ⟨b,pre,e1,e2⟩
  ·rw [hdr] at e
   simp at e
  ·exact ⟨b,pre,by simpa using e1,e2⟩
 obtain ⟨bq,pre,rfl,rfl⟩:=hq0
 have hqc:s.cells bq = some (ints (pre ++ nats (v.drop i))):=h5.c 5 rfl
 have hqh:(ints (pre ++ nats (v.drop i)))[pre.length]? = some (.int .i64 a):=by
  unfold ints
  rw [List.getElem?_map,List.getElem?_append_right (Nat.le_refl _),Nat.sub_self,hdr]
  rfl
 have hlen1:0 < (v.drop i).length:=by rw [hdr]; simp
 have hlen0:(0:Int) < ((v.drop i).length:Int):=by omega
 clear hdr
 generalize hgd:v.drop i = g0 at h5 hqc hqh hlen0 hlen1
 obtain ⟨qcs,hqcs⟩:∃ x,x = ints (pre ++ nats g0):=⟨_,rfl⟩
 rw [← hqcs] at hqc hqh
 refine Z00 ?_
 have hkt:=k2.ntup
 have hkl:=k2.len
 simp [t3,t7,h5.c 4 rfl,h5.c 0 rfl,hqc,hqh,hlen0,hlen1,r2,hg2,ha,hkt,hkl]
 refine AM.wp_block ?_
 refine AM.wp_loop (fun k t s' => ∃ (j:Nat),j ≤ (Z0y cs a).length∧k = (Z0y cs a).length - j∧Fr [12,32,33,34,35,36,37,38,39,40,41,42] t0 t∧PT.get (posOf 39) t = some kv∧PT.get (posOf 40) t = some (.int .i64 (Z0y cs a).length)∧PT.get (posOf 41) t = some (.int .i64 j) ∧
   BrdI s0 W p cs.length base J (.fn f fx fy) B7 B6 Bm B4 B3 (Z0d v ((kidN cs a).take j)) ((Z0d v ((kidN cs a).take j)).drop i) s') (Z0y cs a).length
  ⟨0,by simp,by simp,?_,by simp,by simp [hko],by simp,by
   have:BrdI s0 W p cs.length base J (.fn f fx fy) B7 B6 Bm B4 B3 v g0 s:=⟨_,_,m,.inr ⟨bq,pre,by simp,rfl⟩,h2,h3,h4,h5⟩
   rw [← hgd] at this
   simpa [Z0d] using this⟩ ?_
 ·intro y hy
  simp at hy
  simp [hy]
 rintro k t s' ⟨j,hj,rfl,hF,t39,t40,t41,hI⟩
 refine Z00 ?_
 simp [t40,t41]
 refine AM.wp_seq ?_
 refine AM.Z03 ?_
 by_cases hlt:j < (Z0y cs a).length
 ·have hwr:IntKind.wrap .i64 ((j:Int) + 1) = ((j + 1:Nat):Int):=by rw [hko] at hlt; rw [IntWalk.i64_in _ (by omega)]; omega
  obtain ⟨kk,hkk⟩:∃ kk,(Z0y cs a)[j]? = some kk:=⟨_,List.getElem?_eq_getElem hlt⟩
  have hkm:=List.mem_of_getElem? hkk
  obtain ⟨kk0,kk1⟩:=lin kk (hko ▸ hkm)
  obtain ⟨kn,rfl⟩:∃ kn:Nat,kk = (kn:Int):=⟨kk.toNat,by omega⟩
  have hkN:(kidN cs a)[j]? = some kn:=by unfold kidN; rw [List.getElem?_map,hkk]; rfl
  have u8:=(hF 8 (by simp)).trans t8
  obtain ⟨qv2,mq2,m2,e1,e2,e3,e4,e5⟩:=hI
  obtain ⟨_,_,_,x4⟩:=hL.read ((B7,C [qv2]) :: (B6,C [.slice Bm 0 cs.length (.lim cs.length)]) :: (Bm,C (metL cs.length (Z0d v ((kidN cs a).take j)))) :: (B4,C [.fn f fx fy]) :: (B3,C [.slice p 0 cs.length (.lim cs.length)]) :: mq2) m2 s' (by simpa using e5) ⟨_,e2⟩
  obtain ⟨kv2,y1,y2⟩:=x4 a _ hcd
  rw [k1] at y1
  cases y1
  rw [← hko] at y2
  rcases y2 with ⟨_,h0⟩ | ⟨b,o,c,cells,rfl,hb,hcs,hle,hel⟩
  ·rw [h0] at hlt
   simp at hlt
  have hgk:=hel j _ hkk
  simp [hlt]
  refine AM.wp_skip ?_
  simp
  refine AM.wp_seq ?_
  refine AM.wp_block ?_
  refine Z00 ?_
  simp [t39,t41,hlt,hcs,hgk]
  refine AM.wp_region ?_
  simp [u8]
  have hglen:((Z0d v ((kidN cs a).take j)).drop i).length ≤ 1000:=by
   have:=Z2w e3 e4
   have hm:=hL.max
   rw [List.length_drop]
   omega
  refine Zmv (a:=kn) hL ⟨qv2,mq2,m2,e1,e2,e3,e4,e5⟩ hglen (by omega) fun s3 hI3 => ?_
  have hnx:=Zh2 (v:=v) hkN
  have hil2:i ≤ (Z0d v ((kidN cs a).take j)).length:=by
   obtain ⟨w,hw⟩:=Z6h ((kidN cs a).take j) v
   rw [hw,List.length_append]
   omega
  have hdn:(addN (Z0d v ((kidN cs a).take j)) kn).drop i = if kn ∈ Z0d v ((kidN cs a).take j) then (Z0d v ((kidN cs a).take j)).drop i else (Z0d v ((kidN cs a).take j)).drop i ++ [kn]:=by
   unfold addN
   split
   ·rfl
   ·rw [List.drop_append_of_le_length hil2]
  rw [← hdn,← hnx] at hI3
  simp
  refine AM.wp_region ?_
  simp [t41,hwr]
  refine ⟨(Z0y cs a).length - (j + 1),by omega,j + 1,by omega,by omega,?_,by simp [t39],by simp [t40],by simp,hI3⟩
  intro y hy
  simp at hy
  simp [hy]
  exact hF y (by simp [hy])
 ·simp [hlt]
  refine AM.wp_exit ?_
  simp
  have hje:j = (Z0y cs a).length:=by omega
  subst hje
  have htk:(kidN cs a).take (Z0y cs a).length = kidN cs a:=List.take_of_length_le (by simp [kidN])
  rw [htk] at hI
  refine q _ s' ?_ hI
  intro y hy
  simp at hy
  simp [hy]
  exact hF y (by simp [hy])
end
section
variable {s0 s:St} {W:Pos→Prop} {p:Pos} {cs:List CV} {V:List AVal} {base m0:Lets} {rv:AVal} {roots:List Nat} {J:List Nat→Lets→Prop} {f:Nat} {fx fy:List AVal}
theorem Zid (K:Nat→List Nat):∀ (f:Nat) (v:List Nat) (i:Nat),∃ w,runB K f v i = v ++ w
 | 0,v,i => ⟨[],by simp [runB]⟩
 | f + 1,v,i => by
  unfold runB
  cases v[i]? with
  | none => exact ⟨[],by simp⟩
  | some a =>
   obtain ⟨w,h⟩:=Z6h (K a) v
   obtain ⟨w',h'⟩:=Zid K f (Z0d v (K a)) (i + 1)
   refine ⟨w ++ w',?_⟩
   show runB K f (Z0d v (K a)) (i + 1) = _
   rw [h',h,List.append_assoc]
theorem Zy2 {fr:FI} {t0:PT AVal} {B7 B6 Bm B4 B3:Pos} {v:List Nat} {i:Nat} {Q:Ex→PT AVal→St→Prop} (hL:Leans s0 W p cs V base rv roots J (.fn f fx fy)) (h:BrdI s0 W p cs.length base J (.fn f fx fy) B7 B6 Bm B4 B3 v (v.drop i) s) (hi:i ≤ cs.length)
  (t3:PT.get (posOf 3) t0 = some (.ptr B3 0)) (t7:PT.get (posOf 7) t0 = some (.ptr B7 0)) (t8:PT.get (posOf 8) t0 = some (.fn 97 [] [.ptr B6 0,.ptr B7 0,.ptr B4 0]))
  (q:∀ t s',Fr [12,29,32,33,34,35,36,37,38,39,40,41,42] t0 t→BrdI s0 W p cs.length base J (.fn f fx fy) B7 B6 Bm B4 B3 (runB (kidN cs) (cs.length + 1 - i) v i) [] s'→Q .normal t s'):wp Tryd.prog Zu1 fr t0 s Q:=by
 refine AM.wp_block ?_
 refine AM.wp_loop (fun k t s' => ∃ (j:Nat) (u:List Nat),j ≤ cs.length∧k = cs.length + 1 - j∧Fr [12,29,32,33,34,35,36,37,38,39,40,41,42] t0 t∧runB (kidN cs) (cs.length + 1 - i) v i = runB (kidN cs) (cs.length + 1 - j) u j ∧
   BrdI s0 W p cs.length base J (.fn f fx fy) B7 B6 Bm B4 B3 u (u.drop j) s') (cs.length + 1 - i) ⟨i,v,hi,rfl,fun y _ => rfl,rfl,h⟩ ?_
 rintro k t s' ⟨j,u,hj,rfl,hF,hrun,hI⟩
 have u3:=(hF 3 (by simp)).trans t3
 have u7:=(hF 7 (by simp)).trans t7
 have u8:=(hF 8 (by simp)).trans t8
 obtain ⟨qv,mq,m,e1,e2,e3,e4,e5⟩:=id hI
 have hul:=Z2w e3 e4
 refine AM.wp_seq ?_
 refine Z00 ?_
 have hql:=e1.len
 have hqt:=e1.ntup
 rw [List.length_map,List.length_drop] at hql
 by_cases hlt:j < u.length
 ·have hpos:0 < u.length - j:=by omega
  obtain ⟨a,ha⟩:∃ a,u[j]? = some a:=⟨_,List.getElem?_eq_getElem hlt⟩
  simp [u7,e5.c 0 rfl,hql,hqt,hpos]
  refine AM.Z03 ?_
  simp
  refine AM.wp_skip ?_
  simp
  refine AM.wp_seq ?_
  refine AM.wp_block ?_
  refine Zwh hL hI ha (by simp [u3]) (by simp [u7]) (by simp [u8]) fun t2 s2 hF2 hI2 => ?_
  obtain ⟨qv2,mq2,m2,g1,g2,g3,g4,g5⟩:=hI2
  have w7:PT.get (posOf 7) t2 = some (.ptr B7 0):=(hF2 7 (by simp)).trans (by simp [u7])
  obtain ⟨w,hw⟩:=Z6h (kidN cs a) u
  have hjl:j < (Z0d u (kidN cs a)).length:=by rw [hw,List.length_append]; omega
  have hdr:(Z0d u (kidN cs a)).drop j = (Z0d u (kidN cs a))[j] :: (Z0d u (kidN cs a)).drop (j + 1):=List.drop_eq_getElem_cons hjl
  have hq0:∃ b pre,qv2 = .slice b pre.length ((Z0d u (kidN cs a)).length - j) (.opn 1)∧mq2 = [(b,C (ints (pre ++ nats ((Z0d u (kidN cs a)).drop j))))]:=by
   rcases g1 with ⟨e,_⟩ | ⟨b,pre,e1,e2⟩
   ·have:=congrArg List.length e
    rw [List.length_map,List.length_drop] at this
    simp at this
    omega
   ·exact ⟨b,pre,by rw [List.length_map,List.length_drop] at e1; exact e1,e2⟩
  obtain ⟨b,pre,rfl,rfl⟩:=hq0
  simp
  refine AM.wp_region ?_
  simp [w7,g5.c 0 rfl]
  refine Zo3 (a:=1) (b:=(Z0d u (kidN cs a)).length - j) (p:=b) (off:=pre.length) (n:=(Z0d u (kidN cs a)).length - j) (by simp) ⟨.i64,by simp⟩ rfl (by omega) (Nat.le_refl _) ?_
  simp [w7,g5.o 0 rfl]
  have c6:=g5.put 0 rfl (C [.slice b (pre.length + 1) ((Z0d u (kidN cs a)).length - j - 1) (.opn 1)])
  simp only [List.set_cons_zero] at c6
  refine ⟨cs.length + 1 - (j + 1),by omega,j + 1,by omega,rfl,?_,Z0d u (kidN cs a),?_,?_⟩
  ·intro y hy
   simp at hy
   rw [hF2 y (by simp [hy])]
   simp [hy]
   exact hF y (by simp [hy])
  ·rw [hrun,Zm1 hj ha]
  ·refine ⟨.slice b (pre.length + 1) ((Z0d u (kidN cs a)).length - j - 1) (.opn 1),_,m2,.inr ⟨b,pre ++ [(((Z0d u (kidN cs a))[j]:Nat):Int)],?_,rfl⟩,g2,g3,g4,?_⟩
   ·rw [List.length_map,List.length_drop,List.length_append,List.length_singleton]
    rfl
   ·have e:pre ++ [(((Z0d u (kidN cs a))[j]:Nat):Int)] ++ nats ((Z0d u (kidN cs a)).drop (j + 1)) = pre ++ nats ((Z0d u (kidN cs a)).drop j):=by
     rw [hdr,List.append_assoc]
     rfl
    rw [e]
    exact c6
 ·have hz:u.length - j = 0:=by omega
  have hd0:u.drop j = []:=List.drop_eq_nil_of_le (by omega)
  simp [u7,e5.c 0 rfl,hql,hqt,hz]
  refine AM.Z03 ?_
  simp
  refine AM.wp_exit ?_
  simp
  rw [hrun,Zm0 (by omega)] at q
  rw [hd0] at hI
  refine q _ s' ?_ hI
  intro y hy
  simp at hy
  simp [hy]
  exact hF y (by simp [hy])
theorem Ztk {K:Nat→List Nat} {n:Nat} (hK:∀ a,a < n→∀ k ∈ K a,k < n):∀ (f:Nat) (v:List Nat) (i:Nat),v.Nodup→(∀ a ∈ v,a < n)→(runB K f v i).Nodup∧∀ a ∈ runB K f v i,a < n
 | 0,v,i,h1,h2 => ⟨h1,h2⟩
 | f + 1,v,i,h1,h2 => by
  unfold runB
  cases hv:v[i]? with
  | none => exact ⟨h1,h2⟩
  | some a =>
   obtain ⟨h3,h4⟩:=Zaf h1 h2 (hK a (h2 a (List.mem_of_getElem? hv)))
   exact Ztk hK f _ _ h3 h4
theorem Zkz {Q:AVal→St→Prop} (hL:Leans s0 W p cs V base rv roots J (.fn f fx fy)) (hc:Ctx s0 W (m0 ++ base) s) (hJ:J [] m0) (hrt:∀ t,¬ rv = .tup t)
  (q:∀ (x m:Lets) s',J (bfsF (kidN cs) cs.length roots) m→Ctx s0 W (x ++ (m ++ base)) s'→Q (.tup []) s'):Z0c Tryd.prog 66 [.agg [.slice p 0 cs.length (.lim cs.length)],.fn f fx fy,rv] s Q:=by
 have hmax:=hL.max
 refine Z08 (Z0i (by decide)) fi66 rfl (by decide) rfl ?_
 refine Z00 ?_
 simp
 have c1:=hc.alloc (C [.slice p 0 cs.length (.lim cs.length)])
 generalize s.alloc (.cells [.slice p 0 cs.length (.lim cs.length)] false) = s1 at c1 ⊢
 generalize s.next = B3 at c1 ⊢
 have c2:=c1.alloc (C [.fn f fx fy])
 generalize s1.alloc (.cells [.fn f fx fy] false) = s2 at c2 ⊢
 generalize s1.next = B4 at c2 ⊢
 have hz1:cs.length ≤ Z0n:=by unfold Z0n; omega
 refine Z00 ?_
 simp [c2.c 1 rfl,hz1]
 have c3:=c2.alloc (C (List.replicate cs.length (.bool false)))
 generalize s2.alloc (.cells (List.replicate cs.length (.bool false)) false) = s3 at c3 ⊢
 generalize s2.next = Bm at c3 ⊢
 have c4:=(c3.alloc (C [.nilSlice])).put 0 rfl (C [.slice Bm 0 cs.length (.lim cs.length)])
 simp only [List.set_cons_zero] at c4
 generalize (s3.alloc (.cells [.nilSlice] false)).put s3.next (.cells [.slice Bm 0 cs.length (.lim cs.length)] false) = s4 at c4 ⊢
 generalize s3.next = B6 at c4 ⊢
 refine Z00 ?_
 simp
 have c5:=c4.alloc (C [.nilSlice])
 generalize s4.alloc (.cells [.nilSlice] false) = s5 at c5 ⊢
 generalize s4.next = B7 at c5 ⊢
 have hm0:List.replicate cs.length (AVal.bool false) = metL cs.length []:=by
  refine List.ext_getElem? fun j => ?_
  by_cases hj:j < cs.length
  ·rw [Z60 _ hj,List.getElem?_replicate,if_pos hj]
   simp
  ·rw [List.getElem?_eq_none (by simp; omega),List.getElem?_eq_none (by rw [Z3p]; omega)]
 rw [hm0] at c5
 have hI0:BrdI s0 W p cs.length base J (.fn f fx fy) B7 B6 Bm B4 B3 [] [] s5:=by
  refine ⟨.nilSlice,[],m0,.inl ⟨rfl,rfl,rfl⟩,hJ,by simp,by simp,c5.perm ?_⟩
  refine List.Perm.cons _ (List.Perm.cons _ (List.Perm.cons _ ?_))
  exact List.Perm.refl _
 refine Z00 ?_
 simp
 obtain ⟨_,_,hrv,_⟩:=hL.read [(B7,C [.nilSlice]),(B6,C [.slice Bm 0 cs.length (.lim cs.length)]),(Bm,C (metL cs.length [])),(B4,C [.fn f fx fy]),(B3,C [.slice p 0 cs.length (.lim cs.length)])] m0 s5 (by simpa using c5) ⟨_,hJ⟩
 have hrl:=hrv.len
 have hrlen:=hL.rlen
 rw [List.length_map] at hrl
 refine Z00 ?_
 simp [hrt,hrl]
 refine AM.wp_block ?_
 refine AM.wp_loop (fun k t s' => ∃ (j:Nat),j ≤ roots.length∧k = roots.length - j∧PT.get (posOf 3) t = some (.ptr B3 0)∧PT.get (posOf 7) t = some (.ptr B7 0)∧PT.get (posOf 8) t = some (.fn 97 [] [.ptr B6 0,.ptr B7 0,.ptr B4 0])∧PT.get (posOf 18) t = some rv∧PT.get (posOf 19) t = some (.int .i64 roots.length)∧PT.get (posOf 20) t = some (.int .i64 j) ∧
   BrdI s0 W p cs.length base J (.fn f fx fy) B7 B6 Bm B4 B3 (bfsF (kidN cs) cs.length (roots.take j)) [] s') roots.length
  ⟨0,by simp,by simp,by simp,by simp,by simp,by simp,by simp,by simp,by simpa [bfsF] using hI0⟩ ?_
 rintro k t s' ⟨j,hj,rfl,t3,t7,t8,t18,t19,t20,hI⟩
 refine Z00 ?_
 simp [t19,t20]
 refine AM.wp_seq ?_
 refine AM.Z03 ?_
 by_cases hlt:j < roots.length
 ·have hwr:IntKind.wrap .i64 ((j:Int) + 1) = ((j + 1:Nat):Int):=by rw [IntWalk.i64_in _ (by omega)]; omega
  obtain ⟨a,ha⟩:∃ a,roots[j]? = some a:=⟨_,List.getElem?_eq_getElem hlt⟩
  have han:=hL.roots_ok a (List.mem_of_getElem? ha)
  obtain ⟨qv,mq,m,e1,e2,e3,e4,e5⟩:=id hI
  obtain ⟨_,_,hrv',_⟩:=hL.read ((B7,C [qv]) :: (B6,C [.slice Bm 0 cs.length (.lim cs.length)]) :: (Bm,C (metL cs.length (bfsF (kidN cs) cs.length (roots.take j)))) :: (B4,C [.fn f fx fy]) :: (B3,C [.slice p 0 cs.length (.lim cs.length)]) :: mq) m s' (by simpa using e5) ⟨_,e2⟩
  rcases hrv' with ⟨_,h0⟩ | ⟨b,o,c,cells,rfl,hb,hcs,hle,hel⟩
  ·have:roots = []:=by simpa using h0
   rw [this] at hlt
   simp at hlt
  have hgk:=hel j (a:Int) (by rw [List.getElem?_map,ha]; rfl)
  rw [List.length_map] at t18
  simp [hlt]
  refine AM.wp_skip ?_
  simp
  refine AM.wp_seq ?_
  refine AM.wp_block ?_
  refine Z00 ?_
  simp [t18,t20,hlt,hcs,hgk]
  refine Z00 ?_
  simp [t8]
  refine Zmv (a:=a) hL hI (by simp) han fun s2 hI2 => ?_
  have hul:=Z2w e3 e4
  have hdn:(addN (bfsF (kidN cs) cs.length (roots.take j)) a).drop (bfsF (kidN cs) cs.length (roots.take j)).length = if a ∈ bfsF (kidN cs) cs.length (roots.take j) then [] else [] ++ [a]:=by
   unfold addN
   split
   ·exact List.drop_eq_nil_of_le (Nat.le_refl _)
   ·rw [List.drop_left]
    rfl
  rw [← hdn] at hI2
  simp
  refine Zy2 hL hI2 hul (by simp [t3]) (by simp [t7]) (by simp [t8]) fun t3' s3 hF3 hI3 => ?_
  have hfin:runB (kidN cs) (cs.length + 1 - (bfsF (kidN cs) cs.length (roots.take j)).length) (addN (bfsF (kidN cs) cs.length (roots.take j)) a) (bfsF (kidN cs) cs.length (roots.take j)).length = bfsF (kidN cs) cs.length (roots.take (j + 1)):=by
   unfold bfsF
   rw [List.take_add_one,ha,List.foldl_append]
   rfl
  rw [hfin] at hI3
  simp
  have w20:=(hF3 20 (by simp))
  simp [t20] at w20
  refine AM.wp_region ?_
  simp [w20,hwr]
  refine ⟨roots.length - (j + 1),by omega,j + 1,by omega,by omega,?_,?_,?_,?_,?_,rfl,hI3⟩
  ·rw [hF3 3 (by simp)]
   simp [t3]
  ·rw [hF3 7 (by simp)]
   simp [t7]
  ·rw [hF3 8 (by simp)]
   simp [t8]
  ·rw [hF3 18 (by simp)]
   simp [t18]
  ·rw [hF3 19 (by simp)]
   simp [t19]
 ·simp [hlt]
  refine AM.wp_exit ?_
  simp
  have hje:j = roots.length:=by omega
  subst hje
  rw [List.take_length] at hI
  obtain ⟨qv,mq,m,e1,e2,e3,e4,e5⟩:=hI
  exact q ((B7,C [qv]) :: (B6,C [.slice Bm 0 cs.length (.lim cs.length)]) :: (Bm,C (metL cs.length (bfsF (kidN cs) cs.length roots))) :: (B4,C [.fn f fx fy]) :: (B3,C [.slice p 0 cs.length (.lim cs.length)]) :: mq) m s' e2 (by simpa using e5)
end
theorem Z7w {s0 s:St} {W:Pos→Prop} {hb:Pos} {vs:AVal} {cs:List CV} {m r:Lets} (hH:Z26 hb vs cs m) (h:Ctx s0 W (m ++ r) s):∃ p V mr,Ctx s0 W ((hb,C [.slice p 0 cs.length (.lim cs.length),vs]) :: (p,C (encs (rcs cs V))) :: (mr ++ r)) s∧Z16 (cs.map CV.kids) V mr∧V.length = cs.length∧1 ≤ cs.length∧cs.length ≤ 400 ∧
  m.Perm ((hb,C [.slice p 0 cs.length (.lim cs.length),vs]) :: (p,C (encs (rcs cs V))) :: mr):=by
 obtain ⟨p,V,mr,hp,hR,h1,h4⟩:=hH
 refine ⟨p,V,mr,h.perm ?_,hR,by simpa using hR.len,h1,h4,hp⟩
 simpa using hp.append (List.Perm.refl r)
def setH (cs:List CV) (k:Nat) (x:Int):List CV:=match cs[k]? with
 | some c => cs.set k { c with held:=x }
 | none => cs
theorem Zos (cs:List CV) (k:Nat) (x:Int):(setH cs k x).length = cs.length:=by
 unfold setH
 split <;> simp
theorem Zvt (cs:List CV) (k:Nat) (x:Int):(setH cs k x).map CV.kids = cs.map CV.kids:=by
 unfold setH
 split
 ·rename_i c hc
  rw [List.map_set]
  refine List.ext_getElem? fun j => ?_
  rw [List.getElem?_set]
  split
  ·rename_i e
   subst e
   have:=(List.getElem?_eq_some_iff.1 hc).1
   rw [if_pos (by simpa using this),List.getElem?_map,hc]
   rfl
  ·rfl
 ·rfl
theorem Zxk {cs:List CV} {V:List AVal} {k:Nat} {c:CV} {kv:AVal} (hc:cs[k]? = some c) (hv:V[k]? = some kv) (x:Int):(rcs cs V).set k { taken:=c.taken,name:=c.name,kv:=kv,held:=x } = rcs (setH cs k x) V:=by
 unfold setH
 rw [hc]
 simp only
 have hV:V.set k kv = V:=by
  refine List.ext_getElem? fun y => ?_
  rw [List.getElem?_set]
  by_cases e:k = y
  ·subst e
   rw [if_pos rfl,hv,if_pos (List.getElem?_eq_some_iff.1 hv).1]
  ·rw [if_neg e]
 have:=Z8y (cs:=cs) (V:=V) (i:=k) (d:={ c with held:=x }) (kv:=kv)
 rw [hV] at this
 exact this
def Z6j (cs:List CV) (i:Int):Int × List CV :=
 if Z06 cs i = false then (1,cs) else match cs[i.toNat]? with
  | some c => if c.held = 1000 then (12,cs) else (0,setH cs i.toNat (IntKind.wrap .i64 (c.held + 1)))
  | none => (1,cs)
section
variable {s0 s:St} {W:Pos→Prop} {hb:Pos} {vs:AVal} {cs:List CV} {m r:Lets} {Q:AVal→St→Prop}
theorem Zr6 {p:Pos} {V:List AVal} {i:Int} (hw:s.Old p) (hc:s.cells p = some (encs (rcs cs V))) (hV:V.length = cs.length) (q:∀ s',Keeps s s'→Q (.bool (Z06 cs i)) s'):Z0c Tryd.prog 46 [.agg [.slice p 0 cs.length (.lim cs.length)],.int .i64 i] s Q :=
 Zew hw hc (Z24 hV) (by rw [Zau hV]; exact q)
theorem hold_c {i:Int} (hH:Z26 hb vs cs m) (h:Ctx s0 W (m ++ r) s)
  (q:∀ m' s',Z26 hb vs (Z6j cs i).2 m'→Ctx s0 W (m' ++ r) s'→Q (.int .i64 (Z6j cs i).1) s'):Z0c Tryd.prog 27 [.ptr hb 0,.int .i64 i] s Q:=by
 obtain ⟨p,V,mr,hc,hR,hV,h1,h4⟩:=Zar hH h
 have hno:cs.length ≠ 0:=by omega
 refine Z08 (Z0i (by decide)) fi27 rfl (by decide) rfl ?_
 refine Z00 ?_
 simp
 refine AM.wp_seq ?_
 refine AM.wp_block ?_
 refine Z00 ?_
 simp
 refine Z02 ?_
 refine Z6b (hc.c 0 rfl) rfl hno ?_
 simp
 refine AM.Z03 ?_
 simp
 refine Z00 ?_
 simp [hc.c 0 rfl]
 refine Z02 ?_
 refine Zr6 (hc.oi 1 rfl) (hc.c 1 rfl) hV fun s1 k1 => ?_
 have c1:=hc.keeps k1
 cases ht:Z06 cs i with
 | false =>
  have:Z6j cs i = (1,cs):=by unfold Z6j; rw [if_pos ht]
  rw [this] at q
  simp
  refine AM.Z03 ?_
  simp
  refine Z00 ?_
  simp
  refine AM.wp_ret ?_
  simp
  exact q _ _ (Z2n hR h1 h4) c1
 | true =>
  obtain ⟨h0,d,hd,_,hlt⟩:=Z1v ht
  obtain ⟨kv,hkv⟩:∃ kv,V[i.toNat]? = some kv:=⟨_,List.getElem?_eq_getElem (by omega)⟩
  have hrg:=Z1u hd hkv
  have hg3:(encs (rcs cs V))[i.toNat * 4 + 3]? = some (.int .i64 d.held):=Z35 _ i.toNat 3 _ hrg (by decide)
  have hil:i < cs.length:=by omega
  simp
  refine AM.Z03 ?_
  simp
  refine Z00 ?_
  simp [c1.c 0 rfl,c1.c 1 rfl,h0,hil,hg3]
  refine AM.Z03 ?_
  by_cases he:d.held = 1000
  ·have:Z6j cs i = (12,cs):=by unfold Z6j; rw [if_neg (by simp [ht]),hd]; simp only; rw [if_pos he]
   rw [this] at q
   simp [he]
   refine Z00 ?_
   simp
   refine AM.wp_ret ?_
   simp
   exact q _ _ (Z2n hR h1 h4) c1
  ·have:Z6j cs i = (0,setH cs i.toNat (IntKind.wrap .i64 (d.held + 1))):=by unfold Z6j; rw [if_neg (by simp [ht]),hd]; simp only; rw [if_neg he]
   rw [this] at q
   have hlay:=Zfj _ i.toNat _ (IntKind.wrap .i64 (d.held + 1)) hrg
   rw [Zxk hd hkv] at hlay
   have hle:i.toNat * 4 + 3 + 1 ≤ (encs (rcs cs V)).length:=by rw [Z36,Z24 hV]; omega
   simp [lay] at hlay
   simp [he]
   refine AM.wp_skip ?_
   simp
   refine Z00 ?_
   simp [c1.c 0 rfl,c1.c 1 rfl,c1.o 1 rfl,h0,hil,hg3,hle]
   rw [hlay]
   have c2:=c1.put 1 rfl (C (encs (rcs (setH cs i.toNat (IntKind.wrap .i64 (d.held + 1))) V)))
   simp only [List.set_cons_succ,List.set_cons_zero] at c2
   refine Z00 ?_
   simp
   refine AM.wp_ret ?_
   simp
   have hl:=Zos cs i.toNat (IntKind.wrap .i64 (d.held + 1))
   refine q _ _ (Z2n (p:=p) (V:=V) (mr:=mr) (by rw [Zvt]; exact hR) (by simpa [hl] using h1) (by simpa [hl] using h4)) ?_
   rw [hl]
   exact c2
def Z21 (cs:List CV) (i:Nat):List Int:=((Z0z cs i).filter fun j => match cs[j]? with | some c => decide (0 < c.held) | none => false).map fun (j:Nat) => (j:Int)
theorem Zs7 {cs:List CV} {i:Nat} {c:CV} (h:cs[i]? = some c) (ht:c.taken = true):Z21 cs (i + 1) = Z21 cs i ++ (if 0 < c.held then [(i:Int)] else []):=by
 unfold Z21
 rw [Z88 h ht,List.filter_append]
 by_cases hh:0 < c.held <;> simp [h,hh]
theorem Zs8 {cs:List CV} {i:Nat} {c:CV} (h:cs[i]? = some c) (ht:c.taken = false):Z21 cs (i + 1) = Z21 cs i:=by
 unfold Z21
 rw [Za8 h ht]
theorem Zck (cs:List CV) (i:Nat):(Z21 cs i).length ≤ i:=by
 unfold Z21 Z0z
 rw [List.length_map]
 refine Nat.le_trans (List.length_filter_le _ _) (Nat.le_trans (List.length_filter_le _ _) (by simp))
theorem Zqp {p:Pos} {V:List AVal} {base:Lets} (hc:Ctx s0 W base s) (hV:V.length = cs.length) (h4:cs.length ≤ 400) (hp:∀ x s',Ctx s0 W (x ++ base) s'→s'.Old p∧s'.cells p = some (encs (rcs cs V)))
  (q:∀ lv mg x s',Z1d lv (Z21 cs cs.length) mg→Ctx s0 W (x ++ (mg ++ base)) s'→Q lv s'):Z0c Tryd.prog 75 [.agg [.slice p 0 cs.length (.lim cs.length)]] s Q:=by
 have hl:=Z24 hV
 refine Z08 (Z0i (by decide)) fi75 rfl (by decide) rfl ?_
 refine Z00 ?_
 simp
 have c1:=hc.alloc (C [.slice p 0 cs.length (.lim cs.length)])
 generalize s.alloc (.cells [.slice p 0 cs.length (.lim cs.length)] false) = s1 at c1 ⊢
 generalize s.next = B1 at c1 ⊢
 refine Z00 ?_
 simp
 have c2:=c1.alloc (C [.nilSlice])
 generalize s1.alloc (.cells [.nilSlice] false) = s2 at c2 ⊢
 generalize s1.next = B3 at c2 ⊢
 refine AM.wp_seq ?_
 refine Z00 ?_
 simp [c2.c 1 rfl]
 refine Z02 ?_
 refine Z8m fun BB hBB => ?_
 have c3:=c2.alloc (C [.slice p 0 cs.length (.lim cs.length)])
 rw [← hBB] at c3
 generalize s2.alloc (.cells [.slice p 0 cs.length (.lim cs.length)] false) = s3 at c3 ⊢
 simp
 refine AM.wp_block ?_
 refine Zb1 (B:=BB) (p:=p) (l:=rcs cs V) (J:=fun i m => ∃ lv mg,Z1d lv (Z21 cs i) mg∧m = (B3,C [lv]) :: (B1,C [.slice p 0 cs.length (.lim cs.length)]) :: (mg ++ base))
  hl h4 (by simp) rfl fi75 rfl ?_ ?_ ?_ ⟨.nilSlice,[],.inl ⟨rfl,rfl,rfl⟩,rfl⟩ c3 ?_
 ·rintro i m s' ⟨lv,mg,hg,rfl⟩ hc'
  exact hp ((B3,C [lv]) :: (B1,C [.slice p 0 cs.length (.lim cs.length)]) :: mg) s' (by simpa using hc')
 ·rintro i c m hci hct ⟨lv,mg,hg,rfl⟩
  have hi:i < cs.length:=by have:=(List.getElem?_eq_some_iff.1 hci).1; rwa [hl] at this
  rw [Z1u (List.getElem?_eq_getElem hi) (List.getElem?_eq_getElem (show i < V.length by omega))] at hci
  cases hci
  exact ⟨lv,mg,by rw [Zs8 (List.getElem?_eq_getElem hi) hct]; exact hg,rfl⟩
 ·rintro i c s' m Lb X Wx hci hct ⟨lv,mg,hg,rfl⟩ hc' hW
  have hi:i < cs.length:=by have:=(List.getElem?_eq_some_iff.1 hci).1; rwa [hl] at this
  obtain ⟨_,hpc⟩:=hp ((Lb,X) :: (BB,C [.slice p 0 cs.length (.lim cs.length)]) :: (B3,C [lv]) :: (B1,C [.slice p 0 cs.length (.lim cs.length)]) :: mg) s' (by simpa using hc')
  have hg3:(encs (rcs cs V))[i * 4 + 3]? = some (.int .i64 c.held):=Z35 _ i 3 _ hci (by decide)
  rw [Z1u (List.getElem?_eq_getElem hi) (List.getElem?_eq_getElem (show i < V.length by omega))] at hci
  have hnx:=Zs7 (List.getElem?_eq_getElem hi) (by cases hci; exact hct)
  have hhe:cs[i].held = c.held:=by cases hci; rfl
  rw [hhe] at hnx
  refine AM.wp_block ?_
  refine Z00 ?_
  simp [hc'.c 3 rfl,hi,hpc,hg3]
  refine AM.Z03 ?_
  by_cases hh:0 < c.held
  ·rw [if_pos hh] at hnx
   simp [hh]
   refine AM.wp_region ?_
   simp [hc'.c 2 rfl,hg.ntup,hg.cells,Z1p,srcP]
   have d2:=hc'.alloc (C [.int .i64 i])
   generalize s'.alloc (.cells [.int .i64 i] false) = sB at d2 ⊢
   generalize s'.next = T at d2 ⊢
   have hgl:=Zck cs i
   refine Z5c (pre:=[(T,C [.int .i64 i]),(Lb,X),(BB,C [.slice p 0 cs.length (.lim cs.length)]),(B3,C [lv]),(B1,C [.slice p 0 cs.length (.lim cs.length)])]) d2 hg (by omega) fun lv' mg' sC hg' d3 => ?_
   simp at d3
   rw [← hnx] at hg'
   simp [hg'.ntup,hg'.cells,d3.o 3 rfl]
   have d4:=(d3.put 3 rfl (C [lv'])).tail
   exact hW _ _ _ ⟨lv',mg',hg',rfl⟩ d4
  ·rw [if_neg hh,List.append_nil] at hnx
   simp [hh]
   refine AM.wp_skip ?_
   simp
   refine hW _ _ _ ⟨lv,mg,by rw [hnx]; exact hg,rfl⟩ hc'
 ·rintro s' m ⟨lv,mg,hg,rfl⟩ hc'
  simp
  refine Z00 ?_
  simp [hc'.c 0 rfl,hg.ntup]
  refine AM.wp_ret ?_
  simp
  exact q lv mg [(B3,C [lv]),(B1,C [.slice p 0 cs.length (.lim cs.length)])] s' hg (by simpa using hc')
theorem held_c (hH:Z26 hb vs cs m) (h:Ctx s0 W (m ++ r) s)
  (q:∀ lv mg s',Z1d lv (Z21 cs cs.length) mg→Ctx s0 W (mg ++ (m ++ r)) s'→Q (.tup [lv,.int .i64 0]) s'):Z0c Tryd.prog 38 [.ptr hb 0] s Q:=by
 obtain ⟨p,V,mr,hc,hR,hV,h1,h4,hP⟩:=Z7w hH h
 have hno:cs.length ≠ 0:=by omega
 have hmem:(p,C (encs (rcs cs V))) ∈ m:=hP.mem_iff.2 (by simp)
 refine Z08 (Z0i (by decide)) fi38 rfl (by decide) rfl ?_
 refine Z00 ?_
 simp
 refine AM.wp_seq ?_
 refine Z00 ?_
 simp
 refine Z02 ?_
 refine Z6b (hc.c 0 rfl) rfl hno ?_
 simp
 refine AM.Z03 ?_
 simp
 refine AM.wp_skip ?_
 simp
 refine Z00 ?_
 simp [hc.c 0 rfl]
 refine Z02 ?_
 refine Zqp (p:=p) (V:=V) h hV h4 (fun x s' hx => ?_) fun lv mg x s' hg hc' => ?_
 ·have hx':(p,C (encs (rcs cs V))) ∈ x ++ (m ++ r):=by simp [hmem]
  exact ⟨hx.ob hx',Z0a (Z17 (hx.own _ hx'))⟩
 ·simp [hg.ntup]
  refine AM.wp_ret ?_
  simp
  exact q lv mg s' hg (hc'.sub (List.sublist_append_right _ _))
end
end Go.Proofs
end
