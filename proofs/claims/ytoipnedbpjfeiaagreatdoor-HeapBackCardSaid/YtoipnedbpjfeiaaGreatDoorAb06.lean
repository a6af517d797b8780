/- Parts of the proof: HRc, Mov1, Mov2, Cls5, Cls6, Cls7, Mrg4, Wrap, Mov3, Mrg5, Per, Ring1, Ring2, Open3, CodesB, CodesH, CodesA, Nod. -/
import Derived.Test.YtoipnedbpjfeiaaGreatDoorChecked
import Derived.Test.YtoipnedbpjfeiaaGreatDoorTie
import Derived.ProofKit
import Derived.Test.YtoipnedbpjfeiaaGreatDoorAb05
set_option linter.all false
set_option linter.unusedSectionVars false
set_option linter.unusedSimpArgs false
set_option linter.unusedVariables false
section
open Go Go.AM
namespace Go.Proofs
set_option maxRecDepth 100000
section
variable {s0 s:St} {W:Pos→Prop} {hb p:Pos} {vs:AVal} {cs:List CV} {V:List AVal} {m mr r:Lets}
theorem Zfj (h:Ctx s0 W ((hb,C [.slice p 0 cs.length (.lim cs.length),vs]) :: (p,C (encs (rcs cs V))) :: (mr ++ r)) s) (hV:V.length = cs.length) (h1:1 ≤ cs.length) (h4:cs.length ≤ 400):HeapAt s hb p vs (rcs cs V):=by
 have hl:=Z1c hV
 refine ⟨h.wf,?_,h.o 1 rfl,h.ne 1 0 rfl rfl (by decide),by omega,by omega⟩
 rw [hl]
 exact h.o 0 rfl
theorem kid_of (h:Ctx s0 W ((hb,C [.slice p 0 cs.length (.lim cs.length),vs]) :: (p,C (encs (rcs cs V))) :: (mr ++ r)) s) (hR:Z0s (cs.map CV.kids) V mr) {i:Nat} {d:CV} (hd:cs[i]? = some d) :
  ∃ kv,V[i]? = some kv∧KidV s kv d.kids:=by
 obtain ⟨kv,g1,g2⟩:=hR.each (i:=i) (ks:=d.kids) (by rw [List.getElem?_map,hd]; rfl)
 refine ⟨kv,g1,?_⟩
 rcases g2 with ⟨e1,e2⟩ | ⟨q,c,e1,e2,e3⟩
 ·exact .inl ⟨e2,e1⟩
 ·exact .inr ⟨q,c,e2,Z13 (h.own (q,C (ints d.kids)) (by simp [e3]))⟩
theorem Z91 (hH:Z26 hb vs cs m) (h:Ctx s0 W (m ++ r) s):∃ p V mr,Ctx s0 W ((hb,C [.slice p 0 cs.length (.lim cs.length),vs]) :: (p,C (encs (rcs cs V))) :: (mr ++ r)) s∧Z0s (cs.map CV.kids) V mr∧V.length = cs.length∧1 ≤ cs.length∧cs.length ≤ 400:=by
 obtain ⟨p,V,mr,hp,hR,h1,h4⟩:=hH
 refine ⟨p,V,mr,h.perm ?_,hR,by simpa using hR.len,h1,h4⟩
 simpa using hp.append (List.Perm.refl r)
theorem Z2a (hR:Z0s (cs.map CV.kids) V mr) (h1:1 ≤ cs.length) (h4:cs.length ≤ 400):Z26 hb vs cs ((hb,C [.slice p 0 cs.length (.lim cs.length),vs]) :: (p,C (encs (rcs cs V))) :: mr):=⟨p,V,mr,List.Perm.refl _,hR,h1,h4⟩
end
def mkF (cs:List CV) (nm:List UInt8) (ks:List Int):Int × Int × List CV :=
 if Z2k nm = false then (0,4,cs) else if 4 < ks.length then (0,2,cs) else if ks.all (Z07 cs) = false then (0,1,cs) else if Z5q cs < 0 then (0,12,cs) else (Z5q cs,0,cs.set (Z5q cs).toNat ⟨true,nm,ks,0⟩)
theorem Zv9 {s0 s:St} {W:Pos→Prop} {hb:Pos} {vs v:AVal} {cs:List CV} {m r:Lets} {nm:List UInt8} {ks:List Int} {Q:AVal→St→Prop} (hH:Z26 hb vs cs m) (h:Ctx s0 W (m ++ r) s) (hnm:nm.length ≤ 2 ^ 62) (hv:Z0e s v ks) (hks:ks.length ≤ 2 ^ 62)
  (q:∀ m' s',Z26 hb vs (mkF cs nm ks).2.2 m'→Ctx s0 W (m' ++ r) s'→Q (.tup [.int .i64 (mkF cs nm ks).1,.int .i64 (mkF cs nm ks).2.1]) s'):Z0c Tryz.prog 16 [.ptr hb 0,.str nm,v] s Q:=by
 obtain ⟨p,V,mr,hc,hR,hV,h1,h4⟩:=Z91 hH h
 have hA:=Zfj hc hV h1 h4
 have ht:ks.all (Z31 (rcs cs V)) = ks.all (Z07 cs):=by congr 1; funext i; exact Zay hV i
 have hf:=Znd hV
 refine make_wp hA hnm hv hks ?_ ?_ ?_ ?_ ?_
 ·intro e s' hk
  have:mkF cs nm ks = (0,4,cs):=by unfold mkF; rw [if_pos e]
  rw [this] at q
  exact q _ s' (Z2a hR h1 h4) (hc.keeps hk)
 ·intro eg e s' hk
  have:mkF cs nm ks = (0,2,cs):=by unfold mkF; rw [if_neg (by simp [eg]),if_pos e]
  rw [this] at q
  exact q _ s' (Z2a hR h1 h4) (hc.keeps hk)
 ·intro eg el e s' hk
  rw [ht] at e
  have:mkF cs nm ks = (0,1,cs):=by unfold mkF; rw [if_neg (by simp [eg]),if_neg (by omega),if_pos e]
  rw [this] at q
  exact q _ s' (Z2a hR h1 h4) (hc.keeps hk)
 ·intro eg el e hneg s' hk
  rw [ht] at e
  rw [hf] at hneg
  have:mkF cs nm ks = (0,12,cs):=by unfold mkF; rw [if_neg (by simp [eg]),if_neg (by omega),if_neg (by simp [e]),if_pos hneg]
  rw [this] at q
  exact q _ s' (Z2a hR h1 h4) (hc.keeps hk)
 ·intro eg el e i kv s' hi hlt hk hkv hfr
  rw [ht] at e
  rw [hf] at hi
  rw [Z1c hV] at hlt
  have hq:mkF cs nm ks = ((i:Int),0,cs.set i ⟨true,nm,ks,0⟩):=by
   unfold mkF
   rw [if_neg (by simp [eg]),if_neg (by omega),if_neg (by simp [e]),hi,if_neg (by omega)]
   simp
  rw [hq] at q
  have hrs:(rcs cs V).set i ⟨true,nm,kv,0⟩ = rcs (cs.set i ⟨true,nm,ks,0⟩) (V.set i kv):=Z84 (d:=⟨true,nm,ks,0⟩)
  rw [hrs]
  obtain ⟨kv0,m1,m2,g1,g2,g3,g4⟩:=hR.at (i:=i) (ks:=(cs[i]'hlt).kids) (by rw [List.getElem?_map,List.getElem?_eq_getElem hlt]; rfl)
  have hc2:Ctx s0 W ((hb,C [.slice p 0 cs.length (.lim cs.length),vs]) :: (p,C (encs (rcs cs V))) :: (m2 ++ r)) s:=by
   refine (hc.perm ?_).sub (List.Sublist.cons_cons _ (List.Sublist.cons_cons _ ((List.sublist_append_right m1 m2).append (List.Sublist.refl r))))
   exact List.Perm.cons _ (List.Perm.cons _ (g3.append (List.Perm.refl r)))
  have hmap:(cs.set i ⟨true,nm,ks,0⟩).map CV.kids = (cs.map CV.kids).set i ks:=by rw [List.map_set]
  have hlen:(cs.set i ⟨true,nm,ks,0⟩).length = cs.length:=by simp
  rcases hkv with ⟨k1,rfl⟩ | ⟨qn,cp,rfl,k2⟩
  ·have hR':=g4 [] kv [] (.inl ⟨rfl,k1,rfl⟩)
   rw [← hmap] at hR'
   have hc3:=(hc2.keeps hk).put 1 rfl (C (encs (rcs (cs.set i ⟨true,nm,[],0⟩) (V.set i kv))))
   have:=q _ _ (Z2a (hb:=hb) (vs:=vs) (p:=p) hR' (by simpa using h1) (by simpa using h4)) (by rw [hlen]; exact hc3)
   exact this
  ·by_cases h0:ks = []
   ·subst h0
    have hR':=g4 [] (.slice qn 0 ([]:List Int).length cp) [] (.inl ⟨rfl,rfl,rfl⟩)
    rw [← hmap] at hR'
    have hc3:=(hc2.keeps hk).put 1 rfl (C (encs (rcs (cs.set i ⟨true,nm,[],0⟩) (V.set i (.slice qn 0 ([]:List Int).length cp)))))
    exact q _ _ (Z2a (hb:=hb) (vs:=vs) (p:=p) hR' (by simpa using h1) (by simpa using h4)) (by rw [hlen]; exact hc3)
   ·obtain ⟨f1,f2⟩:=hfr qn cp rfl
    have hR':=g4 ks (.slice qn 0 ks.length cp) [(qn,C (ints ks))] (.inr ⟨qn,cp,h0,rfl,rfl⟩)
    rw [← hmap] at hR'
    have hc3:=(hc2.made hk f1 (St.Z2b k2)).put 2 rfl (C (encs (rcs (cs.set i ⟨true,nm,ks,0⟩) (V.set i (.slice qn 0 ks.length cp)))))
    refine q _ _ (Z2a (hb:=hb) (vs:=vs) (p:=p) hR' (by simpa using h1) (by simpa using h4)) (hc3.perm ?_)
    rw [hlen]
    simp
    exact (List.Perm.swap _ _ _).trans (List.Perm.cons _ (List.Perm.swap _ _ _))
def tieF (cs:List CV) (i j k:Int):Int × List CV :=
 if Z07 cs i = true∧Z07 cs k = true∧0 ≤ j∧j < (Z0o cs i.toNat).length then
  (0,match cs[i.toNat]? with
   | some d => cs.set i.toNat { d with kids:=d.kids.set j.toNat k }
   | none => cs)
 else (1,cs)
theorem Z22 {l:List CV} {i:Int} (h:Z07 l i = true):0 ≤ i∧∃ c,l[i.toNat]? = some c∧c.taken = true∧i.toNat < l.length:=by
 unfold Z07 at h
 simp only [Bool.and_eq_true,decide_eq_true_eq] at h
 obtain ⟨h0,h1⟩:=h
 split at h1
 ·rename_i c hc
  exact ⟨h0,c,hc,h1,(List.getElem?_eq_some_iff.1 hc).1⟩
 ·cases h1
theorem tie_c {s0 s:St} {W:Pos→Prop} {hb:Pos} {vs:AVal} {cs:List CV} {m r:Lets} {i j k:Int} {Q:AVal→St→Prop} (hH:Z26 hb vs cs m) (h:Ctx s0 W (m ++ r) s)
  (q:∀ m' s',Z26 hb vs (tieF cs i j k).2 m'→Ctx s0 W (m' ++ r) s'→Q (.int .i64 (tieF cs i j k).1) s'):Z0c Tryz.prog 17 [.ptr hb 0,.int .i64 i,.int .i64 j,.int .i64 k] s Q:=by
 obtain ⟨p,V,mr,hc,hR,hV,h1,h4⟩:=Z91 hH h
 have hA:=Zfj hc hV h1 h4
 refine tie_wp (K:=Z0o cs) hA ?_ ?_ ?_
 ·intro n c hn
  have hlt:n < cs.length:=by have:=(List.getElem?_eq_some_iff.1 hn).1; rw [Z1c hV] at this; exact this
  have hd:cs[n]? = some cs[n]:=List.getElem?_eq_getElem hlt
  obtain ⟨kv,g1,g2⟩:=kid_of hc hR hd
  rw [Z1k hd g1] at hn
  cases hn
  unfold Z0o
  rw [hd]
  exact g2
 ·intro e s' hk
  rw [Zay hV,Zay hV] at e
  have:tieF cs i j k = (1,cs):=by unfold tieF; rw [if_neg e]
  rw [this] at q
  exact q _ s' (Z2a hR h1 h4) (hc.keeps hk)
 ·intro e1 e2 e3 e4 c qn cp s' hci hkv hk
  rw [Zay hV] at e1 e2
  obtain ⟨h0,d,hd,_,hlt⟩:=Z22 e1
  have hko:Z0o cs i.toNat = d.kids:=by unfold Z0o; rw [hd]
  have hq:tieF cs i j k = (0,cs.set i.toNat { d with kids:=d.kids.set j.toNat k }):=by unfold tieF; rw [if_pos ⟨e1,e2,e3,e4⟩,hd]
  rw [hq] at q
  rw [hko] at hkv e4 ⊢
  obtain ⟨kv0,m1,m2,g1,g2,g3,g4⟩:=hR.at (i:=i.toNat) (ks:=d.kids) (by rw [List.getElem?_map,hd]; rfl)
  rw [Z1k hd g1] at hci
  cases hci
  have hkv:kv0 = .slice qn 0 d.kids.length cp:=hkv
  rcases g2 with ⟨e5,_⟩ | ⟨q2,c2,e5,e6,rfl⟩
  ·rw [e5] at e4
   simp at e4
   omega
  rw [hkv] at e6
  cases e6
  have hmap:(cs.set i.toNat { d with kids:=d.kids.set j.toNat k }).map CV.kids = (cs.map CV.kids).set i.toNat (d.kids.set j.toNat k):=by rw [List.map_set]
  have hlen:(cs.set i.toNat { d with kids:=d.kids.set j.toNat k }).length = cs.length:=by simp
  have hR':=g4 (d.kids.set j.toNat k) (.slice qn 0 (d.kids.set j.toNat k).length cp) [(qn,C (ints (d.kids.set j.toNat k)))] (.inr ⟨qn,cp,by rw [Ne,List.set_eq_nil_iff]; exact e5,rfl,rfl⟩)
  rw [← hmap] at hR'
  have hc2:Ctx s0 W ((hb,C [.slice p 0 cs.length (.lim cs.length),vs]) :: (p,C (encs (rcs cs V))) :: (qn,C (ints d.kids)) :: (m2 ++ r)) s :=
   hc.perm (List.Perm.cons _ (List.Perm.cons _ (g3.append (List.Perm.refl r))))
  have hc3:=(hc2.keeps hk).put 2 rfl (C (ints (d.kids.set j.toNat k)))
  have hrs:rcs (cs.set i.toNat { d with kids:=d.kids.set j.toNat k }) (V.set i.toNat (.slice qn 0 (d.kids.set j.toNat k).length cp)) = rcs cs V:=by
   rw [← Z84 (d:={ d with kids:=d.kids.set j.toNat k })]
   have hg:=Z1k hd g1
   rw [hkv] at hg
   rw [List.length_set]
   refine List.ext_getElem? fun x => ?_
   rw [List.getElem?_set]
   by_cases ex:i.toNat = x
   ·subst ex
    rw [if_pos rfl,hg,if_pos (by rw [Z1c hV]; exact hlt)]
   ·rw [if_neg ex]
  have:=q _ _ (Z2a (hb:=hb) (vs:=vs) (p:=p) hR' (by simpa using h1) (by simpa using h4)) (by rw [hlen,hrs]; exact hc3)
  exact this
def Z35 (cs:List CV):Nat:=cs.countP fun c => c.taken
theorem Zen:∀ (l:List RC),(takI l l.length).length = l.countP fun c => c.taken:=by
 intro l
 have key:∀ i,i ≤ l.length→(takI l i).length = (l.take i).countP fun c => c.taken:=by
  intro i
  induction i with
  | zero => intro _; rfl
  | succ i ih =>
   intro hi
   have hc:l[i]? = some l[i]:=List.getElem?_eq_getElem (by omega)
   rw [List.take_add_one,hc,List.countP_append]
   cases ht:l[i].taken with
   | true => rw [Z7p hc ht,List.length_append,ih (by omega)]; simp [List.countP_cons,ht]
   | false => rw [Zga hc ht,ih (by omega)]; simp [List.countP_cons,ht]
 rw [key _ (Nat.le_refl _),List.take_length]
theorem Zem:∀ {cs:List CV} {V:List AVal},V.length = cs.length→(rcs cs V).countP (fun c => c.taken) = Z35 cs
 | [],V,_ => by simp [rcs,Z35]
 | c :: cs,[],h => by simp at h
 | c :: cs,v :: V,h => by
  have:=Zem (cs:=cs) (V:=V) (by simpa using h)
  simp [rcs,Z35,List.countP_cons] at this ⊢
  rw [this]
theorem size_c {s0 s:St} {W:Pos→Prop} {hb:Pos} {vs:AVal} {cs:List CV} {m r:Lets} {Q:AVal→St→Prop} (hH:Z26 hb vs cs m) (h:Ctx s0 W (m ++ r) s)
  (q:∀ s',Ctx s0 W (m ++ r) s'→Q (.int .i64 (Z35 cs)) s'):Z0c Tryz.prog 25 [.ptr hb 0] s Q:=by
 obtain ⟨p,V,mr,hc,hR,hV,h1,h4⟩:=Z91 hH h
 refine size_wp (Zfj hc hV h1 h4) fun s' hk => ?_
 have:=q s' (h.keeps hk)
 rw [Zen,Zem hV]
 exact this
def toC (cls:List Int) (k:Int):Int:=match cls[k.toNat]? with
 | some c => Z3f (fun d => decide (c = d)) cls
 | none => -1
def movI (cls ks:List Int) (j:Nat):List Int:=(ks.take j).map (toC cls) ++ ks.drop j
theorem Zvg (cls ks:List Int):movI cls ks 0 = ks:=by simp [movI]
theorem Znt (cls ks:List Int) (j:Nat):(movI cls ks j).length = ks.length:=by
 simp [movI]
 omega
theorem Zx6 (cls ks:List Int):movI cls ks ks.length = ks.map (toC cls):=by simp [movI]
theorem Zx7 {cls ks:List Int} {j:Nat} {k:Int} (h:ks[j]? = some k):(movI cls ks j)[j]? = some k:=by
 have hj:=(List.getElem?_eq_some_iff.1 h).1
 unfold movI
 rw [List.getElem?_append_right (by simp; omega)]
 have e:j - ((ks.take j).map (toC cls)).length = 0:=by simp; omega
 rw [e,List.getElem?_drop]
 simpa using h
theorem Zvf {cls ks:List Int} {j:Nat} {k:Int} (h:ks[j]? = some k):(movI cls ks j).set j (toC cls k) = movI cls ks (j + 1):=by
 have hj:=(List.getElem?_eq_some_iff.1 h).1
 unfold movI
 have hl:((ks.take j).map (toC cls)).length = j:=by simp; omega
 rw [List.set_append_right _ _ (by omega),hl,Nat.sub_self,List.take_add_one,h]
 have hd:ks.drop j = k :: ks.drop (j + 1):=by
  rw [List.drop_eq_getElem_cons hj]
  have:ks[j] = k:=(List.getElem?_eq_some_iff.1 h).2
  rw [this]
 rw [hd]
 simp
theorem Zqo (p:Pos) (o n:Nat) (c:Cap):Z2l 8 (.slice p o n c) (.slice p o n c) = true:=by
 cases c <;> simp [Z2l,Zch]
theorem Zx8 {fr:FI} {s:St} {t0:PT AVal} {p q B2 B3 Bc:Pos} {l:List RC} {i:Nat} {c:RC} {cp:Cap} {cv:AVal} {cls ks:List Int} {Q:Ex→PT AVal→St→Prop}
  (hw:s.Wf) (t2:PT.get (posOf 2) t0 = some (.ptr B2 0)) (t3:PT.get (posOf 3) t0 = some (.ptr B3 0)) (t4:PT.get (posOf 4) t0 = some (.int .i64 i))
  (hci:l[i]? = some c) (hkv:c.kv = .slice q 0 ks.length cp) (hq:s.own q = some (ks.map fun k => .int .i64 k)) (hks:ks.length ≤ 1000) (hcl:cls.length ≤ 1000) (hin:∀ k ∈ ks,0 ≤ k∧k < cls.length)
  (hst:∀ s',Same [q] s s'→s'.cells B3 = some [.slice p 0 l.length (.lim l.length)]∧s'.cells p = some (encs l)∧s'.cells B2 = some [.fn 55 [] [.ptr Bc 0]]∧s'.cells Bc = some [cv]∧Z0e s' cv cls)
  (qq:∀ t s',Same [q] s s'→s'.own q = some ((ks.map (toC cls)).map fun k => .int .i64 k)→Q .normal t s'):wp Tryz.prog Zru fr t0 s Q:=by
 have hi:i < l.length:=(List.getElem?_eq_some_iff.1 hci).1
 have hg:(encs l)[i * 4 + 2]? = some (.slice q 0 ks.length cp):=by rw [← hkv]; exact Z2o l i 2 c hci (by decide)
 obtain ⟨b3,bp,b2,bc,hcv⟩:=hst s (Same.refl _ _)
 have hoq:=Z09 hw hq
 refine Z00 ?_
 simp [t3,t4,b3,bp,hi,hg]
 refine AM.wp_block ?_
 refine AM.wp_loop (fun m t s' => ∃ j:Nat,j ≤ ks.length∧m = ks.length - j∧PT.get (posOf 2) t = some (.ptr B2 0)∧PT.get (posOf 3) t = some (.ptr B3 0)∧PT.get (posOf 4) t = some (.int .i64 i)∧PT.get (posOf 15) t = some (.slice q 0 ks.length cp)∧PT.get (posOf 16) t = some (.int .i64 ks.length)∧PT.get (posOf 17) t = some (.int .i64 j)∧Same [q] s s' ∧
  s'.own q = some ((movI cls ks j).map fun k => .int .i64 k)) ks.length ⟨0,by simp,by simp,by simp [t2],by simp [t3],by simp [t4],by simp,by simp,by simp,Same.refl _ _,by rw [Zvg]; exact hq⟩ ?_
 rintro m t s' ⟨j,hj,rfl,g2,g3,g4,g15,g16,g17,hS,hO⟩
 obtain ⟨b3,bp,b2,bc,hcv⟩:=hst s' hS
 refine Z00 ?_
 simp [g16,g17]
 refine AM.wp_seq ?_
 refine AM.Z04 ?_
 by_cases hlt:j < ks.length
 ·obtain ⟨k,hk⟩:∃ k,ks[j]? = some k:=⟨_,List.getElem?_eq_getElem hlt⟩
  obtain ⟨hk0,hk1⟩:=hin k (List.mem_of_getElem? hk)
  obtain ⟨cc,hcc⟩:∃ cc,cls[k.toNat]? = some cc:=⟨_,List.getElem?_eq_getElem (by omega)⟩
  have hto:toC cls k = Z3f (fun d => decide (cc = d)) cls:=by unfold toC; rw [hcc]
  have hgk:((movI cls ks j).map fun k => AVal.int .i64 k)[j]? = some (.int .i64 k):=by rw [List.getElem?_map,Zx7 hk]; rfl
  have hwr:IntKind.wrap .i64 ((j:Int) + 1) = ((j + 1:Nat):Int):=by rw [IntWalk.i64_in _ (by omega)]; omega
  have hlay:=Z5z (movI cls ks j) j (toC cls k) (by rw [Znt]; omega)
  rw [Zvf hk] at hlay
  have hml:=Znt cls ks j
  simp [hlt]
  refine AM.wp_skip ?_
  simp
  refine AM.wp_seq ?_
  refine AM.wp_block ?_
  generalize movI cls ks j = mv at hO hgk hlay hml ⊢
  have hle:j + 1 ≤ mv.length:=by omega
  refine Z00 ?_
  simp only [List.getElem?_map] at hgk
  simp [g15,g17,hlt,Z0a hO,hgk]
  refine AM.wp_region ?_
  simp [g2,g3,g4,b3,bp,hi,hg,b2]
  refine Z02 ?_
  refine Zlh bc hcv hcl hk0 hcc ?_
  simp [b3,bp,hi,hg,Z8u,Zqo,hlt,hO,hle]
  rw [← hto]
  simp [lay] at hlay
  rw [hlay]
  refine AM.wp_region ?_
  simp [g17,hwr]
  exact ⟨ks.length - (j + 1),by omega,j + 1,by omega,by omega,by simp [g2],by simp [g3],by simp [g4],by simp [g15],by simp [g16],by simp,hS.put _ (by simp) (hS.old hoq),by simp⟩
 ·simp [hlt]
  refine AM.wp_exit ?_
  simp
  have hje:j = ks.length:=by omega
  subst hje
  rw [Zx6] at hO
  exact qq _ s' hS hO
theorem KidV.nil {s s':St} {kv:AVal} {ks:List Int} (h:KidV s kv ks) (h0:ks = []):KidV s' kv ks:=.inl ⟨by have:=h.len; rw [h0] at this; exact this,h0⟩
theorem KidV.stay {s s':St} {kv:AVal} {ks:List Int} (h:KidV s kv ks) (hs:∀ q c,kv = .slice q 0 ks.length c→ks ≠ []→s'.own q = s.own q):KidV s' kv ks:=by
 by_cases h0:ks = []
 ·exact h.nil h0
 ·rcases h with ⟨_,h1⟩ | ⟨q,c,h1,h2⟩
  ·exact (h0 h1).elim
  ·exact .inr ⟨q,c,h1,(hs q c h1 h0).trans h2⟩
theorem Zx9 {s:St} {p Bc:Pos} {l:List RC} {K:Nat→List Int} {cv:AVal} {cls:List Int} {qs:List Pos} {Q:AVal→St→Prop} (hw:s.Wf) (hp:s.Old p) (hc:s.cells p = some (encs l)) (hl:l.length ≤ 400) (hcl:cls.length ≤ 1000)
  (hK:∀ j c,l[j]? = some c→KidV s c.kv (K j)∧(K j).length ≤ 1000∧(c.taken = true→∀ k ∈ K j,0 ≤ k∧k < cls.length))
  (hqs:∀ j c q cp,l[j]? = some c→c.kv = .slice q 0 (K j).length cp→K j ≠ []→q ∈ qs) (hpq:p ∉ qs) (hqo:∀ q ∈ qs,s.Old q)
  (hsep:∀ j j' c c' q cp cp',l[j]? = some c→l[j']? = some c'→c.kv = .slice q 0 (K j).length cp→c'.kv = .slice q 0 (K j').length cp'→K j ≠ []→K j' ≠ []→j = j')
  (hcv:∀ s',Same qs s s'→s'.cells Bc = some [cv]∧Z0e s' cv cls)
  (q:∀ s',Same qs s s'→(∀ j c,l[j]? = some c→KidV s' c.kv (if c.taken = true then (K j).map (toC cls) else K j))→Q (.tup []) s') :
  Z0c Tryz.prog 57 [.agg [.fn 55 [] [.ptr Bc 0]],.agg [.slice p 0 l.length (.lim l.length)]] s Q:=by
 refine Z08 (Z0d (by decide)) fi57 rfl (by decide) rfl ?_
 refine Z00 ?_
 simp
 have hK1:Keeps s (s.alloc (.cells [.fn 55 [] [.ptr Bc 0]] false)):=Keeps.alloc _ _
 have hB1:(s.alloc (.cells [.fn 55 [] [.ptr Bc 0]] false)).own s.next = some [.fn 55 [] [.ptr Bc 0]]:=Z12 _ _
 have hf1:¬ s.Old s.next:=Z0b s
 generalize s.alloc (.cells [.fn 55 [] [.ptr Bc 0]] false) = s1 at hK1 hB1 ⊢
 generalize s.next = B2 at hB1 hf1 ⊢
 have hw1:s1.Wf:=hK1.wf hw
 have ho1:s1.Old B2:=Z09 hw1 hB1
 have hK2:Keeps s1 (s1.alloc (.cells [.slice p 0 l.length (.lim l.length)] false)):=Keeps.alloc _ _
 have hB2:(s1.alloc (.cells [.slice p 0 l.length (.lim l.length)] false)).own s1.next = some [.slice p 0 l.length (.lim l.length)]:=Z12 _ _
 have hf2:¬ s1.Old s1.next:=Z0b s1
 generalize s1.alloc (.cells [.slice p 0 l.length (.lim l.length)] false) = s2 at hK2 hB2 ⊢
 generalize s1.next = B3 at hB2 hf2 ⊢
 have hw2:s2.Wf:=hK2.wf hw1
 have ho2:s2.Old B3:=Z09 hw2 hB2
 have hB1':s2.own B2 = some [.fn 55 [] [.ptr Bc 0]]:=(hK2.own ho1).trans hB1
 refine Z00 ?_
 simp [Z0a hB2]
 refine Z02 ?_
 refine Z8q fun BB hBB => ?_
 have hK5:Keeps s2 (s2.alloc (.cells [.slice p 0 l.length (.lim l.length)] false)):=Keeps.alloc _ _
 have hBB5:(s2.alloc (.cells [.slice p 0 l.length (.lim l.length)] false)).own BB = some [.slice p 0 l.length (.lim l.length)]:=by rw [hBB]; exact Z12 _ _
 have hBo2:¬ s2.Old BB:=by rw [hBB]; exact Z0b s2
 generalize s2.alloc (.cells [.slice p 0 l.length (.lim l.length)] false) = s5 at hK5 hBB5 ⊢
 have hw5:s5.Wf:=hK5.wf hw2
 have hk5:Keeps s s5:=(hK1.trans hK2).trans hK5
 have n2:B2 ∉ qs:=fun h => hf1 (hqo _ h)
 have n3:B3 ∉ qs:=fun h => hf2 (hK1.old (hqo _ h))
 have nB:BB ∉ qs:=fun h => hBo2 (hK2.old (hK1.old (hqo _ h)))
 simp
 refine AM.wp_block ?_
 have hLo:∀ b,s5.Old b→b ≠ s5.next:=fun b hb => ne_next hb
 have nL:s5.next ∉ qs:=fun h => hLo _ (hk5.old (hqo _ h)) rfl
 refine Zaf (I:=fun i s' => s'.Wf∧Same (s5.next :: qs) s5 s'∧∀ j c,l[j]? = some c→KidV s' c.kv (if j < i∧c.taken = true then (K j).map (toC cls) else K j)) (p:=p) (B:=BB) (l:=l) hl (by simp) rfl fi57 rfl ?_ ?_ ?_ ?_ ⟨hw5,Same.refl _ _,fun j c h => by simpa using (hK j c h).1.keep hw hk5⟩ ?_
 ·rintro i s' ⟨h,hS,hV⟩
  have hb:s'.own BB = some [.slice p 0 l.length (.lim l.length)]:=(hS.own (by simpa using ⟨hLo _ (Z09 hw5 hBB5),nB⟩) (Z09 hw5 hBB5)).trans hBB5
  exact ⟨h,hS.old (hk5.old hp),Z09 h hb,(hS.cells (by simpa using ⟨hLo _ (hk5.old hp),hpq⟩) (hk5.old hp)).trans ((hk5.cells hp).trans hc),Z0a hb⟩
 ·rintro i s' s'' ⟨h,hS,hV⟩ hS2
  refine ⟨hS2.wf h,⟨fun b hb ho => (hS2.obj b (by simp at hb ⊢; exact hb.1) (hS.old ho)).trans (hS.obj b hb ho),Nat.le_trans hS.next hS2.next,fun _ => hS2.wf h⟩,fun j c hj => ?_⟩
  refine (hV j c hj).stay fun q' c' he hne => ?_
  have hl2:(if j < i∧c.taken = true then (K j).map (toC cls) else K j).length = (K j).length:=by split <;> simp
  rw [hl2] at he
  have hne':K j ≠ []:=by
   intro e
   rw [e] at hne
   simp at hne
  have hm:=hqs j c q' c' hj he hne'
  exact hS2.own (by simpa using hLo _ (hk5.old (hqo _ hm))) (hS.old (hk5.old (hqo _ hm)))
 ·rintro i c s' hci hct ⟨h,hS,hV⟩
  refine ⟨h,hS,fun j d hj => ?_⟩
  have:=hV j d hj
  by_cases e:j = i
  ·subst e
   rw [hci] at hj
   cases hj
   simpa [hct] using this
  ·have e2:j < i ↔ j < i + 1:=by omega
   simpa [e2] using this
 ·rintro i c s' W hci hct ⟨h,hS,hV⟩ hoL hW
  have hi:i < l.length:=(List.getElem?_eq_some_iff.1 hci).1
  obtain ⟨_,hk1000,hkin⟩:=hK i c hci
  have hB3s:s'.own B3 = some [.slice p 0 l.length (.lim l.length)]:=(hS.own (by simpa using ⟨hLo _ (hK5.old ho2),n3⟩) (hK5.old ho2)).trans ((hK5.own ho2).trans hB2)
  have hB2s:s'.own B2 = some [.fn 55 [] [.ptr Bc 0]]:=(hS.own (by simpa using ⟨hLo _ (hK5.old (hK2.old ho1)),n2⟩) (hK5.old (hK2.old ho1))).trans ((hK5.own (hK2.old ho1)).trans hB1')
  have hps:s'.cells p = some (encs l):=(hS.cells (by simpa using ⟨hLo _ (hk5.old hp),hpq⟩) (hk5.old hp)).trans ((hk5.cells hp).trans hc)
  have hg:(encs l)[i * 4 + 2]? = some c.kv:=Z2o l i 2 c hci (by decide)
  have hVi:=hV i c hci
  simp at hVi
  refine AM.wp_block ?_
  by_cases h0:K i = []
  ·have hlen:=hVi.len
   rw [h0] at hlen
   have hkt:∀ t,¬ c.kv = .tup t:=by
    rintro t e
    rw [e] at hlen
    cases hlen
   refine Z00 ?_
   simp [Z0a hB3s,hps,hi,hg,hlen]
   refine AM.wp_block ?_
   refine AM.wp_loop (fun m t s2 => PT.get (posOf 16) t = some (.int .i64 0)∧PT.get (posOf 17) t = some (.int .i64 0)∧s2 = s') 0 ⟨by simp,by simp,rfl⟩ ?_
   rintro m t2 s2 ⟨g16,g17,rfl⟩
   refine Z00 ?_
   simp [g16,g17]
   refine AM.wp_seq ?_
   refine AM.Z04 ?_
   simp
   refine AM.wp_exit ?_
   simp
   refine hW _ _ ⟨h,hS,fun j d hj => ?_⟩ rfl
   by_cases e:j = i
   ·subst e
    have:=hV j d hj
    rw [h0] at this ⊢
    simpa using this
   ·have e2:j < i ↔ j < i + 1:=by omega
    have:=hV j d hj
    simpa [e2] using this
  ·rcases hVi with ⟨_,e⟩ | ⟨q',cp,hkv,hq⟩
   ·exact (h0 e).elim
   have hm:=hqs i c q' cp hci hkv h0
   have hoq':s'.Old q':=hS.old (hk5.old (hqo _ hm))
   have hne3:B3 ≠ q':=fun e => n3 (e ▸ hm)
   have hne2:B2 ≠ q':=fun e => n2 (e ▸ hm)
   have hnep:p ≠ q':=fun e => hpq (e ▸ hm)
   refine Zx8 (B2:=B2) (B3:=B3) (p:=p) (q:=q') (l:=l) (i:=i) (cp:=cp) (cv:=cv) (cls:=cls) (ks:=K i) (Bc:=Bc) h (by simp) (by simp) (by simp) hci hkv hq hk1000 hcl (hkin hct) ?_ ?_
   ·intro s2 hS2
    have hSq:Same qs s s2:=⟨fun b hb ho => ((hS2.obj b (by simpa using fun e:b = q' => hb (e ▸ hm)) (hS.old (hk5.old ho))).trans (hS.obj b (by simpa using ⟨hLo _ (hk5.old ho),hb⟩) (hk5.old ho))).trans (hk5.obj b ho),Nat.le_trans hk5.next (Nat.le_trans hS.next hS2.next),fun _ => hS2.wf h⟩
    obtain ⟨j1,j2⟩:=hcv s2 hSq
    exact ⟨Z0a ((hS2.own (by simpa using hne3) (Z09 h hB3s)).trans hB3s),(hS2.cells (by simpa using hnep) (hS.old (hk5.old hp))).trans hps,Z0a ((hS2.own (by simpa using hne2) (Z09 h hB2s)).trans hB2s),j1,j2⟩
   ·intro t2 s2 hS2 hO2
    refine hW _ _ ⟨hS2.wf h,⟨fun b hb ho => (hS2.obj b (by simp at hb ⊢; exact fun e => hb.2 (e ▸ hm)) (hS.old ho)).trans (hS.obj b hb ho),Nat.le_trans hS.next hS2.next,fun _ => hS2.wf h⟩,fun j d hj => ?_⟩ (hS2.obj _ (by simpa using fun e:s5.next = q' => nL (e ▸ hm)) hoL)
    by_cases e:j = i
    ·subst e
     rw [hci] at hj
     cases hj
     simp [hct]
     exact .inr ⟨q',cp,by rw [hkv]; simp,by simpa using hO2⟩
    ·have e2:j < i ↔ j < i + 1:=by omega
     have hv:=hV j d hj
     have eg:(if j < i + 1∧d.taken = true then (K j).map (toC cls) else K j) = (if j < i∧d.taken = true then (K j).map (toC cls) else K j):=by simp [e2]
     rw [eg]
     refine hv.stay fun q2 c2 he hne => ?_
     have hl2:(if j < i∧d.taken = true then (K j).map (toC cls) else K j).length = (K j).length:=by split <;> simp
     rw [hl2] at he
     have hne':K j ≠ []:=by
      intro e
      rw [e] at hne
      simp at hne
     refine hS2.own (by simpa using fun e3:q2 = q' => e (hsep j i d c q' c2 cp hj hci (e3 ▸ he) hkv hne' h0)) (hS.old (hk5.old (hqo _ (hqs j d q2 c2 hj he hne'))))
 ·rintro s' ⟨h,hS,hV⟩
  simp
  refine q s' ⟨fun b hb ho => (hS.obj b (by simpa using ⟨hLo _ (hk5.old ho),hb⟩) (hk5.old ho)).trans (hk5.obj b ho),Nat.le_trans hk5.next hS.next,fun _ => h⟩ fun j c hj => ?_
  have:=hV j c hj
  have hjl:j < l.length:=(List.getElem?_eq_some_iff.1 hj).1
  simpa [hjl] using this
end Go.Proofs
end
section
open Go Go.AM
namespace Go.Proofs
theorem Zdt {D:List Key} {k k':Key} (h:k ∈ D):(addK D k').idxOf k = D.idxOf k:=by
 unfold addK
 split
 ·rfl
 ·rw [List.idxOf_append,if_pos h]
theorem Zdu {D:List Key} {k k':Key} (h:k ∈ D):k ∈ addK D k':=by
 unfold addK
 split
 ·exact h
 ·exact List.mem_append_left _ h
theorem Znc {now:List Int} {nds:List (List UInt8 × List Int)} {k:Key}:∀ (L:List Nat) (x:List Key × List Int),k ∈ x.1→k ∈ (L.foldl (Z5a now nds) x).1∧(L.foldl (Z5a now nds) x).1.idxOf k = x.1.idxOf k
 | [],x,h => ⟨h,rfl⟩
 | a :: L,x,h => by
  rw [List.foldl_cons]
  obtain ⟨h1,h2⟩:=Znc L (Z5a now nds x a) (Zdu h)
  exact ⟨h1,h2.trans (Zdt h)⟩
theorem Zqp {now:List Int} {nds:List (List UInt8 × List Int)}:∀ (L:List Nat) (x:List Key × List Int) (a:Nat),a < x.2.length→(a ∈ L ∨ (keyA now nds a ∈ x.1∧x.2[a]? = some (x.1.idxOf (keyA now nds a):Nat))) →
  (L.foldl (Z5a now nds) x).2[a]? = some ((L.foldl (Z5a now nds) x).1.idxOf (keyA now nds a):Nat)
 | [],x,a,ha,h => by
  rcases h with h | h
  ·cases h
  ·exact h.2
 | b :: L,x,a,ha,h => by
  rw [List.foldl_cons]
  refine Zqp L _ a (by simpa [Z5a] using ha) ?_
  by_cases hL:a ∈ L
  ·exact .inl hL
  ·by_cases e:a = b
   ·subst e
    exact .inr ⟨Zby _ _,by simp [Z5a,ha]⟩
   ·rcases h with h | ⟨h1,h2⟩
    ·rcases List.mem_cons.1 h with h | h
     ·exact (e h).elim
     ·exact (hL h).elim
    ·refine .inr ⟨Zdu h1,?_⟩
     show (x.2.set b _)[a]? = _
     rw [List.getElem?_set_ne (fun h => e h.symm),h2]
     have h3:(addK x.1 (keyA now nds b)).idxOf (keyA now nds a) = x.1.idxOf (keyA now nds a):=Zdt h1
     exact congrArg (fun n:Nat => some (n:Int)) h3.symm
theorem Za4 {now:List Int} {nds:List (List UInt8 × List Int)} {L:List Nat} {a:Nat} (ha:a ∈ L) (hn:a < nds.length):(Z0q now nds L).2[a]? = some ((Z0q now nds L).1.idxOf (keyA now nds a):Nat) :=
 Zqp L _ a (by simpa using hn) (.inl ha)
theorem Zcx {now:List Int} {nds:List (List UInt8 × List Int)}:∀ (L:List Nat) (x:List Key × List Int) (a:Nat),a ∈ L→keyA now nds a ∈ (L.foldl (Z5a now nds) x).1
 | b :: L,x,a,h => by
  rw [List.foldl_cons]
  rcases List.mem_cons.1 h with rfl | h
  ·exact (Znc L _ (Zby _ _)).1
  ·exact Zcx L _ a h
theorem Zef {now:List Int} {nds:List (List UInt8 × List Int)} {L:List Nat} {a b:Nat} (ha:a ∈ L) (hb:b ∈ L) (hna:a < nds.length) (hnb:b < nds.length) :
  (Z0q now nds L).2[a]? = (Z0q now nds L).2[b]? ↔ keyA now nds a = keyA now nds b:=by
 rw [Za4 ha hna,Za4 hb hnb]
 constructor
 ·intro h
  have h:(Z0q now nds L).1.idxOf (keyA now nds a) = (Z0q now nds L).1.idxOf (keyA now nds b):=by
   have:=Option.some.inj h
   omega
  have h1:=List.getElem_idxOf (List.idxOf_lt_length_of_mem (Zcx (now:=now) (nds:=nds) L ([],List.replicate nds.length (-1)) a ha))
  have h2:=List.getElem_idxOf (List.idxOf_lt_length_of_mem (Zcx (now:=now) (nds:=nds) L ([],List.replicate nds.length (-1)) b hb))
  unfold Z0q at h
  rw [← h1,← h2]
  congr 1
 ·intro h
  rw [h]
end Go.Proofs
end
section
open Go Go.AM
namespace Go.Proofs
theorem Zkb {now:List Int} {nds:List (List UInt8 × List Int)} {a b:Nat} {x y:List UInt8 × List Int} (hx:nds[a]? = some x) (hy:nds[b]? = some y) (h4:x.2.length ≤ 4) :
  keyA now nds a = keyA now nds b ↔ x.1 = y.1∧x.2.length = y.2.length∧∀ j,j < x.2.length→((x.2[j]?).bind fun k => now[k.toNat]?).getD 0 = ((y.2[j]?).bind fun k => now[k.toNat]?).getD 0:=by
 unfold keyA
 rw [hx,hy]
 show sgK now x 4 = sgK now y 4 ↔ _
 unfold sgK
 constructor
 ·intro h
  have h1:=congrArg Prod.fst h
  have h2:=congrArg Prod.snd h
  simp only at h1 h2
  have h3:=List.cons.inj h2
  have hl:x.2.length = y.2.length:=by have:=h3.1; omega
  refine ⟨h1,hl,fun j hj => ?_⟩
  have h5:=congrArg (fun l:List Int => l[j]?) h3.2
  simp only [sgX,List.getElem?_map] at h5
  have hj4:j < 4:=by omega
  rw [List.getElem?_range hj4] at h5
  simpa [hj4] using h5
 ·rintro ⟨h1,h2,h3⟩
  rw [h1,h2]
  have:sgX now x.2 4 = sgX now y.2 4:=by
   unfold sgX
   refine List.map_congr_left fun j hj => ?_
   have hj4:j < 4:=by simpa using hj
   rw [if_pos hj4,if_pos hj4]
   by_cases hlt:j < x.2.length
   ·exact h3 j hlt
   ·rw [List.getElem?_eq_none (by omega),List.getElem?_eq_none (by omega)]
  rw [this]
theorem Zfu {nds:List (List UInt8 × List Int)} {L:List Nat} (hL:∀ a ∈ L,a < nds.length) (hk:∀ a ∈ L,∀ x,nds[a]? = some x→x.2.length ≤ 4∧∀ k ∈ x.2,k.toNat ∈ L) :
  ∀ (r a b:Nat),a ∈ L→b ∈ L→(nowI nds L (r + 1))[a]? = (nowI nds L (r + 1))[b]?→(nowI nds L r)[a]? = (nowI nds L r)[b]?
 | 0,a,b,ha,hb,_ => by
  simp [nowI,hL a ha,hL b hb]
 | r + 1,a,b,ha,hb,h => by
  have hna:=hL a ha
  have hnb:=hL b hb
  have hx:nds[a]? = some nds[a]:=List.getElem?_eq_getElem hna
  have hy:nds[b]? = some nds[b]:=List.getElem?_eq_getElem hnb
  obtain ⟨h4,hkx⟩:=hk a ha _ hx
  obtain ⟨h4',hky⟩:=hk b hb _ hy
  have h1:=(Zef ha hb hna hnb).1 h
  obtain ⟨e1,e2,e3⟩:=(Zkb hx hy h4).1 h1
  refine (Zef ha hb hna hnb).2 ((Zkb hx hy h4).2 ⟨e1,e2,fun j hj => ?_⟩)
  have:=e3 j hj
  have hj':j < nds[b].2.length:=by omega
  have gx:nds[a].2[j]? = some nds[a].2[j]:=List.getElem?_eq_getElem hj
  have gy:nds[b].2[j]? = some nds[b].2[j]:=List.getElem?_eq_getElem hj'
  have mx:=hkx _ (List.getElem_mem hj)
  have my:=hky _ (List.getElem_mem hj')
  rw [gx,gy] at this ⊢
  simp only [Option.bind_some] at this ⊢
  have lx:nds[a].2[j].toNat < (nowI nds L (r + 1)).length:=by rw [Z6m]; exact hL _ mx
  have ly:nds[b].2[j].toNat < (nowI nds L (r + 1)).length:=by rw [Z6m]; exact hL _ my
  have heq:(nowI nds L (r + 1))[nds[a].2[j].toNat]? = (nowI nds L (r + 1))[nds[b].2[j].toNat]?:=by
   rw [List.getElem?_eq_getElem lx,List.getElem?_eq_getElem ly] at this ⊢
   simpa using this
  rw [Zfu hL hk r _ _ mx my heq]
end Go.Proofs
end
section
open Go Go.AM
namespace Go.Proofs
def news {α κ:Type} [DecidableEq κ] (f:α→κ):List α→List α→Nat
 | _,[] => 0
 | E,a :: L => (if E.any (fun e => decide (f e = f a)) = true then 0 else 1) + news f (E ++ [a]) L
theorem Zr2 {α κ:Type} [DecidableEq κ] (f:α→κ):∀ (L E:List α),news f E L ≤ L.length
 | [],E => Nat.le_refl _
 | a :: L,E => by
  have:=Zr2 f L (E ++ [a])
  simp only [news,List.length_cons]
  split <;> omega
theorem Zal {α κ:Type} [DecidableEq κ] {f:α→κ} {E:List α} {a:α}:E.any (fun e => decide (f e = f a)) = true ↔ ∃ e ∈ E,f e = f a:=by
 simp
theorem Zau {α κ μ:Type} [DecidableEq κ] [DecidableEq μ] {f:α→κ} {g:α→μ}:∀ (L E:List α),(∀ a ∈ E ++ L,∀ b ∈ E ++ L,f a = f b→g a = g b)→news g E L ≤ news f E L
 | [],E,_ => Nat.le_refl _
 | a :: L,E,h => by
  have ih:=Zau (f:=f) (g:=g) L (E ++ [a]) (by simpa using h)
  have h1:E.any (fun e => decide (f e = f a)) = true→E.any (fun e => decide (g e = g a)) = true:=by
   rw [Zal,Zal]
   rintro ⟨e,he,hf⟩
   exact ⟨e,he,h e (by simp [he]) a (by simp) hf⟩
  simp only [news]
  by_cases hf:E.any (fun e => decide (f e = f a)) = true
  ·rw [if_pos hf,if_pos (h1 hf)]; omega
  ·rw [if_neg hf]
   split <;> omega
theorem Zft {α κ μ:Type} [DecidableEq κ] [DecidableEq μ] {f:α→κ} {g:α→μ}:∀ (L E:List α),(∀ a ∈ E ++ L,∀ b ∈ E ++ L,f a = f b→g a = g b)→news g E L = news f E L →
  (∀ a ∈ E,∀ b ∈ E,g a = g b→f a = f b)→∀ a ∈ E ++ L,∀ b ∈ E ++ L,g a = g b→f a = f b
 | [],E,_,_,hE => by simpa using hE
 | a :: L,E,h,he,hE => by
  have hm:=Zau (f:=f) (g:=g) L (E ++ [a]) (by simpa using h)
  have h1:E.any (fun e => decide (f e = f a)) = true→E.any (fun e => decide (g e = g a)) = true:=by
   rw [Zal,Zal]
   rintro ⟨e,he,hf⟩
   exact ⟨e,he,h e (by simp [he]) a (by simp) hf⟩
  simp only [news] at he
  have hkey:news g (E ++ [a]) L = news f (E ++ [a]) L∧(E.any (fun e => decide (g e = g a)) = true→E.any (fun e => decide (f e = f a)) = true):=by
   by_cases hf:E.any (fun e => decide (f e = f a)) = true
   ·rw [if_pos hf,if_pos (h1 hf)] at he
    exact ⟨by omega,fun _ => hf⟩
   ·rw [if_neg hf] at he
    by_cases hg:E.any (fun e => decide (g e = g a)) = true
    ·rw [if_pos hg] at he
     omega
    ·rw [if_neg hg] at he
     exact ⟨by omega,fun h => (hg h).elim⟩
  obtain ⟨e1,e2⟩:=hkey
  rw [Zal,Zal] at e2
  have hone:∀ x ∈ E,g x = g a→f x = f a:=by
   intro x hx hg
   obtain ⟨e,he,hf⟩:=e2 ⟨x,hx,hg⟩
   have:=h e (by simp [he]) a (by simp) hf
   rw [← hf]
   exact hE x hx e he (hg.trans this.symm)
  have ih:=Zft (f:=f) (g:=g) L (E ++ [a]) (by simpa using h) e1 (by
   intro x hx y hy hg
   simp at hx hy
   rcases hx with hx | rfl
   ·rcases hy with hy | rfl
    ·exact hE x hx y hy hg
    ·exact hone x hx hg
   ·rcases hy with hy | rfl
    ·exact (hone y hy hg.symm).symm
    ·rfl)
  simpa using ih
theorem Zl7 {now:List Int} {nds:List (List UInt8 × List Int)}:∀ (L E:List Nat) (x:List Key × List Int),(∀ k,k ∈ x.1 ↔ ∃ e ∈ E,keyA now nds e = k) →
  (L.foldl (Z5a now nds) x).1.length = x.1.length + news (keyA now nds) E L
 | [],E,x,_ => rfl
 | a :: L,E,x,h => by
  rw [List.foldl_cons,Zl7 L (E ++ [a]) (Z5a now nds x a)]
  ·show (addK x.1 (keyA now nds a)).length + _ = _
   simp only [news]
   by_cases hm:keyA now nds a ∈ x.1
   ·have h2:=(Zal (f:=keyA now nds) (E:=E) (a:=a)).2 ((h _).1 hm)
    rw [if_pos h2]
    unfold addK
    rw [if_pos hm]
    omega
   ·have h2:¬ E.any (fun e => decide (keyA now nds e = keyA now nds a)) = true:=fun hh => hm ((h _).2 (Zal.1 hh))
    rw [if_neg h2]
    unfold addK
    rw [if_neg hm]
    simp
    omega
  ·intro k
   show k ∈ addK x.1 (keyA now nds a) ↔ _
   unfold addK
   split
   ·rename_i hm
    rw [h]
    constructor
    ·rintro ⟨e,he,hk⟩
     exact ⟨e,by simp [he],hk⟩
    ·rintro ⟨e,he,hk⟩
     simp at he
     rcases he with he | rfl
     ·exact ⟨e,he,hk⟩
     ·obtain ⟨e',he',hk'⟩:=(h _).1 hm
      exact ⟨e',he',hk'.trans hk⟩
   ·simp only [List.mem_append,List.mem_singleton]
    rw [h]
    constructor
    ·rintro (⟨e,he,hk⟩ | rfl)
     ·exact ⟨e,.inl he,hk⟩
     ·exact ⟨a,.inr rfl,rfl⟩
    ·rintro ⟨e,he | rfl,hk⟩
     ·exact .inl ⟨e,he,hk⟩
     ·exact .inr hk.symm
theorem Z5n (nds:List (List UInt8 × List Int)) (L:List Nat) (r:Nat):cntI nds L (r + 1) = news (keyA (nowI nds L r) nds) [] L:=by
 show (Z0q (nowI nds L r) nds L).1.length = _
 unfold Z0q
 rw [Zl7 L [] _ (by simp)]
 simp
structure Closed (nds:List (List UInt8 × List Int)) (L:List Nat):Prop where
 lt:∀ a ∈ L,a < nds.length
 kids:∀ a ∈ L,∀ x,nds[a]? = some x→x.2.length ≤ 4∧∀ k ∈ x.2,k.toNat ∈ L
def sim (nds:List (List UInt8 × List Int)):Nat→Nat→Nat→Prop
 | 0,_,_ => True
 | r + 1,a,b => ∃ x y,nds[a]? = some x∧nds[b]? = some y∧x.1 = y.1∧x.2.length = y.2.length∧∀ (j:Nat) (k m:Int),x.2[j]? = some k→y.2[j]? = some m→sim nds r k.toNat m.toNat
section
variable {nds:List (List UInt8 × List Int)} {L:List Nat} (hC:Closed nds L)
include hC
theorem Za0:∀ (r a b:Nat),a ∈ L→b ∈ L→((nowI nds L r)[a]? = (nowI nds L r)[b]? ↔ sim nds r a b)
 | 0,a,b,ha,hb => by simp [nowI,sim,hC.lt a ha,hC.lt b hb]
 | r + 1,a,b,ha,hb => by
  have hna:=hC.lt a ha
  have hnb:=hC.lt b hb
  have hx:nds[a]? = some nds[a]:=List.getElem?_eq_getElem hna
  have hy:nds[b]? = some nds[b]:=List.getElem?_eq_getElem hnb
  obtain ⟨h4,hkx⟩:=hC.kids a ha _ hx
  obtain ⟨h4',hky⟩:=hC.kids b hb _ hy
  show (Z0q (nowI nds L r) nds L).2[a]? = (Z0q (nowI nds L r) nds L).2[b]? ↔ _
  rw [Zef ha hb hna hnb,Zkb hx hy h4]
  have hj:∀ (j:Nat) (k m:Int),nds[a].2[j]? = some k→nds[b].2[j]? = some m →
    ((((nds[a].2[j]?).bind fun k => (nowI nds L r)[k.toNat]?).getD 0 = ((nds[b].2[j]?).bind fun k => (nowI nds L r)[k.toNat]?).getD 0) ↔ sim nds r k.toNat m.toNat):=by
   intro j k m hk hm
   have mk:=hkx k (List.mem_of_getElem? hk)
   have mm:=hky m (List.mem_of_getElem? hm)
   rw [hk,hm,← Za0 r _ _ mk mm]
   simp only [Option.bind_some]
   have lx:k.toNat < (nowI nds L r).length:=by rw [Z6m]; exact hC.lt _ mk
   have ly:m.toNat < (nowI nds L r).length:=by rw [Z6m]; exact hC.lt _ mm
   rw [List.getElem?_eq_getElem lx,List.getElem?_eq_getElem ly]
   simp
  constructor
  ·rintro ⟨e1,e2,e3⟩
   refine ⟨_,_,hx,hy,e1,e2,fun j k m hk hm => (hj j k m hk hm).1 (e3 j ?_)⟩
   exact (List.getElem?_eq_some_iff.1 hk).1
  ·rintro ⟨x,y,hx',hy',e1,e2,e3⟩
   rw [hx] at hx'
   rw [hy] at hy'
   cases hx'
   cases hy'
   refine ⟨e1,e2,fun j hj' => ?_⟩
   have gk:nds[a].2[j]? = some nds[a].2[j]:=List.getElem?_eq_getElem hj'
   have gm:nds[b].2[j]? = some (nds[b].2[j]'(by omega)):=List.getElem?_eq_getElem (by omega)
   exact (hj j _ _ gk gm).2 (e3 j _ _ gk gm)
theorem Z68 (r a b:Nat) (ha:a ∈ L) (hb:b ∈ L):keyA (nowI nds L r) nds a = keyA (nowI nds L r) nds b ↔ sim nds (r + 1) a b:=by
 rw [← Za0 hC (r + 1) a b ha hb]
 exact (Zef ha hb (hC.lt a ha) (hC.lt b hb)).symm
theorem Zel {r a b:Nat} (ha:a ∈ L) (hb:b ∈ L) (h:sim nds (r + 1) a b):sim nds r a b :=
 (Za0 hC r a b ha hb).1 (Zfu hC.lt hC.kids r a b ha hb ((Za0 hC (r + 1) a b ha hb).2 h))
theorem Zxz {r m a b:Nat} (ha:a ∈ L) (hb:b ∈ L) (hm:m ≤ r) (h:sim nds r a b):sim nds m a b:=by
 induction r with
 | zero =>
  have:m = 0:=by omega
  subst this
  exact h
 | succ r ih =>
  rcases Nat.lt_or_ge m (r + 1) with h1 | h1
  ·exact ih (by omega) (Zel hC ha hb h)
  ·have:m = r + 1:=by omega
   subst this
   exact h
theorem Zul (r:Nat):cntI nds L r ≤ cntI nds L (r + 1):=by
 cases r with
 | zero => exact Nat.zero_le _
 | succ r =>
  rw [Z5n,Z5n]
  refine Zau L [] fun a ha b hb h => ?_
  simp at ha hb
  exact (Z68 hC r a b ha hb).2 (Zel hC ha hb ((Z68 hC (r + 1) a b ha hb).1 h))
theorem Zwq (r:Nat):cntI nds L r ≤ L.length:=by
 cases r with
 | zero => exact Nat.zero_le _
 | succ r => rw [Z5n]; exact Zr2 _ _ _
theorem Zit:∀ (r:Nat),(∀ m,m < r→cntI nds L (m + 1) ≠ cntI nds L m)→r ≤ cntI nds L r
 | 0,_ => Nat.zero_le _
 | r + 1,h => by
  have h1:=Zit r fun m hm => h m (by omega)
  have h2:=Zul hC r
  have h3:=h r (by omega)
  omega
theorem Zeh:∃ R,cntI nds L (R + 1) = cntI nds L R∧∀ r,r < R→cntI nds L (r + 1) ≠ cntI nds L r:=by
 have hex:∃ R,R ≤ L.length∧cntI nds L (R + 1) = cntI nds L R:=by
  refine Classical.byContradiction fun hn => ?_
  have h1:=Zit hC (L.length + 1) fun m hm he => hn ⟨m,by omega,he⟩
  have h2:=Zwq hC (L.length + 1)
  omega
 obtain ⟨R,_,hR⟩:=hex
 revert hR
 refine Nat.strongRecOn (motive:=fun R => cntI nds L (R + 1) = cntI nds L R→_) R fun n ih hn => ?_
 by_cases h:∃ r,r < n∧cntI nds L (r + 1) = cntI nds L r
 ·obtain ⟨r,hr,he⟩:=h
  exact ih r hr he
 ·exact ⟨n,hn,fun r hr he => h ⟨r,hr,he⟩⟩
theorem Zm5 {R:Nat} (hE:cntI nds L (R + 1) = cntI nds L R):∀ (d a b:Nat),a ∈ L→b ∈ L→sim nds R a b→sim nds (R + d) a b
 | 0,a,b,_,_,h => h
 | d + 1,a,b,ha,hb,h => by
  have hone:∀ a b,a ∈ L→b ∈ L→sim nds R a b→sim nds (R + 1) a b:=by
   intro a b ha hb h
   cases R with
   | zero =>
    have h0:cntI nds L (0 + 1) = 0:=hE
    rw [Z5n] at h0
    cases L with
    | nil => cases ha
    | cons c L => simp [news] at h0
   | succ r =>
    rw [Z5n,Z5n] at hE
    have:=Zft (f:=keyA (nowI nds L (r + 1)) nds) (g:=keyA (nowI nds L r) nds) L [] (by
     intro a ha b hb h
     simp at ha hb
     exact (Z68 hC r a b ha hb).2 (Zel hC ha hb ((Z68 hC (r + 1) a b ha hb).1 h))) hE.symm (by simp) a (by simpa using ha) b (by simpa using hb)
    exact (Z68 hC (r + 1) a b ha hb).1 (this ((Z68 hC r a b ha hb).2 h))
  have h1:=hone a b ha hb h
  obtain ⟨x,y,hx,hy,e1,e2,e3⟩:=h1
  refine ⟨x,y,hx,hy,e1,e2,fun j k m hk hm => ?_⟩
  exact Zm5 hE d _ _ ((hC.kids a ha x hx).2 k (List.mem_of_getElem? hk)) ((hC.kids b hb y hy).2 m (List.mem_of_getElem? hm)) (e3 j k m hk hm)
theorem Zh4 {R:Nat} (hE:cntI nds L (R + 1) = cntI nds L R) {a b:Nat} (ha:a ∈ L) (hb:b ∈ L):(nowI nds L (R + 1))[a]? = (nowI nds L (R + 1))[b]? ↔ ∀ r,sim nds r a b:=by
 rw [Za0 hC (R + 1) a b ha hb]
 constructor
 ·intro h r
  have h1:=Zm5 hC hE r a b ha hb (Zel hC ha hb h)
  exact Zxz hC ha hb (by omega) h1
 ·intro h
  exact h _
end
theorem Zj8 {now:List Int} {nds:List (List UInt8 × List Int)}:∀ (L:List Nat) (x:List Key × List Int) (a:Nat),a ∉ L→(L.foldl (Z5a now nds) x).2[a]? = x.2[a]?
 | [],x,a,_ => rfl
 | b :: L,x,a,h => by
  simp at h
  rw [List.foldl_cons,Zj8 L _ a h.2]
  show (x.2.set b _)[a]? = _
  rw [List.getElem?_set_ne (fun e => h.1 e.symm)]
theorem Zfv (nds:List (List UInt8 × List Int)) (L:List Nat) (r a:Nat) (ha:a < nds.length) (h:a ∉ L):(nowI nds L (r + 1))[a]? = some (-1):=by
 show (Z0q (nowI nds L r) nds L).2[a]? = _
 unfold Z0q
 rw [Zj8 L _ a h]
 simp [ha]
end Go.Proofs
end
section
open Go Go.AM
namespace Go.Proofs
set_option maxRecDepth 100000
open Classical in
noncomputable def clsF (nds:List (List UInt8 × List Int)) (L:List Nat):List Int:=if h:Closed nds L then nowI nds L (Classical.choose (Zeh h) + 1) else []
theorem Z9o {nds:List (List UInt8 × List Int)} {L:List Nat} (h:Closed nds L):∃ R,clsF nds L = nowI nds L (R + 1)∧cntI nds L (R + 1) = cntI nds L R∧∀ r,r < R→cntI nds L (r + 1) ≠ cntI nds L r:=by
 refine ⟨Classical.choose (Zeh h),?_,Classical.choose_spec (Zeh h)⟩
 unfold clsF
 rw [dif_pos h]
def Z11 (cs:List CV):List (List UInt8 × List Int):=cs.map fun c => if c.taken = true then (c.name,c.kids) else ([],[])
def Z1f (cs:List CV) (i:Nat):List Nat:=(List.range i).filter fun j => Z07 cs (j:Int)
theorem Z14 {cs:List CV} {j:Nat} {c:CV} (h:cs[j]? = some c):Z07 cs (j:Int) = c.taken:=by
 unfold Z07
 simp [h]
theorem Zad {cs:List CV} {i:Nat} {c:CV} (h:cs[i]? = some c) (hc:c.taken = true):Z1f cs (i + 1) = Z1f cs i ++ [i]:=by
 unfold Z1f
 rw [List.range_succ,List.filter_append]
 simp [Z14 h,hc]
theorem Zd6 {cs:List CV} {i:Nat} {c:CV} (h:cs[i]? = some c) (hc:c.taken = false):Z1f cs (i + 1) = Z1f cs i:=by
 unfold Z1f
 rw [List.range_succ,List.filter_append]
 simp [Z14 h,hc]
theorem Z4o {cs:List CV} {i a:Nat}:a ∈ Z1f cs i ↔ a < i∧Z07 cs (a:Int) = true:=by
 unfold Z1f
 simp
structure HOk (cs:List CV):Prop where
 kids4:∀ c ∈ cs,c.kids.length ≤ 4
 kids:∀ c ∈ cs,c.taken = true→∀ k ∈ c.kids,Z07 cs k = true
theorem Z39 {cs:List CV} {a:Nat} {c:CV} (h:cs[a]? = some c):(Z11 cs)[a]? = some (if c.taken = true then (c.name,c.kids) else ([],[])):=by
 unfold Z11
 rw [List.getElem?_map,h]
 rfl
theorem Z1s (cs:List CV):(Z11 cs).length = cs.length:=by simp [Z11]
theorem HOk.closed {cs:List CV} (h:HOk cs):Closed (Z11 cs) (Z1f cs cs.length):=by
 refine ⟨fun a ha => ?_,fun a ha x hx => ?_⟩
 ·rw [Z1s]
  exact (Z4o.1 ha).1
 ·obtain ⟨h1,h2⟩:=Z4o.1 ha
  have hc:cs[a]? = some cs[a]:=List.getElem?_eq_getElem h1
  rw [Z14 hc] at h2
  rw [Z39 hc,if_pos h2] at hx
  cases hx
  refine ⟨h.kids4 _ (List.getElem_mem h1),fun k hk => ?_⟩
  have h3:=h.kids _ (List.getElem_mem h1) h2 k hk
  obtain ⟨h0,d,hd,ht,hlt⟩:=Z22 h3
  rw [Z4o]
  refine ⟨hlt,?_⟩
  rw [Z14 hd]
  exact ht
theorem HOk.Zjd {cs:List CV} (h:HOk cs):∀ (a:Nat) nd,(Z11 cs)[a]? = some nd→nd.2.length ≤ 4∧∀ k ∈ nd.2,0 ≤ k∧k < (Z11 cs).length:=by
 intro a nd hnd
 have h1:a < cs.length:=by have:=(List.getElem?_eq_some_iff.1 hnd).1; rwa [Z1s] at this
 have hc:cs[a]? = some cs[a]:=List.getElem?_eq_getElem h1
 rw [Z39 hc] at hnd
 by_cases ht:cs[a].taken = true
 ·rw [if_pos ht] at hnd
  cases hnd
  refine ⟨h.kids4 _ (List.getElem_mem h1),fun k hk => ?_⟩
  obtain ⟨h0,d,hd,_,hlt⟩:=Z22 (h.kids _ (List.getElem_mem h1) ht k hk)
  rw [Z1s]
  exact ⟨h0,by omega⟩
 ·rw [if_neg ht] at hnd
  cases hnd
  exact ⟨by simp,by simp⟩
def Z57 (cls:List Int) (cs:List CV):List CV:=cs.map fun c => if c.taken = true then { c with kids:=c.kids.map (toC cls) } else c
def addH (x:List CV) (k:Nat) (d:Int):List CV:=match x[k]? with
 | some c => x.set k { c with held:=IntKind.wrap .i64 (c.held + d) }
 | none => x
def Z0l (cls:List Int) (cs:List CV):Nat→List CV
 | 0 => Z57 cls cs
 | i + 1 => match cs[i]? with
  | some c => if c.taken = true∧toC cls (i:Int) ≠ (i:Int) then addH (Z0l cls cs i) (toC cls (i:Int)).toNat c.held else Z0l cls cs i
  | none => Z0l cls cs i
def Z1e (cls:List Int) (cs:List CV) (i:Nat):List Int:=((Z1f cs i).filter fun (j:Nat) => decide (toC cls (j:Int) ≠ (j:Int))).map fun (j:Nat) => (j:Int)
def Z1r:CV:=⟨false,[],[],0⟩
def relC (cs:List CV) (gone:List Int):List CV:=gone.foldl (fun l k => l.set k.toNat Z1r) cs
noncomputable def Z7i (cs:List CV):Int × Int × List CV :=
 if (Z0l (clsF (Z11 cs) (Z1f cs cs.length)) cs cs.length).any (fun c => decide (1000 < c.held)) = true then (0,12,cs)
 else ((Z1e (clsF (Z11 cs) (Z1f cs cs.length)) cs cs.length).length,0,relC (Z0l (clsF (Z11 cs) (Z1f cs cs.length)) cs cs.length) (Z1e (clsF (Z11 cs) (Z1f cs cs.length)) cs cs.length))
theorem Zwh (x:List CV) (k:Nat) (d:Int):(addH x k d).length = x.length:=by
 unfold addH
 split <;> simp
theorem Z2r (cls:List Int) (cs:List CV):∀ i,(Z0l cls cs i).length = cs.length
 | 0 => by simp [Z0l,Z57]
 | i + 1 => by
  unfold Z0l
  split
  ·split
   ·rw [Zwh,Z2r cls cs i]
   ·exact Z2r cls cs i
  ·exact Z2r cls cs i
theorem Zc9:∀ (gone:List Int) (cs:List CV),(relC cs gone).length = cs.length
 | [],cs => rfl
 | k :: r,cs => by
  show (relC (cs.set k.toNat Z1r) r).length = _
  rw [Zc9 r]
  simp
theorem Zp1 {cls:List Int} {i:Nat} {c:Int} (h:cls[i]? = some c):∃ j:Nat,toC cls (i:Int) = j∧j ≤ i∧cls[j]? = some c∧∀ j' d,j' < j→cls[j']? = some d→d ≠ c:=by
 have hex:∃ j,j ≤ i∧cls[j]? = some c∧∀ j' d,j' < j→cls[j']? = some d→d ≠ c:=by
  revert h
  refine Nat.strongRecOn (motive:=fun i => cls[i]? = some c→∃ j,j ≤ i∧cls[j]? = some c∧∀ j' d,j' < j→cls[j']? = some d→d ≠ c) i fun n ih h => ?_
  by_cases hl:∃ j,j < n∧cls[j]? = some c
  ·obtain ⟨j,h1,h2⟩:=hl
   obtain ⟨j',h3,h4⟩:=ih j h1 h2
   exact ⟨j',by omega,h4⟩
  ·exact ⟨n,Nat.le_refl _,h,fun j' d hj hd e => hl ⟨j',hj,by rw [hd,e]⟩⟩
 obtain ⟨j,h1,h2,h3⟩:=hex
 refine ⟨j,?_,h1,h2,h3⟩
 unfold toC
 simp only [Int.toNat_natCast,h]
 exact Zcj (fun j' d hj hd => by simpa using fun e:c = d => h3 j' d hj hd e.symm) h2 (by simp)
theorem Zh8 {cls:List Int} {cs:List CV} {i:Nat} {c:CV} (h:cs[i]? = some c) (ht:c.taken = true) (hn:toC cls (i:Int) ≠ (i:Int)):Z1e cls cs (i + 1) = Z1e cls cs i ++ [(i:Int)]:=by
 unfold Z1e
 rw [Zad h ht,List.filter_append]
 simp [hn]
theorem Zha {cls:List Int} {cs:List CV} {i:Nat} {c:CV} (h:cs[i]? = some c) (ht:c.taken = true) (hn:toC cls (i:Int) = (i:Int)):Z1e cls cs (i + 1) = Z1e cls cs i:=by
 unfold Z1e
 rw [Zad h ht,List.filter_append]
 simp [hn]
theorem Zh9 {cls:List Int} {cs:List CV} {i:Nat} {c:CV} (h:cs[i]? = some c) (ht:c.taken = false):Z1e cls cs (i + 1) = Z1e cls cs i:=by
 unfold Z1e
 rw [Zd6 h ht]
theorem Z9a {cls:List Int} {cs:List CV} {i:Nat} {k:Int}:k ∈ Z1e cls cs i ↔ 0 ≤ k∧k < i∧Z07 cs k = true∧toC cls k ≠ k:=by
 unfold Z1e
 simp only [List.mem_map,List.mem_filter,Z4o,decide_eq_true_eq]
 constructor
 ·rintro ⟨j,⟨⟨h1,h2⟩,h3⟩,rfl⟩
  exact ⟨by omega,by omega,h2,h3⟩
 ·rintro ⟨h0,h1,h2,h3⟩
  have e:((k.toNat:Nat):Int) = k:=by omega
  exact ⟨k.toNat,⟨⟨by omega,by rw [e]; exact h2⟩,by rw [e]; exact h3⟩,e⟩
theorem Zjc (cls:List Int) (cs:List CV) (i:Nat):(Z1e cls cs i).length ≤ i:=by
 unfold Z1e Z1f
 rw [List.length_map]
 refine Nat.le_trans (List.length_filter_le _ _) (Nat.le_trans (List.length_filter_le _ _) (by simp))
theorem nds_rcs {cs:List CV} {V:List AVal} (h:V.length = cs.length):Zbf (rcs cs V) (Z0o cs) = Z11 cs:=by
 refine List.ext_getElem? fun j => ?_
 by_cases hj:j < cs.length
 ·have h1:cs[j]? = some cs[j]:=List.getElem?_eq_getElem hj
  have h2:V[j]? = some (V[j]'(by omega)):=List.getElem?_eq_getElem (by omega)
  rw [Z39 h1]
  unfold Zbf Z0o
  simp [Z1k h1 h2,h1]
 ·rw [List.getElem?_eq_none (by simp [Zbf,Z1c h]; omega),List.getElem?_eq_none (by rw [Z1s]; omega)]
theorem Zrf {cs:List CV} {V:List AVal} (h:V.length = cs.length) (i:Nat):takI (rcs cs V) i = Z1f cs i:=by
 unfold takI Z1f
 refine List.filter_congr fun j _ => ?_
 by_cases hj:j < cs.length
 ·have h1:cs[j]? = some cs[j]:=List.getElem?_eq_getElem hj
  have h2:V[j]? = some (V[j]'(by omega)):=List.getElem?_eq_getElem (by omega)
  rw [Z1k h1 h2,Z14 h1]
 ·have h1:cs[j]? = none:=List.getElem?_eq_none (by omega)
  have h2:(rcs cs V)[j]? = none:=List.getElem?_eq_none (by rw [Z1c h]; omega)
  rw [h2]
  unfold Z07
  simp [h1]
theorem Zxu (cls:List Int) (cs:List CV) (V:List AVal):rcs (Z57 cls cs) V = rcs cs V:=by
 unfold rcs Z57
 rw [List.zipWith_map_left]
 congr 1
 funext d kv
 split <;> rfl
theorem Zqa:∀ {cs:List CV} {V:List AVal},V.length = cs.length→(rcs cs V).any (fun c => decide (1000 < c.held)) = cs.any (fun c => decide (1000 < c.held))
 | [],V,_ => by simp [rcs]
 | c :: cs,[],h => by simp at h
 | c :: cs,v :: V,h => by
  have:=Zqa (cs:=cs) (V:=V) (by simpa using h)
  simp [rcs] at this ⊢
  rw [this]
theorem Zfc:∀ (l:List RC) (i:Nat) (c:RC) (d:Int),l[i]? = some c→lay (encs l) (i * 4 + 3) [.int .i64 d] = encs (l.set i { c with held:=d })
 | [],i,c,d,h => by simp at h
 | e :: l,0,c,d,h => by
  simp at h
  subst h
  have e1:encs (e :: l) = e.enc ++ encs l:=rfl
  have e2:encs ((e :: l).set 0 { e with held:=d }) = (RC.enc { e with held:=d }) ++ encs l:=rfl
  rw [e1,e2]
  simp [lay,RC.enc]
 | e :: l,i + 1,c,d,h => by
  have e1:encs (e :: l) = e.enc ++ encs l:=rfl
  have e2:encs ((e :: l).set (i + 1) { c with held:=d }) = e.enc ++ encs (l.set i { c with held:=d }):=rfl
  have ih:=Zfc l i c d (by simpa using h)
  have hd:e.enc.length = 4:=rfl
  have e3:(i + 1) * 4 + 3 = e.enc.length + (i * 4 + 3):=by rw [hd]; omega
  rw [e1,e2,← ih]
  unfold lay
  rw [e3,List.take_length_add_append,Nat.add_assoc,List.drop_length_add_append]
  simp
theorem Zxt {cs:List CV} {V:List AVal} {k:Nat} {c:CV} {kv:AVal} (hc:cs[k]? = some c) (hv:V[k]? = some kv) (d:Int):(rcs cs V).set k { taken:=c.taken,name:=c.name,kv:=kv,held:=IntKind.wrap .i64 (c.held + d) } = rcs (addH cs k d) V:=by
 unfold addH
 rw [hc]
 simp only
 have hV:V.set k kv = V:=by
  refine List.ext_getElem? fun x => ?_
  rw [List.getElem?_set]
  by_cases e:k = x
  ·subst e
   rw [if_pos rfl,hv,if_pos (List.getElem?_eq_some_iff.1 hv).1]
  ·rw [if_neg e]
 have:=Z84 (cs:=cs) (V:=V) (i:=k) (d:={ c with held:=IntKind.wrap .i64 (c.held + d) }) (kv:=kv)
 rw [hV] at this
 exact this
theorem Zqk {cs:List CV} {V:List AVal} {kvs:Nat→AVal} (h:V.length = cs.length):cpI (rcs cs V) kvs cs.length = rcs cs ((List.range cs.length).map kvs):=by
 refine List.ext_getElem? fun j => ?_
 by_cases hj:j < cs.length
 ·have h1:cs[j]? = some cs[j]:=List.getElem?_eq_getElem hj
  have h2:V[j]? = some (V[j]'(by omega)):=List.getElem?_eq_getElem (by omega)
  have h3:((List.range cs.length).map kvs)[j]? = some (kvs j):=by rw [List.getElem?_map,List.getElem?_range hj]; rfl
  rw [Zdh (Z1k h1 h2),Z1k h1 h3]
  simp [hj]
 ·rw [List.getElem?_eq_none (by rw [Z9p,Z1c h]; omega),List.getElem?_eq_none (by rw [Z1c (by simp)]; omega)]
theorem Zib:∀ (gone:List Int) {cs:List CV} {V:List AVal} {m:Lets},V.length = cs.length→Z0s (cs.map CV.kids) V m→(∀ k ∈ gone,0 ≤ k∧k < cs.length) →
  ∃ V' m' d,rel (rcs cs V) gone = rcs (relC cs gone) V'∧Z0s ((relC cs gone).map CV.kids) V' m'∧m.Perm (m' ++ d)
 | [],cs,V,m,_,h,_ => ⟨V,m,[],rfl,h,by simp⟩
 | k :: gone,cs,V,m,hV,h,hin => by
  obtain ⟨h0,h1⟩:=hin k (by simp)
  have hlt:k.toNat < cs.length:=by omega
  obtain ⟨kv,m1,m2,g1,g2,g3,g4⟩:=h.at (i:=k.toNat) (ks:=cs[k.toNat].kids) (by rw [List.getElem?_map,List.getElem?_eq_getElem hlt]; rfl)
  have h2:=g4 [] .nilSlice [] (.inl ⟨rfl,rfl,rfl⟩)
  have h3:(cs.map CV.kids).set k.toNat [] = (cs.set k.toNat Z1r).map CV.kids:=by rw [List.map_set]; rfl
  rw [h3] at h2
  obtain ⟨V',m',d,e1,e2,e3⟩:=Zib gone (cs:=cs.set k.toNat Z1r) (V:=V.set k.toNat .nilSlice) (by simpa using hV) h2 (fun k' hk' => by simpa using hin k' (by simp [hk']))
  refine ⟨V',m',d ++ m1,?_,e2,?_⟩
  ·rw [← show rcs (relC (cs.set k.toNat Z1r) gone) V' = rcs (relC cs (k :: gone)) V' from rfl,← e1]
   show rel ((rcs cs V).set k.toNat Zgk) gone = _
   have:=Z84 (cs:=cs) (V:=V) (i:=k.toNat) (d:=Z1r) (kv:=.nilSlice)
   rw [← this]
   rfl
  ·refine g3.trans ?_
   refine (List.perm_append_comm (l₁:=m1) (l₂:=m2)).trans ?_
   rw [← List.append_assoc]
   exact (by simpa using e3:m2.Perm (m' ++ d)).append (List.Perm.refl m1)
theorem KidV.ints {s:St} {kv:AVal} {ks:List Int} (h:KidV s kv ks) (hw:s.Wf):Z0e s kv ks:=by
 rcases h with h | ⟨q,c,rfl,h⟩
 ·exact .inl h
 ·exact .inr ⟨q,0,c,_,rfl,Z09 hw h,Z0a h,by simp,fun i k hk => by simp [hk]⟩
theorem Z60 {s:St} {b:Pos} {ks:List Int} (hw:s.Wf) (h:s.own b = some (ints ks)) (c:Cap):Z0e s (.slice b 0 ks.length c) ks:=KidV.ints (.inr ⟨b,c,rfl,h⟩) hw
def Z23 (lv:AVal) (g:List Int) (m:Lets):Prop:=(g = []∧lv = .nilSlice∧m = []) ∨ ∃ q,g ≠ []∧lv = .slice q 0 g.length (.opn 1)∧m = [(q,C (ints g))]
theorem Z23.len {lv:AVal} {g:List Int} {m:Lets} (h:Z23 lv g m):Z18 lv = some g.length:=by
 rcases h with ⟨rfl,rfl,_⟩ | ⟨q,_,rfl,_⟩ <;> rfl
theorem Z23.ntup {lv:AVal} {g:List Int} {m:Lets} (h:Z23 lv g m):∀ t,¬ lv = .tup t:=by
 rintro t rfl
 have:=h.len
 cases this
theorem Z23.cells {lv:AVal} {g:List Int} {m:Lets} (h:Z23 lv g m):lv.cells = [lv]:=by
 rcases h with ⟨rfl,rfl,_⟩ | ⟨q,_,rfl,_⟩ <;> rfl
theorem Z23.row {lv:AVal} {g:List Int} {m:Lets} (h:Z23 lv g m):RowR lv g m:=by
 rcases h with ⟨h1,rfl,h2⟩ | ⟨q,h1,h2,h3⟩
 ·exact .inl ⟨h1,rfl,h2⟩
 ·exact .inr ⟨q,_,h1,h2,h3⟩
theorem RowR.kid {s:St} {kv:AVal} {ks:List Int} {m:Lets} (h:RowR kv ks m) (ho:∀ x ∈ m,s.obj x.1 = some x.2):KidV s kv ks:=by
 rcases h with ⟨h1,h2,h3⟩ | ⟨q,c,h1,h2,rfl⟩
 ·exact .inl ⟨h2,h1⟩
 ·exact .inr ⟨q,c,h2,Z13 (ho (q,C (ints ks)) (by simp))⟩
section
variable {s0 s:St} {W:Pos→Prop} {m r:Lets}
theorem Ctx.chg0 {b:Pos} {x y:AObj} (h:Ctx s0 W ((b,x) :: m) s) {s':St} (k:Same [b] s s') (hy:s'.obj b = some y):Ctx s0 W ((b,y) :: m) s':=by
 have hn:=h.nodup
 rw [List.map_cons,List.nodup_cons] at hn
 refine (h.tail.same k ?_ ?_).add hy (h.free (b,x) (by simp)) hn.1
 ·intro c hc ho
  simp at hc
  subst hc
  exact h.free (c,x) (by simp) ho
 ·intro z hz hb
  simp at hb
  exact hn.1 (List.mem_map.2 ⟨z,hz,hb⟩)
theorem Ctx.chg {b:Pos} {x y:AObj} (h:Ctx s0 W m s) (i:Nat) (hi:m[i]? = some (b,x)) {s':St} (k:Same [b] s s') (hy:s'.obj b = some y):Ctx s0 W (m.set i (b,y)) s' :=
 ((h.perm (Z8j m i _ hi)).chg0 k hy).perm (set_perm m i _ _ hi)
theorem Z6w {pre mg:Lets} {lv:AVal} {g:List Int} {x:Int} {Q:AVal→St→Prop} (h:Ctx s0 W (pre ++ (mg ++ r)) s) (hg:Z23 lv g mg) (hs:g.length ≤ 1000)
  (q:∀ lv' mg' s',Z23 lv' (g ++ [x]) mg'→Ctx s0 W (pre ++ (mg' ++ r)) s'→Q lv' s'):appP (1,8) lv [.int .i64 x] 1 s Q:=by
 rcases hg with ⟨rfl,rfl,rfl⟩ | ⟨b,hne,rfl,rfl⟩
 ·simp only [appP,Z4m]
  rw [if_neg (by decide)]
  refine ⟨by unfold Z0g; omega,?_⟩
  have:=h.alloc (C [.int .i64 x])
  refine q (.slice s.next 0 1 (.opn 1)) [(s.next,C (ints [x]))] _ (.inr ⟨_,by simp,rfl,rfl⟩) (this.perm ?_)
  simp only [List.nil_append]
  exact List.perm_middle.symm
 ·have hb:s.own b = some (ints g):=Z13 (h.own (b,C (ints g)) (by simp))
  have hl:g.length ≠ 0:=by simpa using hne
  have h1:Ctx s0 W ((b,C (ints g)) :: (pre ++ r)) s:=h.perm (by simp)
  have h2:=(h1.put0 .dead).tail.alloc (C (ints g ++ [.int .i64 x]))
  simp only [appP,Z4m]
  rw [if_neg (by decide)]
  refine ⟨trivial,?_⟩
  rw [hb]
  simp only [Z0y]
  rw [if_neg hl,if_neg (by simp)]
  refine ⟨by simp,by unfold Z0g; omega,?_⟩
  have ht:List.take (g.length * 1) (List.drop 0 (ints g)) = ints g:=by rw [List.drop_zero]; exact List.take_of_length_le (by simp)
  rw [ht]
  have hi:ints g ++ [AVal.int .i64 x] = ints (g ++ [x]):=by simp [ints]
  rw [hi] at h2 ⊢
  have hn:(s.put b .dead).next = s.next:=rfl
  refine q (.slice s.next 0 (g.length + 1) (.opn 1)) [(s.next,C (ints (g ++ [x])))] _ (.inr ⟨_,by simp,by simp,rfl⟩) (h2.perm ?_)
  rw [hn]
  exact List.perm_middle.symm
theorem Zb5 {fr:FI} {t:PT AVal} {Q:Ex→PT AVal→St→Prop} {f:RO} {k k':Nat} {b:MCode} {fi:FInfo} {p B:Pos} {l:List RC} {n:Nat} {m0:Lets} (J:Nat→Lets→Prop) (hn:l.length = n) (hl:n ≤ 400)
  (hx:getO t [] f = some (.fn 105 [] [.ptr B 0])) (hr:fr.round = none) (hfi:funInfo Tryz.prog fr.fn = some fi) (hpl:Z7n fi.ps fi.ntmps [k] = some [some (posOf k)])
  (hp:∀ i m s',J i m→Ctx s0 W m s'→s'.Old p∧s'.cells p = some (encs l))
  (hskip:∀ i c m,l[i]? = some c→c.taken = false→J i m→J (i + 1) m)
  (hbody:∀ (i:Nat) c s1 m Lb X (Wx:Ex→PT AVal→St→Prop),l[i]? = some c→c.taken = true→J i m→Ctx s0 W ((Lb,X) :: (B,C [.slice p 0 n (.lim n)]) :: m) s1 →
   (∀ t s2 m',J (i + 1) m'→Ctx s0 W ((Lb,X) :: (B,C [.slice p 0 n (.lim n)]) :: m') s2→Wx .normal t s2) →
   wp Tryz.prog b { fn:=fr.fn,ntmps:=fi.ntmps,ps:=fi.ps,round:=some Lb } (PT.set (posOf k') (.int .i64 i) (PT.set (posOf k) (.int .i64 i) t)) s1 Wx)
  (h0:J 0 m0) (hc:Ctx s0 W ((B,C [.slice p 0 n (.lim n)]) :: m0) s) (q:∀ s' m,J n m→Ctx s0 W m s'→Q .normal t s') :
  wp Tryz.prog (.range f [k] (.region [.run none (.move (.per (posOf k)))] [some (posOf k')]) b) fr t s Q:=by
 subst hn
 refine AM.Zp6 hx (fun l0 e => by rw [hr] at e; cases e) ?_
 have c0:=hc.alloc (.loop { state:=.ready,pending:=none,fn:=fr.fn,tm:=t,params:=[k],assign:=.region [.run none (.move (.per (posOf k)))] [some (posOf k')],body:=b })
 generalize s.alloc (.loop { state:=.ready,pending:=none,fn:=fr.fn,tm:=t,params:=[k],assign:=.region [.run none (.move (.per (posOf k)))] [some (posOf k')],body:=b }) = sA at c0 ⊢
 generalize s.next = Lb at c0 ⊢
 refine Zk0 (p:=p) (I:=fun i s' => ∃ m,J i m∧Ctx s0 W ((Lb,.loop { state:=.ready,pending:=none,fn:=fr.fn,tm:=t,params:=[k],assign:=.region [.run none (.move (.per (posOf k)))] [some (posOf k')],body:=b }) :: (B,C [.slice p 0 l.length (.lim l.length)]) :: m) s') hl (by simp) ?_ ?_ ?_ ?_ ⟨m0,h0,c0⟩ ?_
 ·rintro i s' ⟨m,hj,hc⟩
  obtain ⟨a,b⟩:=hp i m s' hj hc.tail.tail
  exact ⟨hc.wf,a,hc.oi 1 rfl,b,hc.c 1 rfl⟩
 ·rintro i s' s'' ⟨m,hj,hc⟩ hk
  exact ⟨m,hj,hc.keeps hk⟩
 ·rintro i c s' hci hct ⟨m,hj,hc⟩
  exact ⟨m,hskip i c m hci hct hj,hc⟩
 ·rintro i c s' R hci hct ⟨m,hj,hc⟩ hR
  refine Zhn (pl:=[some (posOf k)]) (tree:=PT.set (posOf k) (.int .i64 i) t) (hc.x 0 rfl) hfi hpl rfl rfl ?_
  refine AM.wp_region ?_
  simp
  refine ⟨_,hc.x 0 rfl,rfl,?_⟩
  refine hbody i c _ m Lb _ _ hci hct hj (hc.put 0 rfl _) fun t2 s2 m' hj' hc' => ?_
  refine ⟨_,hc'.x 0 rfl,?_⟩
  exact hR _ ⟨m',hj',hc'.put 0 rfl _⟩
 ·rintro s2 ⟨m,hj,hc⟩
  refine ⟨_,hc.x 0 rfl,rfl,?_⟩
  exact q _ m hj (hc.put 0 rfl _).tail.tail
end
theorem graph_w {s:St} {p:Pos} {l:List RC} {n:Nat} {K:Nat→List Int} {Q:AVal→St→Prop} (hn:l.length = n) (hw:s.Wf) (hp:s.Old p) (hc:s.cells p = some (encs l)) (hl:n ≤ 400) (hK:∀ j c,l[j]? = some c→Z0e s c.kv (K j))
  (q:∀ pn lv s',Keeps s s'→NodesG s' pn (Zbf l K)→Z0e s' lv ((takI l n).map fun (a:Nat) => (a:Int))→Q (.tup [.slice pn 0 n (.lim n),lv]) s'):Z0c Tryz.prog 54 [.agg [.slice p 0 n (.lim n)]] s Q:=by
 subst hn
 exact Zwz hw hp hc hl hK q
theorem Zkz {s:St} {p:Pos} {nds:List (List UInt8 × List Int)} {n:Nat} {c0:Cap} {Lv:AVal} {L:List Nat} {Q:AVal→St→Prop}
  (hnl:nds.length = n) (hw:s.Wf) (hN:NodesG s p nds) (hn:n ≤ 1000) (hL:Z0e s Lv (L.map fun (a:Nat) => (a:Int))) (hLl:L.length ≤ 1000) (hC:Closed nds L)
  (hkids:∀ (a:Nat) nd,nds[a]? = some nd→nd.2.length ≤ 4∧∀ k ∈ nd.2,0 ≤ k∧k < nds.length)
  (q:∀ Bx s',Keeps s s'→¬ s.Old Bx→s'.own Bx = some (ints (clsF nds L))→Q (.slice Bx 0 n (.lim n)) s'):Z0c Tryz.prog 53 [.slice p 0 n c0,Lv] s Q:=by
 subst hnl
 obtain ⟨R,h1,h2,h3⟩:=Z9o hC
 rw [h1] at q
 exact Zrw hw hN hn hL hC.lt hLl hkids h3 h2 q
theorem Ze0 {nds:List (List UInt8 × List Int)} {L:List Nat} (h:Closed nds L):(clsF nds L).length = nds.length:=by
 obtain ⟨R,h1,_⟩:=Z9o h
 rw [h1,Z6m]
theorem own_w {s:St} {p:Pos} {l:List RC} {n:Nat} {K:Nat→List Int} {Q:AVal→St→Prop} (hn:l.length = n) (hw:s.Wf) (hp:s.Old p) (hc:s.cells p = some (encs l)) (h1:1 ≤ n) (hl:n ≤ 400) (hK:∀ j c,l[j]? = some c→Z0e s c.kv (K j)∧(K j).length ≤ 1000)
  (q:∀ pn kvs s',Keeps s s'→¬ s.Old pn→s'.own pn = some (encs (cpI l kvs n))→OwnK s s' pn K kvs n→Q (.agg [.slice pn 0 n (.lim n)]) s'):Z0c Tryz.prog 47 [.agg [.slice p 0 n (.lim n)]] s Q:=by
 subst hn
 exact own_wp hw hp hc h1 hl hK q
theorem moves_w {s:St} {p Bc:Pos} {l:List RC} {n:Nat} {K:Nat→List Int} {cv:AVal} {cls:List Int} {qs:List Pos} {Q:AVal→St→Prop} (hn:l.length = n) (hw:s.Wf) (hp:s.Old p) (hc:s.cells p = some (encs l)) (hl:n ≤ 400) (hcl:cls.length ≤ 1000)
  (hK:∀ j c,l[j]? = some c→KidV s c.kv (K j)∧(K j).length ≤ 1000∧(c.taken = true→∀ k ∈ K j,0 ≤ k∧k < cls.length))
  (hqs:∀ j c q cp,l[j]? = some c→c.kv = .slice q 0 (K j).length cp→K j ≠ []→q ∈ qs) (hpq:p ∉ qs) (hqo:∀ q ∈ qs,s.Old q)
  (hsep:∀ j j' c c' q cp cp',l[j]? = some c→l[j']? = some c'→c.kv = .slice q 0 (K j).length cp→c'.kv = .slice q 0 (K j').length cp'→K j ≠ []→K j' ≠ []→j = j')
  (hcv:∀ s',Same qs s s'→s'.cells Bc = some [cv]∧Z0e s' cv cls)
  (q:∀ s',Same qs s s'→(∀ j c,l[j]? = some c→KidV s' c.kv (if c.taken = true then (K j).map (toC cls) else K j))→Q (.tup []) s') :
  Z0c Tryz.prog 57 [.agg [.fn 55 [] [.ptr Bc 0]],.agg [.slice p 0 n (.lim n)]] s Q:=by
 subst hn
 exact Zx9 hw hp hc hl hcl hK hqs hpq hqo hsep hcv q
theorem over_w {s:St} {p:Pos} {l:List RC} {n:Nat} {Q:AVal→St→Prop} (hn:l.length = n) (hp:s.Old p) (hc:s.cells p = some (encs l)) (hl:n ≤ 400)
  (q:∀ s',Keeps s s'→Q (.bool (l.any fun c => decide (1000 < c.held))) s'):Z0c Tryz.prog 59 [.slice p 0 n (.lim n),.fn 60 [] []] s Q:=by
 subst hn
 exact over_wp hp hc hl q
theorem Zlz {s:St} {p:Pos} {l:List RC} {n:Nat} {v:AVal} {gone:List Int} {Q:AVal→St→Prop} (hn:l.length = n) (hw:s.Wf) (hp:s.own p = some (encs l)) (hmax:gone.length ≤ 1000) (hin:∀ k ∈ gone,0 ≤ k∧k < n)
  (hv:∀ s',Same [p] s s'→Z0e s' v gone) (q:∀ s',Same [p] s s'→s'.own p = some (encs (rel l gone))→Q (.tup []) s'):Z0c Tryz.prog 61 [.agg [.slice p 0 n (.lim n)],v] s Q:=by
 subst hn
 exact Zta hw hp hmax (by simpa using hin) hv q
theorem Z1d {cs:List CV} {j:Nat} {d:CV} (h:cs[j]? = some d):Z0o cs j = d.kids:=by unfold Z0o; rw [h]
theorem Z7g {cs:List CV} {j:Nat} {ks:List Int} (h:(cs.map CV.kids)[j]? = some ks):j < cs.length∧Z0o cs j = ks:=by
 rw [List.getElem?_map] at h
 cases hd:cs[j]? with
 | none => rw [hd] at h; cases h
 | some d =>
  rw [hd] at h
  cases h
  exact ⟨(List.getElem?_eq_some_iff.1 hd).1,Z1d hd⟩
theorem Z69 {cs:List CV} {j:Nat} (h:j < cs.length):(cs.map CV.kids)[j]? = some (Z0o cs j):=by
 rw [List.getElem?_map,List.getElem?_eq_getElem h,Z1d (List.getElem?_eq_getElem h)]
 rfl
theorem Zcw {α:Type} {n j:Nat} {f:Nat→α} (h:j < n):((List.range n).map f)[j]? = some (f j):=by
 rw [List.getElem?_map,List.getElem?_range h]
 rfl
theorem Zod {s0 s:St} {pn:Pos} {cs:List CV} {kvs:Nat→AVal} (h:OwnK s0 s pn (Z0o cs) kvs cs.length) :
  ∃ m,Z0s (cs.map CV.kids) ((List.range cs.length).map kvs) m∧(∀ x ∈ m,s.obj x.1 = some x.2)∧(m.map (·.1)).Nodup∧∀ x ∈ m,¬ s0.Old x.1∧x.1 ≠ pn:=by
 obtain ⟨m,h1,h2,h3,h4⟩:=Zgv (s:=s) (cs.map CV.kids) ((List.range cs.length).map kvs) (by simp) (fun i ks kv hk hv => by
  obtain ⟨hi,e⟩:=Z7g hk
  rw [Zcw hi] at hv
  cases hv
  rw [← e]
  exact h.kid i hi) (fun i j ks ks' q c c' hk hk' hn hn' hv hv' => by
  obtain ⟨hi,e⟩:=Z7g hk
  obtain ⟨hj,e'⟩:=Z7g hk'
  rw [Zcw hi] at hv
  rw [Zcw hj] at hv'
  rw [← e] at hv hn
  rw [← e'] at hv' hn'
  exact h.sep i j q c c' hi hj hn hn' (Option.some.inj hv) (Option.some.inj hv'))
 refine ⟨m,h1,h2,h3,fun x hx => ?_⟩
 obtain ⟨i,ks,c,e1,e2,e3⟩:=h4 x hx
 obtain ⟨hi,e⟩:=Z7g e1
 rw [Zcw hi] at e3
 rw [← e] at e2 e3
 exact h.fresh i x.1 c hi (Option.some.inj e3) e2
theorem Z0s.sep:∀ {K:List (List Int)} {V:List AVal} {m:Lets},Z0s K V m→(m.map (·.1)).Nodup→∀ {i j:Nat} {ks ks':List Int} {q:Pos} {c c':Cap},K[i]? = some ks→K[j]? = some ks'→ks ≠ []→ks' ≠ [] →
  V[i]? = some (AVal.slice q 0 ks.length c)→V[j]? = some (AVal.slice q 0 ks'.length c')→i = j
 | [],_,_,_,_,i,_,_,_,_,_,_,h,_,_,_,_,_ => by simp at h
 | _ :: _,[],_,h,_,_,_,_,_,_,_,_,_,_,_,_,_,_ => h.elim
 | k :: K,v :: V,m,⟨m1,m2,h1,h2,h3⟩,hn,i,j,ks,ks',q,c,c',hi,hj,hne,hne',vi,vj => by
  have hn2:((m1 ++ m2).map (·.1)).Nodup:=((h1.map (·.1)).nodup_iff).1 hn
  rw [List.map_append,List.nodup_append] at hn2
  have key:∀ (x:Nat) (ks:List Int) (c:Cap),K[x]? = some ks→ks ≠ []→V[x]? = some (AVal.slice q 0 ks.length c)→q ∈ m2.map (·.1):=by
   intro x ks c hx hne vx
   obtain ⟨kv,g1,g2⟩:=h3.each hx
   rw [vx] at g1
   cases g1
   rcases g2 with ⟨e,_⟩ | ⟨q',c',_,e,e3⟩
   ·exact (hne e).elim
   ·cases e
    exact List.mem_map.2 ⟨_,e3,rfl⟩
  have key0:∀ (ks:List Int) (c:Cap),k = ks→ks ≠ []→v = AVal.slice q 0 ks.length c→q ∈ m1.map (·.1):=by
   intro ks c hx hne vx
   subst hx vx
   rcases h2 with ⟨e,_⟩ | ⟨q',c',_,e,rfl⟩
   ·exact (hne e).elim
   ·cases e
    simp
  match i,j with
  | 0,0 => rfl
  | 0,j + 1 =>
   exact (hn2.2.2 q (key0 ks c (by simpa using hi) hne (by simpa using vi)) q (key j ks' c' (by simpa using hj) hne' (by simpa using vj)) rfl).elim
  | i + 1,0 =>
   exact (hn2.2.2 q (key0 ks' c' (by simpa using hj) hne' (by simpa using vj)) q (key i ks c (by simpa using hi) hne (by simpa using vi)) rfl).elim
  | i + 1,j + 1 =>
   have:=Z0s.sep h3 hn2.2.1 (i:=i) (j:=j) (by simpa using hi) (by simpa using hj) hne hne' (by simpa using vi) (by simpa using vj)
   omega
theorem Ctx.lose {s0 s s':St} {W:Pos→Prop} {m r:Lets} (h:Ctx s0 W (m ++ r) s) (k:Same (m.map (·.1)) s s'):Ctx s0 W r s':=by
 have hn:=h.nodup
 rw [List.map_append,List.nodup_append] at hn
 refine (h.sub (List.sublist_append_right _ _)).same k ?_ ?_
 ·intro b hb ho
  obtain ⟨x,hx,rfl⟩:=List.mem_map.1 hb
  exact h.free x (List.mem_append_left _ hx) ho
 ·intro x hx hb
  exact hn.2.2 _ hb _ (List.mem_map.2 ⟨x,hx,rfl⟩) rfl
theorem Zfr (cls:List Int) (cs:List CV):(Z57 cls cs).length = cs.length:=by simp [Z57]
theorem Zlj {cls:List Int} {cs:List CV} {i:Nat} {c:CV} (h:cs[i]? = some c):(Z57 cls cs)[i]? = some (if c.taken = true then { c with kids:=c.kids.map (toC cls) } else c):=by simp [Z57,h]
theorem moves_c {s0 s:St} {W:Pos→Prop} {pn B4 Bx:Pos} {cs:List CV} {V:List AVal} {cls:List Int} {mk r:Lets} {cp:Cap} {Q:AVal→St→Prop} (h:Ctx s0 W (mk ++ r) s) (hR:Z0s (cs.map CV.kids) V mk) (hO:HOk cs) (hcl:cls.length = cs.length) (h4:cs.length ≤ 400)
  (hpn:(pn,C (encs (rcs cs V))) ∈ r) (hB4:(B4,C [.slice Bx 0 cs.length cp]) ∈ r) (hBx:(Bx,C (ints cls)) ∈ r)
  (q:∀ mk' s',Z0s ((Z57 cls cs).map CV.kids) V mk'→Ctx s0 W (mk' ++ r) s'→Q (.tup []) s') :
  Z0c Tryz.prog 57 [.agg [.fn 55 [] [.ptr B4 0]],.agg [.slice pn 0 cs.length (.lim cs.length)]] s Q:=by
 have hV:V.length = cs.length:=by simpa using hR.len
 have hl:=Z1c hV
 have hn:=h.nodup
 rw [List.map_append,List.nodup_append] at hn
 have hget:∀ j c,(rcs cs V)[j]? = some c→∃ (hj:j < cs.length),V[j]? = some c.kv∧c.taken = cs[j].taken∧c = ⟨cs[j].taken,cs[j].name,c.kv,cs[j].held⟩:=by
  intro j c hc
  have hlt:j < cs.length:=by have:=(List.getElem?_eq_some_iff.1 hc).1; rwa [hl] at this
  have hv:V[j]? = some (V[j]'(by omega)):=List.getElem?_eq_getElem (by omega)
  rw [Z1k (List.getElem?_eq_getElem hlt) hv] at hc
  cases hc
  exact ⟨hlt,hv,rfl,rfl⟩
 have hrow:∀ j c,(rcs cs V)[j]? = some c→(Z0o cs j = []∧Z18 c.kv = some 0) ∨ ∃ q cp,Z0o cs j ≠ []∧c.kv = .slice q 0 (Z0o cs j).length cp∧(q,C (ints (Z0o cs j))) ∈ mk:=by
  intro j c hc
  obtain ⟨hj,hv,_⟩:=hget j c hc
  obtain ⟨kv,g1,g2⟩:=hR.each (Z69 hj)
  rw [hv] at g1
  cases g1
  exact g2
 refine moves_w (K:=Z0o cs) (cls:=cls) (cv:=.slice Bx 0 cs.length cp) (qs:=mk.map (·.1)) hl h.wf (h.ob (List.mem_append_right _ hpn)) (Z0a (Z13 (h.own _ (List.mem_append_right _ hpn)))) h4 (by omega) ?_ ?_ ?_ ?_ ?_ ?_ ?_
 ·intro j c hc
  obtain ⟨hj,hv,ht,_⟩:=hget j c hc
  have hko:=Z1d (List.getElem?_eq_getElem hj)
  refine ⟨?_,?_,?_⟩
  ·rcases hrow j c hc with ⟨e1,e2⟩ | ⟨q,cp,e1,e2,e3⟩
   ·exact .inl ⟨e2,e1⟩
   ·exact .inr ⟨q,cp,e2,Z13 (h.own _ (List.mem_append_left _ e3))⟩
  ·rw [hko]
   have:=hO.kids4 _ (List.getElem_mem hj)
   omega
  ·intro hct k hk
   rw [hko] at hk
   obtain ⟨h0,d,_,_,hlt⟩:=Z22 (hO.kids _ (List.getElem_mem hj) (ht ▸ hct) k hk)
   exact ⟨h0,by omega⟩
 ·intro j c q cp hc hkv hne
  rcases hrow j c hc with ⟨e1,e2⟩ | ⟨q',cp',e1,e2,e3⟩
  ·exact (hne e1).elim
  ·rw [hkv] at e2
   cases e2
   exact List.mem_map.2 ⟨_,e3,rfl⟩
 ·exact fun hm => hn.2.2 _ hm _ (List.mem_map.2 ⟨_,hpn,rfl⟩) rfl
 ·intro q hq
  obtain ⟨x,hx,rfl⟩:=List.mem_map.1 hq
  exact h.ob (List.mem_append_left _ hx)
 ·intro j j' c c' q cp cp' hc hc' hkv hkv' hne hne'
  obtain ⟨hj,hv,_⟩:=hget j c hc
  obtain ⟨hj',hv',_⟩:=hget j' c' hc'
  rw [hkv] at hv
  rw [hkv'] at hv'
  exact hR.sep hn.1 (Z69 hj) (Z69 hj') hne hne' hv hv'
 ·intro s' hS
  have h':=h.lose hS
  have e:cls.length = cs.length:=hcl
  refine ⟨Z0a (Z13 (h'.own _ hB4)),?_⟩
  rw [← hcl]
  exact Z60 h'.wf (Z13 (h'.own _ hBx)) _
 ·intro s' hS hk
  have h':=h.lose hS
  have hlast:∀ (i:Nat) (ks:List Int) (qq:Pos) (c:Cap),((Z57 cls cs).map CV.kids)[i]? = some ks→ks ≠ []→V[i]? = some (AVal.slice qq 0 ks.length c)→∃ hi:i < cs.length,Z0o cs i ≠ []∧ks.length = (Z0o cs i).length∧qq ∈ mk.map (·.1):=by
   intro i ks qq c hks hne hv
   obtain ⟨hi,e⟩:=Z7g hks
   rw [Zfr] at hi
   have hm:=Zlj (cls:=cls) (List.getElem?_eq_getElem hi)
   have e2:=Z1d hm
   rw [e] at e2
   have e3:=Z1d (List.getElem?_eq_getElem hi)
   have hlen:ks.length = (Z0o cs i).length:=by
    rw [e2,e3]
    split <;> simp
   have hne':Z0o cs i ≠ []:=by
    intro e0
    rw [e0] at hlen
    exact hne (List.length_eq_zero_iff.1 hlen)
   refine ⟨hi,hne',hlen,?_⟩
   rcases hrow i _ (Z1k (List.getElem?_eq_getElem hi) hv) with ⟨e1,_⟩ | ⟨q',cp',_,e5,e6⟩
   ·exact (hne' e1).elim
   ·have:q' = qq:=(AVal.slice.inj e5).1.symm
    subst this
    exact List.mem_map.2 ⟨_,e6,rfl⟩
  obtain ⟨mk',r1,r2,r3,r4⟩:=Zgv (s:=s') ((Z57 cls cs).map CV.kids) V (by simp [hV,Zfr]) (fun i ks kv hks hv => by
   obtain ⟨hi,e⟩:=Z7g hks
   rw [Zfr] at hi
   have:=hk i _ (Z1k (List.getElem?_eq_getElem hi) hv)
   rw [Z1d (Zlj (List.getElem?_eq_getElem hi))] at e
   rw [← e]
   rw [Z1d (List.getElem?_eq_getElem hi)] at this
   have e2:(if cs[i].taken = true then { cs[i] with kids:=cs[i].kids.map (toC cls) } else cs[i]).kids = if cs[i].taken = true then cs[i].kids.map (toC cls) else cs[i].kids:=by split <;> rfl
   rw [e2]
   exact this) (fun i j ks ks' qq c c' hks hks' hne hne' hv hv' => by
   obtain ⟨hi,n1,l1,_⟩:=hlast i ks qq c hks hne hv
   obtain ⟨hj,n2,l2,_⟩:=hlast j ks' qq c' hks' hne' hv'
   rw [l1] at hv
   rw [l2] at hv'
   exact hR.sep hn.1 (Z69 hi) (Z69 hj) n1 n2 hv hv')
  refine q mk' s' r1 (h'.addL r2 r3 ?_ ?_)
  ·intro x hx ho
   obtain ⟨i,ks,c,e1,e2,e3⟩:=r4 x hx
   obtain ⟨_,_,_,hm⟩:=hlast i ks x.1 c e1 e2 e3
   obtain ⟨y,hy,e⟩:=List.mem_map.1 hm
   rw [← e] at ho ⊢
   exact h.free y (List.mem_append_left _ hy) ho
  ·intro x hx hr
   obtain ⟨i,ks,c,e1,e2,e3⟩:=r4 x hx
   obtain ⟨_,_,_,hm⟩:=hlast i ks x.1 c e1 e2 e3
   exact hn.2.2 _ hm _ hr rfl
theorem Ctx.apart {s0 s:St} {W:Pos→Prop} {m:Lets} (h:Ctx s0 W m s) {b:Pos} {x:AObj} (i:Nat) (hi:m[i]? = some (b,x)) {y:Pos × AObj} (hy:y ∈ m.drop (i + 1)):b ≠ y.1:=by
 obtain ⟨j,hj⟩:=List.getElem?_of_mem hy
 rw [List.getElem?_drop] at hj
 exact h.ne i (i + 1 + j) hi (x':=y.2) hj (by omega)
theorem Ztu (x:List CV) (k:Nat) (d:Int):(addH x k d).map CV.kids = x.map CV.kids:=by
 unfold addH
 split
 ·rename_i c hc
  rw [List.map_set]
  refine List.ext_getElem? fun j => ?_
  rw [List.getElem?_set]
  split
  ·rename_i e
   subst e
   have:=(List.getElem?_eq_some_iff.1 hc).1
   rw [if_pos (by simpa using this),List.getElem?_map,hc]
   rfl
  ·rfl
 ·rfl
theorem Zac (cls:List Int) (cs:List CV):∀ i,(Z0l cls cs i).map CV.kids = (Z57 cls cs).map CV.kids
 | 0 => rfl
 | i + 1 => by
  unfold Z0l
  split
  ·split
   ·rw [Ztu,Zac cls cs i]
   ·exact Zac cls cs i
  ·exact Zac cls cs i
theorem merge_c {s0 s:St} {W:Pos→Prop} {hb:Pos} {vs:AVal} {cs:List CV} {m r:Lets} {Q:AVal→St→Prop} (hH:Z26 hb vs cs m) (h:Ctx s0 W (m ++ r) s) (hO:HOk cs)
  (q:∀ m' s',Z26 hb vs (Z7i cs).2.2 m'→Ctx s0 W (m' ++ r) s'→Q (.tup [.int .i64 (Z7i cs).1,.int .i64 (Z7i cs).2.1]) s'):Z0c Tryz.prog 18 [.ptr hb 0] s Q:=by
 obtain ⟨p,V,mr,hc,hR,hV,h1,h4⟩:=Z91 hH h
 have hl:=Z1c hV
 have hno:cs.length ≠ 0:=by omega
 have hKi:∀ {s':St},(∀ x ∈ mr,s'.obj x.1 = some x.2)→s'.Wf→∀ j c,(rcs cs V)[j]? = some c→Z0e s' c.kv (Z0o cs j)∧(Z0o cs j).length ≤ 1000:=by
  intro s' hob hw j c hj
  have hlt:j < cs.length:=by have:=(List.getElem?_eq_some_iff.1 hj).1; rwa [hl] at this
  have hd:cs[j]? = some cs[j]:=List.getElem?_eq_getElem hlt
  obtain ⟨kv,g1,g2⟩:=hR.each (i:=j) (ks:=cs[j].kids) (by rw [List.getElem?_map,hd]; rfl)
  rw [Z1k hd g1] at hj
  cases hj
  have hko:Z0o cs j = cs[j].kids:=by unfold Z0o; rw [hd]
  rw [hko]
  refine ⟨KidV.ints ?_ hw,by have:=hO.kids4 _ (List.getElem_mem hlt); omega⟩
  rcases g2 with ⟨e1,e2⟩ | ⟨q,c,e1,e2,e3⟩
  ·exact .inl ⟨e2,e1⟩
  ·exact .inr ⟨q,c,e2,Z13 (hob _ e3)⟩
 have hcell:∀ {i:Nat} {c:RC},(rcs cs V)[i]? = some c→∃ d:CV,cs[i]? = some d∧c.taken = d.taken∧c.held = d.held:=by
  intro i c hc
  have hlt:i < cs.length:=by have:=(List.getElem?_eq_some_iff.1 hc).1; rwa [hl] at this
  rw [Z1k (List.getElem?_eq_getElem hlt) (List.getElem?_eq_getElem (show i < V.length by omega))] at hc
  cases hc
  exact ⟨_,List.getElem?_eq_getElem hlt,rfl,rfl⟩
 refine Z08 (Z0d (by decide)) fi18 rfl (by decide) rfl ?_
 refine Z00 ?_
 simp
 have c1:=hc.alloc (C [.ptr hb 0])
 generalize s.alloc (.cells [.ptr hb 0] false) = s1 at c1 ⊢
 generalize s.next = B1 at c1 ⊢
 refine AM.wp_seq ?_
 refine Z00 ?_
 simp [c1.c 0 rfl]
 refine Z02 ?_
 refine Z5j (c1.c 1 rfl) rfl hno ?_
 simp
 refine AM.Z04 ?_
 simp
 refine AM.wp_skip ?_
 simp
 refine Z00 ?_
 simp [c1.c 0 rfl,c1.c 1 rfl]
 refine Z02 ?_
 refine graph_w (K:=Z0o cs) hl c1.wf (c1.oi 2 rfl) (c1.c 2 rfl) h4 (fun j c hj => (hKi (fun x hx => c1.own x (by simp [hx])) c1.wf j c hj).1) fun pn0 lv s2 k2 hN hL => ?_
 rw [nds_rcs hV] at hN
 rw [Zrf hV] at hL
 have c2:=c1.keeps k2
 simp
 refine Z02 ?_
 refine Zkz (Z1s cs) c2.wf hN (by omega) hL (by have:(Z1f cs cs.length).length ≤ cs.length:=Nat.le_trans (List.length_filter_le _ _) (by simp); omega) hO.closed hO.Zjd fun Bx s3 k3 hBx hox => ?_
 have hcl:=Ze0 hO.closed
 rw [Z1s] at hcl
 simp only [Z7i] at q
 generalize clsF (Z11 cs) (Z1f cs cs.length) = cls at hox hcl q ⊢
 have c3:=c2.made k3 hBx (St.Z2b hox)
 simp
 have c4:=(c3.alloc (C [.nilSlice])).put 0 rfl (C [.slice Bx 0 cs.length (.lim cs.length)])
 simp only [List.set_cons_zero] at c4
 generalize (s3.alloc (.cells [.nilSlice] false)).put s3.next (.cells [.slice Bx 0 cs.length (.lim cs.length)] false) = s4 at c4 ⊢
 generalize s3.next = B4 at c4 ⊢
 refine Z00 ?_
 simp [c4.c 2 rfl,c4.c 3 rfl]
 refine Z02 ?_
 refine own_w (K:=Z0o cs) hl c4.wf (c4.oi 4 rfl) (c4.c 4 rfl) h1 h4 (hKi (fun x hx => c4.own x (by simp [hx])) c4.wf) fun pn kvs s5 k5 hpn hopn hOwn => ?_
 rw [Zqk hV] at hopn
 obtain ⟨mk,hRk,hok,hnk,hfk⟩:=Zod hOwn
 generalize (List.range cs.length).map kvs = V' at hRk hopn ⊢
 have hV':V'.length = cs.length:=by simpa using hRk.len
 clear hOwn
 have c5:=(c4.made k5 hpn (St.Z2b hopn)).addL (m:=mk) hok hnk (fun x hx ho => ((hfk x hx).1 (c4.old ho)).elim) (fun x hx => by
  rw [List.map_cons,List.mem_cons]
  rintro (e | hm)
  ·exact (hfk x hx).2 e
  ·obtain ⟨y,hy,e⟩:=List.mem_map.1 hm
   exact (hfk x hx).1 (e ▸ c4.ob hy))
 clear hok hnk hfk hpn hopn k5
 have c5:=c5.perm (m':=((pn,C (encs (rcs cs V'))) :: (B4,C [.slice Bx 0 cs.length (.lim cs.length)]) :: (Bx,C (ints cls)) :: (B1,C [.ptr hb 0]) :: (hb,C [.slice p 0 cs.length (.lim cs.length),vs]) :: (p,C (encs (rcs cs V))) :: (mk ++ (mr ++ r)))) (by
  have:=List.perm_append_comm (l₁:=mk) (l₂:=[(pn,C (encs (rcs cs V'))),(B4,C [.slice Bx 0 cs.length (.lim cs.length)]),(Bx,C (ints cls)),(B1,C [.ptr hb 0]),(hb,C [.slice p 0 cs.length (.lim cs.length),vs]),(p,C (encs (rcs cs V)))])
  have:=this.append (List.Perm.refl (mr ++ r))
  simpa using this)
 simp
 have c6:=(c5.alloc (C [.nilSlice])).put 0 rfl (C [.slice pn 0 cs.length (.lim cs.length)])
 simp only [List.set_cons_zero] at c6
 generalize (s5.alloc (.cells [.nilSlice] false)).put s5.next (.cells [.slice pn 0 cs.length (.lim cs.length)] false) = s6 at c6 ⊢
 generalize s5.next = B5 at c6 ⊢
 refine Z00 ?_
 simp
 have c7:=(c6.alloc (C [.nilFn])).put 0 rfl (C [.fn 55 [] [.ptr B4 0]])
 simp only [List.set_cons_zero] at c7
 generalize (s6.alloc (.cells [.nilFn] false)).put s6.next (.cells [.fn 55 [] [.ptr B4 0]] false) = s7 at c7 ⊢
 generalize s6.next = B6 at c7 ⊢
 refine Z00 ?_
 simp [c7.c 0 rfl,c7.c 1 rfl]
 have c7:=c7.perm (m':=mk ++ ((B6,C [.fn 55 [] [.ptr B4 0]]) :: (B5,C [.slice pn 0 cs.length (.lim cs.length)]) :: (pn,C (encs (rcs cs V'))) :: (B4,C [.slice Bx 0 cs.length (.lim cs.length)]) :: (Bx,C (ints cls)) :: (B1,C [.ptr hb 0]) :: (hb,C [.slice p 0 cs.length (.lim cs.length),vs]) :: (p,C (encs (rcs cs V))) :: (mr ++ r))) (by
  have:=List.perm_append_comm (l₂:=mk) (l₁:=[(B6,C [.fn 55 [] [.ptr B4 0]]),(B5,C [.slice pn 0 cs.length (.lim cs.length)]),(pn,C (encs (rcs cs V'))),(B4,C [.slice Bx 0 cs.length (.lim cs.length)]),(Bx,C (ints cls)),(B1,C [.ptr hb 0]),(hb,C [.slice p 0 cs.length (.lim cs.length),vs]),(p,C (encs (rcs cs V)))])
  have:=this.append (List.Perm.refl (mr ++ r))
  simpa using this)
 refine Z02 ?_
 refine moves_c (pn:=pn) (Bx:=Bx) (cp:=.lim cs.length) (cls:=cls) c7 hRk hO hcl h4 (by simp) (by simp) (by simp) fun mk2 s8 hR2 c8 => ?_
 have hV2:V'.length = cs.length:=hV'
 have c8:=c8.perm (m':=(B6,C [.fn 55 [] [.ptr B4 0]]) :: (B5,C [.slice pn 0 cs.length (.lim cs.length)]) :: (pn,C (encs (rcs cs V'))) :: (B4,C [.slice Bx 0 cs.length (.lim cs.length)]) :: (Bx,C (ints cls)) :: (B1,C [.ptr hb 0]) :: (hb,C [.slice p 0 cs.length (.lim cs.length),vs]) :: (p,C (encs (rcs cs V))) :: (mk2 ++ (mr ++ r))) (by
  have:=List.perm_append_comm (l₁:=mk2) (l₂:=[(B6,C [.fn 55 [] [.ptr B4 0]]),(B5,C [.slice pn 0 cs.length (.lim cs.length)]),(pn,C (encs (rcs cs V'))),(B4,C [.slice Bx 0 cs.length (.lim cs.length)]),(Bx,C (ints cls)),(B1,C [.ptr hb 0]),(hb,C [.slice p 0 cs.length (.lim cs.length),vs]),(p,C (encs (rcs cs V)))])
  have:=this.append (List.Perm.refl (mr ++ r))
  simpa using this)
 clear c7 hRk
 simp
 refine Z00 ?_
 simp
 have c9:=c8.alloc (C [.nilSlice])
 generalize s8.alloc (.cells [.nilSlice] false) = s9 at c9 ⊢
 generalize s8.next = B7 at c9 ⊢
 refine AM.wp_seq ?_
 refine Z00 ?_
 simp [c9.c 6 rfl,c9.c 7 rfl]
 refine Z02 ?_
 refine Z8q fun BB hBB => ?_
 have c10:=c9.alloc (C [.slice p 0 cs.length (.lim cs.length)])
 rw [← hBB] at c10
 generalize s9.alloc (.cells [.slice p 0 cs.length (.lim cs.length)] false) = s10 at c10 ⊢
 simp
 refine AM.wp_block ?_
 refine Zb5 (B:=BB) (p:=p) (l:=rcs cs V) (J:=fun i m => ∃ lv mg,Z23 lv (Z1e cls cs i) mg∧m = (B7,C [lv]) :: (B6,C [.fn 55 [] [.ptr B4 0]]) :: (B5,C [.slice pn 0 cs.length (.lim cs.length)]) :: (pn,C (encs (rcs (Z0l cls cs i) V'))) :: (B4,C [.slice Bx 0 cs.length (.lim cs.length)]) :: (Bx,C (ints cls)) :: (B1,C [.ptr hb 0]) :: (hb,C [.slice p 0 cs.length (.lim cs.length),vs]) :: (p,C (encs (rcs cs V))) :: (mg ++ (mk2 ++ (mr ++ r))))
  hl h4 (by simp) rfl fi18 rfl ?_ ?_ ?_ ⟨.nilSlice,[],.inl ⟨rfl,rfl,rfl⟩,rfl⟩ (by
   have e:rcs (Z0l cls cs 0) V' = rcs cs V':=Zxu cls cs V'
   rw [e]
   exact c10) ?_
 ·rintro i m s' ⟨lv,mg,hg,rfl⟩ hc'
  exact ⟨hc'.oi 8 rfl,hc'.c 8 rfl⟩
 ·rintro i c m hci hct ⟨lv,mg,hg,rfl⟩
  obtain ⟨d,hd,ht,_⟩:=hcell hci
  rw [ht] at hct
  exact ⟨lv,mg,by rw [Zh9 hd hct]; exact hg,by simp [Z0l,hd,hct]⟩
 ·rintro i c s' m Lb X Wx hci hct ⟨lv,mg,hg,rfl⟩ hc' hW
  obtain ⟨d,hd,ht,hh⟩:=hcell hci
  rw [ht] at hct
  have hi:i < cs.length:=(List.getElem?_eq_some_iff.1 hd).1
  obtain ⟨cc,hcc⟩:∃ cc,cls[i]? = some cc:=⟨_,List.getElem?_eq_getElem (by omega)⟩
  obtain ⟨j,hj,hji,hcj,_⟩:=Zp1 hcc
  have e:Z3f (fun d => decide (cc = d)) cls = (j:Int):=by rw [← hj]; unfold toC; simp [hcc]
  refine AM.wp_block ?_
  refine Z00 ?_
  simp [hc'.c 3 rfl]
  refine Z02 ?_
  refine Zlh (cls:=cls) (c:=cc) (hc'.c 6 rfl) (by have:=Z60 hc'.wf (hc'.o 7 rfl) (.lim cs.length); rw [hcl] at this; exact this) (by omega) (by omega) (by simpa using hcc) ?_
  rw [e]
  simp
  refine Z00 ?_
  simp
  refine AM.Z04 ?_
  by_cases hij:j = i
  ·subst hij
   simp
   refine AM.wp_skip ?_
   simp
   refine hW _ _ _ ⟨lv,mg,?_,rfl⟩ ?_
   ·rw [Zha hd hct hj]
    exact hg
   ·have:Z0l cls cs (j + 1) = Z0l cls cs j:=by simp [Z0l,hd,hj]
    rw [this]
    exact hc'
  ·have hij':¬ (j:Int) = (i:Int):=by omega
   have hne:toC cls (i:Int) ≠ (i:Int):=by rw [hj]; exact hij'
   simp [hij,hij']
   refine Z00 ?_
   have hjl:j < cs.length:=by omega
   obtain ⟨x,hx⟩:∃ x,(Z0l cls cs i)[j]? = some x:=⟨_,List.getElem?_eq_getElem (by rw [Z2r]; omega)⟩
   obtain ⟨v,hv⟩:∃ v,V'[j]? = some v:=⟨_,List.getElem?_eq_getElem (by omega)⟩
   have hxr:=Z1k hx hv
   have hg3:(encs (rcs (Z0l cls cs i) V'))[j * 4 + 3]? = some (.int .i64 x.held):=Z2o _ j 3 _ hxr (by decide)
   have hg4:(encs (rcs cs V))[i * 4 + 3]? = some (.int .i64 c.held):=Z2o _ i 3 _ hci (by decide)
   have hlay:=Zfc _ j _ (IntKind.wrap .i64 (x.held + c.held)) hxr
   rw [hh] at hlay hg4
   rw [Zxt hx hv] at hlay
   have hstep:Z0l cls cs (i + 1) = addH (Z0l cls cs i) j d.held:=by simp [Z0l,hd,hct,hj,hij']
   rw [← hstep] at hlay
   have hle:j * 4 + 3 + 1 ≤ (encs (rcs (Z0l cls cs i) V')).length:=by rw [Z2j,Z1c (by rw [Z2r]; exact hV2),Z2r]; omega
   simp [lay] at hlay
   simp [hc'.c 4 rfl,hc'.c 8 rfl,hc'.c 9 rfl,hc'.c 10 rfl,hc'.o 5 rfl,hc'.c 5 rfl,hjl,hi,hg3,hg4,hle,Z8u]
   rw [hlay]
   have d1:=hc'.put 5 rfl (C (encs (rcs (Z0l cls cs (i + 1)) V')))
   simp only [List.set_cons_succ,List.set_cons_zero] at d1
   generalize s'.put pn (.cells (encs (rcs (Z0l cls cs (i + 1)) V')) false) = sA at d1 ⊢
   refine AM.wp_region ?_
   have d2:=d1.alloc (C [.int .i64 i])
   have hlt:=hg.ntup
   simp [d1.c 2 rfl,Z20,srcP,hlt,hg.cells]
   generalize sA.alloc (.cells [.int .i64 i] false) = sB at d2 ⊢
   generalize sA.next = T at d2 ⊢
   have hgl:=Zjc cls cs i
   refine Z6w (pre:=[(T,C [.int .i64 i]),(Lb,X),(BB,C [.slice p 0 cs.length (.lim cs.length)]),(B7,C [lv]),(B6,C [.fn 55 [] [.ptr B4 0]]),(B5,C [.slice pn 0 cs.length (.lim cs.length)]),(pn,C (encs (rcs (Z0l cls cs (i + 1)) V'))),(B4,C [.slice Bx 0 cs.length (.lim cs.length)]),(Bx,C (ints cls)),(B1,C [.ptr hb 0]),(hb,C [.slice p 0 cs.length (.lim cs.length),vs]),(p,C (encs (rcs cs V)))]) d2 hg (by omega) fun lv' mg' sC hg' d3 => ?_
   simp at d3
   rw [← Zh8 hd hct hne] at hg'
   simp [hg'.ntup,hg'.cells,d3.o 3 rfl]
   have d4:=(d3.put 3 rfl (C [lv'])).tail
   exact hW _ _ _ ⟨lv',mg',hg',rfl⟩ d4
 ·rintro s' m ⟨lv,mg,hg,rfl⟩ hc'
  simp
  have hlh:(rcs (Z0l cls cs cs.length) V').length = cs.length:=by rw [Z1c (by rw [Z2r]; exact hV2),Z2r]
  refine AM.wp_seq ?_
  refine Z00 ?_
  simp [hc'.c 2 rfl]
  refine Z02 ?_
  refine over_w hlh (hc'.oi 3 rfl) (hc'.c 3 rfl) h4 fun s11 k11 => ?_
  rw [Zqa (by rw [Z2r]; exact hV2)]
  have c11:=hc'.keeps k11
  have hperm:∀ (pre x:Lets),(pre ++ (mg ++ (mk2 ++ x))).Perm ((mg ++ (mk2 ++ pre)) ++ x):=by
   intro pre x
   have h1:=List.perm_append_comm (l₁:=pre) (l₂:=mg ++ mk2)
   have h2:=h1.append (List.Perm.refl x)
   simpa using h2
  cases hov:(Z0l cls cs cs.length).any (fun c => decide (1000 < c.held)) with
  | true =>
   rw [hov] at q
   simp at q
   simp
   refine AM.Z04 ?_
   simp
   refine Z00 ?_
   simp
   refine AM.wp_ret ?_
   simp
   refine q _ _ (Z2a (p:=p) hR h1 h4) (c11.sub ?_)
   refine List.Sublist.trans ?_ (List.drop_sublist 7 _)
   refine List.Sublist.cons_cons _ (List.Sublist.cons_cons _ ?_)
   rw [← List.append_assoc,← List.append_assoc]
   exact (List.sublist_append_right (mg ++ mk2) (mr ++ r)).trans (by simp)
  | false =>
   rw [hov] at q
   simp at q
   simp
   refine AM.Z04 ?_
   simp
   refine AM.wp_skip ?_
   simp
   have hglen:=Zjc cls cs cs.length
   have hgin:∀ k ∈ Z1e cls cs cs.length,0 ≤ k∧k < cs.length:=fun k hk => by
    obtain ⟨a,b,_⟩:=Z9a.1 hk
    exact ⟨a,b⟩
   refine Z00 ?_
   simp [c11.c 2 rfl,c11.c 0 rfl]
   refine Z02 ?_
   refine Zlz hlh c11.wf (c11.o 3 rfl) (by omega) hgin (fun s' hS => ?_) fun s12 hS hpn2 => ?_
   ·have hmg:Ctx s0 W mg s':=(c11.sub (m':=mg) (by
     refine List.Sublist.trans ?_ (List.drop_sublist 9 _)
     exact List.sublist_append_left _ _)).same hS (fun b hb ho => by
      simp at hb
      subst hb
      exact c11.free _ (List.mem_of_getElem? (i:=3) rfl) ho) (fun x hx hb => by
      simp at hb
      exact c11.apart 3 rfl (y:=x) (by simp [hx]) hb.symm)
    exact (hg.row.kid fun x hx => hmg.own x hx).ints hmg.wf
   ·have c12:=c11.chg 3 rfl hS (St.Z2b hpn2)
    simp only [List.set_cons_succ,List.set_cons_zero] at c12
    obtain ⟨V3,m3,dd,e1,e2,e3⟩:=Zib (Z1e cls cs cs.length) (cs:=Z0l cls cs cs.length) (V:=V') (m:=mk2) (by rw [Z2r]; exact hV2) (by rw [Zac]; exact hR2) (by rw [Z2r]; exact hgin)
    rw [e1] at c12
    simp
    refine Z00 ?_
    simp [c12.c 6 rfl,c12.c 2 rfl,c12.o 7 rfl]
    have c13:=c12.put 7 rfl (C [.slice pn 0 cs.length (.lim cs.length),vs])
    simp only [List.set_cons_succ,List.set_cons_zero] at c13
    generalize s12.put hb (.cells [.slice pn 0 cs.length (.lim cs.length),vs] false) = s13 at c13 ⊢
    refine Z00 ?_
    simp [c13.c 0 rfl,hg.len]
    refine AM.wp_ret ?_
    simp
    have hlen:(relC (Z0l cls cs cs.length) (Z1e cls cs cs.length)).length = cs.length:=by rw [Zc9,Z2r]
    refine q _ _ (Z2a (p:=pn) e2 (by omega) (by omega)) ?_
    rw [hlen]
    have c14:=c13.sub (m':=(pn,C (encs (rcs (relC (Z0l cls cs cs.length) (Z1e cls cs cs.length)) V3))) :: (hb,C [.slice pn 0 cs.length (.lim cs.length),vs]) :: (mk2 ++ r)) (.cons _ (.cons _ (.cons _ (.cons_cons _ (.cons _ (.cons _ (.cons _ (.cons_cons _ (.cons _
     (List.Sublist.trans ((List.Sublist.refl mk2).append (List.sublist_append_right mr r)) (List.sublist_append_right mg _)))))))))))
    have c15:=c14.perm ((List.Perm.swap _ _ _).trans (List.Perm.cons _ (List.Perm.cons _ (e3.append (List.Perm.refl r)))))
    exact c15.sub (.cons_cons _ (.cons_cons _ ((List.sublist_append_left m3 dd).append (List.Sublist.refl r))))
end Go.Proofs
end
section
namespace Go.Proofs
end Go.Proofs
end
section
open Go Go.AM
namespace Go.Proofs
set_option maxRecDepth 100000
theorem Zdz {nds:List (List UInt8 × List Int)} {L:List Nat} (h:Closed nds L) {a b:Nat} (ha:a ∈ L) (hb:b ∈ L):(clsF nds L)[a]? = (clsF nds L)[b]? ↔ ∀ r,sim nds r a b:=by
 obtain ⟨R,h1,h2,_⟩:=Z9o h
 rw [h1]
 exact Zh4 h h2 ha hb
theorem Zne (cls:List Int) (cs:List CV) (i:Nat):(Z1e cls cs i).Nodup:=by
 unfold Z1e Z1f
 refine List.Pairwise.map _ (fun a b h => ?_) (((List.nodup_range).filter _).filter _)
 intro e
 exact h (by omega)
def Zrp (s:St) (v:AVal) (xs:List AVal):Prop:=(Z18 v = some 0∧xs = []) ∨
 ∃ b o c cs,v = .slice b o xs.length c∧s.Old b∧s.cells b = some cs∧o + xs.length ≤ cs.length∧∀ (i:Nat) x,xs[i]? = some x→cs[o + i]? = some x
theorem new_c {s0 s:St} {W:Pos→Prop} {r:Lets} {n:Int} {Q:AVal→St→Prop} (h:Ctx s0 W r s) (h1:1 ≤ n) (h2:n ≤ 400)
  (q:∀ hb m s',Z26 hb .nilSlice (List.replicate n.toNat Z1r) m→Ctx s0 W (m ++ r) s'→Q (.tup [.ptr hb 0,.int .i64 0]) s'):Z0c Tryz.prog 29 [.int .i64 n] s Q:=by
 refine new_wp h.wf h1 h2 ?_
 have hV:∀ n:Nat,(List.replicate n [AVal.bool false,.str [],.nilSlice,.int .i64 0]).flatten = encs (rcs (List.replicate n Z1r) (List.replicate n .nilSlice)):=by
  intro n
  simp [encs,rcs,RC.enc,Z1r,List.zipWith_replicate,List.flatMap]
 have hR:∀ n:Nat,Z0s ((List.replicate n Z1r).map CV.kids) (List.replicate n .nilSlice) []:=by
  intro n
  induction n with
  | zero => rfl
  | succ n ih =>
   rw [List.replicate_succ,List.replicate_succ]
   exact ⟨[],[],List.Perm.refl _,.inl ⟨rfl,rfl,rfl⟩,ih⟩
 have c1:=h.alloc (C (List.replicate n.toNat [AVal.bool false,.str [],.nilSlice,.int .i64 0]).flatten)
 have c2:=c1.alloc (C [.slice s.next 0 n.toNat (.lim n.toNat),.nilSlice])
 refine q _ _ _ (Z2a (p:=s.next) (V:=List.replicate n.toNat .nilSlice) (mr:=[]) (hR _) (by simp; omega) (by simp; omega)) ?_
 rw [List.length_replicate,← hV]
 exact c2
theorem c5:Tryz.prog.cellsOf 5 = 1:=by kernel_rfl
theorem Zm6 {P:Program} {t e:TypeId} {w:World} {r:Reach} {base:Nat} {v:Value} (ht:P.underlying t = some (.slice e)) (h:Value.okWide P w r base t v):v.cells.toList = [v]:=by
 simp only [Value.okWide,ht,Cell.okWide] at h
 cases v <;> first | rfl | simp_all [Cell.ok]
section
variable {H:Type} {enc:TypeId × Value→H} {W:World} {N fuel:Nat} {cs:List Value} {x:DataW H × List MemPlace}
theorem row_of {α:Type} {s:St} {e:TypeId} {v:Value} {a:AVal} {elems:List (DataW H × List MemPlace)} (mk:α→AVal) (hc1:Tryz.prog.cellsOf e = 1) (he:∀ n vs x l,DataW.trod enc Tryz.prog W 0 (fun _ => true) true n e vs = some x→vs.mapM (Z3o W N) = some l→∃ y:α,l = [mk y])
  (h:SliceW Tryz.prog enc W (fun _ => true) true N e v a elems):∃ ys:List α,Zrp (stW W N) a (ys.map mk):=by
 cases h with
 | nil => exact ⟨[],.inl ⟨rfl,rfl⟩⟩
 | empty => exact ⟨[],.inl ⟨rfl,rfl⟩⟩
 | @row b o len cap n _ cells hb ho hcells hlen hc0 hcap hmax hcs hel =>
  rw [hc1] at hcs
  have hone:∀ i,i < len→∃ y:α,cells[i]? = some (mk y):=by
   intro i hi
   obtain ⟨vs,x,l,h1,_,h3,h4⟩:=hel i hi
   obtain ⟨y,rfl⟩:=he n vs x l h1 h3
   rw [hc1,Nat.mul_one] at h4
   refine ⟨y,?_⟩
   have:=congrArg (fun l => l[0]?) h4
   simpa using this
  obtain ⟨ys,hys,hl⟩:∃ ys:List α,(∀ (i:Nat) (y:α),ys[i]? = some y→cells[i]? = some (mk y))∧ys.length = len:=by
   have key:∀ k,k ≤ len→∃ ys:List α,(∀ (i:Nat) (y:α),ys[i]? = some y→cells[i]? = some (mk y))∧ys.length = k:=by
    intro k
    induction k with
    | zero => exact fun _ => ⟨[],by simp,rfl⟩
    | succ k ih =>
     intro hk
     obtain ⟨ys,h1,h2⟩:=ih (by omega)
     obtain ⟨y,hy⟩:=hone k (by omega)
     refine ⟨ys ++ [y],fun i z hz => ?_,by simp [h2]⟩
     rw [List.getElem?_append] at hz
     split at hz
     ·exact h1 i z hz
     ·rename_i hi
      have:i = k:=by
       have:=(List.getElem?_eq_some_iff.1 hz).1
       simp at this
       omega
      subst this
      simp [h2] at hz
      subst hz
      exact hy
   exact key len (Nat.le_refl _)
  refine ⟨ys,.inr ⟨nameOf N b o,0,.lim cap,cells,by simp [hl],?_,hcells,by simp [hl]; omega,fun i z hz => ?_⟩⟩
  ·unfold St.cells at hcells
   cases hob:(stW W N).obj (nameOf N b o) with
   | none => rw [hob] at hcells; cases hcells
   | some y => exact Z3c (Zoz (w:=W) (N:=N)) hob
  ·rw [List.getElem?_map] at hz
   cases hy:ys[i]? with
   | none => rw [hy] at hz; cases hz
   | some y =>
    rw [hy] at hz
    cases hz
    rw [Nat.zero_add]
    exact hys i y hy
theorem Zt2 (hN:Big W N) (h:DataW.trod enc Tryz.prog W 0 (fun _ => true) true fuel 22 cs = some x):∃ v a,∃ bs:List UInt8,cs = [v]∧Z3o W N v = some a∧Zrp (stW W N) a (bs.map fun b => .int .u8 (b.toNat:Int)):=by
 obtain ⟨v,a,elems,rfl,hs⟩:=Zah hN Tryz.underlying22 (by rw [c5]; decide) (fun n vs x h => by
  obtain ⟨k,rfl,_,_⟩:=DataW.trod_int Tryz.underlying5 h
  exact ⟨[.int .u8 k],rfl⟩) h
 obtain ⟨bs,hb⟩:=row_of (s:=stW W N) (fun b:UInt8 => AVal.int .u8 (b.toNat:Int)) c5 (fun n vs x l h1 h2 => by
  obtain ⟨k,rfl,_,hk⟩:=DataW.trod_int Tryz.underlying5 h1
  have hk:0 ≤ k∧k ≤ 255:=by
   rw [Lit.wf,Bool.and_eq_true,decide_eq_true_eq,decide_eq_true_eq] at hk
   exact hk
  refine ⟨UInt8.ofNat k.toNat,?_⟩
  have e:((UInt8.ofNat k.toNat).toNat:Int) = k:=by
   rw [UInt8.toNat_ofNat_of_lt' (by show k.toNat < 256; omega)]
   omega
  rw [e]
  simp [List.mapM_cons,Z3o] at h2
  exact h2.symm) hs
 exact ⟨v,a,bs,rfl,hs.conv,hb⟩
end
end Go.Proofs
end
section
open Go Go.AM
namespace Go.Proofs
def c3_1:MCode:=.region [Yo (.bool false)] [Cs 4]
def c3_4:MCode:=.region [Cm 1,Yl (Yq 0),Yh .gtr (Yq 0) (Ck 12),C0,Yi 0 (.move (Cp 1)),Yi 1 (.call (.cst (.fn 8 [] [])) [(Yq 0),(.cst (.fn 9 [] []))]),Cr (.pick (Yq 2) (.cst (.bool true)) (Yq 0))] [Cs 19,none,none,none,none,none,none]
def c3_7:MCode:=.region [Ym 10 [],C0] [Cs 4,none]
def c3_6:MCode:=.seq c3_7 .ret
def c3_5:MCode:=.cond (Cp 19) c3_6 .skip
def c3_3:MCode:=.seq c3_4 c3_5
def c3_9:MCode:=.region [Cm 0,Ym 12 [(Yq 0)],Ym 11 [(Yq 0),(Ck 16)],C0,Yg 0 0,Yg 1 1,Yn 1,Yn 1] [Cs 6,Cs 5,none,none,none,none,none,none]
def c3_11:MCode:=.region [Cm 0,Ym 12 [(Yq 0)],Ym 11 [(Yq 0),(Ck 16)],C0,Yg 0 0,Yg 1 1,Yn 1,Yn 1] [Cs 8,Cs 7,none,none,none,none,none,none]
def c3_14:MCode:=.region [Cm 6,Cr (.un .not (Yq 0)),C0,Yi 0 (.move (Cp 8)),Yi 1 (.un .not (Yq 0)),Cr (.pick (Yq 2) (.cst (.bool true)) (Yq 0)),C0,Yi 0 (.move (Cp 5)),Yi 1 (.move (Cp 7)),Yi 2 (.call (.cst (.fn 13 [] [])) [(Yq 1),(Yq 0)]),Yi 3 (.un .not (Yq 0)),Cr (.pick (Yq 4) (.cst (.bool true)) (Yq 0))] [Cs 44,none,none,none,none,none,none,none,none,none,none,none]
def c3_17:MCode:=.region [Yo (.bool false)] [Cs 4]
def c3_16:MCode:=.seq c3_17 .ret
def c3_15:MCode:=.cond (Cp 44) c3_16 .skip
def c3_13:MCode:=.seq c3_14 c3_15
def c3_19:MCode:=.region [Cm 5,Ym 14 [(Yq 0)],C0,Yg 0 0,Yg 1 1,Yn 1,Yn 1] [Cs 10,Cs 9,none,none,none,none,none]
def c3_22:MCode:=.region [Cm 10,Yh .neq (Yq 0) (Ck 0)] [Cs 51,none]
def c3_25:MCode:=.region [Yo (.bool false)] [Cs 4]
def c3_24:MCode:=.seq c3_25 .ret
def c3_23:MCode:=.cond (Cp 51) c3_24 .skip
def c3_21:MCode:=.seq c3_22 c3_23
def c3_28:MCode:=.region [Yp 0] [Cs 52]
def c3_32:MCode:=.region [Yh .lss (Cp 52) (Ck 2)] [Cs 53]
def c3_34:MCode:=.cond (Cp 53) .skip (.exit 0)
def c3_39:MCode:=.region [Cm 1,Yl (Yq 0),Yp 0] [Cs 56,Cs 55,Cs 54]
def c3_43:MCode:=.region [Yh .lss (Cp 56) (Cp 55)] [Cs 57]
def c3_45:MCode:=.cond (Cp 57) .skip (.exit 2)
def c3_49:MCode:=.region [Ye 8 104 (Cp 54) (Cp 56),Yr 8 (Yq 0),Cr (.alloc (some [(.int .i64 0),(.str []),.nilSlice,(.int .i64 0),(.int .i64 0),(.int .i64 0),.nilSlice,(.int .i64 0)])),Yk 8 (Yq 0) (Yq 1)] [none,Cs 12,none,none]
def c3_51:MCode:=.region [Yd 0 12,Ya 0,Ym 15 [(Yq 0),(Ck 7)]] [Cs 62,none,none]
def c3_54:MCode:=.region [Yh .eql (Cp 62) (Ck 0),C0] [Cs 67,none]
def c3_56:MCode:=.region [Cm 5,Cr (.call (.cst (.fn 16 [] [])) [(Yq 0),(.cst (.str [97])),(.cst .nilSlice)])] [none,none]
def c3_58:MCode:=.region [Yh .eql (Cp 62) (Ck 1),C0] [Cs 71,none]
def c3_60:MCode:=.region [Cm 5,Yd 3 12,Ya 0,Yd 4 12,Ya 0,Yd 5 12,Ya 0,Ym 17 [(Yq 6),(Yq 4),(Yq 2),(Yq 0)]] [none,none,none,none,none,none,none,none]
def c3_62:MCode:=.region [Yh .eql (Cp 62) (Ck 2),C0] [Cs 81,none]
def c3_64:MCode:=.region [Cm 5,Ym 18 [(Yq 0)]] [none,none]
def c3_66:MCode:=.region [Yh .eql (Cp 62) (Ck 3),C0] [Cs 85,none]
def c3_68:MCode:=.region [Cm 5,Ym 19 [(Yq 0)]] [none,none]
def c3_70:MCode:=.region [Yh .eql (Cp 62) (Ck 4),C0] [Cs 89,none]
def c3_72:MCode:=.region [Cm 5,Ym 20 [(Yq 0)]] [none,none]
def c3_74:MCode:=.region [Yh .eql (Cp 62) (Ck 5),C0] [Cs 93,none]
def c3_76:MCode:=.region [Cm 5,Yd 6 12,Yr 2 (Yq 0),Ym 21 [(Yq 2),(Yq 0)]] [none,none,none,none]
def c3_77:MCode:=.region [Cm 5,Yd 3 12,Ya 0,Ym 22 [(Yq 2),(Yq 0)]] [none,none,none,none]
def c3_75:MCode:=.cond (Cp 93) c3_76 c3_77
def c3_73:MCode:=.seq c3_74 c3_75
def c3_71:MCode:=.cond (Cp 89) c3_72 c3_73
def c3_69:MCode:=.seq c3_70 c3_71
def c3_67:MCode:=.cond (Cp 85) c3_68 c3_69
def c3_65:MCode:=.seq c3_66 c3_67
def c3_63:MCode:=.cond (Cp 81) c3_64 c3_65
def c3_61:MCode:=.seq c3_62 c3_63
def c3_59:MCode:=.cond (Cp 71) c3_60 c3_61
def c3_57:MCode:=.seq c3_58 c3_59
def c3_55:MCode:=.cond (Cp 67) c3_56 c3_57
def c3_53:MCode:=.seq c3_54 c3_55
def c3_52:MCode:=.block 4 c3_53
def c3_50:MCode:=.seq c3_51 c3_52
def c3_48:MCode:=.seq c3_49 c3_50
def c3_47:MCode:=.block 3 c3_48
def c3_78:MCode:=.region [Yh .add (Cp 56) (Ck 1),C0] [Cs 56,none]
def c3_46:MCode:=.seq c3_47 c3_78
def c3_44:MCode:=.seq c3_45 c3_46
def c3_42:MCode:=.seq c3_43 c3_44
def c3_41:MCode:=.loop c3_42
def c3_40:MCode:=.block 2 c3_41
def c3_38:MCode:=.seq c3_39 c3_40
def c3_80:MCode:=.region [Cm 5,Cm 9,Ym 23 [(Yq 1),(Yq 0)],Yh .neq (Yq 0) (Ck 0),C0,Yi 0 (.move (Cp 5)),Yi 1 (.move (Cp 7)),Yi 2 (.call (.cst (.fn 13 [] [])) [(Yq 1),(Yq 0)]),Yi 3 (.un .not (Yq 0)),Cr (.pick (Yq 4) (.cst (.bool true)) (Yq 0))] [Cs 109,none,none,none,none,none,none,none,none,none]
def c3_83:MCode:=.region [Yo (.bool false)] [Cs 4]
def c3_82:MCode:=.seq c3_83 .ret
def c3_81:MCode:=.cond (Cp 109) c3_82 .skip
def c3_79:MCode:=.seq c3_80 c3_81
def c3_37:MCode:=.seq c3_38 c3_79
def c3_36:MCode:=.block 1 c3_37
def c3_84:MCode:=.region [Yh .add (Cp 52) (Ck 1),C0] [Cs 52,none]
def c3_35:MCode:=.seq c3_36 c3_84
def c3_33:MCode:=.seq c3_34 c3_35
def c3_31:MCode:=.seq c3_32 c3_33
def c3_30:MCode:=.loop c3_31
def c3_29:MCode:=.block 0 c3_30
def c3_27:MCode:=.seq c3_28 c3_29
def c3_86:MCode:=.region [Cm 5,Cm 9,Yh .add (Yq 0) (Ck 1),Ym 23 [(Yq 2),(Yq 0)],Yh .eql (Yq 0) (Ck 1),C0,Yj 0 (.call (.cst (.fn 10 [] [])) []),Cr (.pick (Yq 1) (Yq 0) (.cst (.bool false))),C0] [Cs 4,none,none,none,none,none,none,none,none]
def c3_85:MCode:=.seq c3_86 .ret
def c3_26:MCode:=.seq c3_27 c3_85
def c3_20:MCode:=.seq c3_21 c3_26
def c3_18:MCode:=.seq c3_19 c3_20
def c3_12:MCode:=.seq c3_13 c3_18
def c3_10:MCode:=.seq c3_11 c3_12
def c3_8:MCode:=.seq c3_9 c3_10
def c3_2:MCode:=.seq c3_3 c3_8
def c3_0:MCode:=.seq c3_1 c3_2
theorem fi3:funInfo Tryz.prog 3 = some { code:=c3_0,ntmps:=119,nargs:=2,ps:=[109,9,93,89,85,81,71,67,62,12,54,57,55,56,53,52,51,10,44,7,5,8,6,0,19,1,4],res:=[.tmp 4] }:=by kernel_rfl
def c8_1:MCode:=.region [Yo (.bool false)] [Cs 4]
def c8_3:MCode:=.region [Cm 0,Cm 1,Ym 36 [(Yq 1),(Yq 0)],Yh .geq (Yq 0) (Ck 0),C0] [Cs 4,none,none,none,none]
def c8_2:MCode:=.seq c8_3 .ret
def c8_0:MCode:=.seq c8_1 c8_2
theorem fi8:funInfo Tryz.prog 8 = some { code:=c8_0,ntmps:=9,nargs:=2,ps:=[1,0,4],res:=[.tmp 4] }:=by kernel_rfl
def c36_1:MCode:=.region [Yp 0] [Cs 4]
def c36_4:MCode:=.region [Cm 0,Yl (Yq 0),Yp 0] [Cs 8,Cs 7,none]
def c36_8:MCode:=.region [Yh .lss (Cp 8) (Cp 7)] [Cs 9]
def c36_10:MCode:=.cond (Cp 9) .skip (.exit 0)
def c36_14:MCode:=.region [Cm 8,C0] [Cs 5,none]
def c36_16:MCode:=.region [Cm 1,Cm 0,Cm 5,Ye 8 104 (Yq 1) (Yq 0),Yr 8 (Yq 0),Cr (.call (Yq 4) [(Yq 0)])] [Cs 16,none,none,none,none,none]
def c36_19:MCode:=.region [Cm 5,C0] [Cs 4,none]
def c36_18:MCode:=.seq c36_19 .ret
def c36_17:MCode:=.cond (Cp 16) c36_18 .skip
def c36_15:MCode:=.seq c36_16 c36_17
def c36_13:MCode:=.seq c36_14 c36_15
def c36_12:MCode:=.block 1 c36_13
def c36_20:MCode:=.region [Yh .add (Cp 8) (Ck 1),C0] [Cs 8,none]
def c36_11:MCode:=.seq c36_12 c36_20
def c36_9:MCode:=.seq c36_10 c36_11
def c36_7:MCode:=.seq c36_8 c36_9
def c36_6:MCode:=.loop c36_7
def c36_5:MCode:=.block 0 c36_6
def c36_3:MCode:=.seq c36_4 c36_5
def c36_22:MCode:=.region [Cr (.move (.cst (.int .i64 (-1))))] [Cs 4]
def c36_21:MCode:=.seq c36_22 .ret
def c36_2:MCode:=.seq c36_3 c36_21
def c36_0:MCode:=.seq c36_1 c36_2
theorem fi36:funInfo Tryz.prog 36 = some { code:=c36_0,ntmps:=19,nargs:=2,ps:=[16,5,1,9,7,8,0,4],res:=[.tmp 4] }:=by kernel_rfl
def c15_1:MCode:=.region [Yp 0] [Cs 4]
def c15_4:MCode:=.region [Cm 1,Yh .lss (Yq 0) (Ck 1)] [Cs 6,none]
def c15_7:MCode:=.region [Yp 0] [Cs 4]
def c15_6:MCode:=.seq c15_7 .ret
def c15_5:MCode:=.cond (Cp 6) c15_6 .skip
def c15_3:MCode:=.seq c15_4 c15_5
def c15_10:MCode:=.region [Cm 0,Cm 1,Yh .rem (Yq 1) (Yq 0),C0] [Cs 0,none,none,none]
def c15_12:MCode:=.region [Cm 0,Yh .lss (Yq 0) (Ck 0)] [Cs 11,none]
def c15_14:MCode:=.region [Cm 0,Cm 1,Yh .add (Yq 1) (Yq 0),C0] [Cs 0,none,none,none]
def c15_13:MCode:=.cond (Cp 11) c15_14 .skip
def c15_11:MCode:=.seq c15_12 c15_13
def c15_9:MCode:=.seq c15_10 c15_11
def c15_16:MCode:=.region [Cm 0,C0] [Cs 4,none]
def c15_15:MCode:=.seq c15_16 .ret
def c15_8:MCode:=.seq c15_9 c15_15
def c15_2:MCode:=.seq c15_3 c15_8
def c15_0:MCode:=.seq c15_1 c15_2
theorem fi15:funInfo Tryz.prog 15 = some { code:=c15_0,ntmps:=16,nargs:=2,ps:=[11,0,6,1,4],res:=[.tmp 4] }:=by kernel_rfl
end Go.Proofs
end
section
open Go Go.AM
namespace Go.Proofs
def c68_1:MCode:=.region [Cr (.box (Cp 0)),Cr (.box (Cp 1)),Yo .nilSlice] [Cs 4,Cs 3,Cs 2]
def c68_3:MCode:=.region [Yr 1 (Cp 2),Ym 54 [(Yq 0)],C0,Yg 0 0,Yg 1 1,Yn 1,Yn 1] [Cs 6,Cs 5,none,none,none,none,none]
def c68_5:MCode:=.region [Cm 5,Yl (Yq 0),C0] [Cs 7,none,none]
def c68_8:MCode:=.region [Yd 0 3,Ya 0,Yl (Yq 0),Yp 0] [Cs 26,Cs 25,Cs 24,none]
def c68_12:MCode:=.region [Yh .lss (Cp 26) (Cp 25)] [Cs 27]
def c68_14:MCode:=.cond (Cp 27) .skip (.exit 0)
def c68_18:MCode:=.region [Cm 26,Ye 2 40 (Cp 24) (Cp 26),Yr 2 (Yq 0),Cr (.alloc (some [(.str []),.nilSlice])),Yn 3,Yk 2 (Yq 1) (Yq 2)] [none,Cs 8,Cs 9,none,none,none]
def c68_20:MCode:=.region [Yd 0 9,Ya 0,Cr (.build (some [(0,(1,(Yq 0)))]) (some [(.str []),.nilSlice])),Cr (.alloc (some [(.str []),.nilSlice])),Yk 2 (Yq 0) (Yq 1)] [none,Cs 10,none,none,none]
def c68_23:MCode:=.region [Yd 1 9,Ya 0,Yl (Yq 0),Yp 0] [Cs 37,Cs 36,Cs 35,none]
def c68_27:MCode:=.region [Yh .lss (Cp 37) (Cp 36)] [Cs 38]
def c68_29:MCode:=.cond (Cp 38) .skip (.exit 2)
def c68_33:MCode:=.region [Ye 1 8 (Cp 35) (Cp 37),Ya 0,C0] [Cs 12,none,none]
def c68_34:MCode:=.region [Yd 1 10,Ya 0,Cm 7,Cm 12,Yh .add (Yq 1) (Yq 0),Cr (.buildSlice (some (1,8)) (some [(.int .i64 0)]) 1 [(0,(Yq 0))]),Cr (.append (some (1,8)) (Yq 4) (Yq 0)),Yd 1 10,Yk 1 (Yq 0) (Yq 1)] [none,none,none,none,none,none,none,none,none]
def c68_32:MCode:=.seq c68_33 c68_34
def c68_31:MCode:=.block 3 c68_32
def c68_35:MCode:=.region [Yh .add (Cp 37) (Ck 1),C0] [Cs 37,none]
def c68_30:MCode:=.seq c68_31 c68_35
def c68_28:MCode:=.seq c68_29 c68_30
def c68_26:MCode:=.seq c68_27 c68_28
def c68_25:MCode:=.loop c68_26
def c68_24:MCode:=.block 2 c68_25
def Zuj:MCode:=.seq c68_23 c68_24
def c68_36:MCode:=.region [Cm 5,Yr 2 (Cp 10),Cr (.buildSlice (some (2,40)) (some [(.str []),.nilSlice]) 1 [(0,(Yq 0))]),Cr (.append (some (2,40)) (Yq 2) (Yq 0)),Cm 6,Cm 7,Cm 8,Yh .add (Yq 1) (Yq 0),Cr (.buildSlice (some (1,8)) (some [(.int .i64 0)]) 1 [(0,(Yq 0))]),Cr (.append (some (1,8)) (Yq 4) (Yq 0)),Yn 6,Yn 1] [Cs 6,Cs 5,none,none,none,none,none,none,none,none,none,none]
def c68_21:MCode:=.seq Zuj c68_36
def c68_19:MCode:=.seq c68_20 c68_21
def c68_17:MCode:=.seq c68_18 c68_19
def c68_16:MCode:=.block 1 c68_17
def c68_37:MCode:=.region [Yh .add (Cp 26) (Ck 1),C0] [Cs 26,none]
def c68_15:MCode:=.seq c68_16 c68_37
def c68_13:MCode:=.seq c68_14 c68_15
def c68_11:MCode:=.seq c68_12 c68_13
def c68_10:MCode:=.loop c68_11
def c68_9:MCode:=.block 0 c68_10
def c68_7:MCode:=.seq c68_8 c68_9
def c68_39:MCode:=.region [Cm 5,Cm 6,Ym 53 [(Yq 1),(Yq 0)],C0] [Cs 13,none,none,none]
def c68_41:MCode:=.region [Yd 0 3,Ya 0,Yl (Yq 0),Cr (.makeSlice (some (1,8)) (some [(.int .i64 0)]) (Yq 0) (Yq 0)),C0] [Cs 14,none,none,none,none]
def c68_44:MCode:=.region [Cm 14,Yl (Yq 0),Yp 0] [Cs 70,Cs 69,none]
def c68_48:MCode:=.region [Yh .lss (Cp 70) (Cp 69)] [Cs 71]
def c68_50:MCode:=.cond (Cp 71) .skip (.exit 4)
def c68_54:MCode:=.region [Cm 70,C0] [Cs 15,none]
def c68_55:MCode:=.region [Cm 14,Cm 15,Cm 13,Cm 7,Cr (.slice .slc (some (1,8)) none (Yq 1) none (some (Yq 0)) none),Cm 13,Cm 7,Cm 15,Yh .add (Yq 1) (Yq 0),Ye 1 8 (Yq 3) (Yq 0),Ya 0,Ym 56 [(Yq 6),(Yq 0)],Ye 1 8 (Yq 11) (Yq 10),Yk 1 (Yq 0) (Yq 1)] [none,Cs 85,Cs 84,Cs 83,Cs 82,Cs 81,Cs 80,Cs 79,Cs 78,Cs 77,Cs 76,Cs 75,Cs 74,Cs 73]
def c68_53:MCode:=.seq c68_54 c68_55
def c68_52:MCode:=.block 5 c68_53
def c68_56:MCode:=.region [Yh .add (Cp 70) (Ck 1),C0] [Cs 70,none]
def c68_51:MCode:=.seq c68_52 c68_56
def c68_49:MCode:=.seq c68_50 c68_51
def c68_47:MCode:=.seq c68_48 c68_49
def c68_46:MCode:=.loop c68_47
def c68_45:MCode:=.block 4 c68_46
def c68_43:MCode:=.seq c68_44 c68_45
def c68_58:MCode:=.region [Cm 14,C0] [Cs 4,none]
def c68_57:MCode:=.seq c68_58 .ret
def c68_42:MCode:=.seq c68_43 c68_57
def c68_40:MCode:=.seq c68_41 c68_42
def c68_38:MCode:=.seq c68_39 c68_40
def c68_6:MCode:=.seq c68_7 c68_38
def c68_4:MCode:=.seq c68_5 c68_6
def c68_2:MCode:=.seq c68_3 c68_4
def c68_0:MCode:=.seq c68_1 c68_2
theorem fi68:funInfo Tryz.prog 68 = some { code:=c68_0,ntmps:=88,nargs:=2,ps:=[76,75,13,15,80,79,81,78,82,83,77,74,73,84,85,71,69,70,14,8,6,12,7,10,35,38,36,37,9,24,27,25,26,3,5,2,1,0,4],res:=[.tmp 4] }:=by kernel_rfl
def c62_1:MCode:=.region [Cr (.box (Cp 0)),Cr (.box (Cp 1))] [Cs 4,Cs 3]
def c62_3:MCode:=.region [Yd 0 3,Ya 0,Yl (Yq 0),Cr (.makeSlice (some (1,1)) (some [(.bool false)]) (Yq 0) (Yq 0)),Cr (.alloc (some [.nilSlice])),Yk 1 (Yq 0) (Yq 1)] [none,Cs 6,none,none,none,none]
def c62_5:MCode:=.region [Cr (.alloc (some [.nilSlice]))] [Cs 7]
def c62_7:MCode:=.region [Cr (.func (some 107) [] [(Cp 6),(Cp 7),(Cp 4)]),C0] [Cs 8,none]
def c62_9:MCode:=.region [Cm 2,Yl (Yq 0),Yp 0] [Cs 20,Cs 19,Cs 18]
def c62_13:MCode:=.region [Yh .lss (Cp 20) (Cp 19)] [Cs 21]
def c62_15:MCode:=.cond (Cp 21) .skip (.exit 0)
def c62_19:MCode:=.region [Ye 1 8 (Cp 18) (Cp 20),Ya 0,C0] [Cs 10,none,none]
def c62_21:MCode:=.region [Cm 8,Cm 10,Cr (.call (Yq 1) [(Yq 0)])] [none,none,none]
def c62_26:MCode:=.region [Yb 7,Yl (Yq 0),Yh .gtr (Yq 0) (Ck 0)] [Cs 29,none,none]
def c62_27:MCode:=.cond (Cp 29) .skip (.exit 2)
def c62_25:MCode:=.seq c62_26 c62_27
def c62_31:MCode:=.region [Yd 0 3,Ya 0,Yb 7,Ye 1 8 (Yq 0) (Ck 0),Ya 0,Ye 4 56 (Yq 3) (Yq 0),Yc 2 0,Ya 0,Yl (Yq 0),Yp 0] [Cs 41,Cs 40,Cs 39,Cs 38,Cs 37,Cs 36,Cs 35,Cs 34,Cs 33,Cs 32]
def c62_35:MCode:=.region [Yh .lss (Cp 41) (Cp 40)] [Cs 42]
def c62_37:MCode:=.cond (Cp 42) .skip (.exit 4)
def c62_41:MCode:=.region [Ye 1 8 (Cp 39) (Cp 41),Ya 0,C0] [Cs 12,none,none]
def c62_42:MCode:=.region [Cm 8,Cm 12,Cr (.call (Yq 1) [(Yq 0)])] [none,none,none]
def c62_40:MCode:=.seq c62_41 c62_42
def c62_39:MCode:=.block 5 c62_40
def c62_43:MCode:=.region [Yh .add (Cp 41) (Ck 1),C0] [Cs 41,none]
def c62_38:MCode:=.seq c62_39 c62_43
def c62_36:MCode:=.seq c62_37 c62_38
def c62_34:MCode:=.seq c62_35 c62_36
def c62_33:MCode:=.loop c62_34
def c62_32:MCode:=.block 4 c62_33
def Zui:MCode:=.seq c62_31 c62_32
def c62_29:MCode:=.block 3 Zui
def c62_44:MCode:=.region [Yb 7,Cr (.slice .slc (some (1,8)) none (Yq 0) (some (Ck 1)) none none),Yk 1 (Cp 7) (Yq 0)] [none,none,none]
def c62_28:MCode:=.seq c62_29 c62_44
def c62_24:MCode:=.seq c62_25 c62_28
def c62_23:MCode:=.loop c62_24
def Zuh:MCode:=.block 2 c62_23
def c62_20:MCode:=.seq c62_21 Zuh
def c62_18:MCode:=.seq c62_19 c62_20
def c62_17:MCode:=.block 1 c62_18
def c62_45:MCode:=.region [Yh .add (Cp 20) (Ck 1),C0] [Cs 20,none]
def c62_16:MCode:=.seq c62_17 c62_45
def c62_14:MCode:=.seq c62_15 c62_16
def c62_12:MCode:=.seq c62_13 c62_14
def c62_11:MCode:=.loop c62_12
def c62_10:MCode:=.block 0 c62_11
def c62_8:MCode:=.seq c62_9 c62_10
def c62_6:MCode:=.seq c62_7 c62_8
def c62_4:MCode:=.seq c62_5 c62_6
def c62_2:MCode:=.seq c62_3 c62_4
def c62_0:MCode:=.seq c62_1 c62_2
theorem fi62:funInfo Tryz.prog 62 = some { code:=c62_0,ntmps:=50,nargs:=3,ps:=[12,42,40,41,32,34,35,36,33,37,38,39,29,10,8,18,21,19,20,2,4,7,6,3,1,0],res:=[] }:=by kernel_rfl
def c63_0:MCode:=.region [Yb 1,Cm 0,Ye 1 1 (Yq 1) (Yq 0),Cr (.store (some 1) (Yq 0) (.cst (.bool true)))] [none,none,none,none]
theorem fi63:funInfo Tryz.prog 63 = some { code:=c63_0,ntmps:=6,nargs:=2,ps:=[0,1],res:=[] }:=by kernel_rfl
def c64_1:MCode:=.region [Cr (.box (Cp 0)),Yo .nilSlice] [Cs 2,Cs 1]
def c64_3:MCode:=.region [Cr (.alloc (some [.nilSlice]))] [Cs 3]
def c64_6:MCode:=.region [Yr 1 (Cp 1),Ym 58 [(Yq 0)]] [Cs 6,none]
def c64_9:MCode:=.region [Cm 7] [Cs 4]
def c64_12:MCode:=.region [Yd 0 1,Ya 0,Cm 4,Ye 4 56 (Yq 1) (Yq 0),Yc 3 0,Ya 0,Yh .gtr (Yq 0) (Ck 0)] [Cs 14,none,none,none,none,none,none]
def c64_14:MCode:=.region [Yb 3,Cm 4,Cr (.buildSlice (some (1,8)) (some [(.int .i64 0)]) 1 [(0,(Yq 0))]),Cr (.append (some (1,8)) (Yq 2) (Yq 0)),Yk 1 (Cp 3) (Yq 0)] [none,none,none,none,none]
def c64_13:MCode:=.cond (Cp 14) c64_14 .skip
def c64_11:MCode:=.seq c64_12 c64_13
def c64_10:MCode:=.block 1 c64_11
def c64_8:MCode:=.range (Cp 6) [7] c64_9 c64_10
def c64_7:MCode:=.block 0 c64_8
def c64_5:MCode:=.seq c64_6 c64_7
def c64_16:MCode:=.region [Yb 3,C0] [Cs 2,none]
def c64_15:MCode:=.seq c64_16 .ret
def c64_4:MCode:=.seq c64_5 c64_15
def c64_2:MCode:=.seq c64_3 c64_4
def c64_0:MCode:=.seq c64_1 c64_2
theorem fi64:funInfo Tryz.prog 64 = some { code:=c64_0,ntmps:=20,nargs:=1,ps:=[3,14,4,7,6,1,0,2],res:=[.tmp 2] }:=by kernel_rfl
def c43_1:MCode:=.region [Cr (.box (Cp 0)),Cr (.box (Cp 1)),Yo (.bool false)] [Cs 4,Cs 3,Cs 2]
def c43_3:MCode:=.region [Yd 0 2,Ya 0,Yd 0 3,Ya 0,Cr (.bin .eql .bool none (Yq 2) (Yq 0)),C0,Yj 0 (.fieldAddr (some 1) (Cp 2)),Yj 1 (.load (some none) (Yq 0)),Yj 2 (.fieldAddr (some 1) (Cp 3)),Yj 3 (.load (some none) (Yq 0)),Yj 4 (.bin .eql .other none (Yq 2) (Yq 0)),Cr (.pick (Yq 5) (Yq 0) (.cst (.bool false))),C0,Yj 0 (.fieldAddr (some 3) (Cp 2)),Yj 1 (.load (some none) (Yq 0)),Yj 2 (.fieldAddr (some 3) (Cp 3)),Yj 3 (.load (some none) (Yq 0)),Yj 4 (.bin .eql .other none (Yq 2) (Yq 0)),Cr (.pick (Yq 5) (Yq 0) (.cst (.bool false))),C0,Yj 0 (.fieldAddr (some 2) (Cp 2)),Yj 1 (.load (some none) (Yq 0)),Yj 2 (.fieldAddr (some 2) (Cp 3)),Yj 3 (.load (some none) (Yq 0)),Yj 4 (.call (.cst (.fn 39 [] [])) [(Yq 2),(Yq 0)]),Cr (.pick (Yq 5) (Yq 0) (.cst (.bool false))),C0] [Cs 4,none,none,none,none,none,none,none,none,none,none,none,none,none,none,none,none,none,none,none,none,none,none,none,none,none,none]
def c43_2:MCode:=.seq c43_3 .ret
def c43_0:MCode:=.seq c43_1 c43_2
theorem fi43:funInfo Tryz.prog 43 = some { code:=c43_0,ntmps:=31,nargs:=2,ps:=[3,2,1,0,4],res:=[.tmp 4] }:=by kernel_rfl
def c46_1:MCode:=.region [Yo (.bool false)] [Cs 6]
def c46_4:MCode:=.region [Cm 0,Yl (Yq 0),Cm 1,Yl (Yq 0),Yh .neq (Yq 2) (Yq 0)] [Cs 14,none,none,none,none]
def c46_7:MCode:=.region [Yo (.bool false)] [Cs 6]
def c46_6:MCode:=.seq c46_7 .ret
def c46_5:MCode:=.cond (Cp 14) c46_6 .skip
def c46_3:MCode:=.seq c46_4 c46_5
def c46_10:MCode:=.region [Cm 0,Yl (Yq 0),Yp 0] [Cs 17,Cs 16,Cs 15]
def c46_14:MCode:=.region [Yh .lss (Cp 17) (Cp 16)] [Cs 18]
def c46_16:MCode:=.cond (Cp 18) .skip (.exit 0)
def c46_20:MCode:=.region [Cm 17,Ye 4 56 (Cp 15) (Cp 17),Yr 4 (Yq 0),Cr (.alloc (some [(.bool false),(.str []),.nilSlice,(.int .i64 0)])),Yn 3,Yk 4 (Yq 1) (Yq 2)] [none,Cs 7,Cs 8,none,none,none]
def c46_22:MCode:=.region [Cm 1,Cm 7,Ye 4 56 (Yq 1) (Yq 0),Yr 4 (Yq 0),Cr (.alloc (some [(.bool false),(.str []),.nilSlice,(.int .i64 0)])),Yk 4 (Yq 0) (Yq 1)] [none,Cs 9,none,none,none,none]
def c46_24:MCode:=.region [Cm 2,Yr 4 (Cp 8),Yr 4 (Cp 9),Cr (.call (Yq 2) [(Yq 1),(Yq 0)]),Cr (.un .not (Yq 0))] [Cs 30,none,none,none,none]
def c46_27:MCode:=.region [Yo (.bool false)] [Cs 6]
def c46_26:MCode:=.seq c46_27 .ret
def c46_25:MCode:=.cond (Cp 30) c46_26 .skip
def c46_23:MCode:=.seq c46_24 c46_25
def c46_21:MCode:=.seq c46_22 c46_23
def c46_19:MCode:=.seq c46_20 c46_21
def c46_18:MCode:=.block 1 c46_19
def c46_28:MCode:=.region [Yh .add (Cp 17) (Ck 1),C0] [Cs 17,none]
def c46_17:MCode:=.seq c46_18 c46_28
def c46_15:MCode:=.seq c46_16 c46_17
def c46_13:MCode:=.seq c46_14 c46_15
def c46_12:MCode:=.loop c46_13
def c46_11:MCode:=.block 0 c46_12
def c46_9:MCode:=.seq c46_10 c46_11
def c46_30:MCode:=.region [Yo (.bool true)] [Cs 6]
def c46_29:MCode:=.seq c46_30 .ret
def c46_8:MCode:=.seq c46_9 c46_29
def c46_2:MCode:=.seq c46_3 c46_8
def c46_0:MCode:=.seq c46_1 c46_2
theorem fi46:funInfo Tryz.prog 46 = some { code:=c46_0,ntmps:=32,nargs:=3,ps:=[30,9,8,2,7,15,18,16,17,14,1,0,6],res:=[.tmp 6] }:=by kernel_rfl
def c65_1:MCode:=.region [Yb 2,Cm 0,Yb 1,Ye 1 8 (Yq 2) (Yq 1),Yk 1 (Yq 0) (Yq 1)] [none,none,none,none,none]
def c65_3:MCode:=.region [Yd 0 4,Ya 0,Yb 1,Yb 3,Yf 0,Yc 0 0,Yc 0 0,Ya 0,Cm 0,Ye 4 56 (Yq 1) (Yq 0),Yr 4 (Yq 0),Ye 4 56 (Yq 9) (Yq 8),Yk 4 (Yq 0) (Yq 1)] [none,Cs 21,Cs 20,Cs 19,Cs 18,Cs 17,Cs 16,Cs 15,Cs 14,Cs 13,Cs 12,Cs 11,Cs 10]
def c65_4:MCode:=.region [Yb 1,Yh .add (Yq 0) (Ck 1),Yk 1 (Cp 1) (Yq 0)] [none,none,none]
def c65_2:MCode:=.seq c65_3 c65_4
def c65_0:MCode:=.seq c65_1 c65_2
theorem fi65:funInfo Tryz.prog 65 = some { code:=c65_0,ntmps:=24,nargs:=5,ps:=[4,10,3,13,14,15,16,18,17,19,12,11,20,21,1,0,2],res:=[] }:=by kernel_rfl
def c66_1:MCode:=.region [Yp 0] [Cs 3]
def c66_3:MCode:=.region [Yb 1,Cm 0,Ye 1 8 (Yq 1) (Yq 0),Ya 0,C0] [Cs 3,none,none,none,none]
def c66_2:MCode:=.seq c66_3 .ret
def c66_0:MCode:=.seq c66_1 c66_2
theorem fi66:funInfo Tryz.prog 66 = some { code:=c66_0,ntmps:=8,nargs:=2,ps:=[0,1,3],res:=[.tmp 3] }:=by kernel_rfl
def c107_1:MCode:=.region [Yb 1,Cm 0,Ye 1 1 (Yq 1) (Yq 0),Ya 0,Cr (.un .not (Yq 0))] [Cs 9,none,none,none,none]
def c107_4:MCode:=.region [Yb 1,Cm 0,Ye 1 1 (Yq 1) (Yq 0),Cr (.store (some 1) (Yq 0) (.cst (.bool true)))] [none,none,none,none]
def c107_6:MCode:=.region [Yb 2,Cm 0,Cr (.buildSlice (some (1,8)) (some [(.int .i64 0)]) 1 [(0,(Yq 0))]),Cr (.append (some (1,8)) (Yq 2) (Yq 0)),Yk 1 (Cp 2) (Yq 0)] [none,none,none,none,none]
def c107_7:MCode:=.region [Yb 3,Cm 0,Cr (.call (Yq 1) [(Yq 0)])] [none,none,none]
def c107_5:MCode:=.seq c107_6 c107_7
def c107_3:MCode:=.seq c107_4 c107_5
def c107_2:MCode:=.cond (Cp 9) c107_3 .skip
def c107_0:MCode:=.seq c107_1 c107_2
theorem fi107:funInfo Tryz.prog 107 = some { code:=c107_0,ntmps:=20,nargs:=4,ps:=[3,2,9,0,1],res:=[] }:=by kernel_rfl
def c39_1:MCode:=.region [Yo (.bool false)] [Cs 4]
def c39_4:MCode:=.region [Cm 0,Yl (Yq 0),Cm 1,Yl (Yq 0),Yh .neq (Yq 2) (Yq 0)] [Cs 10,none,none,none,none]
def c39_7:MCode:=.region [Yo (.bool false)] [Cs 4]
def c39_6:MCode:=.seq c39_7 .ret
def c39_5:MCode:=.cond (Cp 10) c39_6 .skip
def c39_3:MCode:=.seq c39_4 c39_5
def c39_10:MCode:=.region [Cm 0,Yl (Yq 0),Yp 0] [Cs 13,Cs 12,none]
def c39_14:MCode:=.region [Yh .lss (Cp 13) (Cp 12)] [Cs 14]
def c39_16:MCode:=.cond (Cp 14) .skip (.exit 0)
def c39_20:MCode:=.region [Cm 13,C0] [Cs 5,none]
def c39_22:MCode:=.region [Cm 0,Cm 5,Ye 1 8 (Yq 1) (Yq 0),Ya 0,Cm 1,Cm 5,Ye 1 8 (Yq 1) (Yq 0),Ya 0,Yh .neq (Yq 4) (Yq 0)] [Cs 24,Cs 23,Cs 22,Cs 21,Cs 20,Cs 19,Cs 18,Cs 17,Cs 16]
def c39_25:MCode:=.region [Yo (.bool false)] [Cs 4]
def c39_24:MCode:=.seq c39_25 .ret
def c39_23:MCode:=.cond (Cp 24) c39_24 .skip
def c39_21:MCode:=.seq c39_22 c39_23
def c39_19:MCode:=.seq c39_20 c39_21
def c39_18:MCode:=.block 1 c39_19
def c39_26:MCode:=.region [Yh .add (Cp 13) (Ck 1),C0] [Cs 13,none]
def c39_17:MCode:=.seq c39_18 c39_26
def c39_15:MCode:=.seq c39_16 c39_17
def c39_13:MCode:=.seq c39_14 c39_15
def c39_12:MCode:=.loop c39_13
def c39_11:MCode:=.block 0 c39_12
def c39_9:MCode:=.seq c39_10 c39_11
def c39_28:MCode:=.region [Yo (.bool true)] [Cs 4]
def c39_27:MCode:=.seq c39_28 .ret
def c39_8:MCode:=.seq c39_9 c39_27
def c39_2:MCode:=.seq c39_3 c39_8
def c39_0:MCode:=.seq c39_1 c39_2
theorem fi39:funInfo Tryz.prog 39 = some { code:=c39_0,ntmps:=26,nargs:=2,ps:=[24,17,16,18,5,21,20,22,23,19,14,12,13,10,1,0,4],res:=[.tmp 4] }:=by kernel_rfl
end Go.Proofs
end
section
open Go Go.AM
namespace Go.Proofs
def c67_1:MCode:=.region [Cr (.box (Cp 0)),Cr (.alloc (some [.nilSlice,(.int .i64 0)])),Yp 0] [Cs 3,Cs 2,Cs 1]
def c67_4:MCode:=.region [Yr 2 (Cp 1),Cr (.buildSlice (some (2,32)) (some [.nilSlice,(.int .i64 0)]) 1 [(0,(Yq 0))]),Ym 108 [(Yq 0)],C0] [Cs 4,none,none,none]
def c67_6:MCode:=.region [Cm 4,Yh .neq (Yq 0) (Ck 0)] [Cs 12,none]
def c67_9:MCode:=.region [Cr (.build (some []) (some [.nilSlice,(.int .i64 0)])),Cm 4,Yk 2 (Cp 2) (Yq 1),Yn 1] [Cs 3,none,none,none]
def c67_8:MCode:=.seq c67_9 .ret
def c67_7:MCode:=.cond (Cp 12) c67_8 .skip
def c67_5:MCode:=.seq c67_6 c67_7
def c67_3:MCode:=.seq c67_4 c67_5
def c67_11:MCode:=.region [Yd 0 1,Ya 0,Yd 1 1,Ya 0,Cr (.buildSlice (some (1,8)) (some [(.int .i64 0)]) 1 [(0,(Yq 0))]),Ym 109 [(Yq 3),(Yq 0)],C0] [Cs 5,none,none,none,none,none,none]
def c67_13:MCode:=.region [Yd 0 1,Ya 0,Cm 5,Ym 110 [(Yq 1),(Yq 0)],C0,Yg 0 0,Yg 1 1,Yn 1,Yn 1] [Cs 7,Cs 6,none,none,none,none,none,none,none]
def c67_15:MCode:=.region [Yd 0 1,Ya 0,Cm 5,Cm 6,Cm 7,Ym 111 [(Yq 3),(Yq 2),(Yq 1),(Yq 0)],Yk 2 (Cp 2) (Yq 0),Yp 0] [Cs 3,none,none,none,none,none,none,none]
def c67_14:MCode:=.seq c67_15 .ret
def c67_12:MCode:=.seq c67_13 c67_14
def c67_10:MCode:=.seq c67_11 c67_12
def c67_2:MCode:=.seq c67_3 c67_10
def c67_0:MCode:=.seq c67_1 c67_2
theorem fi67:funInfo Tryz.prog 67 = some { code:=c67_0,ntmps:=34,nargs:=1,ps:=[7,6,5,12,4,1,0,2,3],res:=[.cell 2 28,.tmp 3] }:=by kernel_rfl
def c121_1:MCode:=.region [Cr (.box (Cp 0)),Yp 0] [Cs 2,Cs 1]
def c121_3:MCode:=.region [Cr (.func (some 145) [] [(Cp 1)]),Cr (.alloc (some [.nilFn])),Yk 1 (Yq 0) (Yq 1)] [none,Cs 3,none]
def c121_7:MCode:=.region [Yd 0 1,Ya 0,Yl (Yq 0),Yh .lss (Yq 0) (Ck 1),C0,Yi 0 (.fieldAddr (some 0) (Cp 1)),Yi 1 (.load (some none) (Yq 0)),Yi 2 (.len (some (.slc,0)) (Yq 0)),Yi 3 (.bin .gtr .other none (Yq 0) (Ck 60)),Cr (.pick (Yq 4) (.cst (.bool true)) (Yq 0)),C0,Yi 0 (.fieldAddr (some 0) (Cp 1)),Yi 1 (.load (some none) (Yq 0)),Yi 2 (.call (.cst (.fn 146 [] [])) [(Yq 0),(.cst (.fn 147 [] []))]),Yi 3 (.un .not (Yq 0)),Cr (.pick (Yq 4) (.cst (.bool true)) (Yq 0)),C0] [Cs 5,none,none,none,none,none,none,none,none,none,none,none,none,none,none,none,none]
def c121_10:MCode:=.region [Yp 2] [Cs 2]
def c121_9:MCode:=.seq c121_10 .ret
def c121_12:MCode:=.region [Yd 0 1,Ya 0,Cr (.call (.cst (.fn 146 [] [])) [(Yq 0),(.cst (.fn 148 [] []))]),Cr (.un .not (Yq 0)),C0] [Cs 22,none,none,none,none]
def c121_15:MCode:=.region [Yp 4] [Cs 2]
def c121_14:MCode:=.seq c121_15 .ret
def c121_17:MCode:=.region [Yb 3,Yd 1 1,Ya 0,Cr (.call (Yq 2) [(Yq 0)]),Cr (.un .not (Yq 0)),C0,Yi 0 (.fieldAddr (some 0) (Cp 1)),Yi 1 (.load (some none) (Yq 0)),Yi 2 (.func (some 150) [] [(Cp 3)]),Yi 3 (.call (.cst (.fn 146 [] [])) [(Yq 1),(Yq 0)]),Yi 4 (.un .not (Yq 0)),Cr (.pick (Yq 5) (.cst (.bool true)) (Yq 0)),C0] [Cs 27,none,none,none,none,none,none,none,none,none,none,none,none]
def c121_20:MCode:=.region [Yp 1] [Cs 2]
def c121_19:MCode:=.seq c121_20 .ret
def c121_18:MCode:=.cond (Cp 27) c121_19 .skip
def c121_16:MCode:=.seq c121_17 c121_18
def c121_13:MCode:=.cond (Cp 22) c121_14 c121_16
def c121_11:MCode:=.seq c121_12 c121_13
def c121_8:MCode:=.cond (Cp 5) c121_9 c121_11
def c121_6:MCode:=.seq c121_7 c121_8
def c121_5:MCode:=.block 0 c121_6
def c121_22:MCode:=.region [Yp 0] [Cs 2]
def c121_21:MCode:=.seq c121_22 .ret
def c121_4:MCode:=.seq c121_5 c121_21
def c121_2:MCode:=.seq c121_3 c121_4
def c121_0:MCode:=.seq c121_1 c121_2
theorem fi121:funInfo Tryz.prog 121 = some { code:=c121_0,ntmps:=40,nargs:=1,ps:=[27,3,22,5,1,0,2],res:=[.tmp 2] }:=by kernel_rfl
def c108_1:MCode:=.region [Yp 0] [Cs 2]
def c108_3:MCode:=.region [Cm 0,Cr (.call (.cst (.fn 137 [] [])) [(Yq 0),(.cst (.fn 138 [] []))]),C0,Yg 0 0,Yg 1 1,Cr (.alloc (some [.nilSlice,(.int .i64 0)])),Yk 2 (Yq 0) (Yq 2),Yn 2] [Cs 4,none,Cs 3,none,none,none,none,none]
def c108_6:MCode:=.region [Cm 4,Cr (.un .not (Yq 0))] [Cs 11,none]
def c108_9:MCode:=.region [Yp 0] [Cs 2]
def c108_8:MCode:=.seq c108_9 .ret
def c108_7:MCode:=.cond (Cp 11) c108_8 .skip
def c108_5:MCode:=.seq c108_6 c108_7
def Zzi:MCode:=.region [Yr 2 (Cp 3),Ym 121 [(Yq 0)],C0] [Cs 2,none,none]
def Zzh:MCode:=.seq Zzi .ret
def c108_4:MCode:=.seq c108_5 Zzh
def c108_2:MCode:=.seq c108_3 c108_4
def c108_0:MCode:=.seq c108_1 c108_2
theorem fi108:funInfo Tryz.prog 108 = some { code:=c108_0,ntmps:=14,nargs:=1,ps:=[3,11,4,0,2],res:=[.tmp 2] }:=by kernel_rfl
def c109_1:MCode:=.region [Yo .nilSlice] [Cs 4]
def c109_3:MCode:=.region [Cm 0,Yl (Yq 0),Cr (.makeSlice (some (1,1)) (some [(.bool false)]) (Yq 0) (Yq 0)),C0] [Cs 5,none,none,none]
def c109_5:MCode:=.region [Yo .nilSlice] [Cs 6]
def c109_8:MCode:=.region [Cm 1,Yl (Yq 0),Yp 0] [Cs 17,Cs 16,Cs 15]
def Zzl:MCode:=.region [Yh .lss (Cp 17) (Cp 16)] [Cs 18]
def Zzn:MCode:=.cond (Cp 18) .skip (.exit 0)
def Zzr:MCode:=.region [Ye 1 8 (Cp 15) (Cp 17),Ya 0,C0] [Cs 8,none,none]
def Zzt:MCode:=.region [Cm 6,Yl (Yq 0),C0] [Cs 9,none,none]
def Zzw:MCode:=.region [Cm 5,Cm 8,Ye 1 1 (Yq 1) (Yq 0),Ya 0,Cr (.un .not (Yq 0))] [Cs 27,none,none,none,none]
def Zzz:MCode:=.region [Cm 5,Cm 8,Ye 1 1 (Yq 1) (Yq 0),Cr (.store (some 1) (Yq 0) (.cst (.bool true)))] [none,none,none,none]
def c109_27:MCode:=.region [Cm 6,Cm 8,Cr (.buildSlice (some (1,8)) (some [(.int .i64 0)]) 1 [(0,(Yq 0))]),Cr (.append (some (1,8)) (Yq 2) (Yq 0)),C0] [Cs 6,none,none,none,none]
def Zzy:MCode:=.seq Zzz c109_27
def Zzx:MCode:=.cond (Cp 27) Zzy .skip
def Zzv:MCode:=.seq Zzw Zzx
def c109_32:MCode:=.region [Cm 9,Cm 6,Yl (Yq 0),Yh .lss (Yq 2) (Yq 0)] [Cs 38,none,none,none]
def c109_33:MCode:=.cond (Cp 38) .skip (.exit 2)
def c109_31:MCode:=.seq c109_32 c109_33
def c109_37:MCode:=.region [Cm 0,Cm 6,Cm 9,Ye 1 8 (Yq 1) (Yq 0),Ya 0,Ye 2 40 (Yq 4) (Yq 0),Yc 1 0,Ya 0,Yl (Yq 0),Yp 0] [Cs 50,Cs 49,Cs 48,none,none,none,none,none,none,none]
def c109_41:MCode:=.region [Yh .lss (Cp 50) (Cp 49)] [Cs 51]
def c109_43:MCode:=.cond (Cp 51) .skip (.exit 4)
def c109_47:MCode:=.region [Ye 1 8 (Cp 48) (Cp 50),Ya 0,C0] [Cs 11,none,none]
def c109_49:MCode:=.region [Cm 5,Cm 11,Ye 1 1 (Yq 1) (Yq 0),Ya 0,Cr (.un .not (Yq 0))] [Cs 58,none,none,none,none]
def c109_52:MCode:=.region [Cm 5,Cm 11,Ye 1 1 (Yq 1) (Yq 0),Cr (.store (some 1) (Yq 0) (.cst (.bool true)))] [none,none,none,none]
def c109_53:MCode:=.region [Cm 6,Cm 11,Cr (.buildSlice (some (1,8)) (some [(.int .i64 0)]) 1 [(0,(Yq 0))]),Cr (.append (some (1,8)) (Yq 2) (Yq 0)),C0] [Cs 6,none,none,none,none]
def c109_51:MCode:=.seq c109_52 c109_53
def c109_50:MCode:=.cond (Cp 58) c109_51 .skip
def c109_48:MCode:=.seq c109_49 c109_50
def c109_46:MCode:=.seq c109_47 c109_48
def c109_45:MCode:=.block 5 c109_46
def c109_54:MCode:=.region [Yh .add (Cp 50) (Ck 1),C0] [Cs 50,none]
def c109_44:MCode:=.seq c109_45 c109_54
def c109_42:MCode:=.seq c109_43 c109_44
def c109_40:MCode:=.seq c109_41 c109_42
def c109_39:MCode:=.loop c109_40
def c109_38:MCode:=.block 4 c109_39
def Zqc:MCode:=.seq c109_37 c109_38
def c109_35:MCode:=.block 3 Zqc
def c109_55:MCode:=.region [Cm 9,Yh .add (Yq 0) (Ck 1),C0] [Cs 9,none,none]
def c109_34:MCode:=.seq c109_35 c109_55
def c109_30:MCode:=.seq c109_31 c109_34
def c109_29:MCode:=.loop c109_30
def Zqb:MCode:=.block 2 c109_29
def Zzu:MCode:=.seq Zzv Zqb
def Zzs:MCode:=.seq Zzt Zzu
def Zzq:MCode:=.seq Zzr Zzs
def Zzp:MCode:=.block 1 Zzq
def c109_56:MCode:=.region [Yh .add (Cp 17) (Ck 1),C0] [Cs 17,none]
def Zzo:MCode:=.seq Zzp c109_56
def Zzm:MCode:=.seq Zzn Zzo
def Zzk:MCode:=.seq Zzl Zzm
def Zzj:MCode:=.loop Zzk
def c109_9:MCode:=.block 0 Zzj
def c109_7:MCode:=.seq c109_8 c109_9
def c109_58:MCode:=.region [Cm 6,C0] [Cs 4,none]
def c109_57:MCode:=.seq c109_58 .ret
def c109_6:MCode:=.seq c109_7 c109_57
def c109_4:MCode:=.seq c109_5 c109_6
def c109_2:MCode:=.seq c109_3 c109_4
def c109_0:MCode:=.seq c109_1 c109_2
theorem fi109:funInfo Tryz.prog 109 = some { code:=c109_0,ntmps:=69,nargs:=2,ps:=[58,11,48,51,49,50,38,9,27,8,5,6,15,18,16,17,1,0,4],res:=[.tmp 4] }:=by kernel_rfl
def c110_1:MCode:=.region [Yo .nilSlice,Yp 0] [Cs 5,Cs 4]
def c110_3:MCode:=.region [Cm 0,Yl (Yq 0),Cr (.makeSlice (some (1,8)) (some [(.int .i64 0)]) (Yq 0) (Yq 0)),C0] [Cs 6,none,none,none]
def c110_5:MCode:=.region [Yp 1] [Cs 7]
def c110_10:MCode:=.region [Cm 0,Yl (Yq 0),Cr (.makeSlice (some (1,8)) (some [(.int .i64 0)]) (Yq 0) (Yq 0)),C0] [Cs 8,none,none,none]
def c110_13:MCode:=.region [Cm 8,Yl (Yq 0),Yp 0] [Cs 26,Cs 25,none]
def c110_17:MCode:=.region [Yh .lss (Cp 26) (Cp 25)] [Cs 27]
def c110_19:MCode:=.cond (Cp 27) .skip (.exit 2)
def c110_23:MCode:=.region [Cm 26,C0] [Cs 9,none]
def c110_24:MCode:=.region [Cm 8,Cm 9,Ye 1 8 (Yq 1) (Yq 0),Cr (.store (some 1) (Yq 0) (.cst (.int .i64 (-1))))] [none,none,none,none]
def c110_22:MCode:=.seq c110_23 c110_24
def c110_21:MCode:=.block 3 c110_22
def c110_25:MCode:=.region [Yh .add (Cp 26) (Ck 1),C0] [Cs 26,none]
def c110_20:MCode:=.seq c110_21 c110_25
def c110_18:MCode:=.seq c110_19 c110_20
def c110_16:MCode:=.seq c110_17 c110_18
def c110_15:MCode:=.loop c110_16
def c110_14:MCode:=.block 2 c110_15
def Zqd:MCode:=.seq c110_13 c110_14
def c110_27:MCode:=.region [Cr (.makeMap true),C0] [Cs 10,none]
def c110_30:MCode:=.region [Cm 1,Yl (Yq 0),Yp 0] [Cs 36,Cs 35,Cs 34]
def c110_34:MCode:=.region [Yh .lss (Cp 36) (Cp 35)] [Cs 37]
def c110_36:MCode:=.cond (Cp 37) .skip (.exit 4)
def c110_40:MCode:=.region [Ye 1 8 (Cp 34) (Cp 36),Ya 0,C0] [Cs 12,none,none]
def c110_42:MCode:=.region [Cm 0,Cm 12,Ye 2 40 (Yq 1) (Yq 0),Yc 0 0,Ya 0,Cm 0,Cm 12,Ye 2 40 (Yq 1) (Yq 0),Yc 1 0,Ya 0,Yl (Yq 0),Cr (.build (some [(0,(1,(Yq 6))),(1,(1,(Yq 0)))]) (some [(.str []),(.int .i64 0),(.int .i64 0),(.int .i64 0),(.int .i64 0),(.int .i64 0)])),.fresh,Cr (.alloc (some [(.str []),(.int .i64 0),(.int .i64 0),(.int .i64 0),(.int .i64 0),(.int .i64 0)])),Yk 6 (Yq 0) (Yq 1)] [none,Cs 13,Cs 51,Cs 50,Cs 49,Cs 48,Cs 47,Cs 46,Cs 45,Cs 44,Cs 43,Cs 42,Cs 41,Cs 40]
def c110_45:MCode:=.region [Cm 0,Cm 12,Ye 2 40 (Yq 1) (Yq 0),Yc 1 0,Ya 0,Yl (Yq 0),Yp 0] [Cs 58,Cs 57,Cs 56,none,none,none,none]
def c110_49:MCode:=.region [Yh .lss (Cp 58) (Cp 57)] [Cs 59]
def c110_51:MCode:=.cond (Cp 59) .skip (.exit 6)
def c110_55:MCode:=.region [Cm 58,Ye 1 8 (Cp 56) (Cp 58),Ya 0,Yn 2,Yn 1] [Cs 15,Cs 14,none,none,none]
def c110_56:MCode:=.region [Cm 14,Cm 6,Cm 15,Ye 1 8 (Yq 1) (Yq 0),Ya 0,Yd 2 13,Cr (.indexAddr .arr none (some (4,1)) (Yq 0) (Yq 5)),Yk 1 (Yq 0) (Yq 2)] [none,none,none,none,none,none,none,none]
def c110_54:MCode:=.seq c110_55 c110_56
def c110_53:MCode:=.block 7 c110_54
def c110_57:MCode:=.region [Yh .add (Cp 58) (Ck 1),C0] [Cs 58,none]
def c110_52:MCode:=.seq c110_53 c110_57
def c110_50:MCode:=.seq c110_51 c110_52
def c110_48:MCode:=.seq c110_49 c110_50
def c110_47:MCode:=.loop c110_48
def c110_46:MCode:=.block 6 c110_47
def Zqg:MCode:=.seq c110_45 c110_46
def c110_59:MCode:=.region [Cm 10,Yr 6 (Cp 13),Cr (.lookup (some (true,([.str,.int,.int,.int,.int,.int],(.int .i64 0)))) true (Yq 1) (Yq 0)),C0,Yg 0 0,Yg 1 1,Yn 1,Yn 1] [Cs 17,Cs 16,none,none,none,none,none,none]
def c110_62:MCode:=.region [Cm 17,Cr (.un .not (Yq 0))] [Cs 78,none]
def c110_65:MCode:=.region [Cm 10,Cr (.len (some (.map,0)) (Yq 0)),C0] [Cs 16,none,none]
def c110_66:MCode:=.region [Cm 10,Yr 6 (Cp 13),Cm 16,Cr (.mapSet (some (true,([.str,.int,.int,.int,.int,.int],(.int .i64 0)))) (Yq 2) (Yq 1) (Yq 0))] [none,none,none,none]
def c110_64:MCode:=.seq c110_65 c110_66
def c110_63:MCode:=.cond (Cp 78) c110_64 .skip
def c110_61:MCode:=.seq c110_62 c110_63
def Zqh:MCode:=.region [Cm 8,Cm 12,Cm 16,Ye 1 8 (Yq 2) (Yq 1),Yk 1 (Yq 0) (Yq 1)] [none,none,none,none,none]
def c110_60:MCode:=.seq c110_61 Zqh
def c110_58:MCode:=.seq c110_59 c110_60
def c110_43:MCode:=.seq Zqg c110_58
def Zqf:MCode:=.seq c110_42 c110_43
def c110_39:MCode:=.seq c110_40 Zqf
def c110_38:MCode:=.block 5 c110_39
def c110_68:MCode:=.region [Yh .add (Cp 36) (Ck 1),C0] [Cs 36,none]
def c110_37:MCode:=.seq c110_38 c110_68
def c110_35:MCode:=.seq c110_36 c110_37
def c110_33:MCode:=.seq c110_34 c110_35
def c110_32:MCode:=.loop c110_33
def c110_31:MCode:=.block 4 c110_32
def Zqe:MCode:=.seq c110_30 c110_31
def c110_71:MCode:=.region [Cm 10,Cr (.len (some (.map,0)) (Yq 0)),Cm 7,Yh .eql (Yq 1) (Yq 0)] [Cs 92,none,none,none]
def c110_74:MCode:=.region [Cm 8,Cm 7,Yn 1,Yn 1] [Cs 5,Cs 4,none,none]
def c110_73:MCode:=.seq c110_74 .ret
def c110_72:MCode:=.cond (Cp 92) c110_73 .skip
def c110_70:MCode:=.seq c110_71 c110_72
def c110_75:MCode:=.region [Cm 8,Cm 10,Cr (.len (some (.map,0)) (Yq 0)),Yn 2,Yn 1] [Cs 7,Cs 6,none,none,none]
def c110_69:MCode:=.seq c110_70 c110_75
def c110_28:MCode:=.seq Zqe c110_69
def c110_26:MCode:=.seq c110_27 c110_28
def c110_11:MCode:=.seq Zqd c110_26
def c110_9:MCode:=.seq c110_10 c110_11
def c110_8:MCode:=.block 1 c110_9
def c110_7:MCode:=.loop c110_8
def c110_6:MCode:=.block 0 c110_7
def c110_4:MCode:=.seq c110_5 c110_6
def c110_2:MCode:=.seq c110_3 c110_4
def c110_0:MCode:=.seq c110_1 c110_2
theorem fi110:funInfo Tryz.prog 110 = some { code:=c110_0,ntmps:=98,nargs:=2,ps:=[92,7,16,78,17,10,15,6,14,56,59,57,58,41,40,42,43,12,46,45,47,48,49,50,44,51,13,34,37,35,36,1,9,27,25,26,8,0,4,5],res:=[.tmp 4,.tmp 5] }:=by kernel_rfl
def c111_1:MCode:=.region [Cr (.alloc (some [.nilSlice,(.int .i64 0)]))] [Cs 8]
def c111_3:MCode:=.region [Cm 3,Cr (.makeSlice (some (2,40)) (some [(.str []),.nilSlice]) (Yq 0) (Yq 0)),Cr (.build (some [(0,(1,(Yq 0)))]) (some [.nilSlice,(.int .i64 0)])),Cr (.alloc (some [.nilSlice,(.int .i64 0)])),Yk 2 (Yq 0) (Yq 1)] [none,Cs 9,none,none,none]
def c111_6:MCode:=.region [Cm 1,Yl (Yq 0),Yp 0] [Cs 20,Cs 19,Cs 18]
def c111_10:MCode:=.region [Yh .lss (Cp 20) (Cp 19)] [Cs 21]
def c111_12:MCode:=.cond (Cp 21) .skip (.exit 0)
def c111_16:MCode:=.region [Ye 1 8 (Cp 18) (Cp 20),Ya 0,C0] [Cs 11,none,none]
def c111_18:MCode:=.region [Yd 0 9,Ya 0,Cm 2,Cm 11,Ye 1 8 (Yq 1) (Yq 0),Ya 0,Ye 2 40 (Yq 4) (Yq 0),C0] [Cs 12,Cs 30,Cs 29,Cs 28,Cs 27,Cs 26,Cs 25,Cs 24]
def c111_21:MCode:=.region [Cm 12,Yf 0,Yc 0 0,Ya 0,Cr (.bin .neq .other none (Yq 0) (.cst (.str [])))] [Cs 35,none,none,none,none]
def c111_22:MCode:=.cond (Cp 35) (.exit 1) .skip
def c111_20:MCode:=.seq c111_21 c111_22
def c111_24:MCode:=.region [Cm 12,Cm 0,Cm 11,Ye 2 40 (Yq 1) (Yq 0),Yc 0 0,Ya 0,Yf 5,Yc 0 0,Yk 1 (Yq 0) (Yq 2)] [none,none,none,none,none,none,none,none,none]
def c111_26:MCode:=.region [Cm 12,Cm 0,Cm 11,Ye 2 40 (Yq 1) (Yq 0),Yc 1 0,Ya 0,Yl (Yq 0),Cr (.makeSlice (some (1,8)) (some [(.int .i64 0)]) (Yq 0) (Yq 0)),Yf 7,Yc 1 0,Yk 1 (Yq 0) (Yq 2)] [none,none,none,none,none,none,none,none,none,none,none]
def c111_28:MCode:=.region [Cm 12,Yf 0,Yc 1 0,Ya 0,Cm 0,Cm 11,Ye 2 40 (Yq 1) (Yq 0),Yc 1 0,Ya 0,Cr (.copy (some 1) (Yq 5) (Yq 0))] [none,Cs 62,Cs 61,Cs 60,Cs 59,Cs 58,Cs 57,Cs 56,Cs 55,Cs 54]
def c111_30:MCode:=.region [Cm 12,Yf 0,Yc 1 0,Ya 0,Yl (Yq 0),Yp 0] [Cs 69,Cs 68,Cs 67,none,none,none]
def c111_34:MCode:=.region [Yh .lss (Cp 69) (Cp 68)] [Cs 70]
def c111_36:MCode:=.cond (Cp 70) .skip (.exit 2)
def c111_40:MCode:=.region [Cm 69,Ye 1 8 (Cp 67) (Cp 69),Ya 0,Yn 2,Yn 1] [Cs 14,Cs 13,none,none,none]
def c111_41:MCode:=.region [Cm 12,Yf 0,Yc 1 0,Ya 0,Cm 13,Cm 2,Cm 14,Ye 1 8 (Yq 1) (Yq 0),Ya 0,Ye 1 8 (Yq 5) (Yq 4),Yk 1 (Yq 0) (Yq 1)] [none,Cs 83,Cs 82,Cs 81,Cs 80,Cs 79,Cs 78,Cs 77,Cs 76,Cs 75,Cs 74]
def c111_39:MCode:=.seq c111_40 c111_41
def c111_38:MCode:=.block 3 c111_39
def c111_42:MCode:=.region [Yh .add (Cp 69) (Ck 1),C0] [Cs 69,none]
def c111_37:MCode:=.seq c111_38 c111_42
def c111_35:MCode:=.seq c111_36 c111_37
def c111_33:MCode:=.seq c111_34 c111_35
def c111_32:MCode:=.loop c111_33
def c111_31:MCode:=.block 2 c111_32
def c111_29:MCode:=.seq c111_30 c111_31
def c111_27:MCode:=.seq c111_28 c111_29
def c111_25:MCode:=.seq c111_26 c111_27
def c111_23:MCode:=.seq c111_24 c111_25
def c111_19:MCode:=.seq c111_20 c111_23
def c111_17:MCode:=.seq c111_18 c111_19
def c111_15:MCode:=.seq c111_16 c111_17
def c111_14:MCode:=.block 1 c111_15
def c111_43:MCode:=.region [Yh .add (Cp 20) (Ck 1),C0] [Cs 20,none]
def c111_13:MCode:=.seq c111_14 c111_43
def c111_11:MCode:=.seq c111_12 c111_13
def c111_9:MCode:=.seq c111_10 c111_11
def c111_8:MCode:=.loop c111_9
def c111_7:MCode:=.block 0 c111_8
def c111_5:MCode:=.seq c111_6 c111_7
def c111_45:MCode:=.region [Yr 2 (Cp 9),Yk 2 (Cp 8) (Yq 0)] [none,none]
def c111_44:MCode:=.seq c111_45 .ret
def c111_4:MCode:=.seq c111_5 c111_44
def c111_2:MCode:=.seq c111_3 c111_4
def c111_0:MCode:=.seq c111_1 c111_2
theorem fi111:funInfo Tryz.prog 111 = some { code:=c111_0,ntmps:=87,nargs:=4,ps:=[74,75,76,13,14,80,79,81,78,77,82,83,67,70,68,69,54,55,56,59,58,60,61,62,57,0,35,12,9,24,2,11,27,26,28,29,25,30,18,21,19,20,1,3,8],res:=[.cell 8 28] }:=by kernel_rfl
def c145_1:MCode:=.region [Yo (.bool false)] [Cs 3]
def c145_3:MCode:=.region [Cm 0,Yh .geq (Yq 0) (Ck 0),C0,Yj 0 (.move (Cp 0)),Yj 1 (.fieldAddr (some 0) (Cp 1)),Yj 2 (.load (some none) (Yq 0)),Yj 3 (.len (some (.slc,0)) (Yq 0)),Yj 4 (.bin .lss .other none (Yq 3) (Yq 0)),Cr (.pick (Yq 5) (Yq 0) (.cst (.bool false))),C0] [Cs 3,none,none,none,none,none,none,none,none,none]
def c145_2:MCode:=.seq c145_3 .ret
def c145_0:MCode:=.seq c145_1 c145_2
theorem fi145:funInfo Tryz.prog 145 = some { code:=c145_0,ntmps:=13,nargs:=2,ps:=[1,0,3],res:=[.tmp 3] }:=by kernel_rfl
def c146_1:MCode:=.region [Cr (.box (Cp 1)),Yo (.bool false)] [Cs 4,Cs 3]
def c146_3:MCode:=.region [Cm 0,Cr (.func (some 162) [] [(Cp 3)]),Ym 98 [(Yq 1),(Yq 0)],Cr (.un .not (Yq 0)),C0] [Cs 4,none,none,none,none]
def c146_2:MCode:=.seq c146_3 .ret
def c146_0:MCode:=.seq c146_1 c146_2
theorem fi146:funInfo Tryz.prog 146 = some { code:=c146_0,ntmps:=9,nargs:=2,ps:=[3,0,1,4],res:=[.tmp 4] }:=by kernel_rfl
def c147_1:MCode:=.region [Cr (.box (Cp 0)),Yo (.bool false)] [Cs 2,Cs 1]
def c147_3:MCode:=.region [Yd 1 1,Ya 0,Yl (Yq 0),Yh .leq (Yq 0) (Ck 4),C0] [Cs 2,none,none,none,none]
def c147_2:MCode:=.seq c147_3 .ret
def c147_0:MCode:=.seq c147_1 c147_2
theorem fi147:funInfo Tryz.prog 147 = some { code:=c147_0,ntmps:=7,nargs:=1,ps:=[1,0,2],res:=[.tmp 2] }:=by kernel_rfl
def c148_1:MCode:=.region [Cr (.box (Cp 0)),Yo (.bool false)] [Cs 2,Cs 1]
def c148_3:MCode:=.region [Yd 0 1,Ya 0,Ym 149 [(Yq 0)],C0] [Cs 2,none,none,none]
def c148_2:MCode:=.seq c148_3 .ret
def c148_0:MCode:=.seq c148_1 c148_2
theorem fi148:funInfo Tryz.prog 148 = some { code:=c148_0,ntmps:=6,nargs:=1,ps:=[1,0,2],res:=[.tmp 2] }:=by kernel_rfl
def c150_1:MCode:=.region [Cr (.box (Cp 0)),Yo (.bool false)] [Cs 3,Cs 2]
def c150_3:MCode:=.region [Yd 1 2,Ya 0,Yb 1,Ym 151 [(Yq 1),(Yq 0)],C0] [Cs 3,none,none,none,none]
def c150_2:MCode:=.seq c150_3 .ret
def c150_0:MCode:=.seq c150_1 c150_2
theorem fi150:funInfo Tryz.prog 150 = some { code:=c150_0,ntmps:=8,nargs:=2,ps:=[1,2,0,3],res:=[.tmp 3] }:=by kernel_rfl
def c151_1:MCode:=.region [Cr (.box (Cp 1)),Yo (.bool false)] [Cs 4,Cs 3]
def c151_3:MCode:=.region [Cm 0,Cr (.func (some 163) [] [(Cp 3)]),Ym 103 [(Yq 1),(Yq 0)],Cr (.un .not (Yq 0)),C0] [Cs 4,none,none,none,none]
def c151_2:MCode:=.seq c151_3 .ret
def c151_0:MCode:=.seq c151_1 c151_2
theorem fi151:funInfo Tryz.prog 151 = some { code:=c151_0,ntmps:=9,nargs:=2,ps:=[3,0,1,4],res:=[.tmp 4] }:=by kernel_rfl
def c137_1:MCode:=.region [Cr (.alloc (some [.nilSlice,(.int .i64 0)])),Yo (.bool false)] [Cs 5,Cs 4]
def c137_3:MCode:=.region [Cr (.alloc (some [.nilSlice,(.int .i64 0)]))] [Cs 6]
def c137_5:MCode:=.region [Cm 0,Cm 1,Ym 158 [(Yq 1),(Yq 0)],C0] [Cs 7,none,none,none]
def c137_8:MCode:=.region [Cm 7,Yh .lss (Yq 0) (Ck 0)] [Cs 12,none]
def c137_11:MCode:=.region [Yr 2 (Cp 6),Yk 2 (Cp 4) (Yq 0),Yo (.bool false)] [Cs 5,none,none]
def c137_10:MCode:=.seq c137_11 .ret
def c137_9:MCode:=.cond (Cp 12) c137_10 .skip
def c137_7:MCode:=.seq c137_8 c137_9
def c137_13:MCode:=.region [Cm 0,Cm 7,Ye 2 32 (Yq 1) (Yq 0),Yr 2 (Yq 0),Yk 2 (Cp 4) (Yq 0),Yo (.bool true)] [Cs 5,none,none,none,none,none]
def c137_12:MCode:=.seq c137_13 .ret
def c137_6:MCode:=.seq c137_7 c137_12
def c137_4:MCode:=.seq c137_5 c137_6
def c137_2:MCode:=.seq c137_3 c137_4
def c137_0:MCode:=.seq c137_1 c137_2
theorem fi137:funInfo Tryz.prog 137 = some { code:=c137_0,ntmps:=18,nargs:=2,ps:=[6,12,7,1,0,4,5],res:=[.cell 4 28,.tmp 5] }:=by kernel_rfl
def c138_1:MCode:=.region [Cr (.box (Cp 0)),Yo (.bool false)] [Cs 2,Cs 1]
def c138_3:MCode:=.region [Yr 2 (Cp 1),Ym 121 [(Yq 0)],Yh .neq (Yq 0) (Ck 0),C0] [Cs 2,none,none,none]
def c138_2:MCode:=.seq c138_3 .ret
def c138_0:MCode:=.seq c138_1 c138_2
theorem fi138:funInfo Tryz.prog 138 = some { code:=c138_0,ntmps:=6,nargs:=1,ps:=[1,0,2],res:=[.tmp 2] }:=by kernel_rfl
def c162_1:MCode:=.region [Cr (.box (Cp 0)),Yo (.bool false)] [Cs 3,Cs 2]
def c162_3:MCode:=.region [Yb 1,Yr 2 (Cp 2),Cr (.call (Yq 1) [(Yq 0)]),Cr (.un .not (Yq 0)),C0] [Cs 3,none,none,none,none]
def c162_2:MCode:=.seq c162_3 .ret
def c162_0:MCode:=.seq c162_1 c162_2
theorem fi162:funInfo Tryz.prog 162 = some { code:=c162_0,ntmps:=8,nargs:=2,ps:=[2,1,0,3],res:=[.tmp 3] }:=by kernel_rfl
def c163_1:MCode:=.region [Yo (.bool false)] [Cs 3]
def c163_3:MCode:=.region [Yb 1,Cm 0,Cr (.call (Yq 1) [(Yq 0)]),Cr (.un .not (Yq 0)),C0] [Cs 3,none,none,none,none]
def c163_2:MCode:=.seq c163_3 .ret
def c163_0:MCode:=.seq c163_1 c163_2
theorem fi163:funInfo Tryz.prog 163 = some { code:=c163_0,ntmps:=8,nargs:=2,ps:=[0,1,3],res:=[.tmp 3] }:=by kernel_rfl
def c158_1:MCode:=.region [Yp 0] [Cs 4]
def c158_4:MCode:=.region [Cm 0,Yl (Yq 0),Yp 0] [Cs 8,Cs 7,none]
def c158_8:MCode:=.region [Yh .lss (Cp 8) (Cp 7)] [Cs 9]
def c158_10:MCode:=.cond (Cp 9) .skip (.exit 0)
def c158_14:MCode:=.region [Cm 8,C0] [Cs 5,none]
def c158_16:MCode:=.region [Cm 1,Cm 0,Cm 5,Ye 2 32 (Yq 1) (Yq 0),Yr 2 (Yq 0),Cr (.call (Yq 4) [(Yq 0)])] [Cs 16,none,none,none,none,none]
def c158_19:MCode:=.region [Cm 5,C0] [Cs 4,none]
def c158_18:MCode:=.seq c158_19 .ret
def c158_17:MCode:=.cond (Cp 16) c158_18 .skip
def c158_15:MCode:=.seq c158_16 c158_17
def c158_13:MCode:=.seq c158_14 c158_15
def c158_12:MCode:=.block 1 c158_13
def c158_20:MCode:=.region [Yh .add (Cp 8) (Ck 1),C0] [Cs 8,none]
def c158_11:MCode:=.seq c158_12 c158_20
def c158_9:MCode:=.seq c158_10 c158_11
def c158_7:MCode:=.seq c158_8 c158_9
def c158_6:MCode:=.loop c158_7
def c158_5:MCode:=.block 0 c158_6
def c158_3:MCode:=.seq c158_4 c158_5
def c158_22:MCode:=.region [Cr (.move (.cst (.int .i64 (-1))))] [Cs 4]
def c158_21:MCode:=.seq c158_22 .ret
def c158_2:MCode:=.seq c158_3 c158_21
def c158_0:MCode:=.seq c158_1 c158_2
theorem fi158:funInfo Tryz.prog 158 = some { code:=c158_0,ntmps:=19,nargs:=2,ps:=[16,5,1,9,7,8,0,4],res:=[.tmp 4] }:=by kernel_rfl
end Go.Proofs
end
section
open Go Go.AM
namespace Go.Proofs
set_option maxRecDepth 100000
abbrev ND:=List UInt8 × List Int
def Z0h (ns:List ND) (V:List AVal):List AVal:=penc (List.zipWith (fun nd kv => (nd.1,kv)) ns V)
theorem Z6g {ns:List ND} {V:List AVal} (h:V.length = ns.length):(Z0h ns V).length = 2 * ns.length:=by
 unfold Z0h
 rw [Zc8]
 simp [h]
theorem Zjn {ns:List ND} {V:List AVal} (h:V.length = ns.length) (nd:ND) (kv:AVal):Z0h (ns ++ [nd]) (V ++ [kv]) = Z0h ns V ++ [.str nd.1,kv]:=by
 unfold Z0h
 rw [List.zipWith_append (by simp [h])]
 simp [penc]
theorem Z7j {ns:List ND} {V:List AVal} {i:Nat} {nd:ND} {kv:AVal} (h1:ns[i]? = some nd) (h2:V[i]? = some kv):(Z0h ns V)[i * 2]? = some (.str nd.1)∧(Z0h ns V)[i * 2 + 1]? = some kv:=by
 unfold Z0h
 exact Zi9 _ i (nd.1,kv) (by simp [List.getElem?_zipWith,h1,h2])
theorem Z0s.snoc:∀ {K:List (List Int)} {V:List AVal} {m mk:Lets} {ks:List Int} {kv:AVal},Z0s K V m→RowR kv ks mk→Z0s (K ++ [ks]) (V ++ [kv]) (m ++ mk)
 | [],[],m,mk,ks,kv,h,hk => by
  have h:m = []:=h
  subst h
  exact ⟨mk,[],by simp,hk,rfl⟩
 | k :: K,v :: V,m,mk,ks,kv,⟨m1,m2,h1,h2,h3⟩,hk => ⟨m1,m2 ++ mk,by rw [← List.append_assoc]; exact h1.append (List.Perm.refl mk),h2,Z0s.snoc h3 hk⟩
 | [],_ :: _,_,_,_,_,h,_ => h.elim
 | _ :: _,[],_,_,_,_,h,_ => h.elim
def Z5k (nv:AVal) (ns:List ND) (m:Lets):Prop:=(ns = []∧nv = .nilSlice∧m = []) ∨
 ∃ q V mr,ns ≠ []∧nv = .slice q 0 ns.length (.opn 2)∧m.Perm ((q,C (Z0h ns V)) :: mr)∧Z0s (ns.map Prod.snd) V mr
theorem Z5k.len {nv:AVal} {ns:List ND} {m:Lets} (h:Z5k nv ns m):Z18 nv = some ns.length:=by
 rcases h with ⟨rfl,rfl,_⟩ | ⟨q,V,mr,_,rfl,_⟩ <;> rfl
theorem Z5k.ntup {nv:AVal} {ns:List ND} {m:Lets} (h:Z5k nv ns m):∀ t,¬ nv = .tup t:=by
 rintro t rfl
 have:=h.len
 cases this
theorem Z5k.cells {nv:AVal} {ns:List ND} {m:Lets} (h:Z5k nv ns m):nv.cells = [nv]:=by
 rcases h with ⟨rfl,rfl,_⟩ | ⟨q,V,mr,_,rfl,_⟩ <;> rfl
theorem Zvi {s0 s:St} {W:Pos→Prop} {r pre mk mn:Lets} {nv kv:AVal} {ns:List ND} {nm:List UInt8} {ks:List Int} {Q:AVal→St→Prop} (h:Ctx s0 W (pre ++ (mk ++ (mn ++ r))) s) (hg:Z5k nv ns mn) (hk:RowR kv ks mk) (hs:ns.length ≤ 1000)
  (q:∀ nv' mn' s',Z5k nv' (ns ++ [(nm,ks)]) mn'→Ctx s0 W (pre ++ (mn' ++ r)) s'→Q nv' s'):appP (2,40) nv [.str nm,kv] 1 s Q:=by
 rcases hg with ⟨rfl,rfl,rfl⟩ | ⟨b,V,mr,hne,rfl,hp,hR⟩
 ·simp only [appP,Z4m]
  rw [if_neg (by decide)]
  refine ⟨by unfold Z0g; omega,?_⟩
  have:=h.alloc (C [.str nm,kv])
  refine q (.slice s.next 0 1 (.opn 2)) ((s.next,C [.str nm,kv]) :: mk) _ (.inr ⟨_,[kv],mk,by simp,rfl,List.Perm.refl _,⟨mk,[],by simp,hk,rfl⟩⟩) (this.perm ?_)
  simp only [List.nil_append,List.cons_append]
  exact List.perm_middle.symm
 ·have hV:V.length = ns.length:=by simpa using hR.len
  have hmem:(b,C (Z0h ns V)) ∈ pre ++ (mk ++ (mn ++ r)):=by
   have:(b,C (Z0h ns V)) ∈ mn:=hp.mem_iff.2 (by simp)
   simp [this]
  have hb:s.own b = some (Z0h ns V):=Z13 (h.own _ hmem)
  have hl:ns.length ≠ 0:=by simpa using hne
  have h1:Ctx s0 W ((b,C (Z0h ns V)) :: (pre ++ (mk ++ (mr ++ r)))) s:=by
   refine h.perm ?_
   have h2:(pre ++ (mk ++ (mn ++ r))).Perm (pre ++ (mk ++ (((b,C (Z0h ns V)) :: mr) ++ r))):=(List.Perm.refl pre).append ((List.Perm.refl mk).append (hp.append (List.Perm.refl r)))
   refine h2.trans ?_
   have h3:pre ++ (mk ++ (((b,C (Z0h ns V)) :: mr) ++ r)) = (pre ++ mk) ++ (b,C (Z0h ns V)) :: (mr ++ r):=by simp
   rw [h3]
   refine List.perm_middle.trans ?_
   simp
  have hlen:=Z6g hV
  have h2:=(h1.put0 .dead).tail.alloc (C (Z0h ns V ++ [.str nm,kv]))
  simp only [appP,Z4m]
  rw [if_neg (by decide)]
  refine ⟨trivial,?_⟩
  rw [hb]
  simp only [Z0y]
  rw [if_neg hl,if_neg (by omega)]
  refine ⟨by omega,by unfold Z0g; omega,?_⟩
  have ht:List.take (ns.length * 2) (List.drop 0 (Z0h ns V)) = Z0h ns V:=by rw [List.drop_zero]; exact List.take_of_length_le (by omega)
  rw [ht]
  have hn:(s.put b .dead).next = s.next:=rfl
  refine q (.slice s.next 0 (ns.length + 1) (.opn 2)) ((s.next,C (Z0h (ns ++ [(nm,ks)]) (V ++ [kv]))) :: (mr ++ mk)) _ (.inr ⟨_,V ++ [kv],mr ++ mk,by simp,by simp,List.Perm.refl _,by rw [List.map_append]; exact hR.snoc hk⟩) ?_
  rw [Zjn hV]
  refine h2.perm ?_
  rw [hn]
  have h3:(mk ++ (mr ++ r)).Perm ((mr ++ mk) ++ r):=by
   rw [← List.append_assoc]
   exact List.perm_append_comm.append (List.Perm.refl r)
  refine (List.Perm.cons _ ((List.Perm.refl pre).append h3)).trans ?_
  simp only [List.cons_append]
  exact List.perm_middle.symm
def Z1v (s:St) (nv:AVal) (ns:List ND):Prop:=(Z18 nv = some 0∧ns = []) ∨
 ∃ b o c cs,nv = .slice b o ns.length c∧s.Old b∧s.cells b = some cs∧o + 2 * ns.length ≤ cs.length∧∀ (i:Nat) (nd:ND),ns[i]? = some nd→cs[o + i * 2]? = some (.str nd.1)∧∃ kv,cs[o + i * 2 + 1]? = some kv∧Z0e s kv nd.2
theorem Z1v.keep {s s':St} {nv:AVal} {ns:List ND} (h:Z1v s nv ns) (k:Keeps s s'):Z1v s' nv ns:=by
 rcases h with h | ⟨b,o,c,cs,h1,h2,h3,h4,h5⟩
 ·exact .inl h
 ·refine .inr ⟨b,o,c,cs,h1,k.old h2,(k.cells h2).trans h3,h4,fun i nd hi => ?_⟩
  obtain ⟨g1,kv,g2,g3⟩:=h5 i nd hi
  exact ⟨g1,kv,g2,g3.keep k⟩
theorem Z1v.len {s:St} {nv:AVal} {ns:List ND} (h:Z1v s nv ns):Z18 nv = some ns.length:=by
 rcases h with ⟨h1,rfl⟩ | ⟨b,o,c,cs,rfl,_⟩
 ·exact h1
 ·rfl
theorem Z1v.ntup {s:St} {nv:AVal} {ns:List ND} (h:Z1v s nv ns):∀ t,¬ nv = .tup t:=by
 rintro t rfl
 have:=h.len
 cases this
theorem Z1v.Zd0 {s:St} {nv:AVal} {ns:List ND} (h:Z1v s nv ns):nv.cells = [nv]:=by
 have:=h.len
 cases nv <;> first | rfl | cases this
theorem Z0e.Zd0 {s:St} {nv:AVal} {ns:List Int} (h:Z0e s nv ns):nv.cells = [nv]:=by
 have:=h.len
 cases nv <;> first | rfl | cases this
theorem Z5k.at {s0 s:St} {W:Pos→Prop} {nv:AVal} {ns:List ND} {m:Lets} (h:Z5k nv ns m) (hc:Ctx s0 W m s):Z1v s nv ns:=by
 rcases h with ⟨rfl,rfl,_⟩ | ⟨q,V,mr,hne,rfl,hp,hR⟩
 ·exact .inl ⟨rfl,rfl⟩
 ·have hc':=hc.perm hp
  have hV:V.length = ns.length:=by simpa using hR.len
  refine .inr ⟨q,0,.opn 2,_,rfl,hc'.oi 0 rfl,hc'.c 0 rfl,by rw [Z6g hV]; omega,fun i nd hi => ?_⟩
  obtain ⟨kv,g1,g2⟩:=hR.each (i:=i) (ks:=nd.2) (by rw [List.getElem?_map,hi]; rfl)
  obtain ⟨e1,e2⟩:=Z7j hi g1
  rw [Nat.zero_add]
  refine ⟨e1,kv,e2,?_⟩
  rcases g2 with ⟨e3,e4⟩ | ⟨q',c',e3,e4,e5⟩
  ·exact .inl ⟨e4,e3⟩
  ·rw [e4]
   exact Z60 hc'.wf (Z13 (hc'.own _ (List.mem_cons_of_mem _ e5))) c'
theorem NodesG.of {s:St} {p:Pos} {ns:List ND} (h:NodesG s p ns) (c:Cap):Z1v s (.slice p 0 ns.length c) ns:=by
 obtain ⟨cs,h1,h2,h3⟩:=h.ex
 exact .inr ⟨p,0,c,cs,rfl,h.old,h1,by omega,fun i nd hi => by
  obtain ⟨e1,kv,e2,e3⟩:=h3 i nd hi
  rw [Nat.zero_add]
  exact ⟨e1,kv,e2,e3⟩⟩
end Go.Proofs
end
