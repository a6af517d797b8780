/- Parts of the proof: HRc, Mov1, Mov2, Cls5, Cls6, Cls7, Mrg4, Wrap, Mov3, Mrg5, Per, Ring1, Ring2, Open3, CodesK, CodesT, CodesH. -/
import Derived.Test.YtoipnedbpjfeiaaDoorChecked
import Derived.Test.YtoipnedbpjfeiaaDoorTie
import Derived.ProofKit
import Derived.Test.YtoipnedbpjfeiaaDoorAt05
set_option linter.all false
set_option linter.unusedSectionVars false
set_option linter.unusedSimpArgs false
set_option linter.unusedVariables false
section
open Go Go.AM
namespace Go.Proofs
set_option maxRecDepth 100000
section
variable {s0 s:St} {W:Pos→Prop} {hb p:Pos} {vs:AVal} {cs:List CV} {V:List AVal} {m mr r:Lets}
theorem Zcl (h:Ctx s0 W ((hb,C [.slice p 0 cs.length (.lim cs.length),vs]) :: (p,C (encs (rcs cs V))) :: (mr ++ r)) s) (hV:V.length = cs.length) (h1:1 ≤ cs.length) (h4:cs.length ≤ 400):HeapAt s hb p vs (rcs cs V):=by
 have hl:=Z2c hV
 refine ⟨h.wf,?_,h.o 1 rfl,h.ne 1 0 rfl rfl (by decide),by omega,by omega⟩
 rw [hl]
 exact h.o 0 rfl
theorem kid_of (h:Ctx s0 W ((hb,C [.slice p 0 cs.length (.lim cs.length),vs]) :: (p,C (encs (rcs cs V))) :: (mr ++ r)) s) (hR:Z12 (cs.map CV.kids) V mr) {i:Nat} {d:CV} (hd:cs[i]? = some d) :
  ∃ kv,V[i]? = some kv∧KidV s kv d.kids:=by
 obtain ⟨kv,g1,g2⟩:=hR.each (i:=i) (ks:=d.kids) (by rw [List.getElem?_map,hd]; rfl)
 refine ⟨kv,g1,?_⟩
 rcases g2 with ⟨e1,e2⟩ | ⟨q,c,e1,e2,e3⟩
 ·exact .inl ⟨e2,e1⟩
 ·exact .inr ⟨q,c,e2,Z0y (h.own (q,C (ints d.kids)) (by simp [e3]))⟩
theorem Z8w (hH:Z2t hb vs cs m) (h:Ctx s0 W (m ++ r) s):∃ p V mr,Ctx s0 W ((hb,C [.slice p 0 cs.length (.lim cs.length),vs]) :: (p,C (encs (rcs cs V))) :: (mr ++ r)) s∧Z12 (cs.map CV.kids) V mr∧V.length = cs.length∧1 ≤ cs.length∧cs.length ≤ 400:=by
 obtain ⟨p,V,mr,hp,hR,h1,h4⟩:=hH
 refine ⟨p,V,mr,h.perm ?_,hR,by simpa using hR.len,h1,h4⟩
 simpa using hp.append (List.Perm.refl r)
theorem Z2z (hR:Z12 (cs.map CV.kids) V mr) (h1:1 ≤ cs.length) (h4:cs.length ≤ 400):Z2t hb vs cs ((hb,C [.slice p 0 cs.length (.lim cs.length),vs]) :: (p,C (encs (rcs cs V))) :: mr):=⟨p,V,mr,List.Perm.refl _,hR,h1,h4⟩
end
def mkF (cs:List CV) (nm:List UInt8) (ks:List Int):Int × Int × List CV :=
 if Z1x nm = false then (0,4,cs) else if 4 < ks.length then (0,2,cs) else if ks.all (Z06 cs) = false then (0,1,cs) else if Z5k cs < 0 then (0,12,cs) else (Z5k cs,0,cs.set (Z5k cs).toNat ⟨true,nm,ks,0⟩)
theorem make_c {s0 s:St} {W:Pos→Prop} {hb:Pos} {vs v:AVal} {cs:List CV} {m r:Lets} {nm:List UInt8} {ks:List Int} {Q:AVal→St→Prop} (hH:Z2t hb vs cs m) (h:Ctx s0 W (m ++ r) s) (hnm:nm.length ≤ 2 ^ 62) (hv:Z0g s v ks) (hks:ks.length ≤ 2 ^ 62)
  (q:∀ m' s',Z2t hb vs (mkF cs nm ks).2.2 m'→Ctx s0 W (m' ++ r) s'→Q (.tup [.int .i64 (mkF cs nm ks).1,.int .i64 (mkF cs nm ks).2.1]) s'):Z0e Tryd.prog 11 [.ptr hb 0,.str nm,v] s Q:=by
 obtain ⟨p,V,mr,hc,hR,hV,h1,h4⟩:=Z8w hH h
 have hA:=Zcl hc hV h1 h4
 have ht:ks.all (Z34 (rcs cs V)) = ks.all (Z06 cs):=by congr 1; funext i; exact Zay hV i
 have hf:=Zni hV
 refine Zzy hA hnm hv hks ?_ ?_ ?_ ?_ ?_
 ·intro e s' hk
  have:mkF cs nm ks = (0,4,cs):=by unfold mkF; rw [if_pos e]
  rw [this] at q
  exact q _ s' (Z2z hR h1 h4) (hc.keeps hk)
 ·intro eg e s' hk
  have:mkF cs nm ks = (0,2,cs):=by unfold mkF; rw [if_neg (by simp [eg]),if_pos e]
  rw [this] at q
  exact q _ s' (Z2z hR h1 h4) (hc.keeps hk)
 ·intro eg el e s' hk
  rw [ht] at e
  have:mkF cs nm ks = (0,1,cs):=by unfold mkF; rw [if_neg (by simp [eg]),if_neg (by omega),if_pos e]
  rw [this] at q
  exact q _ s' (Z2z hR h1 h4) (hc.keeps hk)
 ·intro eg el e hneg s' hk
  rw [ht] at e
  rw [hf] at hneg
  have:mkF cs nm ks = (0,12,cs):=by unfold mkF; rw [if_neg (by simp [eg]),if_neg (by omega),if_neg (by simp [e]),if_pos hneg]
  rw [this] at q
  exact q _ s' (Z2z hR h1 h4) (hc.keeps hk)
 ·intro eg el e i kv s' hi hlt hk hkv hfr
  rw [ht] at e
  rw [hf] at hi
  rw [Z2c hV] at hlt
  have hq:mkF cs nm ks = ((i:Int),0,cs.set i ⟨true,nm,ks,0⟩):=by
   unfold mkF
   rw [if_neg (by simp [eg]),if_neg (by omega),if_neg (by simp [e]),hi,if_neg (by omega)]
   simp
  rw [hq] at q
  have hrs:(rcs cs V).set i ⟨true,nm,kv,0⟩ = rcs (cs.set i ⟨true,nm,ks,0⟩) (V.set i kv):=Z8x (d:=⟨true,nm,ks,0⟩)
  rw [hrs]
  obtain ⟨kv0,m1,m2,g1,g2,g3,g4⟩:=hR.at (i:=i) (ks:=(cs[i]'hlt).kids) (by rw [List.getElem?_map,List.getElem?_eq_getElem hlt]; rfl)
  have hc2:Ctx s0 W ((hb,C [.slice p 0 cs.length (.lim cs.length),vs]) :: (p,C (encs (rcs cs V))) :: (m2 ++ r)) s:=by
   refine (hc.perm ?_).sub (List.Sublist.cons_cons _ (List.Sublist.cons_cons _ ((List.sublist_append_right m1 m2).append (List.Sublist.refl r))))
   exact List.Perm.cons _ (List.Perm.cons _ (g3.append (List.Perm.refl r)))
  have hmap:(cs.set i ⟨true,nm,ks,0⟩).map CV.kids = (cs.map CV.kids).set i ks:=by rw [List.map_set]
  have hlen:(cs.set i ⟨true,nm,ks,0⟩).length = cs.length:=by simp
  rcases hkv with ⟨k1,rfl⟩ | ⟨qn,cp,rfl,k2⟩
  ·have hR':=g4 [] kv [] (.inl ⟨rfl,k1,rfl⟩)
   rw [← hmap] at hR'
   have hc3:=(hc2.keeps hk).put 1 rfl (C (encs (rcs (cs.set i ⟨true,nm,[],0⟩) (V.set i kv))))
   have:=q _ _ (Z2z (hb:=hb) (vs:=vs) (p:=p) hR' (by simpa using h1) (by simpa using h4)) (by rw [hlen]; exact hc3)
   exact this
  ·by_cases h0:ks = []
   ·subst h0
    have hR':=g4 [] (.slice qn 0 ([]:List Int).length cp) [] (.inl ⟨rfl,rfl,rfl⟩)
    rw [← hmap] at hR'
    have hc3:=(hc2.keeps hk).put 1 rfl (C (encs (rcs (cs.set i ⟨true,nm,[],0⟩) (V.set i (.slice qn 0 ([]:List Int).length cp)))))
    exact q _ _ (Z2z (hb:=hb) (vs:=vs) (p:=p) hR' (by simpa using h1) (by simpa using h4)) (by rw [hlen]; exact hc3)
   ·obtain ⟨f1,f2⟩:=hfr qn cp rfl
    have hR':=g4 ks (.slice qn 0 ks.length cp) [(qn,C (ints ks))] (.inr ⟨qn,cp,h0,rfl,rfl⟩)
    rw [← hmap] at hR'
    have hc3:=(hc2.made hk f1 (St.Z2e k2)).put 2 rfl (C (encs (rcs (cs.set i ⟨true,nm,ks,0⟩) (V.set i (.slice qn 0 ks.length cp)))))
    refine q _ _ (Z2z (hb:=hb) (vs:=vs) (p:=p) hR' (by simpa using h1) (by simpa using h4)) (hc3.perm ?_)
    rw [hlen]
    simp
    exact (List.Perm.swap _ _ _).trans (List.Perm.cons _ (List.Perm.swap _ _ _))
def tieF (cs:List CV) (i j k:Int):Int × List CV :=
 if Z06 cs i = true∧Z06 cs k = true∧0 ≤ j∧j < (Z11 cs i.toNat).length then
  (0,match cs[i.toNat]? with
   | some d => cs.set i.toNat { d with kids:=d.kids.set j.toNat k }
   | none => cs)
 else (1,cs)
theorem Z20 {l:List CV} {i:Int} (h:Z06 l i = true):0 ≤ i∧∃ c,l[i.toNat]? = some c∧c.taken = true∧i.toNat < l.length:=by
 unfold Z06 at h
 simp only [Bool.and_eq_true,decide_eq_true_eq] at h
 obtain ⟨h0,h1⟩:=h
 split at h1
 ·rename_i c hc
  exact ⟨h0,c,hc,h1,(List.getElem?_eq_some_iff.1 hc).1⟩
 ·cases h1
theorem tie_c {s0 s:St} {W:Pos→Prop} {hb:Pos} {vs:AVal} {cs:List CV} {m r:Lets} {i j k:Int} {Q:AVal→St→Prop} (hH:Z2t hb vs cs m) (h:Ctx s0 W (m ++ r) s)
  (q:∀ m' s',Z2t hb vs (tieF cs i j k).2 m'→Ctx s0 W (m' ++ r) s'→Q (.int .i64 (tieF cs i j k).1) s'):Z0e Tryd.prog 12 [.ptr hb 0,.int .i64 i,.int .i64 j,.int .i64 k] s Q:=by
 obtain ⟨p,V,mr,hc,hR,hV,h1,h4⟩:=Z8w hH h
 have hA:=Zcl hc hV h1 h4
 refine tie_wp (K:=Z11 cs) hA ?_ ?_ ?_
 ·intro n c hn
  have hlt:n < cs.length:=by have:=(List.getElem?_eq_some_iff.1 hn).1; rw [Z2c hV] at this; exact this
  have hd:cs[n]? = some cs[n]:=List.getElem?_eq_getElem hlt
  obtain ⟨kv,g1,g2⟩:=kid_of hc hR hd
  rw [Z26 hd g1] at hn
  cases hn
  unfold Z11
  rw [hd]
  exact g2
 ·intro e s' hk
  rw [Zay hV,Zay hV] at e
  have:tieF cs i j k = (1,cs):=by unfold tieF; rw [if_neg e]
  rw [this] at q
  exact q _ s' (Z2z hR h1 h4) (hc.keeps hk)
 ·intro e1 e2 e3 e4 c qn cp s' hci hkv hk
  rw [Zay hV] at e1 e2
  obtain ⟨h0,d,hd,_,hlt⟩:=Z20 e1
  have hko:Z11 cs i.toNat = d.kids:=by unfold Z11; rw [hd]
  have hq:tieF cs i j k = (0,cs.set i.toNat { d with kids:=d.kids.set j.toNat k }):=by unfold tieF; rw [if_pos ⟨e1,e2,e3,e4⟩,hd]
  rw [hq] at q
  rw [hko] at hkv e4 ⊢
  obtain ⟨kv0,m1,m2,g1,g2,g3,g4⟩:=hR.at (i:=i.toNat) (ks:=d.kids) (by rw [List.getElem?_map,hd]; rfl)
  rw [Z26 hd g1] at hci
  cases hci
  have hkv:kv0 = .slice qn 0 d.kids.length cp:=hkv
  rcases g2 with ⟨e5,_⟩ | ⟨q2,c2,e5,e6,rfl⟩
  ·rw [e5] at e4
   simp at e4
   omega
  rw [hkv] at e6
  cases e6
  have hmap:(cs.set i.toNat { d with kids:=d.kids.set j.toNat k }).map CV.kids = (cs.map CV.kids).set i.toNat (d.kids.set j.toNat k):=by rw [List.map_set]
  have hlen:(cs.set i.toNat { d with kids:=d.kids.set j.toNat k }).length = cs.length:=by simp
  have hR':=g4 (d.kids.set j.toNat k) (.slice qn 0 (d.kids.set j.toNat k).length cp) [(qn,C (ints (d.kids.set j.toNat k)))] (.inr ⟨qn,cp,by rw [Ne,List.set_eq_nil_iff]; exact e5,rfl,rfl⟩)
  rw [← hmap] at hR'
  have hc2:Ctx s0 W ((hb,C [.slice p 0 cs.length (.lim cs.length),vs]) :: (p,C (encs (rcs cs V))) :: (qn,C (ints d.kids)) :: (m2 ++ r)) s :=
   hc.perm (List.Perm.cons _ (List.Perm.cons _ (g3.append (List.Perm.refl r))))
  have hc3:=(hc2.keeps hk).put 2 rfl (C (ints (d.kids.set j.toNat k)))
  have hrs:rcs (cs.set i.toNat { d with kids:=d.kids.set j.toNat k }) (V.set i.toNat (.slice qn 0 (d.kids.set j.toNat k).length cp)) = rcs cs V:=by
   rw [← Z8x (d:={ d with kids:=d.kids.set j.toNat k })]
   have hg:=Z26 hd g1
   rw [hkv] at hg
   rw [List.length_set]
   refine List.ext_getElem? fun x => ?_
   rw [List.getElem?_set]
   by_cases ex:i.toNat = x
   ·subst ex
    rw [if_pos rfl,hg,if_pos (by rw [Z2c hV]; exact hlt)]
   ·rw [if_neg ex]
  have:=q _ _ (Z2z (hb:=hb) (vs:=vs) (p:=p) hR' (by simpa using h1) (by simpa using h4)) (by rw [hlen,hrs]; exact hc3)
  exact this
def Z1h (cs:List CV):Nat:=cs.countP fun c => c.taken
theorem Zk6:∀ (l:List RC),(takI l l.length).length = l.countP fun c => c.taken:=by
 intro l
 have key:∀ i,i ≤ l.length→(takI l i).length = (l.take i).countP fun c => c.taken:=by
  intro i
  induction i with
  | zero => intro _; rfl
  | succ i ih =>
   intro hi
   have hc:l[i]? = some l[i]:=List.getElem?_eq_getElem (by omega)
   rw [List.take_add_one,hc,List.countP_append]
   cases ht:l[i].taken with
   | true => rw [Z7n hc ht,List.length_append,ih (by omega)]; simp [List.countP_cons,ht]
   | false => rw [Zgf hc ht,ih (by omega)]; simp [List.countP_cons,ht]
 rw [key _ (Nat.le_refl _),List.take_length]
theorem Zit:∀ {cs:List CV} {V:List AVal},V.length = cs.length→(rcs cs V).countP (fun c => c.taken) = Z1h cs
 | [],V,_ => by simp [rcs,Z1h]
 | c :: cs,[],h => by simp at h
 | c :: cs,v :: V,h => by
  have:=Zit (cs:=cs) (V:=V) (by simpa using h)
  simp [rcs,Z1h,List.countP_cons] at this ⊢
  rw [this]
theorem Zgd {s0 s:St} {W:Pos→Prop} {hb:Pos} {vs:AVal} {cs:List CV} {m r:Lets} {Q:AVal→St→Prop} (hH:Z2t hb vs cs m) (h:Ctx s0 W (m ++ r) s)
  (q:∀ s',Ctx s0 W (m ++ r) s'→Q (.int .i64 (Z1h cs)) s'):Z0e Tryd.prog 14 [.ptr hb 0] s Q:=by
 obtain ⟨p,V,mr,hc,hR,hV,h1,h4⟩:=Z8w hH h
 refine Zr7 (Zcl hc hV h1 h4) fun s' hk => ?_
 have:=q s' (h.keeps hk)
 rw [Zk6,Zit hV]
 exact this
def toC (cls:List Int) (k:Int):Int:=match cls[k.toNat]? with
 | some c => Z3b (fun d => decide (c = d)) cls
 | none => -1
def movI (cls ks:List Int) (j:Nat):List Int:=(ks.take j).map (toC cls) ++ ks.drop j
theorem Zuy (cls ks:List Int):movI cls ks 0 = ks:=by simp [movI]
theorem Znz (cls ks:List Int) (j:Nat):(movI cls ks j).length = ks.length:=by
 simp [movI]
 omega
theorem Zwq (cls ks:List Int):movI cls ks ks.length = ks.map (toC cls):=by simp [movI]
theorem Zwr {cls ks:List Int} {j:Nat} {k:Int} (h:ks[j]? = some k):(movI cls ks j)[j]? = some k:=by
 have hj:=(List.getElem?_eq_some_iff.1 h).1
 unfold movI
 rw [List.getElem?_append_right (by simp; omega)]
 have e:j - ((ks.take j).map (toC cls)).length = 0:=by simp; omega
 rw [e,List.getElem?_drop]
 simpa using h
theorem Zux {cls ks:List Int} {j:Nat} {k:Int} (h:ks[j]? = some k):(movI cls ks j).set j (toC cls k) = movI cls ks (j + 1):=by
 have hj:=(List.getElem?_eq_some_iff.1 h).1
 unfold movI
 have hl:((ks.take j).map (toC cls)).length = j:=by simp; omega
 rw [List.set_append_right _ _ (by omega),hl,Nat.sub_self,List.take_add_one,h]
 have hd:ks.drop j = k :: ks.drop (j + 1):=by
  rw [List.drop_eq_getElem_cons hj]
  have:ks[j] = k:=(List.getElem?_eq_some_iff.1 h).2
  rw [this]
 rw [hd]
 simp
theorem Zzd (p:Pos) (o n:Nat) (c:Cap):Z27 8 (.slice p o n c) (.slice p o n c) = true:=by
 cases c <;> simp [Z27,Zb8]
theorem Zws {fr:FI} {s:St} {t0:PT AVal} {p q B2 B3 Bc:Pos} {l:List RC} {i:Nat} {c:RC} {cp:Cap} {cv:AVal} {cls ks:List Int} {Q:Ex→PT AVal→St→Prop}
  (hw:s.Wf) (t2:PT.get (posOf 2) t0 = some (.ptr B2 0)) (t3:PT.get (posOf 3) t0 = some (.ptr B3 0)) (t4:PT.get (posOf 4) t0 = some (.int .i64 i))
  (hci:l[i]? = some c) (hkv:c.kv = .slice q 0 ks.length cp) (hq:s.own q = some (ks.map fun k => .int .i64 k)) (hks:ks.length ≤ 1000) (hcl:cls.length ≤ 1000) (hin:∀ k ∈ ks,0 ≤ k∧k < cls.length)
  (hst:∀ s',Same [q] s s'→s'.cells B3 = some [.slice p 0 l.length (.lim l.length)]∧s'.cells p = some (encs l)∧s'.cells B2 = some [.fn 52 [] [.ptr Bc 0]]∧s'.cells Bc = some [cv]∧Z0g s' cv cls)
  (qq:∀ t s',Same [q] s s'→s'.own q = some ((ks.map (toC cls)).map fun k => .int .i64 k)→Q .normal t s'):wp Tryd.prog c54_8 fr t0 s Q:=by
 have hi:i < l.length:=(List.getElem?_eq_some_iff.1 hci).1
 have hg:(encs l)[i * 4 + 2]? = some (.slice q 0 ks.length cp):=by rw [← hkv]; exact Z3f l i 2 c hci (by decide)
 obtain ⟨b3,bp,b2,bc,hcv⟩:=hst s (Same.refl _ _)
 have hoq:=Z0b hw hq
 refine Z00 ?_
 simp [t3,t4,b3,bp,hi,hg]
 refine AM.wp_block ?_
 refine AM.wp_loop (fun m t s' => ∃ j:Nat,j ≤ ks.length∧m = ks.length - j∧PT.get (posOf 2) t = some (.ptr B2 0)∧PT.get (posOf 3) t = some (.ptr B3 0)∧PT.get (posOf 4) t = some (.int .i64 i)∧PT.get (posOf 15) t = some (.slice q 0 ks.length cp)∧PT.get (posOf 16) t = some (.int .i64 ks.length)∧PT.get (posOf 17) t = some (.int .i64 j)∧Same [q] s s' ∧
  s'.own q = some ((movI cls ks j).map fun k => .int .i64 k)) ks.length ⟨0,by simp,by simp,by simp [t2],by simp [t3],by simp [t4],by simp,by simp,by simp,Same.refl _ _,by rw [Zuy]; exact hq⟩ ?_
 rintro m t s' ⟨j,hj,rfl,g2,g3,g4,g15,g16,g17,hS,hO⟩
 obtain ⟨b3,bp,b2,bc,hcv⟩:=hst s' hS
 refine Z00 ?_
 simp [g16,g17]
 refine AM.wp_seq ?_
 refine AM.Z04 ?_
 by_cases hlt:j < ks.length
 ·obtain ⟨k,hk⟩:∃ k,ks[j]? = some k:=⟨_,List.getElem?_eq_getElem hlt⟩
  obtain ⟨hk0,hk1⟩:=hin k (List.mem_of_getElem? hk)
  obtain ⟨cc,hcc⟩:∃ cc,cls[k.toNat]? = some cc:=⟨_,List.getElem?_eq_getElem (by omega)⟩
  have hto:toC cls k = Z3b (fun d => decide (cc = d)) cls:=by unfold toC; rw [hcc]
  have hgk:((movI cls ks j).map fun k => AVal.int .i64 k)[j]? = some (.int .i64 k):=by rw [List.getElem?_map,Zwr hk]; rfl
  have hwr:IntKind.wrap .i64 ((j:Int) + 1) = ((j + 1:Nat):Int):=by rw [IntWalk.i64_in _ (by omega)]; omega
  have hlay:=Z5z (movI cls ks j) j (toC cls k) (by rw [Znz]; omega)
  rw [Zux hk] at hlay
  have hml:=Znz cls ks j
  simp [hlt]
  refine AM.wp_skip ?_
  simp
  refine AM.wp_seq ?_
  refine AM.wp_block ?_
  generalize movI cls ks j = mv at hO hgk hlay hml ⊢
  have hle:j + 1 ≤ mv.length:=by omega
  refine Z00 ?_
  simp only [List.getElem?_map] at hgk
  simp [g15,g17,hlt,Z0a hO,hgk]
  refine AM.wp_region ?_
  simp [g2,g3,g4,b3,bp,hi,hg,b2]
  refine Z02 ?_
  refine Zlr bc hcv hcl hk0 hcc ?_
  simp [b3,bp,hi,hg,Z8n,Zzd,hlt,hO,hle]
  rw [← hto]
  simp [lay] at hlay
  rw [hlay]
  refine AM.wp_region ?_
  simp [g17,hwr]
  exact ⟨ks.length - (j + 1),by omega,j + 1,by omega,by omega,by simp [g2],by simp [g3],by simp [g4],by simp [g15],by simp [g16],by simp,hS.put _ (by simp) (hS.old hoq),by simp⟩
 ·simp [hlt]
  refine AM.wp_exit ?_
  simp
  have hje:j = ks.length:=by omega
  subst hje
  rw [Zwq] at hO
  exact qq _ s' hS hO
theorem KidV.nil {s s':St} {kv:AVal} {ks:List Int} (h:KidV s kv ks) (h0:ks = []):KidV s' kv ks:=.inl ⟨by have:=h.len; rw [h0] at this; exact this,h0⟩
theorem KidV.stay {s s':St} {kv:AVal} {ks:List Int} (h:KidV s kv ks) (hs:∀ q c,kv = .slice q 0 ks.length c→ks ≠ []→s'.own q = s.own q):KidV s' kv ks:=by
 by_cases h0:ks = []
 ·exact h.nil h0
 ·rcases h with ⟨_,h1⟩ | ⟨q,c,h1,h2⟩
  ·exact (h0 h1).elim
  ·exact .inr ⟨q,c,h1,(hs q c h1 h0).trans h2⟩
theorem Zwt {s:St} {p Bc:Pos} {l:List RC} {K:Nat→List Int} {cv:AVal} {cls:List Int} {qs:List Pos} {Q:AVal→St→Prop} (hw:s.Wf) (hp:s.Old p) (hc:s.cells p = some (encs l)) (hl:l.length ≤ 400) (hcl:cls.length ≤ 1000)
  (hK:∀ j c,l[j]? = some c→KidV s c.kv (K j)∧(K j).length ≤ 1000∧(c.taken = true→∀ k ∈ K j,0 ≤ k∧k < cls.length))
  (hqs:∀ j c q cp,l[j]? = some c→c.kv = .slice q 0 (K j).length cp→K j ≠ []→q ∈ qs) (hpq:p ∉ qs) (hqo:∀ q ∈ qs,s.Old q)
  (hsep:∀ j j' c c' q cp cp',l[j]? = some c→l[j']? = some c'→c.kv = .slice q 0 (K j).length cp→c'.kv = .slice q 0 (K j').length cp'→K j ≠ []→K j' ≠ []→j = j')
  (hcv:∀ s',Same qs s s'→s'.cells Bc = some [cv]∧Z0g s' cv cls)
  (q:∀ s',Same qs s s'→(∀ j c,l[j]? = some c→KidV s' c.kv (if c.taken = true then (K j).map (toC cls) else K j))→Q (.tup []) s') :
  Z0e Tryd.prog 54 [.agg [.fn 52 [] [.ptr Bc 0]],.agg [.slice p 0 l.length (.lim l.length)]] s Q:=by
 refine Z08 (Z0i (by decide)) fi54 rfl (by decide) rfl ?_
 refine Z00 ?_
 simp
 have hK1:Keeps s (s.alloc (.cells [.fn 52 [] [.ptr Bc 0]] false)):=Keeps.alloc _ _
 have hB1:(s.alloc (.cells [.fn 52 [] [.ptr Bc 0]] false)).own s.next = some [.fn 52 [] [.ptr Bc 0]]:=Z1g _ _
 have hf1:¬ s.Old s.next:=Z09 s
 generalize s.alloc (.cells [.fn 52 [] [.ptr Bc 0]] false) = s1 at hK1 hB1 ⊢
 generalize s.next = B2 at hB1 hf1 ⊢
 have hw1:s1.Wf:=hK1.wf hw
 have ho1:s1.Old B2:=Z0b hw1 hB1
 have hK2:Keeps s1 (s1.alloc (.cells [.slice p 0 l.length (.lim l.length)] false)):=Keeps.alloc _ _
 have hB2:(s1.alloc (.cells [.slice p 0 l.length (.lim l.length)] false)).own s1.next = some [.slice p 0 l.length (.lim l.length)]:=Z1g _ _
 have hf2:¬ s1.Old s1.next:=Z09 s1
 generalize s1.alloc (.cells [.slice p 0 l.length (.lim l.length)] false) = s2 at hK2 hB2 ⊢
 generalize s1.next = B3 at hB2 hf2 ⊢
 have hw2:s2.Wf:=hK2.wf hw1
 have ho2:s2.Old B3:=Z0b hw2 hB2
 have hB1':s2.own B2 = some [.fn 52 [] [.ptr Bc 0]]:=(hK2.own ho1).trans hB1
 refine Z00 ?_
 simp [Z0a hB2]
 refine Z02 ?_
 refine Zcc fun BB hBB => ?_
 have hK5:Keeps s2 (s2.alloc (.cells [.slice p 0 l.length (.lim l.length)] false)):=Keeps.alloc _ _
 have hBB5:(s2.alloc (.cells [.slice p 0 l.length (.lim l.length)] false)).own BB = some [.slice p 0 l.length (.lim l.length)]:=by rw [hBB]; exact Z1g _ _
 have hBo2:¬ s2.Old BB:=by rw [hBB]; exact Z09 s2
 generalize s2.alloc (.cells [.slice p 0 l.length (.lim l.length)] false) = s5 at hK5 hBB5 ⊢
 have hw5:s5.Wf:=hK5.wf hw2
 have hk5:Keeps s s5:=(hK1.trans hK2).trans hK5
 have n2:B2 ∉ qs:=fun h => hf1 (hqo _ h)
 have n3:B3 ∉ qs:=fun h => hf2 (hK1.old (hqo _ h))
 have nB:BB ∉ qs:=fun h => hBo2 (hK2.old (hK1.old (hqo _ h)))
 simp
 refine AM.wp_block ?_
 have hLo:∀ b,s5.Old b→b ≠ s5.next:=fun b hb => ne_next hb
 have nL:s5.next ∉ qs:=fun h => hLo _ (hk5.old (hqo _ h)) rfl
 refine Zd7 (I:=fun i s' => s'.Wf∧Same (s5.next :: qs) s5 s'∧∀ j c,l[j]? = some c→KidV s' c.kv (if j < i∧c.taken = true then (K j).map (toC cls) else K j)) (p:=p) (B:=BB) (l:=l) hl (by simp) rfl fi54 rfl ?_ ?_ ?_ ?_ ⟨hw5,Same.refl _ _,fun j c h => by simpa using (hK j c h).1.keep hw hk5⟩ ?_
 ·rintro i s' ⟨h,hS,hV⟩
  have hb:s'.own BB = some [.slice p 0 l.length (.lim l.length)]:=(hS.own (by simpa using ⟨hLo _ (Z0b hw5 hBB5),nB⟩) (Z0b hw5 hBB5)).trans hBB5
  exact ⟨h,hS.old (hk5.old hp),Z0b h hb,(hS.cells (by simpa using ⟨hLo _ (hk5.old hp),hpq⟩) (hk5.old hp)).trans ((hk5.cells hp).trans hc),Z0a hb⟩
 ·rintro i s' s'' ⟨h,hS,hV⟩ hS2
  refine ⟨hS2.wf h,⟨fun b hb ho => (hS2.obj b (by simp at hb ⊢; exact hb.1) (hS.old ho)).trans (hS.obj b hb ho),Nat.le_trans hS.next hS2.next,fun _ => hS2.wf h⟩,fun j c hj => ?_⟩
  refine (hV j c hj).stay fun q' c' he hne => ?_
  have hl2:(if j < i∧c.taken = true then (K j).map (toC cls) else K j).length = (K j).length:=by split <;> simp
  rw [hl2] at he
  have hne':K j ≠ []:=by
   intro e
   rw [e] at hne
   simp at hne
  have hm:=hqs j c q' c' hj he hne'
  exact hS2.own (by simpa using hLo _ (hk5.old (hqo _ hm))) (hS.old (hk5.old (hqo _ hm)))
 ·rintro i c s' hci hct ⟨h,hS,hV⟩
  refine ⟨h,hS,fun j d hj => ?_⟩
  have:=hV j d hj
  by_cases e:j = i
  ·subst e
   rw [hci] at hj
   cases hj
   simpa [hct] using this
  ·have e2:j < i ↔ j < i + 1:=by omega
   simpa [e2] using this
 ·rintro i c s' W hci hct ⟨h,hS,hV⟩ hoL hW
  have hi:i < l.length:=(List.getElem?_eq_some_iff.1 hci).1
  obtain ⟨_,hk1000,hkin⟩:=hK i c hci
  have hB3s:s'.own B3 = some [.slice p 0 l.length (.lim l.length)]:=(hS.own (by simpa using ⟨hLo _ (hK5.old ho2),n3⟩) (hK5.old ho2)).trans ((hK5.own ho2).trans hB2)
  have hB2s:s'.own B2 = some [.fn 52 [] [.ptr Bc 0]]:=(hS.own (by simpa using ⟨hLo _ (hK5.old (hK2.old ho1)),n2⟩) (hK5.old (hK2.old ho1))).trans ((hK5.own (hK2.old ho1)).trans hB1')
  have hps:s'.cells p = some (encs l):=(hS.cells (by simpa using ⟨hLo _ (hk5.old hp),hpq⟩) (hk5.old hp)).trans ((hk5.cells hp).trans hc)
  have hg:(encs l)[i * 4 + 2]? = some c.kv:=Z3f l i 2 c hci (by decide)
  have hVi:=hV i c hci
  simp at hVi
  refine AM.wp_block ?_
  by_cases h0:K i = []
  ·have hlen:=hVi.len
   rw [h0] at hlen
   have hkt:∀ t,¬ c.kv = .tup t:=by
    rintro t e
    rw [e] at hlen
    cases hlen
   refine Z00 ?_
   simp [Z0a hB3s,hps,hi,hg,hlen]
   refine AM.wp_block ?_
   refine AM.wp_loop (fun m t s2 => PT.get (posOf 16) t = some (.int .i64 0)∧PT.get (posOf 17) t = some (.int .i64 0)∧s2 = s') 0 ⟨by simp,by simp,rfl⟩ ?_
   rintro m t2 s2 ⟨g16,g17,rfl⟩
   refine Z00 ?_
   simp [g16,g17]
   refine AM.wp_seq ?_
   refine AM.Z04 ?_
   simp
   refine AM.wp_exit ?_
   simp
   refine hW _ _ ⟨h,hS,fun j d hj => ?_⟩ rfl
   by_cases e:j = i
   ·subst e
    have:=hV j d hj
    rw [h0] at this ⊢
    simpa using this
   ·have e2:j < i ↔ j < i + 1:=by omega
    have:=hV j d hj
    simpa [e2] using this
  ·rcases hVi with ⟨_,e⟩ | ⟨q',cp,hkv,hq⟩
   ·exact (h0 e).elim
   have hm:=hqs i c q' cp hci hkv h0
   have hoq':s'.Old q':=hS.old (hk5.old (hqo _ hm))
   have hne3:B3 ≠ q':=fun e => n3 (e ▸ hm)
   have hne2:B2 ≠ q':=fun e => n2 (e ▸ hm)
   have hnep:p ≠ q':=fun e => hpq (e ▸ hm)
   refine Zws (B2:=B2) (B3:=B3) (p:=p) (q:=q') (l:=l) (i:=i) (cp:=cp) (cv:=cv) (cls:=cls) (ks:=K i) (Bc:=Bc) h (by simp) (by simp) (by simp) hci hkv hq hk1000 hcl (hkin hct) ?_ ?_
   ·intro s2 hS2
    have hSq:Same qs s s2:=⟨fun b hb ho => ((hS2.obj b (by simpa using fun e:b = q' => hb (e ▸ hm)) (hS.old (hk5.old ho))).trans (hS.obj b (by simpa using ⟨hLo _ (hk5.old ho),hb⟩) (hk5.old ho))).trans (hk5.obj b ho),Nat.le_trans hk5.next (Nat.le_trans hS.next hS2.next),fun _ => hS2.wf h⟩
    obtain ⟨j1,j2⟩:=hcv s2 hSq
    exact ⟨Z0a ((hS2.own (by simpa using hne3) (Z0b h hB3s)).trans hB3s),(hS2.cells (by simpa using hnep) (hS.old (hk5.old hp))).trans hps,Z0a ((hS2.own (by simpa using hne2) (Z0b h hB2s)).trans hB2s),j1,j2⟩
   ·intro t2 s2 hS2 hO2
    refine hW _ _ ⟨hS2.wf h,⟨fun b hb ho => (hS2.obj b (by simp at hb ⊢; exact fun e => hb.2 (e ▸ hm)) (hS.old ho)).trans (hS.obj b hb ho),Nat.le_trans hS.next hS2.next,fun _ => hS2.wf h⟩,fun j d hj => ?_⟩ (hS2.obj _ (by simpa using fun e:s5.next = q' => nL (e ▸ hm)) hoL)
    by_cases e:j = i
    ·subst e
     rw [hci] at hj
     cases hj
     simp [hct]
     exact .inr ⟨q',cp,by rw [hkv]; simp,by simpa using hO2⟩
    ·have e2:j < i ↔ j < i + 1:=by omega
     have hv:=hV j d hj
     have eg:(if j < i + 1∧d.taken = true then (K j).map (toC cls) else K j) = (if j < i∧d.taken = true then (K j).map (toC cls) else K j):=by simp [e2]
     rw [eg]
     refine hv.stay fun q2 c2 he hne => ?_
     have hl2:(if j < i∧d.taken = true then (K j).map (toC cls) else K j).length = (K j).length:=by split <;> simp
     rw [hl2] at he
     have hne':K j ≠ []:=by
      intro e
      rw [e] at hne
      simp at hne
     refine hS2.own (by simpa using fun e3:q2 = q' => e (hsep j i d c q' c2 cp hj hci (e3 ▸ he) hkv hne' h0)) (hS.old (hk5.old (hqo _ (hqs j d q2 c2 hj he hne'))))
 ·rintro s' ⟨h,hS,hV⟩
  simp
  refine q s' ⟨fun b hb ho => (hS.obj b (by simpa using ⟨hLo _ (hk5.old ho),hb⟩) (hk5.old ho)).trans (hk5.obj b ho),Nat.le_trans hk5.next hS.next,fun _ => h⟩ fun j c hj => ?_
  have:=hV j c hj
  have hjl:j < l.length:=(List.getElem?_eq_some_iff.1 hj).1
  simpa [hjl] using this
end Go.Proofs
end
section
open Go Go.AM
namespace Go.Proofs
theorem Zdu {D:List Key} {k k':Key} (h:k ∈ D):(addK D k').idxOf k = D.idxOf k:=by
 unfold addK
 split
 ·rfl
 ·rw [List.idxOf_append,if_pos h]
theorem Zdv {D:List Key} {k k':Key} (h:k ∈ D):k ∈ addK D k':=by
 unfold addK
 split
 ·exact h
 ·exact List.mem_append_left _ h
theorem Znf {now:List Int} {nds:List (List UInt8 × List Int)} {k:Key}:∀ (L:List Nat) (x:List Key × List Int),k ∈ x.1→k ∈ (L.foldl (Z54 now nds) x).1∧(L.foldl (Z54 now nds) x).1.idxOf k = x.1.idxOf k
 | [],x,h => ⟨h,rfl⟩
 | a :: L,x,h => by
  rw [List.foldl_cons]
  obtain ⟨h1,h2⟩:=Znf L (Z54 now nds x a) (Zdv h)
  exact ⟨h1,h2.trans (Zdu h)⟩
theorem Zqo {now:List Int} {nds:List (List UInt8 × List Int)}:∀ (L:List Nat) (x:List Key × List Int) (a:Nat),a < x.2.length→(a ∈ L ∨ (keyA now nds a ∈ x.1∧x.2[a]? = some (x.1.idxOf (keyA now nds a):Nat))) →
  (L.foldl (Z54 now nds) x).2[a]? = some ((L.foldl (Z54 now nds) x).1.idxOf (keyA now nds a):Nat)
 | [],x,a,ha,h => by
  rcases h with h | h
  ·cases h
  ·exact h.2
 | b :: L,x,a,ha,h => by
  rw [List.foldl_cons]
  refine Zqo L _ a (by simpa [Z54] using ha) ?_
  by_cases hL:a ∈ L
  ·exact .inl hL
  ·by_cases e:a = b
   ·subst e
    exact .inr ⟨Zbz _ _,by simp [Z54,ha]⟩
   ·rcases h with h | ⟨h1,h2⟩
    ·rcases List.mem_cons.1 h with h | h
     ·exact (e h).elim
     ·exact (hL h).elim
    ·refine .inr ⟨Zdv h1,?_⟩
     show (x.2.set b _)[a]? = _
     rw [List.getElem?_set_ne (fun h => e h.symm),h2]
     have h3:(addK x.1 (keyA now nds b)).idxOf (keyA now nds a) = x.1.idxOf (keyA now nds a):=Zdu h1
     exact congrArg (fun n:Nat => some (n:Int)) h3.symm
theorem Za0 {now:List Int} {nds:List (List UInt8 × List Int)} {L:List Nat} {a:Nat} (ha:a ∈ L) (hn:a < nds.length):(Z0t now nds L).2[a]? = some ((Z0t now nds L).1.idxOf (keyA now nds a):Nat) :=
 Zqo L _ a (by simpa using hn) (.inl ha)
theorem Zcv {now:List Int} {nds:List (List UInt8 × List Int)}:∀ (L:List Nat) (x:List Key × List Int) (a:Nat),a ∈ L→keyA now nds a ∈ (L.foldl (Z54 now nds) x).1
 | b :: L,x,a,h => by
  rw [List.foldl_cons]
  rcases List.mem_cons.1 h with rfl | h
  ·exact (Znf L _ (Zbz _ _)).1
  ·exact Zcv L _ a h
theorem Zem {now:List Int} {nds:List (List UInt8 × List Int)} {L:List Nat} {a b:Nat} (ha:a ∈ L) (hb:b ∈ L) (hna:a < nds.length) (hnb:b < nds.length) :
  (Z0t now nds L).2[a]? = (Z0t now nds L).2[b]? ↔ keyA now nds a = keyA now nds b:=by
 rw [Za0 ha hna,Za0 hb hnb]
 constructor
 ·intro h
  have h:(Z0t now nds L).1.idxOf (keyA now nds a) = (Z0t now nds L).1.idxOf (keyA now nds b):=by
   have:=Option.some.inj h
   omega
  have h1:=List.getElem_idxOf (List.idxOf_lt_length_of_mem (Zcv (now:=now) (nds:=nds) L ([],List.replicate nds.length (-1)) a ha))
  have h2:=List.getElem_idxOf (List.idxOf_lt_length_of_mem (Zcv (now:=now) (nds:=nds) L ([],List.replicate nds.length (-1)) b hb))
  unfold Z0t at h
  rw [← h1,← h2]
  congr 1
 ·intro h
  rw [h]
end Go.Proofs
end
section
open Go Go.AM
namespace Go.Proofs
theorem Zko {now:List Int} {nds:List (List UInt8 × List Int)} {a b:Nat} {x y:List UInt8 × List Int} (hx:nds[a]? = some x) (hy:nds[b]? = some y) (h4:x.2.length ≤ 4) :
  keyA now nds a = keyA now nds b ↔ x.1 = y.1∧x.2.length = y.2.length∧∀ j,j < x.2.length→((x.2[j]?).bind fun k => now[k.toNat]?).getD 0 = ((y.2[j]?).bind fun k => now[k.toNat]?).getD 0:=by
 unfold keyA
 rw [hx,hy]
 show sgK now x 4 = sgK now y 4 ↔ _
 unfold sgK
 constructor
 ·intro h
  have h1:=congrArg Prod.fst h
  have h2:=congrArg Prod.snd h
  simp only at h1 h2
  have h3:=List.cons.inj h2
  have hl:x.2.length = y.2.length:=by have:=h3.1; omega
  refine ⟨h1,hl,fun j hj => ?_⟩
  have h5:=congrArg (fun l:List Int => l[j]?) h3.2
  simp only [sgX,List.getElem?_map] at h5
  have hj4:j < 4:=by omega
  rw [List.getElem?_range hj4] at h5
  simpa [hj4] using h5
 ·rintro ⟨h1,h2,h3⟩
  rw [h1,h2]
  have:sgX now x.2 4 = sgX now y.2 4:=by
   unfold sgX
   refine List.map_congr_left fun j hj => ?_
   have hj4:j < 4:=by simpa using hj
   rw [if_pos hj4,if_pos hj4]
   by_cases hlt:j < x.2.length
   ·exact h3 j hlt
   ·rw [List.getElem?_eq_none (by omega),List.getElem?_eq_none (by omega)]
  rw [this]
theorem Zfv {nds:List (List UInt8 × List Int)} {L:List Nat} (hL:∀ a ∈ L,a < nds.length) (hk:∀ a ∈ L,∀ x,nds[a]? = some x→x.2.length ≤ 4∧∀ k ∈ x.2,k.toNat ∈ L) :
  ∀ (r a b:Nat),a ∈ L→b ∈ L→(nowI nds L (r + 1))[a]? = (nowI nds L (r + 1))[b]?→(nowI nds L r)[a]? = (nowI nds L r)[b]?
 | 0,a,b,ha,hb,_ => by
  simp [nowI,hL a ha,hL b hb]
 | r + 1,a,b,ha,hb,h => by
  have hna:=hL a ha
  have hnb:=hL b hb
  have hx:nds[a]? = some nds[a]:=List.getElem?_eq_getElem hna
  have hy:nds[b]? = some nds[b]:=List.getElem?_eq_getElem hnb
  obtain ⟨h4,hkx⟩:=hk a ha _ hx
  obtain ⟨h4',hky⟩:=hk b hb _ hy
  have h1:=(Zem ha hb hna hnb).1 h
  obtain ⟨e1,e2,e3⟩:=(Zko hx hy h4).1 h1
  refine (Zem ha hb hna hnb).2 ((Zko hx hy h4).2 ⟨e1,e2,fun j hj => ?_⟩)
  have:=e3 j hj
  have hj':j < nds[b].2.length:=by omega
  have gx:nds[a].2[j]? = some nds[a].2[j]:=List.getElem?_eq_getElem hj
  have gy:nds[b].2[j]? = some nds[b].2[j]:=List.getElem?_eq_getElem hj'
  have mx:=hkx _ (List.getElem_mem hj)
  have my:=hky _ (List.getElem_mem hj')
  rw [gx,gy] at this ⊢
  simp only [Option.bind_some] at this ⊢
  have lx:nds[a].2[j].toNat < (nowI nds L (r + 1)).length:=by rw [Z6s]; exact hL _ mx
  have ly:nds[b].2[j].toNat < (nowI nds L (r + 1)).length:=by rw [Z6s]; exact hL _ my
  have heq:(nowI nds L (r + 1))[nds[a].2[j].toNat]? = (nowI nds L (r + 1))[nds[b].2[j].toNat]?:=by
   rw [List.getElem?_eq_getElem lx,List.getElem?_eq_getElem ly] at this ⊢
   simpa using this
  rw [Zfv hL hk r _ _ mx my heq]
end Go.Proofs
end
section
open Go Go.AM
namespace Go.Proofs
def news {α κ:Type} [DecidableEq κ] (f:α→κ):List α→List α→Nat
 | _,[] => 0
 | E,a :: L => (if E.any (fun e => decide (f e = f a)) = true then 0 else 1) + news f (E ++ [a]) L
theorem Zqy {α κ:Type} [DecidableEq κ] (f:α→κ):∀ (L E:List α),news f E L ≤ L.length
 | [],E => Nat.le_refl _
 | a :: L,E => by
  have:=Zqy f L (E ++ [a])
  simp only [news,List.length_cons]
  split <;> omega
theorem Zah {α κ:Type} [DecidableEq κ] {f:α→κ} {E:List α} {a:α}:E.any (fun e => decide (f e = f a)) = true ↔ ∃ e ∈ E,f e = f a:=by
 simp
theorem Zau {α κ μ:Type} [DecidableEq κ] [DecidableEq μ] {f:α→κ} {g:α→μ}:∀ (L E:List α),(∀ a ∈ E ++ L,∀ b ∈ E ++ L,f a = f b→g a = g b)→news g E L ≤ news f E L
 | [],E,_ => Nat.le_refl _
 | a :: L,E,h => by
  have ih:=Zau (f:=f) (g:=g) L (E ++ [a]) (by simpa using h)
  have h1:E.any (fun e => decide (f e = f a)) = true→E.any (fun e => decide (g e = g a)) = true:=by
   rw [Zah,Zah]
   rintro ⟨e,he,hf⟩
   exact ⟨e,he,h e (by simp [he]) a (by simp) hf⟩
  simp only [news]
  by_cases hf:E.any (fun e => decide (f e = f a)) = true
  ·rw [if_pos hf,if_pos (h1 hf)]; omega
  ·rw [if_neg hf]
   split <;> omega
theorem Zfu {α κ μ:Type} [DecidableEq κ] [DecidableEq μ] {f:α→κ} {g:α→μ}:∀ (L E:List α),(∀ a ∈ E ++ L,∀ b ∈ E ++ L,f a = f b→g a = g b)→news g E L = news f E L →
  (∀ a ∈ E,∀ b ∈ E,g a = g b→f a = f b)→∀ a ∈ E ++ L,∀ b ∈ E ++ L,g a = g b→f a = f b
 | [],E,_,_,hE => by simpa using hE
 | a :: L,E,h,he,hE => by
  have hm:=Zau (f:=f) (g:=g) L (E ++ [a]) (by simpa using h)
  have h1:E.any (fun e => decide (f e = f a)) = true→E.any (fun e => decide (g e = g a)) = true:=by
   rw [Zah,Zah]
   rintro ⟨e,he,hf⟩
   exact ⟨e,he,h e (by simp [he]) a (by simp) hf⟩
  simp only [news] at he
  have hkey:news g (E ++ [a]) L = news f (E ++ [a]) L∧(E.any (fun e => decide (g e = g a)) = true→E.any (fun e => decide (f e = f a)) = true):=by
   by_cases hf:E.any (fun e => decide (f e = f a)) = true
   ·rw [if_pos hf,if_pos (h1 hf)] at he
    exact ⟨by omega,fun _ => hf⟩
   ·rw [if_neg hf] at he
    by_cases hg:E.any (fun e => decide (g e = g a)) = true
    ·rw [if_pos hg] at he
     omega
    ·rw [if_neg hg] at he
     exact ⟨by omega,fun h => (hg h).elim⟩
  obtain ⟨e1,e2⟩:=hkey
  rw [Zah,Zah] at e2
  have hone:∀ x ∈ E,g x = g a→f x = f a:=by
   intro x hx hg
   obtain ⟨e,he,hf⟩:=e2 ⟨x,hx,hg⟩
   have:=h e (by simp [he]) a (by simp) hf
   rw [← hf]
   exact hE x hx e he (hg.trans this.symm)
  have ih:=Zfu (f:=f) (g:=g) L (E ++ [a]) (by simpa using h) e1 (by
   intro x hx y hy hg
   simp at hx hy
   rcases hx with hx | rfl
   ·rcases hy with hy | rfl
    ·exact hE x hx y hy hg
    ·exact hone x hx hg
   ·rcases hy with hy | rfl
    ·exact (hone y hy hg.symm).symm
    ·rfl)
  simpa using ih
theorem Zli {now:List Int} {nds:List (List UInt8 × List Int)}:∀ (L E:List Nat) (x:List Key × List Int),(∀ k,k ∈ x.1 ↔ ∃ e ∈ E,keyA now nds e = k) →
  (L.foldl (Z54 now nds) x).1.length = x.1.length + news (keyA now nds) E L
 | [],E,x,_ => rfl
 | a :: L,E,x,h => by
  rw [List.foldl_cons,Zli L (E ++ [a]) (Z54 now nds x a)]
  ·show (addK x.1 (keyA now nds a)).length + _ = _
   simp only [news]
   by_cases hm:keyA now nds a ∈ x.1
   ·have h2:=(Zah (f:=keyA now nds) (E:=E) (a:=a)).2 ((h _).1 hm)
    rw [if_pos h2]
    unfold addK
    rw [if_pos hm]
    omega
   ·have h2:¬ E.any (fun e => decide (keyA now nds e = keyA now nds a)) = true:=fun hh => hm ((h _).2 (Zah.1 hh))
    rw [if_neg h2]
    unfold addK
    rw [if_neg hm]
    simp
    omega
  ·intro k
   show k ∈ addK x.1 (keyA now nds a) ↔ _
   unfold addK
   split
   ·rename_i hm
    rw [h]
    constructor
    ·rintro ⟨e,he,hk⟩
     exact ⟨e,by simp [he],hk⟩
    ·rintro ⟨e,he,hk⟩
     simp at he
     rcases he with he | rfl
     ·exact ⟨e,he,hk⟩
     ·obtain ⟨e',he',hk'⟩:=(h _).1 hm
      exact ⟨e',he',hk'.trans hk⟩
   ·simp only [List.mem_append,List.mem_singleton]
    rw [h]
    constructor
    ·rintro (⟨e,he,hk⟩ | rfl)
     ·exact ⟨e,.inl he,hk⟩
     ·exact ⟨a,.inr rfl,rfl⟩
    ·rintro ⟨e,he | rfl,hk⟩
     ·exact .inl ⟨e,he,hk⟩
     ·exact .inr hk.symm
theorem Z5h (nds:List (List UInt8 × List Int)) (L:List Nat) (r:Nat):cntI nds L (r + 1) = news (keyA (nowI nds L r) nds) [] L:=by
 show (Z0t (nowI nds L r) nds L).1.length = _
 unfold Z0t
 rw [Zli L [] _ (by simp)]
 simp
structure Closed (nds:List (List UInt8 × List Int)) (L:List Nat):Prop where
 lt:∀ a ∈ L,a < nds.length
 kids:∀ a ∈ L,∀ x,nds[a]? = some x→x.2.length ≤ 4∧∀ k ∈ x.2,k.toNat ∈ L
def sim (nds:List (List UInt8 × List Int)):Nat→Nat→Nat→Prop
 | 0,_,_ => True
 | r + 1,a,b => ∃ x y,nds[a]? = some x∧nds[b]? = some y∧x.1 = y.1∧x.2.length = y.2.length∧∀ (j:Nat) (k m:Int),x.2[j]? = some k→y.2[j]? = some m→sim nds r k.toNat m.toNat
section
variable {nds:List (List UInt8 × List Int)} {L:List Nat} (hC:Closed nds L)
include hC
theorem Z9x:∀ (r a b:Nat),a ∈ L→b ∈ L→((nowI nds L r)[a]? = (nowI nds L r)[b]? ↔ sim nds r a b)
 | 0,a,b,ha,hb => by simp [nowI,sim,hC.lt a ha,hC.lt b hb]
 | r + 1,a,b,ha,hb => by
  have hna:=hC.lt a ha
  have hnb:=hC.lt b hb
  have hx:nds[a]? = some nds[a]:=List.getElem?_eq_getElem hna
  have hy:nds[b]? = some nds[b]:=List.getElem?_eq_getElem hnb
  obtain ⟨h4,hkx⟩:=hC.kids a ha _ hx
  obtain ⟨h4',hky⟩:=hC.kids b hb _ hy
  show (Z0t (nowI nds L r) nds L).2[a]? = (Z0t (nowI nds L r) nds L).2[b]? ↔ _
  rw [Zem ha hb hna hnb,Zko hx hy h4]
  have hj:∀ (j:Nat) (k m:Int),nds[a].2[j]? = some k→nds[b].2[j]? = some m →
    ((((nds[a].2[j]?).bind fun k => (nowI nds L r)[k.toNat]?).getD 0 = ((nds[b].2[j]?).bind fun k => (nowI nds L r)[k.toNat]?).getD 0) ↔ sim nds r k.toNat m.toNat):=by
   intro j k m hk hm
   have mk:=hkx k (List.mem_of_getElem? hk)
   have mm:=hky m (List.mem_of_getElem? hm)
   rw [hk,hm,← Z9x r _ _ mk mm]
   simp only [Option.bind_some]
   have lx:k.toNat < (nowI nds L r).length:=by rw [Z6s]; exact hC.lt _ mk
   have ly:m.toNat < (nowI nds L r).length:=by rw [Z6s]; exact hC.lt _ mm
   rw [List.getElem?_eq_getElem lx,List.getElem?_eq_getElem ly]
   simp
  constructor
  ·rintro ⟨e1,e2,e3⟩
   refine ⟨_,_,hx,hy,e1,e2,fun j k m hk hm => (hj j k m hk hm).1 (e3 j ?_)⟩
   exact (List.getElem?_eq_some_iff.1 hk).1
  ·rintro ⟨x,y,hx',hy',e1,e2,e3⟩
   rw [hx] at hx'
   rw [hy] at hy'
   cases hx'
   cases hy'
   refine ⟨e1,e2,fun j hj' => ?_⟩
   have gk:nds[a].2[j]? = some nds[a].2[j]:=List.getElem?_eq_getElem hj'
   have gm:nds[b].2[j]? = some (nds[b].2[j]'(by omega)):=List.getElem?_eq_getElem (by omega)
   exact (hj j _ _ gk gm).2 (e3 j _ _ gk gm)
theorem Z68 (r a b:Nat) (ha:a ∈ L) (hb:b ∈ L):keyA (nowI nds L r) nds a = keyA (nowI nds L r) nds b ↔ sim nds (r + 1) a b:=by
 rw [← Z9x hC (r + 1) a b ha hb]
 exact (Zem ha hb (hC.lt a ha) (hC.lt b hb)).symm
theorem Zer {r a b:Nat} (ha:a ∈ L) (hb:b ∈ L) (h:sim nds (r + 1) a b):sim nds r a b :=
 (Z9x hC r a b ha hb).1 (Zfv hC.lt hC.kids r a b ha hb ((Z9x hC (r + 1) a b ha hb).2 h))
theorem Zxf {r m a b:Nat} (ha:a ∈ L) (hb:b ∈ L) (hm:m ≤ r) (h:sim nds r a b):sim nds m a b:=by
 induction r with
 | zero =>
  have:m = 0:=by omega
  subst this
  exact h
 | succ r ih =>
  rcases Nat.lt_or_ge m (r + 1) with h1 | h1
  ·exact ih (by omega) (Zer hC ha hb h)
  ·have:m = r + 1:=by omega
   subst this
   exact h
theorem Zu6 (r:Nat):cntI nds L r ≤ cntI nds L (r + 1):=by
 cases r with
 | zero => exact Nat.zero_le _
 | succ r =>
  rw [Z5h,Z5h]
  refine Zau L [] fun a ha b hb h => ?_
  simp at ha hb
  exact (Z68 hC r a b ha hb).2 (Zer hC ha hb ((Z68 hC (r + 1) a b ha hb).1 h))
theorem Zw7 (r:Nat):cntI nds L r ≤ L.length:=by
 cases r with
 | zero => exact Nat.zero_le _
 | succ r => rw [Z5h]; exact Zqy _ _ _
theorem Zj3:∀ (r:Nat),(∀ m,m < r→cntI nds L (m + 1) ≠ cntI nds L m)→r ≤ cntI nds L r
 | 0,_ => Nat.zero_le _
 | r + 1,h => by
  have h1:=Zj3 r fun m hm => h m (by omega)
  have h2:=Zu6 hC r
  have h3:=h r (by omega)
  omega
theorem Zen:∃ R,cntI nds L (R + 1) = cntI nds L R∧∀ r,r < R→cntI nds L (r + 1) ≠ cntI nds L r:=by
 have hex:∃ R,R ≤ L.length∧cntI nds L (R + 1) = cntI nds L R:=by
  refine Classical.byContradiction fun hn => ?_
  have h1:=Zj3 hC (L.length + 1) fun m hm he => hn ⟨m,by omega,he⟩
  have h2:=Zw7 hC (L.length + 1)
  omega
 obtain ⟨R,_,hR⟩:=hex
 revert hR
 refine Nat.strongRecOn (motive:=fun R => cntI nds L (R + 1) = cntI nds L R→_) R fun n ih hn => ?_
 by_cases h:∃ r,r < n∧cntI nds L (r + 1) = cntI nds L r
 ·obtain ⟨r,hr,he⟩:=h
  exact ih r hr he
 ·exact ⟨n,hn,fun r hr he => h ⟨r,hr,he⟩⟩
theorem Zmc {R:Nat} (hE:cntI nds L (R + 1) = cntI nds L R):∀ (d a b:Nat),a ∈ L→b ∈ L→sim nds R a b→sim nds (R + d) a b
 | 0,a,b,_,_,h => h
 | d + 1,a,b,ha,hb,h => by
  have hone:∀ a b,a ∈ L→b ∈ L→sim nds R a b→sim nds (R + 1) a b:=by
   intro a b ha hb h
   cases R with
   | zero =>
    have h0:cntI nds L (0 + 1) = 0:=hE
    rw [Z5h] at h0
    cases L with
    | nil => cases ha
    | cons c L => simp [news] at h0
   | succ r =>
    rw [Z5h,Z5h] at hE
    have:=Zfu (f:=keyA (nowI nds L (r + 1)) nds) (g:=keyA (nowI nds L r) nds) L [] (by
     intro a ha b hb h
     simp at ha hb
     exact (Z68 hC r a b ha hb).2 (Zer hC ha hb ((Z68 hC (r + 1) a b ha hb).1 h))) hE.symm (by simp) a (by simpa using ha) b (by simpa using hb)
    exact (Z68 hC (r + 1) a b ha hb).1 (this ((Z68 hC r a b ha hb).2 h))
  have h1:=hone a b ha hb h
  obtain ⟨x,y,hx,hy,e1,e2,e3⟩:=h1
  refine ⟨x,y,hx,hy,e1,e2,fun j k m hk hm => ?_⟩
  exact Zmc hE d _ _ ((hC.kids a ha x hx).2 k (List.mem_of_getElem? hk)) ((hC.kids b hb y hy).2 m (List.mem_of_getElem? hm)) (e3 j k m hk hm)
theorem Zh9 {R:Nat} (hE:cntI nds L (R + 1) = cntI nds L R) {a b:Nat} (ha:a ∈ L) (hb:b ∈ L):(nowI nds L (R + 1))[a]? = (nowI nds L (R + 1))[b]? ↔ ∀ r,sim nds r a b:=by
 rw [Z9x hC (R + 1) a b ha hb]
 constructor
 ·intro h r
  have h1:=Zmc hC hE r a b ha hb (Zer hC ha hb h)
  exact Zxf hC ha hb (by omega) h1
 ·intro h
  exact h _
end
theorem Zjh {now:List Int} {nds:List (List UInt8 × List Int)}:∀ (L:List Nat) (x:List Key × List Int) (a:Nat),a ∉ L→(L.foldl (Z54 now nds) x).2[a]? = x.2[a]?
 | [],x,a,_ => rfl
 | b :: L,x,a,h => by
  simp at h
  rw [List.foldl_cons,Zjh L _ a h.2]
  show (x.2.set b _)[a]? = _
  rw [List.getElem?_set_ne (fun e => h.1 e.symm)]
theorem Zfw (nds:List (List UInt8 × List Int)) (L:List Nat) (r a:Nat) (ha:a < nds.length) (h:a ∉ L):(nowI nds L (r + 1))[a]? = some (-1):=by
 show (Z0t (nowI nds L r) nds L).2[a]? = _
 unfold Z0t
 rw [Zjh L _ a h]
 simp [ha]
end Go.Proofs
end
section
open Go Go.AM
namespace Go.Proofs
set_option maxRecDepth 100000
open Classical in
noncomputable def clsF (nds:List (List UInt8 × List Int)) (L:List Nat):List Int:=if h:Closed nds L then nowI nds L (Classical.choose (Zen h) + 1) else []
theorem Z9m {nds:List (List UInt8 × List Int)} {L:List Nat} (h:Closed nds L):∃ R,clsF nds L = nowI nds L (R + 1)∧cntI nds L (R + 1) = cntI nds L R∧∀ r,r < R→cntI nds L (r + 1) ≠ cntI nds L r:=by
 refine ⟨Classical.choose (Zen h),?_,Classical.choose_spec (Zen h)⟩
 unfold clsF
 rw [dif_pos h]
def Z0f (cs:List CV):List (List UInt8 × List Int):=cs.map fun c => if c.taken = true then (c.name,c.kids) else ([],[])
def Z19 (cs:List CV) (i:Nat):List Nat:=(List.range i).filter fun j => Z06 cs (j:Int)
theorem Z16 {cs:List CV} {j:Nat} {c:CV} (h:cs[j]? = some c):Z06 cs (j:Int) = c.taken:=by
 unfold Z06
 simp [h]
theorem Zd3 {cs:List CV} {i:Nat} {c:CV} (h:cs[i]? = some c) (hc:c.taken = true):Z19 cs (i + 1) = Z19 cs i ++ [i]:=by
 unfold Z19
 rw [List.range_succ,List.filter_append]
 simp [Z16 h,hc]
theorem Zhi {cs:List CV} {i:Nat} {c:CV} (h:cs[i]? = some c) (hc:c.taken = false):Z19 cs (i + 1) = Z19 cs i:=by
 unfold Z19
 rw [List.range_succ,List.filter_append]
 simp [Z16 h,hc]
theorem Z5o {cs:List CV} {i a:Nat}:a ∈ Z19 cs i ↔ a < i∧Z06 cs (a:Int) = true:=by
 unfold Z19
 simp
structure HOk (cs:List CV):Prop where
 kids4:∀ c ∈ cs,c.kids.length ≤ 4
 kids:∀ c ∈ cs,c.taken = true→∀ k ∈ c.kids,Z06 cs k = true
theorem Z2g {cs:List CV} {a:Nat} {c:CV} (h:cs[a]? = some c):(Z0f cs)[a]? = some (if c.taken = true then (c.name,c.kids) else ([],[])):=by
 unfold Z0f
 rw [List.getElem?_map,h]
 rfl
theorem Z0u (cs:List CV):(Z0f cs).length = cs.length:=by simp [Z0f]
theorem HOk.closed {cs:List CV} (h:HOk cs):Closed (Z0f cs) (Z19 cs cs.length):=by
 refine ⟨fun a ha => ?_,fun a ha x hx => ?_⟩
 ·rw [Z0u]
  exact (Z5o.1 ha).1
 ·obtain ⟨h1,h2⟩:=Z5o.1 ha
  have hc:cs[a]? = some cs[a]:=List.getElem?_eq_getElem h1
  rw [Z16 hc] at h2
  rw [Z2g hc,if_pos h2] at hx
  cases hx
  refine ⟨h.kids4 _ (List.getElem_mem h1),fun k hk => ?_⟩
  have h3:=h.kids _ (List.getElem_mem h1) h2 k hk
  obtain ⟨h0,d,hd,ht,hlt⟩:=Z20 h3
  rw [Z5o]
  refine ⟨hlt,?_⟩
  rw [Z16 hd]
  exact ht
theorem HOk.Z97 {cs:List CV} (h:HOk cs):∀ (a:Nat) nd,(Z0f cs)[a]? = some nd→nd.2.length ≤ 4∧∀ k ∈ nd.2,0 ≤ k∧k < (Z0f cs).length:=by
 intro a nd hnd
 have h1:a < cs.length:=by have:=(List.getElem?_eq_some_iff.1 hnd).1; rwa [Z0u] at this
 have hc:cs[a]? = some cs[a]:=List.getElem?_eq_getElem h1
 rw [Z2g hc] at hnd
 by_cases ht:cs[a].taken = true
 ·rw [if_pos ht] at hnd
  cases hnd
  refine ⟨h.kids4 _ (List.getElem_mem h1),fun k hk => ?_⟩
  obtain ⟨h0,d,hd,_,hlt⟩:=Z20 (h.kids _ (List.getElem_mem h1) ht k hk)
  rw [Z0u]
  exact ⟨h0,by omega⟩
 ·rw [if_neg ht] at hnd
  cases hnd
  exact ⟨by simp,by simp⟩
def Z52 (cls:List Int) (cs:List CV):List CV:=cs.map fun c => if c.taken = true then { c with kids:=c.kids.map (toC cls) } else c
def addH (x:List CV) (k:Nat) (d:Int):List CV:=match x[k]? with
 | some c => x.set k { c with held:=IntKind.wrap .i64 (c.held + d) }
 | none => x
def Z0q (cls:List Int) (cs:List CV):Nat→List CV
 | 0 => Z52 cls cs
 | i + 1 => match cs[i]? with
  | some c => if c.taken = true∧toC cls (i:Int) ≠ (i:Int) then addH (Z0q cls cs i) (toC cls (i:Int)).toNat c.held else Z0q cls cs i
  | none => Z0q cls cs i
def Z1c (cls:List Int) (cs:List CV) (i:Nat):List Int:=((Z19 cs i).filter fun (j:Nat) => decide (toC cls (j:Int) ≠ (j:Int))).map fun (j:Nat) => (j:Int)
def Z2m:CV:=⟨false,[],[],0⟩
def relC (cs:List CV) (gone:List Int):List CV:=gone.foldl (fun l k => l.set k.toNat Z2m) cs
noncomputable def Zaq (cs:List CV):Int × Int × List CV :=
 if (Z0q (clsF (Z0f cs) (Z19 cs cs.length)) cs cs.length).any (fun c => decide (1000 < c.held)) = true then (0,12,cs)
 else ((Z1c (clsF (Z0f cs) (Z19 cs cs.length)) cs cs.length).length,0,relC (Z0q (clsF (Z0f cs) (Z19 cs cs.length)) cs cs.length) (Z1c (clsF (Z0f cs) (Z19 cs cs.length)) cs cs.length))
theorem Zvz (x:List CV) (k:Nat) (d:Int):(addH x k d).length = x.length:=by
 unfold addH
 split <;> simp
theorem Z2r (cls:List Int) (cs:List CV):∀ i,(Z0q cls cs i).length = cs.length
 | 0 => by simp [Z0q,Z52]
 | i + 1 => by
  unfold Z0q
  split
  ·split
   ·rw [Zvz,Z2r cls cs i]
   ·exact Z2r cls cs i
  ·exact Z2r cls cs i
theorem Zin:∀ (gone:List Int) (cs:List CV),(relC cs gone).length = cs.length
 | [],cs => rfl
 | k :: r,cs => by
  show (relC (cs.set k.toNat Z2m) r).length = _
  rw [Zin r]
  simp
theorem Zp5 {cls:List Int} {i:Nat} {c:Int} (h:cls[i]? = some c):∃ j:Nat,toC cls (i:Int) = j∧j ≤ i∧cls[j]? = some c∧∀ j' d,j' < j→cls[j']? = some d→d ≠ c:=by
 have hex:∃ j,j ≤ i∧cls[j]? = some c∧∀ j' d,j' < j→cls[j']? = some d→d ≠ c:=by
  revert h
  refine Nat.strongRecOn (motive:=fun i => cls[i]? = some c→∃ j,j ≤ i∧cls[j]? = some c∧∀ j' d,j' < j→cls[j']? = some d→d ≠ c) i fun n ih h => ?_
  by_cases hl:∃ j,j < n∧cls[j]? = some c
  ·obtain ⟨j,h1,h2⟩:=hl
   obtain ⟨j',h3,h4⟩:=ih j h1 h2
   exact ⟨j',by omega,h4⟩
  ·exact ⟨n,Nat.le_refl _,h,fun j' d hj hd e => hl ⟨j',hj,by rw [hd,e]⟩⟩
 obtain ⟨j,h1,h2,h3⟩:=hex
 refine ⟨j,?_,h1,h2,h3⟩
 unfold toC
 simp only [Int.toNat_natCast,h]
 exact Zcj (fun j' d hj hd => by simpa using fun e:c = d => h3 j' d hj hd e.symm) h2 (by simp)
theorem Zhd {cls:List Int} {cs:List CV} {i:Nat} {c:CV} (h:cs[i]? = some c) (ht:c.taken = true) (hn:toC cls (i:Int) ≠ (i:Int)):Z1c cls cs (i + 1) = Z1c cls cs i ++ [(i:Int)]:=by
 unfold Z1c
 rw [Zd3 h ht,List.filter_append]
 simp [hn]
theorem Zhf {cls:List Int} {cs:List CV} {i:Nat} {c:CV} (h:cs[i]? = some c) (ht:c.taken = true) (hn:toC cls (i:Int) = (i:Int)):Z1c cls cs (i + 1) = Z1c cls cs i:=by
 unfold Z1c
 rw [Zd3 h ht,List.filter_append]
 simp [hn]
theorem Zhe {cls:List Int} {cs:List CV} {i:Nat} {c:CV} (h:cs[i]? = some c) (ht:c.taken = false):Z1c cls cs (i + 1) = Z1c cls cs i:=by
 unfold Z1c
 rw [Zhi h ht]
theorem Z96 {cls:List Int} {cs:List CV} {i:Nat} {k:Int}:k ∈ Z1c cls cs i ↔ 0 ≤ k∧k < i∧Z06 cs k = true∧toC cls k ≠ k:=by
 unfold Z1c
 simp only [List.mem_map,List.mem_filter,Z5o,decide_eq_true_eq]
 constructor
 ·rintro ⟨j,⟨⟨h1,h2⟩,h3⟩,rfl⟩
  exact ⟨by omega,by omega,h2,h3⟩
 ·rintro ⟨h0,h1,h2,h3⟩
  have e:((k.toNat:Nat):Int) = k:=by omega
  exact ⟨k.toNat,⟨⟨by omega,by rw [e]; exact h2⟩,by rw [e]; exact h3⟩,e⟩
theorem Zjj (cls:List Int) (cs:List CV) (i:Nat):(Z1c cls cs i).length ≤ i:=by
 unfold Z1c Z19
 rw [List.length_map]
 refine Nat.le_trans (List.length_filter_le _ _) (Nat.le_trans (List.length_filter_le _ _) (by simp))
theorem Zkt {cs:List CV} {V:List AVal} (h:V.length = cs.length):Zbf (rcs cs V) (Z11 cs) = Z0f cs:=by
 refine List.ext_getElem? fun j => ?_
 by_cases hj:j < cs.length
 ·have h1:cs[j]? = some cs[j]:=List.getElem?_eq_getElem hj
  have h2:V[j]? = some (V[j]'(by omega)):=List.getElem?_eq_getElem (by omega)
  rw [Z2g h1]
  unfold Zbf Z11
  simp [Z26 h1 h2,h1]
 ·rw [List.getElem?_eq_none (by simp [Zbf,Z2c h]; omega),List.getElem?_eq_none (by rw [Z0u]; omega)]
theorem Zl5 {cs:List CV} {V:List AVal} (h:V.length = cs.length) (i:Nat):takI (rcs cs V) i = Z19 cs i:=by
 unfold takI Z19
 refine List.filter_congr fun j _ => ?_
 by_cases hj:j < cs.length
 ·have h1:cs[j]? = some cs[j]:=List.getElem?_eq_getElem hj
  have h2:V[j]? = some (V[j]'(by omega)):=List.getElem?_eq_getElem (by omega)
  rw [Z26 h1 h2,Z16 h1]
 ·have h1:cs[j]? = none:=List.getElem?_eq_none (by omega)
  have h2:(rcs cs V)[j]? = none:=List.getElem?_eq_none (by rw [Z2c h]; omega)
  rw [h2]
  unfold Z06
  simp [h1]
theorem Zxb (cls:List Int) (cs:List CV) (V:List AVal):rcs (Z52 cls cs) V = rcs cs V:=by
 unfold rcs Z52
 rw [List.zipWith_map_left]
 congr 1
 funext d kv
 split <;> rfl
theorem Zqh:∀ {cs:List CV} {V:List AVal},V.length = cs.length→(rcs cs V).any (fun c => decide (1000 < c.held)) = cs.any (fun c => decide (1000 < c.held))
 | [],V,_ => by simp [rcs]
 | c :: cs,[],h => by simp at h
 | c :: cs,v :: V,h => by
  have:=Zqh (cs:=cs) (V:=V) (by simpa using h)
  simp [rcs] at this ⊢
  rw [this]
theorem Zfi:∀ (l:List RC) (i:Nat) (c:RC) (d:Int),l[i]? = some c→lay (encs l) (i * 4 + 3) [.int .i64 d] = encs (l.set i { c with held:=d })
 | [],i,c,d,h => by simp at h
 | e :: l,0,c,d,h => by
  simp at h
  subst h
  have e1:encs (e :: l) = e.enc ++ encs l:=rfl
  have e2:encs ((e :: l).set 0 { e with held:=d }) = (RC.enc { e with held:=d }) ++ encs l:=rfl
  rw [e1,e2]
  simp [lay,RC.enc]
 | e :: l,i + 1,c,d,h => by
  have e1:encs (e :: l) = e.enc ++ encs l:=rfl
  have e2:encs ((e :: l).set (i + 1) { c with held:=d }) = e.enc ++ encs (l.set i { c with held:=d }):=rfl
  have ih:=Zfi l i c d (by simpa using h)
  have hd:e.enc.length = 4:=rfl
  have e3:(i + 1) * 4 + 3 = e.enc.length + (i * 4 + 3):=by rw [hd]; omega
  rw [e1,e2,← ih]
  unfold lay
  rw [e3,List.take_length_add_append,Nat.add_assoc,List.drop_length_add_append]
  simp
theorem Zxa {cs:List CV} {V:List AVal} {k:Nat} {c:CV} {kv:AVal} (hc:cs[k]? = some c) (hv:V[k]? = some kv) (d:Int):(rcs cs V).set k { taken:=c.taken,name:=c.name,kv:=kv,held:=IntKind.wrap .i64 (c.held + d) } = rcs (addH cs k d) V:=by
 unfold addH
 rw [hc]
 simp only
 have hV:V.set k kv = V:=by
  refine List.ext_getElem? fun x => ?_
  rw [List.getElem?_set]
  by_cases e:k = x
  ·subst e
   rw [if_pos rfl,hv,if_pos (List.getElem?_eq_some_iff.1 hv).1]
  ·rw [if_neg e]
 have:=Z8x (cs:=cs) (V:=V) (i:=k) (d:={ c with held:=IntKind.wrap .i64 (c.held + d) }) (kv:=kv)
 rw [hV] at this
 exact this
theorem Zql {cs:List CV} {V:List AVal} {kvs:Nat→AVal} (h:V.length = cs.length):cpI (rcs cs V) kvs cs.length = rcs cs ((List.range cs.length).map kvs):=by
 refine List.ext_getElem? fun j => ?_
 by_cases hj:j < cs.length
 ·have h1:cs[j]? = some cs[j]:=List.getElem?_eq_getElem hj
  have h2:V[j]? = some (V[j]'(by omega)):=List.getElem?_eq_getElem (by omega)
  have h3:((List.range cs.length).map kvs)[j]? = some (kvs j):=by rw [List.getElem?_map,List.getElem?_range hj]; rfl
  rw [Zdf (Z26 h1 h2),Z26 h1 h3]
  simp [hj]
 ·rw [List.getElem?_eq_none (by rw [Z9o,Z2c h]; omega),List.getElem?_eq_none (by rw [Z2c (by simp)]; omega)]
theorem Zot:∀ (gone:List Int) {cs:List CV} {V:List AVal} {m:Lets},V.length = cs.length→Z12 (cs.map CV.kids) V m→(∀ k ∈ gone,0 ≤ k∧k < cs.length) →
  ∃ V' m' d,rel (rcs cs V) gone = rcs (relC cs gone) V'∧Z12 ((relC cs gone).map CV.kids) V' m'∧m.Perm (m' ++ d)
 | [],cs,V,m,_,h,_ => ⟨V,m,[],rfl,h,by simp⟩
 | k :: gone,cs,V,m,hV,h,hin => by
  obtain ⟨h0,h1⟩:=hin k (by simp)
  have hlt:k.toNat < cs.length:=by omega
  obtain ⟨kv,m1,m2,g1,g2,g3,g4⟩:=h.at (i:=k.toNat) (ks:=cs[k.toNat].kids) (by rw [List.getElem?_map,List.getElem?_eq_getElem hlt]; rfl)
  have h2:=g4 [] .nilSlice [] (.inl ⟨rfl,rfl,rfl⟩)
  have h3:(cs.map CV.kids).set k.toNat [] = (cs.set k.toNat Z2m).map CV.kids:=by rw [List.map_set]; rfl
  rw [h3] at h2
  obtain ⟨V',m',d,e1,e2,e3⟩:=Zot gone (cs:=cs.set k.toNat Z2m) (V:=V.set k.toNat .nilSlice) (by simpa using hV) h2 (fun k' hk' => by simpa using hin k' (by simp [hk']))
  refine ⟨V',m',d ++ m1,?_,e2,?_⟩
  ·rw [← show rcs (relC (cs.set k.toNat Z2m) gone) V' = rcs (relC cs (k :: gone)) V' from rfl,← e1]
   show rel ((rcs cs V).set k.toNat Zgo) gone = _
   have:=Z8x (cs:=cs) (V:=V) (i:=k.toNat) (d:=Z2m) (kv:=.nilSlice)
   rw [← this]
   rfl
  ·refine g3.trans ?_
   refine (List.perm_append_comm (l₁:=m1) (l₂:=m2)).trans ?_
   rw [← List.append_assoc]
   exact (by simpa using e3:m2.Perm (m' ++ d)).append (List.Perm.refl m1)
theorem KidV.ints {s:St} {kv:AVal} {ks:List Int} (h:KidV s kv ks) (hw:s.Wf):Z0g s kv ks:=by
 rcases h with h | ⟨q,c,rfl,h⟩
 ·exact .inl h
 ·exact .inr ⟨q,0,c,_,rfl,Z0b hw h,Z0a h,by simp,fun i k hk => by simp [hk]⟩
theorem Z4f {s:St} {b:Pos} {ks:List Int} (hw:s.Wf) (h:s.own b = some (ints ks)) (c:Cap):Z0g s (.slice b 0 ks.length c) ks:=KidV.ints (.inr ⟨b,c,rfl,h⟩) hw
def Z1t (lv:AVal) (g:List Int) (m:Lets):Prop:=(g = []∧lv = .nilSlice∧m = []) ∨ ∃ q,g ≠ []∧lv = .slice q 0 g.length (.opn 1)∧m = [(q,C (ints g))]
theorem Z1t.len {lv:AVal} {g:List Int} {m:Lets} (h:Z1t lv g m):Z1q lv = some g.length:=by
 rcases h with ⟨rfl,rfl,_⟩ | ⟨q,_,rfl,_⟩ <;> rfl
theorem Z1t.ntup {lv:AVal} {g:List Int} {m:Lets} (h:Z1t lv g m):∀ t,¬ lv = .tup t:=by
 rintro t rfl
 have:=h.len
 cases this
theorem Z1t.cells {lv:AVal} {g:List Int} {m:Lets} (h:Z1t lv g m):lv.cells = [lv]:=by
 rcases h with ⟨rfl,rfl,_⟩ | ⟨q,_,rfl,_⟩ <;> rfl
theorem Z1t.row {lv:AVal} {g:List Int} {m:Lets} (h:Z1t lv g m):RowR lv g m:=by
 rcases h with ⟨h1,rfl,h2⟩ | ⟨q,h1,h2,h3⟩
 ·exact .inl ⟨h1,rfl,h2⟩
 ·exact .inr ⟨q,_,h1,h2,h3⟩
theorem RowR.kid {s:St} {kv:AVal} {ks:List Int} {m:Lets} (h:RowR kv ks m) (ho:∀ x ∈ m,s.obj x.1 = some x.2):KidV s kv ks:=by
 rcases h with ⟨h1,h2,h3⟩ | ⟨q,c,h1,h2,rfl⟩
 ·exact .inl ⟨h2,h1⟩
 ·exact .inr ⟨q,c,h2,Z0y (ho (q,C (ints ks)) (by simp))⟩
section
variable {s0 s:St} {W:Pos→Prop} {m r:Lets}
theorem Ctx.chg0 {b:Pos} {x y:AObj} (h:Ctx s0 W ((b,x) :: m) s) {s':St} (k:Same [b] s s') (hy:s'.obj b = some y):Ctx s0 W ((b,y) :: m) s':=by
 have hn:=h.nodup
 rw [List.map_cons,List.nodup_cons] at hn
 refine (h.tail.same k ?_ ?_).add hy (h.free (b,x) (by simp)) hn.1
 ·intro c hc ho
  simp at hc
  subst hc
  exact h.free (c,x) (by simp) ho
 ·intro z hz hb
  simp at hb
  exact hn.1 (List.mem_map.2 ⟨z,hz,hb⟩)
theorem Ctx.chg {b:Pos} {x y:AObj} (h:Ctx s0 W m s) (i:Nat) (hi:m[i]? = some (b,x)) {s':St} (k:Same [b] s s') (hy:s'.obj b = some y):Ctx s0 W (m.set i (b,y)) s' :=
 ((h.perm (Z8f m i _ hi)).chg0 k hy).perm (set_perm m i _ _ hi)
theorem Z65 {pre mg:Lets} {lv:AVal} {g:List Int} {x:Int} {Q:AVal→St→Prop} (h:Ctx s0 W (pre ++ (mg ++ r)) s) (hg:Z1t lv g mg) (hs:g.length ≤ 1000)
  (q:∀ lv' mg' s',Z1t lv' (g ++ [x]) mg'→Ctx s0 W (pre ++ (mg' ++ r)) s'→Q lv' s'):appP (1,8) lv [.int .i64 x] 1 s Q:=by
 rcases hg with ⟨rfl,rfl,rfl⟩ | ⟨b,hne,rfl,rfl⟩
 ·simp only [appP,Z5l]
  rw [if_neg (by decide)]
  refine ⟨by unfold Z0l; omega,?_⟩
  have:=h.alloc (C [.int .i64 x])
  refine q (.slice s.next 0 1 (.opn 1)) [(s.next,C (ints [x]))] _ (.inr ⟨_,by simp,rfl,rfl⟩) (this.perm ?_)
  simp only [List.nil_append]
  exact List.perm_middle.symm
 ·have hb:s.own b = some (ints g):=Z0y (h.own (b,C (ints g)) (by simp))
  have hl:g.length ≠ 0:=by simpa using hne
  have h1:Ctx s0 W ((b,C (ints g)) :: (pre ++ r)) s:=h.perm (by simp)
  have h2:=(h1.put0 .dead).tail.alloc (C (ints g ++ [.int .i64 x]))
  simp only [appP,Z5l]
  rw [if_neg (by decide)]
  refine ⟨trivial,?_⟩
  rw [hb]
  simp only [Z17]
  rw [if_neg hl,if_neg (by simp)]
  refine ⟨by simp,by unfold Z0l; omega,?_⟩
  have ht:List.take (g.length * 1) (List.drop 0 (ints g)) = ints g:=by rw [List.drop_zero]; exact List.take_of_length_le (by simp)
  rw [ht]
  have hi:ints g ++ [AVal.int .i64 x] = ints (g ++ [x]):=by simp [ints]
  rw [hi] at h2 ⊢
  have hn:(s.put b .dead).next = s.next:=rfl
  refine q (.slice s.next 0 (g.length + 1) (.opn 1)) [(s.next,C (ints (g ++ [x])))] _ (.inr ⟨_,by simp,by simp,rfl⟩) (h2.perm ?_)
  rw [hn]
  exact List.perm_middle.symm
theorem Zmm {fr:FI} {t:PT AVal} {Q:Ex→PT AVal→St→Prop} {f:RO} {k k':Nat} {b:MCode} {fi:FInfo} {p B:Pos} {l:List RC} {n:Nat} {m0:Lets} (J:Nat→Lets→Prop) (hn:l.length = n) (hl:n ≤ 400)
  (hx:getO t [] f = some (.fn 87 [] [.ptr B 0])) (hr:fr.round = none) (hfi:funInfo Tryd.prog fr.fn = some fi) (hpl:Z6l fi.ps fi.ntmps [k] = some [some (posOf k)])
  (hp:∀ i m s',J i m→Ctx s0 W m s'→s'.Old p∧s'.cells p = some (encs l))
  (hskip:∀ i c m,l[i]? = some c→c.taken = false→J i m→J (i + 1) m)
  (hbody:∀ (i:Nat) c s1 m Lb X (Wx:Ex→PT AVal→St→Prop),l[i]? = some c→c.taken = true→J i m→Ctx s0 W ((Lb,X) :: (B,C [.slice p 0 n (.lim n)]) :: m) s1 →
   (∀ t s2 m',J (i + 1) m'→Ctx s0 W ((Lb,X) :: (B,C [.slice p 0 n (.lim n)]) :: m') s2→Wx .normal t s2) →
   wp Tryd.prog b { fn:=fr.fn,ntmps:=fi.ntmps,ps:=fi.ps,round:=some Lb } (PT.set (posOf k') (.int .i64 i) (PT.set (posOf k) (.int .i64 i) t)) s1 Wx)
  (h0:J 0 m0) (hc:Ctx s0 W ((B,C [.slice p 0 n (.lim n)]) :: m0) s) (q:∀ s' m,J n m→Ctx s0 W m s'→Q .normal t s') :
  wp Tryd.prog (.range f [k] (.region [.run none (.move (.per (posOf k)))] [some (posOf k')]) b) fr t s Q:=by
 subst hn
 refine AM.Zix hx (fun l0 e => by rw [hr] at e; cases e) ?_
 have c0:=hc.alloc (.loop { state:=.ready,pending:=none,fn:=fr.fn,tm:=t,params:=[k],assign:=.region [.run none (.move (.per (posOf k)))] [some (posOf k')],body:=b })
 generalize s.alloc (.loop { state:=.ready,pending:=none,fn:=fr.fn,tm:=t,params:=[k],assign:=.region [.run none (.move (.per (posOf k)))] [some (posOf k')],body:=b }) = sA at c0 ⊢
 generalize s.next = Lb at c0 ⊢
 refine Zk8 (p:=p) (I:=fun i s' => ∃ m,J i m∧Ctx s0 W ((Lb,.loop { state:=.ready,pending:=none,fn:=fr.fn,tm:=t,params:=[k],assign:=.region [.run none (.move (.per (posOf k)))] [some (posOf k')],body:=b }) :: (B,C [.slice p 0 l.length (.lim l.length)]) :: m) s') hl (by simp) ?_ ?_ ?_ ?_ ⟨m0,h0,c0⟩ ?_
 ·rintro i s' ⟨m,hj,hc⟩
  obtain ⟨a,b⟩:=hp i m s' hj hc.tail.tail
  exact ⟨hc.wf,a,hc.oi 1 rfl,b,hc.c 1 rfl⟩
 ·rintro i s' s'' ⟨m,hj,hc⟩ hk
  exact ⟨m,hj,hc.keeps hk⟩
 ·rintro i c s' hci hct ⟨m,hj,hc⟩
  exact ⟨m,hskip i c m hci hct hj,hc⟩
 ·rintro i c s' R hci hct ⟨m,hj,hc⟩ hR
  refine Zda (pl:=[some (posOf k)]) (tree:=PT.set (posOf k) (.int .i64 i) t) (hc.x 0 rfl) hfi hpl rfl rfl ?_
  refine AM.wp_region ?_
  simp
  refine ⟨_,hc.x 0 rfl,rfl,?_⟩
  refine hbody i c _ m Lb _ _ hci hct hj (hc.put 0 rfl _) fun t2 s2 m' hj' hc' => ?_
  refine ⟨_,hc'.x 0 rfl,?_⟩
  exact hR _ ⟨m',hj',hc'.put 0 rfl _⟩
 ·rintro s2 ⟨m,hj,hc⟩
  refine ⟨_,hc.x 0 rfl,rfl,?_⟩
  exact q _ m hj (hc.put 0 rfl _).tail.tail
end
theorem Zkk {s:St} {p:Pos} {l:List RC} {n:Nat} {K:Nat→List Int} {Q:AVal→St→Prop} (hn:l.length = n) (hw:s.Wf) (hp:s.Old p) (hc:s.cells p = some (encs l)) (hl:n ≤ 400) (hK:∀ j c,l[j]? = some c→Z0g s c.kv (K j))
  (q:∀ pn lv s',Keeps s s'→NodesG s' pn (Zbf l K)→Z0g s' lv ((takI l n).map fun (a:Nat) => (a:Int))→Q (.tup [.slice pn 0 n (.lim n),lv]) s'):Z0e Tryd.prog 50 [.agg [.slice p 0 n (.lim n)]] s Q:=by
 subst hn
 exact Zwj hw hp hc hl hK q
theorem Zcf {s:St} {p:Pos} {nds:List (List UInt8 × List Int)} {n:Nat} {c0:Cap} {Lv:AVal} {L:List Nat} {Q:AVal→St→Prop}
  (hnl:nds.length = n) (hw:s.Wf) (hN:NodesG s p nds) (hn:n ≤ 1000) (hL:Z0g s Lv (L.map fun (a:Nat) => (a:Int))) (hLl:L.length ≤ 1000) (hC:Closed nds L)
  (hkids:∀ (a:Nat) nd,nds[a]? = some nd→nd.2.length ≤ 4∧∀ k ∈ nd.2,0 ≤ k∧k < nds.length)
  (q:∀ Bx s',Keeps s s'→¬ s.Old Bx→s'.own Bx = some (ints (clsF nds L))→Q (.slice Bx 0 n (.lim n)) s'):Z0e Tryd.prog 49 [.slice p 0 n c0,Lv] s Q:=by
 subst hnl
 obtain ⟨R,h1,h2,h3⟩:=Z9m hC
 rw [h1] at q
 exact Zro hw hN hn hL hC.lt hLl hkids h3 h2 q
theorem Z9n {nds:List (List UInt8 × List Int)} {L:List Nat} (h:Closed nds L):(clsF nds L).length = nds.length:=by
 obtain ⟨R,h1,_⟩:=Z9m h
 rw [h1,Z6s]
theorem own_w {s:St} {p:Pos} {l:List RC} {n:Nat} {K:Nat→List Int} {Q:AVal→St→Prop} (hn:l.length = n) (hw:s.Wf) (hp:s.Old p) (hc:s.cells p = some (encs l)) (h1:1 ≤ n) (hl:n ≤ 400) (hK:∀ j c,l[j]? = some c→Z0g s c.kv (K j)∧(K j).length ≤ 1000)
  (q:∀ pn kvs s',Keeps s s'→¬ s.Old pn→s'.own pn = some (encs (cpI l kvs n))→OwnK s s' pn K kvs n→Q (.agg [.slice pn 0 n (.lim n)]) s'):Z0e Tryd.prog 51 [.agg [.slice p 0 n (.lim n)]] s Q:=by
 subst hn
 exact own_wp hw hp hc h1 hl hK q
theorem moves_w {s:St} {p Bc:Pos} {l:List RC} {n:Nat} {K:Nat→List Int} {cv:AVal} {cls:List Int} {qs:List Pos} {Q:AVal→St→Prop} (hn:l.length = n) (hw:s.Wf) (hp:s.Old p) (hc:s.cells p = some (encs l)) (hl:n ≤ 400) (hcl:cls.length ≤ 1000)
  (hK:∀ j c,l[j]? = some c→KidV s c.kv (K j)∧(K j).length ≤ 1000∧(c.taken = true→∀ k ∈ K j,0 ≤ k∧k < cls.length))
  (hqs:∀ j c q cp,l[j]? = some c→c.kv = .slice q 0 (K j).length cp→K j ≠ []→q ∈ qs) (hpq:p ∉ qs) (hqo:∀ q ∈ qs,s.Old q)
  (hsep:∀ j j' c c' q cp cp',l[j]? = some c→l[j']? = some c'→c.kv = .slice q 0 (K j).length cp→c'.kv = .slice q 0 (K j').length cp'→K j ≠ []→K j' ≠ []→j = j')
  (hcv:∀ s',Same qs s s'→s'.cells Bc = some [cv]∧Z0g s' cv cls)
  (q:∀ s',Same qs s s'→(∀ j c,l[j]? = some c→KidV s' c.kv (if c.taken = true then (K j).map (toC cls) else K j))→Q (.tup []) s') :
  Z0e Tryd.prog 54 [.agg [.fn 52 [] [.ptr Bc 0]],.agg [.slice p 0 n (.lim n)]] s Q:=by
 subst hn
 exact Zwt hw hp hc hl hcl hK hqs hpq hqo hsep hcv q
theorem over_w {s:St} {p:Pos} {l:List RC} {n:Nat} {Q:AVal→St→Prop} (hn:l.length = n) (hp:s.Old p) (hc:s.cells p = some (encs l)) (hl:n ≤ 400)
  (q:∀ s',Keeps s s'→Q (.bool (l.any fun c => decide (1000 < c.held))) s'):Z0e Tryd.prog 56 [.slice p 0 n (.lim n),.fn 57 [] []] s Q:=by
 subst hn
 exact over_wp hp hc hl q
theorem Zve {s:St} {p:Pos} {l:List RC} {n:Nat} {v:AVal} {gone:List Int} {Q:AVal→St→Prop} (hn:l.length = n) (hw:s.Wf) (hp:s.own p = some (encs l)) (hmax:gone.length ≤ 1000) (hin:∀ k ∈ gone,0 ≤ k∧k < n)
  (hv:∀ s',Same [p] s s'→Z0g s' v gone) (q:∀ s',Same [p] s s'→s'.own p = some (encs (rel l gone))→Q (.tup []) s'):Z0e Tryd.prog 58 [.agg [.slice p 0 n (.lim n)],v] s Q:=by
 subst hn
 exact Zsu hw hp hmax (by simpa using hin) hv q
theorem Z1v {cs:List CV} {j:Nat} {d:CV} (h:cs[j]? = some d):Z11 cs j = d.kids:=by unfold Z11; rw [h]
theorem Z9s {cs:List CV} {j:Nat} {ks:List Int} (h:(cs.map CV.kids)[j]? = some ks):j < cs.length∧Z11 cs j = ks:=by
 rw [List.getElem?_map] at h
 cases hd:cs[j]? with
 | none => rw [hd] at h; cases h
 | some d =>
  rw [hd] at h
  cases h
  exact ⟨(List.getElem?_eq_some_iff.1 hd).1,Z1v hd⟩
theorem Zdj {cs:List CV} {j:Nat} (h:j < cs.length):(cs.map CV.kids)[j]? = some (Z11 cs j):=by
 rw [List.getElem?_map,List.getElem?_eq_getElem h,Z1v (List.getElem?_eq_getElem h)]
 rfl
theorem Zct {α:Type} {n j:Nat} {f:Nat→α} (h:j < n):((List.range n).map f)[j]? = some (f j):=by
 rw [List.getElem?_map,List.getElem?_range h]
 rfl
theorem Zoi {s0 s:St} {pn:Pos} {cs:List CV} {kvs:Nat→AVal} (h:OwnK s0 s pn (Z11 cs) kvs cs.length) :
  ∃ m,Z12 (cs.map CV.kids) ((List.range cs.length).map kvs) m∧(∀ x ∈ m,s.obj x.1 = some x.2)∧(m.map (·.1)).Nodup∧∀ x ∈ m,¬ s0.Old x.1∧x.1 ≠ pn:=by
 obtain ⟨m,h1,h2,h3,h4⟩:=Zl1 (s:=s) (cs.map CV.kids) ((List.range cs.length).map kvs) (by simp) (fun i ks kv hk hv => by
  obtain ⟨hi,e⟩:=Z9s hk
  rw [Zct hi] at hv
  cases hv
  rw [← e]
  exact h.kid i hi) (fun i j ks ks' q c c' hk hk' hn hn' hv hv' => by
  obtain ⟨hi,e⟩:=Z9s hk
  obtain ⟨hj,e'⟩:=Z9s hk'
  rw [Zct hi] at hv
  rw [Zct hj] at hv'
  rw [← e] at hv hn
  rw [← e'] at hv' hn'
  exact h.sep i j q c c' hi hj hn hn' (Option.some.inj hv) (Option.some.inj hv'))
 refine ⟨m,h1,h2,h3,fun x hx => ?_⟩
 obtain ⟨i,ks,c,e1,e2,e3⟩:=h4 x hx
 obtain ⟨hi,e⟩:=Z9s e1
 rw [Zct hi] at e3
 rw [← e] at e2 e3
 exact h.fresh i x.1 c hi (Option.some.inj e3) e2
theorem Z12.sep:∀ {K:List (List Int)} {V:List AVal} {m:Lets},Z12 K V m→(m.map (·.1)).Nodup→∀ {i j:Nat} {ks ks':List Int} {q:Pos} {c c':Cap},K[i]? = some ks→K[j]? = some ks'→ks ≠ []→ks' ≠ [] →
  V[i]? = some (AVal.slice q 0 ks.length c)→V[j]? = some (AVal.slice q 0 ks'.length c')→i = j
 | [],_,_,_,_,i,_,_,_,_,_,_,h,_,_,_,_,_ => by simp at h
 | _ :: _,[],_,h,_,_,_,_,_,_,_,_,_,_,_,_,_,_ => h.elim
 | k :: K,v :: V,m,⟨m1,m2,h1,h2,h3⟩,hn,i,j,ks,ks',q,c,c',hi,hj,hne,hne',vi,vj => by
  have hn2:((m1 ++ m2).map (·.1)).Nodup:=((h1.map (·.1)).nodup_iff).1 hn
  rw [List.map_append,List.nodup_append] at hn2
  have key:∀ (x:Nat) (ks:List Int) (c:Cap),K[x]? = some ks→ks ≠ []→V[x]? = some (AVal.slice q 0 ks.length c)→q ∈ m2.map (·.1):=by
   intro x ks c hx hne vx
   obtain ⟨kv,g1,g2⟩:=h3.each hx
   rw [vx] at g1
   cases g1
   rcases g2 with ⟨e,_⟩ | ⟨q',c',_,e,e3⟩
   ·exact (hne e).elim
   ·cases e
    exact List.mem_map.2 ⟨_,e3,rfl⟩
  have key0:∀ (ks:List Int) (c:Cap),k = ks→ks ≠ []→v = AVal.slice q 0 ks.length c→q ∈ m1.map (·.1):=by
   intro ks c hx hne vx
   subst hx vx
   rcases h2 with ⟨e,_⟩ | ⟨q',c',_,e,rfl⟩
   ·exact (hne e).elim
   ·cases e
    simp
  match i,j with
  | 0,0 => rfl
  | 0,j + 1 =>
   exact (hn2.2.2 q (key0 ks c (by simpa using hi) hne (by simpa using vi)) q (key j ks' c' (by simpa using hj) hne' (by simpa using vj)) rfl).elim
  | i + 1,0 =>
   exact (hn2.2.2 q (key0 ks' c' (by simpa using hj) hne' (by simpa using vj)) q (key i ks c (by simpa using hi) hne (by simpa using vi)) rfl).elim
  | i + 1,j + 1 =>
   have:=Z12.sep h3 hn2.2.1 (i:=i) (j:=j) (by simpa using hi) (by simpa using hj) hne hne' (by simpa using vi) (by simpa using vj)
   omega
theorem Ctx.lose {s0 s s':St} {W:Pos→Prop} {m r:Lets} (h:Ctx s0 W (m ++ r) s) (k:Same (m.map (·.1)) s s'):Ctx s0 W r s':=by
 have hn:=h.nodup
 rw [List.map_append,List.nodup_append] at hn
 refine (h.sub (List.sublist_append_right _ _)).same k ?_ ?_
 ·intro b hb ho
  obtain ⟨x,hx,rfl⟩:=List.mem_map.1 hb
  exact h.free x (List.mem_append_left _ hx) ho
 ·intro x hx hb
  exact hn.2.2 _ hb _ (List.mem_map.2 ⟨x,hx,rfl⟩) rfl
theorem Zfs (cls:List Int) (cs:List CV):(Z52 cls cs).length = cs.length:=by simp [Z52]
theorem Zlt {cls:List Int} {cs:List CV} {i:Nat} {c:CV} (h:cs[i]? = some c):(Z52 cls cs)[i]? = some (if c.taken = true then { c with kids:=c.kids.map (toC cls) } else c):=by simp [Z52,h]
theorem moves_c {s0 s:St} {W:Pos→Prop} {pn B4 Bx:Pos} {cs:List CV} {V:List AVal} {cls:List Int} {mk r:Lets} {cp:Cap} {Q:AVal→St→Prop} (h:Ctx s0 W (mk ++ r) s) (hR:Z12 (cs.map CV.kids) V mk) (hO:HOk cs) (hcl:cls.length = cs.length) (h4:cs.length ≤ 400)
  (hpn:(pn,C (encs (rcs cs V))) ∈ r) (hB4:(B4,C [.slice Bx 0 cs.length cp]) ∈ r) (hBx:(Bx,C (ints cls)) ∈ r)
  (q:∀ mk' s',Z12 ((Z52 cls cs).map CV.kids) V mk'→Ctx s0 W (mk' ++ r) s'→Q (.tup []) s') :
  Z0e Tryd.prog 54 [.agg [.fn 52 [] [.ptr B4 0]],.agg [.slice pn 0 cs.length (.lim cs.length)]] s Q:=by
 have hV:V.length = cs.length:=by simpa using hR.len
 have hl:=Z2c hV
 have hn:=h.nodup
 rw [List.map_append,List.nodup_append] at hn
 have hget:∀ j c,(rcs cs V)[j]? = some c→∃ (hj:j < cs.length),V[j]? = some c.kv∧c.taken = cs[j].taken∧c = ⟨cs[j].taken,cs[j].name,c.kv,cs[j].held⟩:=by
  intro j c hc
  have hlt:j < cs.length:=by have:=(List.getElem?_eq_some_iff.1 hc).1; rwa [hl] at this
  have hv:V[j]? = some (V[j]'(by omega)):=List.getElem?_eq_getElem (by omega)
  rw [Z26 (List.getElem?_eq_getElem hlt) hv] at hc
  cases hc
  exact ⟨hlt,hv,rfl,rfl⟩
 have hrow:∀ j c,(rcs cs V)[j]? = some c→(Z11 cs j = []∧Z1q c.kv = some 0) ∨ ∃ q cp,Z11 cs j ≠ []∧c.kv = .slice q 0 (Z11 cs j).length cp∧(q,C (ints (Z11 cs j))) ∈ mk:=by
  intro j c hc
  obtain ⟨hj,hv,_⟩:=hget j c hc
  obtain ⟨kv,g1,g2⟩:=hR.each (Zdj hj)
  rw [hv] at g1
  cases g1
  exact g2
 refine moves_w (K:=Z11 cs) (cls:=cls) (cv:=.slice Bx 0 cs.length cp) (qs:=mk.map (·.1)) hl h.wf (h.ob (List.mem_append_right _ hpn)) (Z0a (Z0y (h.own _ (List.mem_append_right _ hpn)))) h4 (by omega) ?_ ?_ ?_ ?_ ?_ ?_ ?_
 ·intro j c hc
  obtain ⟨hj,hv,ht,_⟩:=hget j c hc
  have hko:=Z1v (List.getElem?_eq_getElem hj)
  refine ⟨?_,?_,?_⟩
  ·rcases hrow j c hc with ⟨e1,e2⟩ | ⟨q,cp,e1,e2,e3⟩
   ·exact .inl ⟨e2,e1⟩
   ·exact .inr ⟨q,cp,e2,Z0y (h.own _ (List.mem_append_left _ e3))⟩
  ·rw [hko]
   have:=hO.kids4 _ (List.getElem_mem hj)
   omega
  ·intro hct k hk
   rw [hko] at hk
   obtain ⟨h0,d,_,_,hlt⟩:=Z20 (hO.kids _ (List.getElem_mem hj) (ht ▸ hct) k hk)
   exact ⟨h0,by omega⟩
 ·intro j c q cp hc hkv hne
  rcases hrow j c hc with ⟨e1,e2⟩ | ⟨q',cp',e1,e2,e3⟩
  ·exact (hne e1).elim
  ·rw [hkv] at e2
   cases e2
   exact List.mem_map.2 ⟨_,e3,rfl⟩
 ·exact fun hm => hn.2.2 _ hm _ (List.mem_map.2 ⟨_,hpn,rfl⟩) rfl
 ·intro q hq
  obtain ⟨x,hx,rfl⟩:=List.mem_map.1 hq
  exact h.ob (List.mem_append_left _ hx)
 ·intro j j' c c' q cp cp' hc hc' hkv hkv' hne hne'
  obtain ⟨hj,hv,_⟩:=hget j c hc
  obtain ⟨hj',hv',_⟩:=hget j' c' hc'
  rw [hkv] at hv
  rw [hkv'] at hv'
  exact hR.sep hn.1 (Zdj hj) (Zdj hj') hne hne' hv hv'
 ·intro s' hS
  have h':=h.lose hS
  have e:cls.length = cs.length:=hcl
  refine ⟨Z0a (Z0y (h'.own _ hB4)),?_⟩
  rw [← hcl]
  exact Z4f h'.wf (Z0y (h'.own _ hBx)) _
 ·intro s' hS hk
  have h':=h.lose hS
  have hlast:∀ (i:Nat) (ks:List Int) (qq:Pos) (c:Cap),((Z52 cls cs).map CV.kids)[i]? = some ks→ks ≠ []→V[i]? = some (AVal.slice qq 0 ks.length c)→∃ hi:i < cs.length,Z11 cs i ≠ []∧ks.length = (Z11 cs i).length∧qq ∈ mk.map (·.1):=by
   intro i ks qq c hks hne hv
   obtain ⟨hi,e⟩:=Z9s hks
   rw [Zfs] at hi
   have hm:=Zlt (cls:=cls) (List.getElem?_eq_getElem hi)
   have e2:=Z1v hm
   rw [e] at e2
   have e3:=Z1v (List.getElem?_eq_getElem hi)
   have hlen:ks.length = (Z11 cs i).length:=by
    rw [e2,e3]
    split <;> simp
   have hne':Z11 cs i ≠ []:=by
    intro e0
    rw [e0] at hlen
    exact hne (List.length_eq_zero_iff.1 hlen)
   refine ⟨hi,hne',hlen,?_⟩
   rcases hrow i _ (Z26 (List.getElem?_eq_getElem hi) hv) with ⟨e1,_⟩ | ⟨q',cp',_,e5,e6⟩
   ·exact (hne' e1).elim
   ·have:q' = qq:=(AVal.slice.inj e5).1.symm
    subst this
    exact List.mem_map.2 ⟨_,e6,rfl⟩
  obtain ⟨mk',r1,r2,r3,r4⟩:=Zl1 (s:=s') ((Z52 cls cs).map CV.kids) V (by simp [hV,Zfs]) (fun i ks kv hks hv => by
   obtain ⟨hi,e⟩:=Z9s hks
   rw [Zfs] at hi
   have:=hk i _ (Z26 (List.getElem?_eq_getElem hi) hv)
   rw [Z1v (Zlt (List.getElem?_eq_getElem hi))] at e
   rw [← e]
   rw [Z1v (List.getElem?_eq_getElem hi)] at this
   have e2:(if cs[i].taken = true then { cs[i] with kids:=cs[i].kids.map (toC cls) } else cs[i]).kids = if cs[i].taken = true then cs[i].kids.map (toC cls) else cs[i].kids:=by split <;> rfl
   rw [e2]
   exact this) (fun i j ks ks' qq c c' hks hks' hne hne' hv hv' => by
   obtain ⟨hi,n1,l1,_⟩:=hlast i ks qq c hks hne hv
   obtain ⟨hj,n2,l2,_⟩:=hlast j ks' qq c' hks' hne' hv'
   rw [l1] at hv
   rw [l2] at hv'
   exact hR.sep hn.1 (Zdj hi) (Zdj hj) n1 n2 hv hv')
  refine q mk' s' r1 (h'.addL r2 r3 ?_ ?_)
  ·intro x hx ho
   obtain ⟨i,ks,c,e1,e2,e3⟩:=r4 x hx
   obtain ⟨_,_,_,hm⟩:=hlast i ks x.1 c e1 e2 e3
   obtain ⟨y,hy,e⟩:=List.mem_map.1 hm
   rw [← e] at ho ⊢
   exact h.free y (List.mem_append_left _ hy) ho
  ·intro x hx hr
   obtain ⟨i,ks,c,e1,e2,e3⟩:=r4 x hx
   obtain ⟨_,_,_,hm⟩:=hlast i ks x.1 c e1 e2 e3
   exact hn.2.2 _ hm _ hr rfl
theorem Ctx.apart {s0 s:St} {W:Pos→Prop} {m:Lets} (h:Ctx s0 W m s) {b:Pos} {x:AObj} (i:Nat) (hi:m[i]? = some (b,x)) {y:Pos × AObj} (hy:y ∈ m.drop (i + 1)):b ≠ y.1:=by
 obtain ⟨j,hj⟩:=List.getElem?_of_mem hy
 rw [List.getElem?_drop] at hj
 exact h.ne i (i + 1 + j) hi (x':=y.2) hj (by omega)
theorem Ztb (x:List CV) (k:Nat) (d:Int):(addH x k d).map CV.kids = x.map CV.kids:=by
 unfold addH
 split
 ·rename_i c hc
  rw [List.map_set]
  refine List.ext_getElem? fun j => ?_
  rw [List.getElem?_set]
  split
  ·rename_i e
   subst e
   have:=(List.getElem?_eq_some_iff.1 hc).1
   rw [if_pos (by simpa using this),List.getElem?_map,hc]
   rfl
  ·rfl
 ·rfl
theorem Za8 (cls:List Int) (cs:List CV):∀ i,(Z0q cls cs i).map CV.kids = (Z52 cls cs).map CV.kids
 | 0 => rfl
 | i + 1 => by
  unfold Z0q
  split
  ·split
   ·rw [Ztb,Za8 cls cs i]
   ·exact Za8 cls cs i
  ·exact Za8 cls cs i
theorem merge_c {s0 s:St} {W:Pos→Prop} {hb:Pos} {vs:AVal} {cs:List CV} {m r:Lets} {Q:AVal→St→Prop} (hH:Z2t hb vs cs m) (h:Ctx s0 W (m ++ r) s) (hO:HOk cs)
  (q:∀ m' s',Z2t hb vs (Zaq cs).2.2 m'→Ctx s0 W (m' ++ r) s'→Q (.tup [.int .i64 (Zaq cs).1,.int .i64 (Zaq cs).2.1]) s'):Z0e Tryd.prog 13 [.ptr hb 0] s Q:=by
 obtain ⟨p,V,mr,hc,hR,hV,h1,h4⟩:=Z8w hH h
 have hl:=Z2c hV
 have hno:cs.length ≠ 0:=by omega
 have hKi:∀ {s':St},(∀ x ∈ mr,s'.obj x.1 = some x.2)→s'.Wf→∀ j c,(rcs cs V)[j]? = some c→Z0g s' c.kv (Z11 cs j)∧(Z11 cs j).length ≤ 1000:=by
  intro s' hob hw j c hj
  have hlt:j < cs.length:=by have:=(List.getElem?_eq_some_iff.1 hj).1; rwa [hl] at this
  have hd:cs[j]? = some cs[j]:=List.getElem?_eq_getElem hlt
  obtain ⟨kv,g1,g2⟩:=hR.each (i:=j) (ks:=cs[j].kids) (by rw [List.getElem?_map,hd]; rfl)
  rw [Z26 hd g1] at hj
  cases hj
  have hko:Z11 cs j = cs[j].kids:=by unfold Z11; rw [hd]
  rw [hko]
  refine ⟨KidV.ints ?_ hw,by have:=hO.kids4 _ (List.getElem_mem hlt); omega⟩
  rcases g2 with ⟨e1,e2⟩ | ⟨q,c,e1,e2,e3⟩
  ·exact .inl ⟨e2,e1⟩
  ·exact .inr ⟨q,c,e2,Z0y (hob _ e3)⟩
 have hcell:∀ {i:Nat} {c:RC},(rcs cs V)[i]? = some c→∃ d:CV,cs[i]? = some d∧c.taken = d.taken∧c.held = d.held:=by
  intro i c hc
  have hlt:i < cs.length:=by have:=(List.getElem?_eq_some_iff.1 hc).1; rwa [hl] at this
  rw [Z26 (List.getElem?_eq_getElem hlt) (List.getElem?_eq_getElem (show i < V.length by omega))] at hc
  cases hc
  exact ⟨_,List.getElem?_eq_getElem hlt,rfl,rfl⟩
 refine Z08 (Z0i (by decide)) fi13 rfl (by decide) rfl ?_
 refine Z00 ?_
 simp
 have c1:=hc.alloc (C [.ptr hb 0])
 generalize s.alloc (.cells [.ptr hb 0] false) = s1 at c1 ⊢
 generalize s.next = B1 at c1 ⊢
 refine AM.wp_seq ?_
 refine Z00 ?_
 simp [c1.c 0 rfl]
 refine Z02 ?_
 refine Z75 (c1.c 1 rfl) rfl hno ?_
 simp
 refine AM.Z04 ?_
 simp
 refine AM.wp_skip ?_
 simp
 refine Z00 ?_
 simp [c1.c 0 rfl,c1.c 1 rfl]
 refine Z02 ?_
 refine Zkk (K:=Z11 cs) hl c1.wf (c1.oi 2 rfl) (c1.c 2 rfl) h4 (fun j c hj => (hKi (fun x hx => c1.own x (by simp [hx])) c1.wf j c hj).1) fun pn0 lv s2 k2 hN hL => ?_
 rw [Zkt hV] at hN
 rw [Zl5 hV] at hL
 have c2:=c1.keeps k2
 simp
 refine Z02 ?_
 refine Zcf (Z0u cs) c2.wf hN (by omega) hL (by have:(Z19 cs cs.length).length ≤ cs.length:=Nat.le_trans (List.length_filter_le _ _) (by simp); omega) hO.closed hO.Z97 fun Bx s3 k3 hBx hox => ?_
 have hcl:=Z9n hO.closed
 rw [Z0u] at hcl
 simp only [Zaq] at q
 generalize clsF (Z0f cs) (Z19 cs cs.length) = cls at hox hcl q ⊢
 have c3:=c2.made k3 hBx (St.Z2e hox)
 simp
 have c4:=(c3.alloc (C [.nilSlice])).put 0 rfl (C [.slice Bx 0 cs.length (.lim cs.length)])
 simp only [List.set_cons_zero] at c4
 generalize (s3.alloc (.cells [.nilSlice] false)).put s3.next (.cells [.slice Bx 0 cs.length (.lim cs.length)] false) = s4 at c4 ⊢
 generalize s3.next = B4 at c4 ⊢
 refine Z00 ?_
 simp [c4.c 2 rfl,c4.c 3 rfl]
 refine Z02 ?_
 refine own_w (K:=Z11 cs) hl c4.wf (c4.oi 4 rfl) (c4.c 4 rfl) h1 h4 (hKi (fun x hx => c4.own x (by simp [hx])) c4.wf) fun pn kvs s5 k5 hpn hopn hOwn => ?_
 rw [Zql hV] at hopn
 obtain ⟨mk,hRk,hok,hnk,hfk⟩:=Zoi hOwn
 generalize (List.range cs.length).map kvs = V' at hRk hopn ⊢
 have hV':V'.length = cs.length:=by simpa using hRk.len
 clear hOwn
 have c5:=(c4.made k5 hpn (St.Z2e hopn)).addL (m:=mk) hok hnk (fun x hx ho => ((hfk x hx).1 (c4.old ho)).elim) (fun x hx => by
  rw [List.map_cons,List.mem_cons]
  rintro (e | hm)
  ·exact (hfk x hx).2 e
  ·obtain ⟨y,hy,e⟩:=List.mem_map.1 hm
   exact (hfk x hx).1 (e ▸ c4.ob hy))
 clear hok hnk hfk hpn hopn k5
 have c5:=c5.perm (m':=((pn,C (encs (rcs cs V'))) :: (B4,C [.slice Bx 0 cs.length (.lim cs.length)]) :: (Bx,C (ints cls)) :: (B1,C [.ptr hb 0]) :: (hb,C [.slice p 0 cs.length (.lim cs.length),vs]) :: (p,C (encs (rcs cs V))) :: (mk ++ (mr ++ r)))) (by
  have:=List.perm_append_comm (l₁:=mk) (l₂:=[(pn,C (encs (rcs cs V'))),(B4,C [.slice Bx 0 cs.length (.lim cs.length)]),(Bx,C (ints cls)),(B1,C [.ptr hb 0]),(hb,C [.slice p 0 cs.length (.lim cs.length),vs]),(p,C (encs (rcs cs V)))])
  have:=this.append (List.Perm.refl (mr ++ r))
  simpa using this)
 simp
 have c6:=(c5.alloc (C [.nilSlice])).put 0 rfl (C [.slice pn 0 cs.length (.lim cs.length)])
 simp only [List.set_cons_zero] at c6
 generalize (s5.alloc (.cells [.nilSlice] false)).put s5.next (.cells [.slice pn 0 cs.length (.lim cs.length)] false) = s6 at c6 ⊢
 generalize s5.next = B5 at c6 ⊢
 refine Z00 ?_
 simp
 have c7:=(c6.alloc (C [.nilFn])).put 0 rfl (C [.fn 52 [] [.ptr B4 0]])
 simp only [List.set_cons_zero] at c7
 generalize (s6.alloc (.cells [.nilFn] false)).put s6.next (.cells [.fn 52 [] [.ptr B4 0]] false) = s7 at c7 ⊢
 generalize s6.next = B6 at c7 ⊢
 refine Z00 ?_
 simp [c7.c 0 rfl,c7.c 1 rfl]
 have c7:=c7.perm (m':=mk ++ ((B6,C [.fn 52 [] [.ptr B4 0]]) :: (B5,C [.slice pn 0 cs.length (.lim cs.length)]) :: (pn,C (encs (rcs cs V'))) :: (B4,C [.slice Bx 0 cs.length (.lim cs.length)]) :: (Bx,C (ints cls)) :: (B1,C [.ptr hb 0]) :: (hb,C [.slice p 0 cs.length (.lim cs.length),vs]) :: (p,C (encs (rcs cs V))) :: (mr ++ r))) (by
  have:=List.perm_append_comm (l₂:=mk) (l₁:=[(B6,C [.fn 52 [] [.ptr B4 0]]),(B5,C [.slice pn 0 cs.length (.lim cs.length)]),(pn,C (encs (rcs cs V'))),(B4,C [.slice Bx 0 cs.length (.lim cs.length)]),(Bx,C (ints cls)),(B1,C [.ptr hb 0]),(hb,C [.slice p 0 cs.length (.lim cs.length),vs]),(p,C (encs (rcs cs V)))])
  have:=this.append (List.Perm.refl (mr ++ r))
  simpa using this)
 refine Z02 ?_
 refine moves_c (pn:=pn) (Bx:=Bx) (cp:=.lim cs.length) (cls:=cls) c7 hRk hO hcl h4 (by simp) (by simp) (by simp) fun mk2 s8 hR2 c8 => ?_
 have hV2:V'.length = cs.length:=hV'
 have c8:=c8.perm (m':=(B6,C [.fn 52 [] [.ptr B4 0]]) :: (B5,C [.slice pn 0 cs.length (.lim cs.length)]) :: (pn,C (encs (rcs cs V'))) :: (B4,C [.slice Bx 0 cs.length (.lim cs.length)]) :: (Bx,C (ints cls)) :: (B1,C [.ptr hb 0]) :: (hb,C [.slice p 0 cs.length (.lim cs.length),vs]) :: (p,C (encs (rcs cs V))) :: (mk2 ++ (mr ++ r))) (by
  have:=List.perm_append_comm (l₁:=mk2) (l₂:=[(B6,C [.fn 52 [] [.ptr B4 0]]),(B5,C [.slice pn 0 cs.length (.lim cs.length)]),(pn,C (encs (rcs cs V'))),(B4,C [.slice Bx 0 cs.length (.lim cs.length)]),(Bx,C (ints cls)),(B1,C [.ptr hb 0]),(hb,C [.slice p 0 cs.length (.lim cs.length),vs]),(p,C (encs (rcs cs V)))])
  have:=this.append (List.Perm.refl (mr ++ r))
  simpa using this)
 clear c7 hRk
 simp
 refine Z00 ?_
 simp
 have c9:=c8.alloc (C [.nilSlice])
 generalize s8.alloc (.cells [.nilSlice] false) = s9 at c9 ⊢
 generalize s8.next = B7 at c9 ⊢
 refine AM.wp_seq ?_
 refine Z00 ?_
 simp [c9.c 6 rfl,c9.c 7 rfl]
 refine Z02 ?_
 refine Zcc fun BB hBB => ?_
 have c10:=c9.alloc (C [.slice p 0 cs.length (.lim cs.length)])
 rw [← hBB] at c10
 generalize s9.alloc (.cells [.slice p 0 cs.length (.lim cs.length)] false) = s10 at c10 ⊢
 simp
 refine AM.wp_block ?_
 refine Zmm (B:=BB) (p:=p) (l:=rcs cs V) (J:=fun i m => ∃ lv mg,Z1t lv (Z1c cls cs i) mg∧m = (B7,C [lv]) :: (B6,C [.fn 52 [] [.ptr B4 0]]) :: (B5,C [.slice pn 0 cs.length (.lim cs.length)]) :: (pn,C (encs (rcs (Z0q cls cs i) V'))) :: (B4,C [.slice Bx 0 cs.length (.lim cs.length)]) :: (Bx,C (ints cls)) :: (B1,C [.ptr hb 0]) :: (hb,C [.slice p 0 cs.length (.lim cs.length),vs]) :: (p,C (encs (rcs cs V))) :: (mg ++ (mk2 ++ (mr ++ r))))
  hl h4 (by simp) rfl fi13 rfl ?_ ?_ ?_ ⟨.nilSlice,[],.inl ⟨rfl,rfl,rfl⟩,rfl⟩ (by
   have e:rcs (Z0q cls cs 0) V' = rcs cs V':=Zxb cls cs V'
   rw [e]
   exact c10) ?_
 ·rintro i m s' ⟨lv,mg,hg,rfl⟩ hc'
  exact ⟨hc'.oi 8 rfl,hc'.c 8 rfl⟩
 ·rintro i c m hci hct ⟨lv,mg,hg,rfl⟩
  obtain ⟨d,hd,ht,_⟩:=hcell hci
  rw [ht] at hct
  exact ⟨lv,mg,by rw [Zhe hd hct]; exact hg,by simp [Z0q,hd,hct]⟩
 ·rintro i c s' m Lb X Wx hci hct ⟨lv,mg,hg,rfl⟩ hc' hW
  obtain ⟨d,hd,ht,hh⟩:=hcell hci
  rw [ht] at hct
  have hi:i < cs.length:=(List.getElem?_eq_some_iff.1 hd).1
  obtain ⟨cc,hcc⟩:∃ cc,cls[i]? = some cc:=⟨_,List.getElem?_eq_getElem (by omega)⟩
  obtain ⟨j,hj,hji,hcj,_⟩:=Zp5 hcc
  have e:Z3b (fun d => decide (cc = d)) cls = (j:Int):=by rw [← hj]; unfold toC; simp [hcc]
  refine AM.wp_block ?_
  refine Z00 ?_
  simp [hc'.c 3 rfl]
  refine Z02 ?_
  refine Zlr (cls:=cls) (c:=cc) (hc'.c 6 rfl) (by have:=Z4f hc'.wf (hc'.o 7 rfl) (.lim cs.length); rw [hcl] at this; exact this) (by omega) (by omega) (by simpa using hcc) ?_
  rw [e]
  simp
  refine Z00 ?_
  simp
  refine AM.Z04 ?_
  by_cases hij:j = i
  ·subst hij
   simp
   refine AM.wp_skip ?_
   simp
   refine hW _ _ _ ⟨lv,mg,?_,rfl⟩ ?_
   ·rw [Zhf hd hct hj]
    exact hg
   ·have:Z0q cls cs (j + 1) = Z0q cls cs j:=by simp [Z0q,hd,hj]
    rw [this]
    exact hc'
  ·have hij':¬ (j:Int) = (i:Int):=by omega
   have hne:toC cls (i:Int) ≠ (i:Int):=by rw [hj]; exact hij'
   simp [hij,hij']
   refine Z00 ?_
   have hjl:j < cs.length:=by omega
   obtain ⟨x,hx⟩:∃ x,(Z0q cls cs i)[j]? = some x:=⟨_,List.getElem?_eq_getElem (by rw [Z2r]; omega)⟩
   obtain ⟨v,hv⟩:∃ v,V'[j]? = some v:=⟨_,List.getElem?_eq_getElem (by omega)⟩
   have hxr:=Z26 hx hv
   have hg3:(encs (rcs (Z0q cls cs i) V'))[j * 4 + 3]? = some (.int .i64 x.held):=Z3f _ j 3 _ hxr (by decide)
   have hg4:(encs (rcs cs V))[i * 4 + 3]? = some (.int .i64 c.held):=Z3f _ i 3 _ hci (by decide)
   have hlay:=Zfi _ j _ (IntKind.wrap .i64 (x.held + c.held)) hxr
   rw [hh] at hlay hg4
   rw [Zxa hx hv] at hlay
   have hstep:Z0q cls cs (i + 1) = addH (Z0q cls cs i) j d.held:=by simp [Z0q,hd,hct,hj,hij']
   rw [← hstep] at hlay
   have hle:j * 4 + 3 + 1 ≤ (encs (rcs (Z0q cls cs i) V')).length:=by rw [Z36,Z2c (by rw [Z2r]; exact hV2),Z2r]; omega
   simp [lay] at hlay
   simp [hc'.c 4 rfl,hc'.c 8 rfl,hc'.c 9 rfl,hc'.c 10 rfl,hc'.o 5 rfl,hc'.c 5 rfl,hjl,hi,hg3,hg4,hle,Z8n]
   rw [hlay]
   have d1:=hc'.put 5 rfl (C (encs (rcs (Z0q cls cs (i + 1)) V')))
   simp only [List.set_cons_succ,List.set_cons_zero] at d1
   generalize s'.put pn (.cells (encs (rcs (Z0q cls cs (i + 1)) V')) false) = sA at d1 ⊢
   refine AM.wp_region ?_
   have d2:=d1.alloc (C [.int .i64 i])
   have hlt:=hg.ntup
   simp [d1.c 2 rfl,Z1w,srcP,hlt,hg.cells]
   generalize sA.alloc (.cells [.int .i64 i] false) = sB at d2 ⊢
   generalize sA.next = T at d2 ⊢
   have hgl:=Zjj cls cs i
   refine Z65 (pre:=[(T,C [.int .i64 i]),(Lb,X),(BB,C [.slice p 0 cs.length (.lim cs.length)]),(B7,C [lv]),(B6,C [.fn 52 [] [.ptr B4 0]]),(B5,C [.slice pn 0 cs.length (.lim cs.length)]),(pn,C (encs (rcs (Z0q cls cs (i + 1)) V'))),(B4,C [.slice Bx 0 cs.length (.lim cs.length)]),(Bx,C (ints cls)),(B1,C [.ptr hb 0]),(hb,C [.slice p 0 cs.length (.lim cs.length),vs]),(p,C (encs (rcs cs V)))]) d2 hg (by omega) fun lv' mg' sC hg' d3 => ?_
   simp at d3
   rw [← Zhd hd hct hne] at hg'
   simp [hg'.ntup,hg'.cells,d3.o 3 rfl]
   have d4:=(d3.put 3 rfl (C [lv'])).tail
   exact hW _ _ _ ⟨lv',mg',hg',rfl⟩ d4
 ·rintro s' m ⟨lv,mg,hg,rfl⟩ hc'
  simp
  have hlh:(rcs (Z0q cls cs cs.length) V').length = cs.length:=by rw [Z2c (by rw [Z2r]; exact hV2),Z2r]
  refine AM.wp_seq ?_
  refine Z00 ?_
  simp [hc'.c 2 rfl]
  refine Z02 ?_
  refine over_w hlh (hc'.oi 3 rfl) (hc'.c 3 rfl) h4 fun s11 k11 => ?_
  rw [Zqh (by rw [Z2r]; exact hV2)]
  have c11:=hc'.keeps k11
  have hperm:∀ (pre x:Lets),(pre ++ (mg ++ (mk2 ++ x))).Perm ((mg ++ (mk2 ++ pre)) ++ x):=by
   intro pre x
   have h1:=List.perm_append_comm (l₁:=pre) (l₂:=mg ++ mk2)
   have h2:=h1.append (List.Perm.refl x)
   simpa using h2
  cases hov:(Z0q cls cs cs.length).any (fun c => decide (1000 < c.held)) with
  | true =>
   rw [hov] at q
   simp at q
   simp
   refine AM.Z04 ?_
   simp
   refine Z00 ?_
   simp
   refine AM.wp_ret ?_
   simp
   refine q _ _ (Z2z (p:=p) hR h1 h4) (c11.sub ?_)
   refine List.Sublist.trans ?_ (List.drop_sublist 7 _)
   refine List.Sublist.cons_cons _ (List.Sublist.cons_cons _ ?_)
   rw [← List.append_assoc,← List.append_assoc]
   exact (List.sublist_append_right (mg ++ mk2) (mr ++ r)).trans (by simp)
  | false =>
   rw [hov] at q
   simp at q
   simp
   refine AM.Z04 ?_
   simp
   refine AM.wp_skip ?_
   simp
   have hglen:=Zjj cls cs cs.length
   have hgin:∀ k ∈ Z1c cls cs cs.length,0 ≤ k∧k < cs.length:=fun k hk => by
    obtain ⟨a,b,_⟩:=Z96.1 hk
    exact ⟨a,b⟩
   refine Z00 ?_
   simp [c11.c 2 rfl,c11.c 0 rfl]
   refine Z02 ?_
   refine Zve hlh c11.wf (c11.o 3 rfl) (by omega) hgin (fun s' hS => ?_) fun s12 hS hpn2 => ?_
   ·have hmg:Ctx s0 W mg s':=(c11.sub (m':=mg) (by
     refine List.Sublist.trans ?_ (List.drop_sublist 9 _)
     exact List.sublist_append_left _ _)).same hS (fun b hb ho => by
      simp at hb
      subst hb
      exact c11.free _ (List.mem_of_getElem? (i:=3) rfl) ho) (fun x hx hb => by
      simp at hb
      exact c11.apart 3 rfl (y:=x) (by simp [hx]) hb.symm)
    exact (hg.row.kid fun x hx => hmg.own x hx).ints hmg.wf
   ·have c12:=c11.chg 3 rfl hS (St.Z2e hpn2)
    simp only [List.set_cons_succ,List.set_cons_zero] at c12
    obtain ⟨V3,m3,dd,e1,e2,e3⟩:=Zot (Z1c cls cs cs.length) (cs:=Z0q cls cs cs.length) (V:=V') (m:=mk2) (by rw [Z2r]; exact hV2) (by rw [Za8]; exact hR2) (by rw [Z2r]; exact hgin)
    rw [e1] at c12
    simp
    refine Z00 ?_
    simp [c12.c 6 rfl,c12.c 2 rfl,c12.o 7 rfl]
    have c13:=c12.put 7 rfl (C [.slice pn 0 cs.length (.lim cs.length),vs])
    simp only [List.set_cons_succ,List.set_cons_zero] at c13
    generalize s12.put hb (.cells [.slice pn 0 cs.length (.lim cs.length),vs] false) = s13 at c13 ⊢
    refine Z00 ?_
    simp [c13.c 0 rfl,hg.len]
    refine AM.wp_ret ?_
    simp
    have hlen:(relC (Z0q cls cs cs.length) (Z1c cls cs cs.length)).length = cs.length:=by rw [Zin,Z2r]
    refine q _ _ (Z2z (p:=pn) e2 (by omega) (by omega)) ?_
    rw [hlen]
    have c14:=c13.sub (m':=(pn,C (encs (rcs (relC (Z0q cls cs cs.length) (Z1c cls cs cs.length)) V3))) :: (hb,C [.slice pn 0 cs.length (.lim cs.length),vs]) :: (mk2 ++ r)) (.cons _ (.cons _ (.cons _ (.cons_cons _ (.cons _ (.cons _ (.cons _ (.cons_cons _ (.cons _
     (List.Sublist.trans ((List.Sublist.refl mk2).append (List.sublist_append_right mr r)) (List.sublist_append_right mg _)))))))))))
    have c15:=c14.perm ((List.Perm.swap _ _ _).trans (List.Perm.cons _ (List.Perm.cons _ (e3.append (List.Perm.refl r)))))
    exact c15.sub (.cons_cons _ (.cons_cons _ ((List.sublist_append_left m3 dd).append (List.Sublist.refl r))))
end Go.Proofs
end
section
namespace Go.Proofs
end Go.Proofs
end
section
open Go Go.AM
namespace Go.Proofs
set_option maxRecDepth 100000
theorem Ze1 {nds:List (List UInt8 × List Int)} {L:List Nat} (h:Closed nds L) {a b:Nat} (ha:a ∈ L) (hb:b ∈ L):(clsF nds L)[a]? = (clsF nds L)[b]? ↔ ∀ r,sim nds r a b:=by
 obtain ⟨R,h1,h2,_⟩:=Z9m h
 rw [h1]
 exact Zh9 h h2 ha hb
theorem Znk (cls:List Int) (cs:List CV) (i:Nat):(Z1c cls cs i).Nodup:=by
 unfold Z1c Z19
 refine List.Pairwise.map _ (fun a b h => ?_) (((List.nodup_range).filter _).filter _)
 intro e
 exact h (by omega)
def Zrh (s:St) (v:AVal) (xs:List AVal):Prop:=(Z1q v = some 0∧xs = []) ∨
 ∃ b o c cs,v = .slice b o xs.length c∧s.Old b∧s.cells b = some cs∧o + xs.length ≤ cs.length∧∀ (i:Nat) x,xs[i]? = some x→cs[o + i]? = some x
theorem new_c {s0 s:St} {W:Pos→Prop} {r:Lets} {n:Int} {Q:AVal→St→Prop} (h:Ctx s0 W r s) (h1:1 ≤ n) (h2:n ≤ 400)
  (q:∀ hb m s',Z2t hb .nilSlice (List.replicate n.toNat Z2m) m→Ctx s0 W (m ++ r) s'→Q (.tup [.ptr hb 0,.int .i64 0]) s'):Z0e Tryd.prog 10 [.int .i64 n] s Q:=by
 refine new_wp h.wf h1 h2 ?_
 have hV:∀ n:Nat,(List.replicate n [AVal.bool false,.str [],.nilSlice,.int .i64 0]).flatten = encs (rcs (List.replicate n Z2m) (List.replicate n .nilSlice)):=by
  intro n
  simp [encs,rcs,RC.enc,Z2m,List.zipWith_replicate,List.flatMap]
 have hR:∀ n:Nat,Z12 ((List.replicate n Z2m).map CV.kids) (List.replicate n .nilSlice) []:=by
  intro n
  induction n with
  | zero => rfl
  | succ n ih =>
   rw [List.replicate_succ,List.replicate_succ]
   exact ⟨[],[],List.Perm.refl _,.inl ⟨rfl,rfl,rfl⟩,ih⟩
 have c1:=h.alloc (C (List.replicate n.toNat [AVal.bool false,.str [],.nilSlice,.int .i64 0]).flatten)
 have c2:=c1.alloc (C [.slice s.next 0 n.toNat (.lim n.toNat),.nilSlice])
 refine q _ _ _ (Z2z (p:=s.next) (V:=List.replicate n.toNat .nilSlice) (mr:=[]) (hR _) (by simp; omega) (by simp; omega)) ?_
 rw [List.length_replicate,← hV]
 exact c2
theorem c5:Tryd.prog.cellsOf 5 = 1:=by kernel_rfl
theorem Zge {P:Program} {t e:TypeId} {w:World} {r:Reach} {base:Nat} {v:Value} (ht:P.underlying t = some (.slice e)) (h:Value.okWide P w r base t v):v.cells.toList = [v]:=by
 simp only [Value.okWide,ht,Cell.okWide] at h
 cases v <;> first | rfl | simp_all [Cell.ok]
section
variable {H:Type} {enc:TypeId × Value→H} {W:World} {N fuel:Nat} {cs:List Value} {x:DataW H × List MemPlace}
theorem row_of {α:Type} {s:St} {e:TypeId} {v:Value} {a:AVal} {elems:List (DataW H × List MemPlace)} (mk:α→AVal) (hc1:Tryd.prog.cellsOf e = 1) (he:∀ n vs x l,DataW.trod enc Tryd.prog W 0 (fun _ => true) true n e vs = some x→vs.mapM (Z64 W N) = some l→∃ y:α,l = [mk y])
  (h:SliceW Tryd.prog enc W (fun _ => true) true N e v a elems):∃ ys:List α,Zrh (stW W N) a (ys.map mk):=by
 cases h with
 | nil => exact ⟨[],.inl ⟨rfl,rfl⟩⟩
 | empty => exact ⟨[],.inl ⟨rfl,rfl⟩⟩
 | @row b o len cap n _ cells hb ho hcells hlen hc0 hcap hmax hcs hel =>
  rw [hc1] at hcs
  have hone:∀ i,i < len→∃ y:α,cells[i]? = some (mk y):=by
   intro i hi
   obtain ⟨vs,x,l,h1,_,h3,h4⟩:=hel i hi
   obtain ⟨y,rfl⟩:=he n vs x l h1 h3
   rw [hc1,Nat.mul_one] at h4
   refine ⟨y,?_⟩
   have:=congrArg (fun l => l[0]?) h4
   simpa using this
  obtain ⟨ys,hys,hl⟩:∃ ys:List α,(∀ (i:Nat) (y:α),ys[i]? = some y→cells[i]? = some (mk y))∧ys.length = len:=by
   have key:∀ k,k ≤ len→∃ ys:List α,(∀ (i:Nat) (y:α),ys[i]? = some y→cells[i]? = some (mk y))∧ys.length = k:=by
    intro k
    induction k with
    | zero => exact fun _ => ⟨[],by simp,rfl⟩
    | succ k ih =>
     intro hk
     obtain ⟨ys,h1,h2⟩:=ih (by omega)
     obtain ⟨y,hy⟩:=hone k (by omega)
     refine ⟨ys ++ [y],fun i z hz => ?_,by simp [h2]⟩
     rw [List.getElem?_append] at hz
     split at hz
     ·exact h1 i z hz
     ·rename_i hi
      have:i = k:=by
       have:=(List.getElem?_eq_some_iff.1 hz).1
       simp at this
       omega
      subst this
      simp [h2] at hz
      subst hz
      exact hy
   exact key len (Nat.le_refl _)
  refine ⟨ys,.inr ⟨nameOf N b o,0,.lim cap,cells,by simp [hl],?_,hcells,by simp [hl]; omega,fun i z hz => ?_⟩⟩
  ·unfold St.cells at hcells
   cases hob:(stW W N).obj (nameOf N b o) with
   | none => rw [hob] at hcells; cases hcells
   | some y => exact Z3r (Zvo (w:=W) (N:=N)) hob
  ·rw [List.getElem?_map] at hz
   cases hy:ys[i]? with
   | none => rw [hy] at hz; cases hz
   | some y =>
    rw [hy] at hz
    cases hz
    rw [Nat.zero_add]
    exact hys i y hy
theorem Zei (hN:Big W N) (h:DataW.trod enc Tryd.prog W 0 (fun _ => true) true fuel 35 cs = some x):∃ v a,∃ bs:List UInt8,cs = [v]∧Z64 W N v = some a∧Zrh (stW W N) a (bs.map fun b => .int .u8 (b.toNat:Int)):=by
 obtain ⟨v,a,elems,rfl,hs⟩:=Zq9 hN Tryd.underlying35 (by rw [c5]; decide) (fun n vs x h => by
  obtain ⟨k,rfl,_,_⟩:=DataW.trod_int Tryd.underlying5 h
  exact ⟨[.int .u8 k],rfl⟩) h
 obtain ⟨bs,hb⟩:=row_of (s:=stW W N) (fun b:UInt8 => AVal.int .u8 (b.toNat:Int)) c5 (fun n vs x l h1 h2 => by
  obtain ⟨k,rfl,_,hk⟩:=DataW.trod_int Tryd.underlying5 h1
  have hk:0 ≤ k∧k ≤ 255:=by
   rw [Lit.wf,Bool.and_eq_true,decide_eq_true_eq,decide_eq_true_eq] at hk
   exact hk
  refine ⟨UInt8.ofNat k.toNat,?_⟩
  have e:((UInt8.ofNat k.toNat).toNat:Int) = k:=by
   rw [UInt8.toNat_ofNat_of_lt' (by show k.toNat < 256; omega)]
   omega
  rw [e]
  simp [List.mapM_cons,Z64] at h2
  exact h2.symm) hs
 exact ⟨v,a,bs,rfl,hs.conv,hb⟩
end
end Go.Proofs
end
section
open Go Go.AM
namespace Go.Proofs
def c78_1:MCode:=.region [Yo (.int .u64 0)] [Cs 2]
def c78_4:MCode:=.region [Cm 0,Yf 0,Yc 0 0,Ya 0,Yl (Yq 0),Yh .gtr (Yq 0) (Ck 0)] [Cs 8,none,none,none,none,none]
def c78_7:MCode:=.region [Cm 0,Yf 0,Yc 2 0,Ya 0,Cm 0,Yf 0,Yc 0 0,Ya 0,Cm 0,Yf 0,Yc 1 0,Ya 0,Cm 0,Yf 0,Yc 0 0,Ya 0,Yl (Yq 0),Yh .rem (Yq 5) (Yq 0),Ye 1 1 (Yq 10) (Yq 0),Ya 0,Cr (.conv (.int .u64) (Yq 0)),Cr (.bin .add .other none (Yq 0) (.cst (.int .u64 1))),Yh .add (Yq 18) (Yq 0),Yf 22,Yc 2 0,Yk 1 (Yq 0) (Yq 2)] [none,Cs 33,Cs 32,Cs 31,Cs 30,Cs 29,Cs 28,Cs 27,Cs 26,Cs 25,Cs 24,Cs 23,Cs 22,Cs 21,Cs 20,Cs 19,Cs 18,Cs 17,Cs 16,Cs 15,Cs 14,Cs 13,Cs 12,Cs 11,Cs 10,Cs 9]
def c78_8:MCode:=.region [Cm 0,Yf 0,Yc 1 0,Ya 0,Yh .add (Yq 0) (Ck 1),Yf 4,Yc 1 0,Yk 1 (Yq 0) (Yq 2)] [none,none,none,none,none,none,none,none]
def c78_6:MCode:=.seq c78_7 c78_8
def c78_5:MCode:=.cond (Cp 8) c78_6 .skip
def c78_3:MCode:=.seq c78_4 c78_5
def c78_10:MCode:=.region [Cm 0,Yf 0,Yc 2 0,Ya 0,Cm 0,Yf 0,Yc 2 0,Ya 0,Cr (.bin .shl .other none (Yq 0) (.cst (.int .u64 13))),Yh .xor (Yq 5) (Yq 0),Yf 9,Yc 2 0,Yk 1 (Yq 0) (Yq 2)] [none,Cs 52,Cs 51,Cs 50,Cs 49,Cs 48,Cs 47,Cs 46,Cs 45,Cs 44,Cs 43,Cs 42,Cs 41]
def c78_12:MCode:=.region [Cm 0,Yf 0,Yc 2 0,Ya 0,Cm 0,Yf 0,Yc 2 0,Ya 0,Cr (.bin .shr .other none (Yq 0) (.cst (.int .u64 7))),Yh .xor (Yq 5) (Yq 0),Yf 9,Yc 2 0,Yk 1 (Yq 0) (Yq 2)] [none,Cs 64,Cs 63,Cs 62,Cs 61,Cs 60,Cs 59,Cs 58,Cs 57,Cs 56,Cs 55,Cs 54,Cs 53]
def c78_14:MCode:=.region [Cm 0,Yf 0,Yc 2 0,Ya 0,Cm 0,Yf 0,Yc 2 0,Ya 0,Cr (.bin .shl .other none (Yq 0) (.cst (.int .u64 17))),Yh .xor (Yq 5) (Yq 0),Yf 9,Yc 2 0,Yk 1 (Yq 0) (Yq 2)] [none,Cs 76,Cs 75,Cs 74,Cs 73,Cs 72,Cs 71,Cs 70,Cs 69,Cs 68,Cs 67,Cs 66,Cs 65]
def c78_16:MCode:=.region [Cm 0,Yf 0,Yc 2 0,Ya 0,Cr (.bin .mul .other none (Yq 0) (.cst (.int .u64 2685821657736338717))),Cr (.bin .shr .other none (Yq 0) (.cst (.int .u64 33))),C0] [Cs 2,none,none,none,none,none,none]
def c78_15:MCode:=.seq c78_16 .ret
def c78_13:MCode:=.seq c78_14 c78_15
def c78_11:MCode:=.seq c78_12 c78_13
def c78_9:MCode:=.seq c78_10 c78_11
def c78_2:MCode:=.seq c78_3 c78_9
def c78_0:MCode:=.seq c78_1 c78_2
theorem fi78:funInfo Tryd.prog 78 = some { code:=c78_0,ntmps:=83,nargs:=1,ps:=[66,67,69,70,71,72,73,68,65,75,74,76,54,55,57,58,59,60,61,56,53,63,62,64,42,43,45,46,47,48,49,44,41,51,50,52,10,11,13,14,15,17,18,19,21,22,23,24,25,20,26,16,27,28,29,30,12,9,32,31,33,8,0,2],res:=[.tmp 2] }:=by kernel_rfl
def c33_1:MCode:=.region [Yp 0] [Cs 4]
def c33_3:MCode:=.region [Cm 0,Ym 78 [(Yq 0)],Cm 1,Cr (.mnmx true [(Ck 1),(Yq 0)]),Cr (.conv (.int .u64) (Yq 0)),Yh .rem (Yq 3) (Yq 0),Cr (.conv (.int .i64) (Yq 0)),C0] [Cs 4,none,none,none,none,none,none,none]
def c33_2:MCode:=.seq c33_3 .ret
def c33_0:MCode:=.seq c33_1 c33_2
theorem fi33:funInfo Tryd.prog 33 = some { code:=c33_0,ntmps:=12,nargs:=2,ps:=[1,0,4],res:=[.tmp 4] }:=by kernel_rfl
def c60_1:MCode:=.region [Yp 0] [Cs 6]
def c60_3:MCode:=.region [Cm 1,Cm 0,Cm 2,Cm 1,Yh .sub (Yq 1) (Yq 0),Yh .add (Yq 0) (Ck 1),Ym 33 [(Yq 4),(Yq 0)],Yh .add (Yq 6) (Yq 0),C0] [Cs 6,none,none,none,none,none,none,none,none]
def c60_2:MCode:=.seq c60_3 .ret
def c60_0:MCode:=.seq c60_1 c60_2
theorem fi60:funInfo Tryd.prog 60 = some { code:=c60_0,ntmps:=15,nargs:=3,ps:=[2,0,1,6],res:=[.tmp 6] }:=by kernel_rfl
def c61_1:MCode:=.region [Cr (.alloc (some [(.str []),(.str []),(.str [])]))] [Cs 2]
def c61_3:MCode:=.region [Cr (.build (some [(0,(1,(.cst (.str [97])))),(1,(1,(.cst (.str [110,105,108])))),(2,(1,(.cst (.str [98]))))]) (some [(.str []),(.str []),(.str [])])),Cr (.build (some [(0,(1,(.cst (.str [115])))),(1,(1,(.cst (.str [117])))),(2,(1,(.cst (.str [116]))))]) (some [(.str []),(.str []),(.str [])])),Cr (.build (some [(0,(1,(.cst (.str [99,111,110,115])))),(1,(1,(.cst (.str [112])))),(2,(1,(.cst (.str [113]))))]) (some [(.str []),(.str []),(.str [])])),Cr (.build (some [(0,(3,(Yq 2))),(3,(3,(Yq 1))),(6,(3,(Yq 0)))]) (some [(.str []),(.str []),(.str []),(.str []),(.str []),(.str []),(.str []),(.str []),(.str [])])),Cm 0,Cr (.index .arr (some (3,(3,(some 3)))) (Yq 1) (Yq 0)),Yk 3 (Cp 2) (Yq 0)] [none,none,none,none,none,none,none]
def c61_2:MCode:=.seq c61_3 .ret
def c61_0:MCode:=.seq c61_1 c61_2
theorem fi61:funInfo Tryd.prog 61 = some { code:=c61_0,ntmps:=9,nargs:=1,ps:=[0,2],res:=[.cell 2 111] }:=by kernel_rfl
def c16_1:MCode:=.region [Yo .nilPtr] [Cs 2]
def c16_3:MCode:=.region [Cm 0,Cm 0,Yl (Yq 0),Cr (.conv (.int .u64) (Yq 0)),Cr (.bin .add .other none (.cst (.int .u64 11400714819323198485)) (Yq 0)),Cr (.build (some [(0,(1,(Yq 4))),(2,(1,(Yq 0)))]) (some [.nilSlice,(.int .i64 0),(.int .u64 0)])),Cr (.box (Yq 0)),C0] [Cs 2,none,none,none,none,none,none,none]
def c16_2:MCode:=.seq c16_3 .ret
def c16_0:MCode:=.seq c16_1 c16_2
theorem fi16:funInfo Tryd.prog 16 = some { code:=c16_0,ntmps:=10,nargs:=1,ps:=[0,2],res:=[.tmp 2] }:=by kernel_rfl
def c17_1:MCode:=.region [Cr (.alloc (some [.nilSlice,(.int .i64 0)]))] [Cs 4]
def c17_3:MCode:=.region [Cm 0,Cm 1,Cr (.mnmx false [(Yq 0),(Ck 60)]),Ym 60 [(Yq 2),(Ck 1),(Yq 0)],C0] [Cs 5,none,none,none,none]
def c17_5:MCode:=.region [Cm 0,Cm 5,Ym 33 [(Yq 1),(Yq 0)],Cr (.build (some [(1,(1,(Yq 0)))]) (some [.nilSlice,(.int .i64 0)])),Cr (.alloc (some [.nilSlice,(.int .i64 0)])),Yk 2 (Yq 0) (Yq 1)] [none,Cs 6,none,none,none,none]
def c17_7:MCode:=.region [Cm 0,Ym 60 [(Yq 0),(Ck 1),(Ck 3)],C0] [Cs 7,none,none]
def c17_10:MCode:=.region [Cm 5,Yp 0] [Cs 21,Cs 20]
def c17_14:MCode:=.region [Yh .lss (Cp 21) (Cp 20)] [Cs 22]
def c17_16:MCode:=.cond (Cp 22) .skip (.exit 0)
def c17_20:MCode:=.region [Cm 0,Ym 60 [(Yq 0),(Ck 0),(Ck 2)],C0] [Cs 8,none,none]
def c17_22:MCode:=.region [Cm 8,Ym 61 [(Yq 0)],Cm 0,Cm 7,Ym 33 [(Yq 1),(Yq 0)],Cr (.index .arr (some (3,(1,none))) (Yq 3) (Yq 0)),Cr (.build (some [(0,(1,(Yq 0)))]) (some [(.str []),.nilSlice])),Cr (.alloc (some [(.str []),.nilSlice])),Yk 2 (Yq 0) (Yq 1)] [none,Cs 9,none,none,none,none,none,none,none]
def c17_25:MCode:=.region [Cm 8,Yp 0] [Cs 33,Cs 32]
def c17_29:MCode:=.region [Yh .lss (Cp 33) (Cp 32)] [Cs 34]
def c17_31:MCode:=.cond (Cp 34) .skip (.exit 2)
def c17_34:MCode:=.region [Yd 1 9,Ya 0,Cm 0,Cm 5,Ym 33 [(Yq 1),(Yq 0)],.chk none (.load (some none) (Yq 4)) (some (Yq 3)),.fresh,Cr (.buildSlice (some (1,8)) (some [(.int .i64 0)]) 1 [(0,(Yq 0))]),Cr (.append (some (1,8)) (Yq 4) (Yq 0)),Yd 1 9,Yk 1 (Yq 0) (Yq 1)] [none,Cs 42,Cs 41,Cs 40,Cs 39,Cs 38,Cs 37,Cs 36,Cs 35]
def c17_33:MCode:=.block 3 c17_34
def c17_35:MCode:=.region [Yh .add (Cp 33) (Ck 1),C0] [Cs 33,none]
def c17_32:MCode:=.seq c17_33 c17_35
def c17_30:MCode:=.seq c17_31 c17_32
def c17_28:MCode:=.seq c17_29 c17_30
def c17_27:MCode:=.loop c17_28
def c17_26:MCode:=.block 2 c17_27
def Ztl:MCode:=.seq c17_25 c17_26
def c17_36:MCode:=.region [Yd 0 6,Ya 0,Yr 2 (Cp 9),Cr (.buildSlice (some (2,40)) (some [(.str []),.nilSlice]) 1 [(0,(Yq 0))]),Cr (.append (some (2,40)) (Yq 2) (Yq 0)),Yd 0 6,Yk 1 (Yq 0) (Yq 1)] [none,none,none,none,none,none,none]
def c17_23:MCode:=.seq Ztl c17_36
def c17_21:MCode:=.seq c17_22 c17_23
def c17_19:MCode:=.seq c17_20 c17_21
def c17_18:MCode:=.block 1 c17_19
def c17_37:MCode:=.region [Yh .add (Cp 21) (Ck 1),C0] [Cs 21,none]
def c17_17:MCode:=.seq c17_18 c17_37
def c17_15:MCode:=.seq c17_16 c17_17
def c17_13:MCode:=.seq c17_14 c17_15
def c17_12:MCode:=.loop c17_13
def c17_11:MCode:=.block 0 c17_12
def c17_9:MCode:=.seq c17_10 c17_11
def c17_39:MCode:=.region [Yr 2 (Cp 6),Yk 2 (Cp 4) (Yq 0)] [none,none]
def c17_38:MCode:=.seq c17_39 .ret
def c17_8:MCode:=.seq c17_9 c17_38
def c17_6:MCode:=.seq c17_7 c17_8
def c17_4:MCode:=.seq c17_5 c17_6
def c17_2:MCode:=.seq c17_3 c17_4
def c17_0:MCode:=.seq c17_1 c17_2
theorem fi17:funInfo Tryd.prog 17 = some { code:=c17_0,ntmps:=52,nargs:=2,ps:=[6,35,38,37,39,40,36,9,41,42,34,32,33,7,8,22,20,21,5,1,0,4],res:=[.cell 4 42] }:=by kernel_rfl
def c15_1:MCode:=.region [Yo .nilPtr,Yo (.bool false)] [Cs 5,Cs 4]
def c15_3:MCode:=.region [Cm 0,Cm 1,Ym 60 [(Yq 1),(Ck 4),(Yq 0)],C0] [Cs 6,none,none,none]
def c15_5:MCode:=.region [Cm 6,Ym 10 [(Yq 0)],C0,Yg 0 0,Yg 1 1,Yn 1,Yn 1] [Cs 8,Cs 7,none,none,none,none,none]
def c15_8:MCode:=.region [Cm 8,Yh .neq (Yq 0) (Ck 0),C0,Yi 0 (.move (Cp 7)),Yi 1 (.bin .eql .ptr none (Yq 0) (.cst .nilPtr)),Cr (.pick (Yq 2) (.cst (.bool true)) (Yq 0))] [Cs 26,none,none,none,none,none]
def c15_11:MCode:=.region [Yo .nilPtr,Yo (.bool false)] [Cs 5,Cs 4]
def c15_10:MCode:=.seq c15_11 .ret
def c15_9:MCode:=.cond (Cp 26) c15_10 .skip
def c15_7:MCode:=.seq c15_8 c15_9
def c15_13:MCode:=.region [Cr (.build (some [(0,(1,(.cst (.str [97])))),(1,(1,(.cst (.str [110,105,108]))))]) (some [(.str []),(.str [])])),Cr (.build (some [(0,(1,(.cst (.str [115])))),(1,(1,(.cst (.str [117]))))]) (some [(.str []),(.str [])])),Cr (.build (some [(0,(1,(.cst (.str [99,111,110,115])))),(1,(1,(.cst (.str [112]))))]) (some [(.str []),(.str [])])),Cr (.build (some [(0,(2,(Yq 2))),(2,(2,(Yq 1))),(4,(2,(Yq 0)))]) (some [(.str []),(.str []),(.str []),(.str []),(.str []),(.str [])])),Cr (.alloc (some [(.str []),(.str []),(.str []),(.str []),(.str []),(.str [])])),Yk 6 (Yq 0) (Yq 1)] [none,Cs 9,none,none,none,none]
def c15_16:MCode:=.region [Cm 0,Cm 6,Yh .mul (Ck 2) (Yq 0),Ym 33 [(Yq 2),(Yq 0)],Yp 0] [Cs 35,Cs 34,none,none,none]
def c15_20:MCode:=.region [Yh .lss (Cp 35) (Cp 34)] [Cs 36]
def c15_22:MCode:=.cond (Cp 36) .skip (.exit 0)
def c15_26:MCode:=.region [Cm 7,Ym 14 [(Yq 0)],C0] [Cs 10,none,none]
def c15_28:MCode:=.region [Cm 0,Ym 33 [(Yq 0),(Ck 5)]] [Cs 40,none]
def c15_31:MCode:=.region [Yh .eql (Cp 40) (Ck 0),C0] [Cs 64,none]
def c15_33:MCode:=.region [Cm 7,Cm 0,Ym 17 [(Yq 0),(Ck 4)],Ym 19 [(Yq 2),(Yq 0)]] [none,none,none,none]
def c15_35:MCode:=.region [Yh .eql (Cp 40) (Ck 1),C0] [Cs 70,none]
def c15_37:MCode:=.region [Cm 7,Cm 0,Cm 6,Ym 33 [(Yq 1),(Yq 0)],Cm 0,Ym 33 [(Yq 0),(Ck 2)],Cm 0,Cm 6,Ym 33 [(Yq 1),(Yq 0)],Ym 12 [(Yq 8),(Yq 5),(Yq 3),(Yq 0)]] [none,none,none,none,none,none,none,none,none,none]
def c15_39:MCode:=.region [Yh .eql (Cp 40) (Ck 2),C0] [Cs 82,none]
def c15_41:MCode:=.region [Cm 7,Cm 0,Cm 6,Ym 33 [(Yq 1),(Yq 0)],Ym 27 [(Yq 3),(Yq 0)]] [none,none,none,none,none]
def c15_43:MCode:=.region [Cm 0,Ym 33 [(Yq 0),(Ck 3)],C0] [Cs 11,none,none]
def c15_46:MCode:=.region [Cm 10,Yh .eql (Yq 0) (Ck 0)] [Cs 44,none]
def c15_48:MCode:=.region [Yp 0] [Cs 11]
def c15_47:MCode:=.cond (Cp 44) c15_48 .skip
def c15_45:MCode:=.seq c15_46 c15_47
def c15_50:MCode:=.region [Yo .nilSlice] [Cs 12]
def c15_53:MCode:=.region [Cm 11,Yp 0] [Cs 46,Cs 45]
def c15_57:MCode:=.region [Yh .lss (Cp 46) (Cp 45)] [Cs 47]
def c15_59:MCode:=.cond (Cp 47) .skip (.exit 3)
def c15_62:MCode:=.region [Cm 12,Cm 0,Cm 6,Ym 33 [(Yq 1),(Yq 0)],Cr (.buildSlice (some (1,8)) (some [(.int .i64 0)]) 1 [(0,(Yq 0))]),Cr (.append (some (1,8)) (Yq 4) (Yq 0)),C0] [Cs 12,none,none,none,none,none,none]
def c15_61:MCode:=.block 4 c15_62
def c15_63:MCode:=.region [Yh .add (Cp 46) (Ck 1),C0] [Cs 46,none]
def c15_60:MCode:=.seq c15_61 c15_63
def c15_58:MCode:=.seq c15_59 c15_60
def c15_56:MCode:=.seq c15_57 c15_58
def c15_55:MCode:=.loop c15_56
def c15_54:MCode:=.block 3 c15_55
def Ztk:MCode:=.seq c15_53 c15_54
def c15_64:MCode:=.region [Cm 7,Cm 11,Cm 0,Cr (.indexAddr .arr none (some (3,2)) (Cp 9) (Yq 1)),Cm 12,Ym 33 [(Yq 2),(Ck 2)],Cr (.indexAddr .arr none (some (2,1)) (Yq 2) (Yq 0)),Ya 0,Ym 11 [(Yq 7),(Yq 0),(Yq 3)]] [none,Cs 61,Cs 60,Cs 58,Cs 62,Cs 59,Cs 57,Cs 56,Cs 55]
def c15_51:MCode:=.seq Ztk c15_64
def Ztj:MCode:=.seq c15_50 c15_51
def c15_44:MCode:=.seq c15_45 Ztj
def c15_42:MCode:=.seq c15_43 c15_44
def c15_40:MCode:=.cond (Cp 82) c15_41 c15_42
def c15_38:MCode:=.seq c15_39 c15_40
def c15_36:MCode:=.cond (Cp 70) c15_37 c15_38
def c15_34:MCode:=.seq c15_35 c15_36
def c15_32:MCode:=.cond (Cp 64) c15_33 c15_34
def c15_30:MCode:=.seq c15_31 c15_32
def c15_29:MCode:=.block 2 c15_30
def c15_27:MCode:=.seq c15_28 c15_29
def c15_25:MCode:=.seq c15_26 c15_27
def Zti:MCode:=.block 1 c15_25
def c15_65:MCode:=.region [Yh .add (Cp 35) (Ck 1),C0] [Cs 35,none]
def c15_23:MCode:=.seq Zti c15_65
def c15_21:MCode:=.seq c15_22 c15_23
def c15_19:MCode:=.seq c15_20 c15_21
def c15_18:MCode:=.loop c15_19
def c15_17:MCode:=.block 0 c15_18
def c15_15:MCode:=.seq c15_16 c15_17
def c15_67:MCode:=.region [Cm 7,C0,Yo (.bool true)] [Cs 5,Cs 4,none]
def c15_66:MCode:=.seq c15_67 .ret
def c15_14:MCode:=.seq c15_15 c15_66
def c15_12:MCode:=.seq c15_13 c15_14
def c15_6:MCode:=.seq c15_7 c15_12
def c15_4:MCode:=.seq c15_5 c15_6
def c15_2:MCode:=.seq c15_3 c15_4
def c15_0:MCode:=.seq c15_1 c15_2
theorem fi15:funInfo Tryd.prog 15 = some { code:=c15_0,ntmps:=91,nargs:=2,ps:=[57,56,9,58,59,60,62,61,55,12,47,45,46,11,44,10,82,70,64,40,36,34,35,26,7,8,6,1,0,4,5],res:=[.tmp 4,.tmp 5] }:=by kernel_rfl
end Go.Proofs
end
section
open Go Go.AM
namespace Go.Proofs
def c65_1:MCode:=.region [Yo .nilSlice] [Cs 4]
def c65_3:MCode:=.region [Cm 1,Cr (.mnmx true [(Ck 0),(Yq 0)]),Cr (.makeSlice (some (1,8)) (some [(.int .i64 0)]) (Yq 0) (Yq 0)),C0] [Cs 5,none,none,none]
def c65_6:MCode:=.region [Cm 5,Yl (Yq 0),Yp 0] [Cs 13,Cs 12,none]
def c65_10:MCode:=.region [Yh .lss (Cp 13) (Cp 12)] [Cs 14]
def c65_12:MCode:=.cond (Cp 14) .skip (.exit 0)
def c65_16:MCode:=.region [Cm 13,C0] [Cs 6,none]
def c65_18:MCode:=.region [Cm 0,Cm 6,Yh .add (Yq 0) (Ck 1),Ym 33 [(Yq 2),(Yq 0)],C0] [Cs 7,none,none,none,none]
def c65_19:MCode:=.region [Cm 5,Cm 6,Cm 5,Cm 7,Cm 5,Cm 7,Ye 1 8 (Yq 1) (Yq 0),Ya 0,Cm 6,Ye 1 8 (Yq 8) (Yq 7),Yk 1 (Yq 0) (Yq 2),Ye 1 8 (Yq 8) (Yq 7),Yk 1 (Yq 0) (Yq 3)] [none,none,none,none,none,none,none,none,none,none,none,none,none]
def c65_17:MCode:=.seq c65_18 c65_19
def c65_15:MCode:=.seq c65_16 c65_17
def c65_14:MCode:=.block 1 c65_15
def c65_20:MCode:=.region [Yh .add (Cp 13) (Ck 1),C0] [Cs 13,none]
def c65_13:MCode:=.seq c65_14 c65_20
def c65_11:MCode:=.seq c65_12 c65_13
def c65_9:MCode:=.seq c65_10 c65_11
def c65_8:MCode:=.loop c65_9
def c65_7:MCode:=.block 0 c65_8
def c65_5:MCode:=.seq c65_6 c65_7
def c65_22:MCode:=.region [Cm 5,C0] [Cs 4,none]
def c65_21:MCode:=.seq c65_22 .ret
def c65_4:MCode:=.seq c65_5 c65_21
def c65_2:MCode:=.seq c65_3 c65_4
def c65_0:MCode:=.seq c65_1 c65_2
theorem fi65:funInfo Tryd.prog 65 = some { code:=c65_0,ntmps:=33,nargs:=2,ps:=[7,6,0,14,12,13,5,1,4],res:=[.tmp 4] }:=by kernel_rfl
def c21_1:MCode:=.region [Cr (.box (Cp 1)),Cr (.alloc (some [.nilSlice,(.int .i64 0)]))] [Cs 4,Cs 3]
def c21_3:MCode:=.region [Yd 0 3,Ya 0,Yl (Yq 0),C0] [Cs 5,none,none,none]
def c21_6:MCode:=.region [Cm 5,Yh .mul (Ck 2) (Yq 0),Yh .gtr (Yq 0) (Ck 60)] [Cs 17,none,none]
def c21_9:MCode:=.region [Yr 2 (Cp 3),Ym 64 [(Yq 0)],Yk 2 (Cp 4) (Yq 0)] [none,none,none]
def c21_8:MCode:=.seq c21_9 .ret
def c21_7:MCode:=.cond (Cp 17) c21_8 .skip
def c21_5:MCode:=.seq c21_6 c21_7
def c21_11:MCode:=.region [Cm 0,Cm 5,Yh .mul (Ck 2) (Yq 0),Ym 65 [(Yq 2),(Yq 0)],C0] [Cs 6,none,none,none,none]
def c21_13:MCode:=.region [Cm 5,Yh .mul (Ck 2) (Yq 0),Cm 6,Yd 1 3,Ya 0,Cm 5,Cm 0,.peek (.makeSlice (some (2,40)) (some [(.str []),.nilSlice]) (Yq 5) (Yq 5)),.peek (.alloc (some [.nilSlice,(.int .i64 0)])),Ym 33 [(Yq 0),(Ck 2)],.chk none (.load (some none) (Yq 4)) (some (Yq 3)),Yh .mul (Yq 2) (Yq 0),Yh .add (Yq 4) (Yq 0),Ye 1 8 (Yq 7) (Yq 0),Ya 0,.fresh,Cr (.makeSlice (some (2,40)) (some [(.str []),.nilSlice]) (Yq 10) (Yq 10)),Cr (.build (some [(0,(1,(Yq 0))),(1,(1,(Yq 1)))]) (some [.nilSlice,(.int .i64 0)])),.fresh,Cr (.alloc (some [.nilSlice,(.int .i64 0)])),Yk 2 (Yq 0) (Yq 1)] [none,Cs 7,Cs 37,Cs 26,Cs 36,Cs 35,Cs 34,Cs 33,Cs 32,Cs 31,Cs 30,Cs 29,Cs 28,Cs 27,Cs 25,Cs 24]
def c21_16:MCode:=.region [Cm 5,Yh .mul (Ck 2) (Yq 0),Yp 0] [Cs 40,Cs 39,none]
def c21_20:MCode:=.region [Yh .lss (Cp 40) (Cp 39)] [Cs 41]
def c21_22:MCode:=.cond (Cp 41) .skip (.exit 0)
def c21_26:MCode:=.region [Cm 40,C0] [Cs 8,none]
def c21_28:MCode:=.region [Yd 0 3,Ya 0,Cm 8,Cm 5,Yh .rem (Yq 1) (Yq 0),Ye 2 40 (Yq 3) (Yq 0),Yc 0 0,Ya 0,Cr (.build (some [(0,(1,(Yq 0)))]) (some [(.str []),.nilSlice])),.fresh,Cr (.alloc (some [(.str []),.nilSlice])),Yk 2 (Yq 0) (Yq 1)] [none,Cs 9,Cs 51,Cs 50,Cs 49,Cs 48,Cs 47,Cs 46,Cs 45,Cs 44,Cs 43]
def c21_31:MCode:=.region [Yd 0 3,Ya 0,Cm 8,Cm 5,Yh .rem (Yq 1) (Yq 0),Ye 2 40 (Yq 3) (Yq 0),Yc 1 0,Ya 0,Yl (Yq 0),Yp 0] [Cs 61,Cs 60,Cs 59,Cs 58,Cs 57,Cs 56,Cs 55,Cs 54,Cs 53,Cs 52]
def c21_35:MCode:=.region [Yh .lss (Cp 61) (Cp 60)] [Cs 62]
def c21_37:MCode:=.cond (Cp 62) .skip (.exit 2)
def c21_41:MCode:=.region [Ye 1 8 (Cp 59) (Cp 61),Ya 0,C0] [Cs 11,none,none]
def c21_42:MCode:=.region [Yd 1 9,Ya 0,Cm 6,Cm 11,Cm 5,Cm 0,Ym 33 [(Yq 0),(Ck 2)],.chk none (.load (some none) (Yq 6)) (some (Yq 5)),Yh .mul (Yq 2) (Yq 0),Yh .add (Yq 4) (Yq 0),Ye 1 8 (Yq 6) (Yq 0),Ya 0,.fresh,Cr (.buildSlice (some (1,8)) (some [(.int .i64 0)]) 1 [(0,(Yq 0))]),Cr (.append (some (1,8)) (Yq 10) (Yq 0)),Yd 1 9,Yk 1 (Yq 0) (Yq 1)] [none,Cs 78,Cs 77,Cs 76,Cs 75,Cs 74,Cs 73,Cs 72,Cs 71,Cs 70,Cs 69,Cs 68,Cs 67,Cs 66,Cs 65]
def c21_40:MCode:=.seq c21_41 c21_42
def c21_39:MCode:=.block 3 c21_40
def c21_43:MCode:=.region [Yh .add (Cp 61) (Ck 1),C0] [Cs 61,none]
def c21_38:MCode:=.seq c21_39 c21_43
def c21_36:MCode:=.seq c21_37 c21_38
def c21_34:MCode:=.seq c21_35 c21_36
def c21_33:MCode:=.loop c21_34
def Ztp:MCode:=.block 2 c21_33
def c21_30:MCode:=.seq c21_31 Ztp
def c21_44:MCode:=.region [Yd 0 7,Ya 0,Cm 6,Cm 8,Ye 1 8 (Yq 1) (Yq 0),Ya 0,Yr 2 (Cp 9),Ye 2 40 (Yq 5) (Yq 1),Yk 2 (Yq 0) (Yq 1)] [none,Cs 87,Cs 86,Cs 85,Cs 84,Cs 83,Cs 82,Cs 81,Cs 80]
def c21_29:MCode:=.seq c21_30 c21_44
def c21_27:MCode:=.seq c21_28 c21_29
def c21_25:MCode:=.seq c21_26 c21_27
def c21_24:MCode:=.block 1 c21_25
def c21_45:MCode:=.region [Yh .add (Cp 40) (Ck 1),C0] [Cs 40,none]
def c21_23:MCode:=.seq c21_24 c21_45
def c21_21:MCode:=.seq c21_22 c21_23
def c21_19:MCode:=.seq c21_20 c21_21
def c21_18:MCode:=.loop c21_19
def c21_17:MCode:=.block 0 c21_18
def c21_15:MCode:=.seq c21_16 c21_17
def c21_47:MCode:=.region [Yr 2 (Cp 7),Yk 2 (Cp 4) (Yq 0)] [none,none]
def c21_46:MCode:=.seq c21_47 .ret
def c21_14:MCode:=.seq c21_15 c21_46
def c21_12:MCode:=.seq c21_13 c21_14
def c21_10:MCode:=.seq c21_11 c21_12
def c21_4:MCode:=.seq c21_5 c21_10
def c21_2:MCode:=.seq c21_3 c21_4
def c21_0:MCode:=.seq c21_1 c21_2
theorem fi21:funInfo Tryd.prog 21 = some { code:=c21_0,ntmps:=90,nargs:=2,ps:=[80,83,82,84,85,81,86,87,65,11,70,71,69,72,68,73,67,74,75,76,66,77,78,62,60,61,52,55,54,56,53,57,58,59,43,8,46,45,47,44,48,49,50,51,9,41,39,40,24,25,6,28,31,32,30,33,29,34,27,35,36,26,37,7,0,17,5,3,1,4],res:=[.cell 4 42] }:=by kernel_rfl
def c4_1:MCode:=.region [Yo (.bool false)] [Cs 6]
def c4_3:MCode:=.region [Cm 0,Ym 16 [(Yq 0)],Ym 15 [(Yq 0),(Ck 24)],C0,Yg 0 0,Yg 1 1,Yn 1,Yn 1] [Cs 8,Cs 7,none,none,none,none,none,none]
def c4_6:MCode:=.region [Cm 8,Cr (.un .not (Yq 0))] [Cs 40,none]
def c4_9:MCode:=.region [Yo (.bool false)] [Cs 6]
def c4_8:MCode:=.seq c4_9 .ret
def c4_7:MCode:=.cond (Cp 40) c4_8 .skip
def c4_5:MCode:=.seq c4_6 c4_7
def c4_12:MCode:=.region [Cm 7,Ym 13 [(Yq 0)],C0,Yg 0 0,Yg 1 1,Yn 1,Yn 1] [Cs 10,none,none,none,none,none,none]
def c4_14:MCode:=.region [Cm 10,Yh .neq (Yq 0) (Ck 0)] [Cs 47,none]
def c4_17:MCode:=.region [Yo (.bool false)] [Cs 6]
def c4_16:MCode:=.seq c4_17 .ret
def c4_15:MCode:=.cond (Cp 47) c4_16 .skip
def c4_13:MCode:=.seq c4_14 c4_15
def c4_11:MCode:=.seq c4_12 c4_13
def c4_19:MCode:=.region [Cm 1,Ym 16 [(Yq 0)],Ym 17 [(Yq 0),(Ck 5)],Cr (.alloc (some [.nilSlice,(.int .i64 0)])),Yk 2 (Yq 0) (Yq 1)] [none,Cs 11,none,none,none]
def c4_21:MCode:=.region [Cm 7,Ym 18 [(Yq 0)],Cm 7,Ym 14 [(Yq 0)],Yn 2,Yn 1] [Cs 13,Cs 12,none,none,none,none]
def c4_23:MCode:=.region [Cm 7,Yr 2 (Cp 11),Ym 19 [(Yq 1),(Yq 0)],C0,Yg 0 0,Yg 1 1,Yn 1,Yn 1] [Cs 15,Cs 14,none,none,none,none,none,none]
def c4_26:MCode:=.region [Cm 15,Yh .eql (Yq 0) (Ck 12)] [Cs 62,none]
def c4_29:MCode:=.region [Cm 7,Yr 2 (Cp 11),Ym 20 [(Yq 1),(Yq 0)],C0,Yg 0 0,Yg 1 1,Yn 1,Yn 1] [Cs 17,none,none,none,none,none,none,none]
def c4_31:MCode:=.region [Cm 17,Yh .eql (Yq 0) (Ck 1),C0,Yj 0 (.move (Cp 7)),Yj 1 (.call (.cst (.fn 18 [] [])) [(Yq 0)]),Yj 2 (.move (Cp 12)),Yj 3 (.bin .eql .other none (Yq 1) (Yq 0)),Cr (.pick (Yq 4) (Yq 0) (.cst (.bool false))),C0,Yj 0 (.move (Cp 12)),Yj 1 (.fieldAddr (some 0) (Cp 11)),Yj 2 (.load (some none) (Yq 0)),Yj 3 (.len (some (.slc,0)) (Yq 0)),Yj 4 (.bin .lss .other none (Yq 3) (Yq 0)),Cr (.pick (Yq 5) (Yq 0) (.cst (.bool false))),C0,Yj 0 (.call (.cst (.fn 9 [] [])) []),Cr (.pick (Yq 1) (Yq 0) (.cst (.bool false))),C0] [Cs 6,none,none,none,none,none,none,none,none,none,none,none,none,none,none,none,none,none,none]
def c4_30:MCode:=.seq c4_31 .ret
def c4_28:MCode:=.seq c4_29 c4_30
def c4_27:MCode:=.cond (Cp 62) c4_28 .skip
def c4_25:MCode:=.seq c4_26 c4_27
def c4_33:MCode:=.region [Cm 7,Cm 2,Yr 2 (Cp 11),Ym 16 [(Yq 1)],.chk none (.load (some (some 2)) (Cp 11)) (some (Yq 1)),Ym 21 [(Yq 0),(Yq 1)],Ym 19 [(Yq 4),(Yq 0)],C0,Yg 0 0,Yg 1 1,Yn 1,Yn 1] [Cs 19,Cs 18,Cs 95,Cs 94,Cs 87,Cs 93,Cs 92,Cs 90,Cs 91,Cs 89,Cs 88]
def c4_35:MCode:=.region [Cm 7,Yr 2 (Cp 11),Ym 20 [(Yq 1),(Yq 0)],C0,Yg 0 0,Yg 1 1,Yn 1,Yn 1] [Cs 21,Cs 20,none,none,none,none,none,none]
def c4_37:MCode:=.region [Cm 7,Cm 14,Ym 22 [(Yq 1),(Yq 0)],C0,Yg 0 0,Yg 1 1,Cr (.alloc (some [.nilSlice,(.int .i64 0)])),Yk 2 (Yq 0) (Yq 2),Yn 2] [Cs 23,none,Cs 22,none,none,none,none,none,none]
def c4_39:MCode:=.region [Yr 2 (Cp 11),Ym 23 [(Yq 0)],C0,Yg 0 0,Yg 1 1,Cr (.alloc (some [.nilSlice,(.int .i64 0)])),Yk 2 (Yq 0) (Yq 2),Yn 2] [Cs 25,none,Cs 24,none,none,none,none,none]
def c4_42:MCode:=.region [Cm 15,Yh .neq (Yq 0) (Ck 0),C0,Yi 0 (.move (Cp 19)),Yi 1 (.bin .neq .other none (Yq 0) (Ck 0)),Cr (.pick (Yq 2) (.cst (.bool true)) (Yq 0)),C0,Yi 0 (.move (Cp 21)),Yi 1 (.bin .neq .other none (Yq 0) (Ck 0)),Cr (.pick (Yq 2) (.cst (.bool true)) (Yq 0)),C0,Yi 0 (.move (Cp 23)),Yi 1 (.bin .neq .other none (Yq 0) (Ck 0)),Cr (.pick (Yq 2) (.cst (.bool true)) (Yq 0)),C0,Yi 0 (.move (Cp 25)),Yi 1 (.bin .neq .other none (Yq 0) (Ck 0)),Cr (.pick (Yq 2) (.cst (.bool true)) (Yq 0)),C0,Yi 0 (.move (Cp 18)),Yi 1 (.move (Cp 14)),Yi 2 (.bin .neq .other none (Yq 1) (Yq 0)),Cr (.pick (Yq 3) (.cst (.bool true)) (Yq 0)),C0,Yi 0 (.move (Cp 20)),Yi 1 (.move (Cp 14)),Yi 2 (.bin .neq .other none (Yq 1) (Yq 0)),Cr (.pick (Yq 3) (.cst (.bool true)) (Yq 0)),C0,Yi 0 (.load (some (some 2)) (Cp 22)),Yi 1 (.load (some (some 2)) (Cp 24)),Yi 2 (.call (.cst (.fn 24 [] [])) [(Yq 1),(Yq 0)]),Yi 3 (.un .not (Yq 0)),Cr (.pick (Yq 4) (.cst (.bool true)) (Yq 0)),C0,Yi 0 (.move (Cp 7)),Yi 1 (.move (Cp 13)),Yi 2 (.call (.cst (.fn 14 [] [])) [(Yq 1)]),Yi 3 (.bin .lss .other none (Yq 0) (Yq 1)),Cr (.pick (Yq 4) (.cst (.bool true)) (Yq 0)),C0,Yi 0 (.move (Cp 7)),Yi 1 (.move (Cp 13)),Yi 2 (.fieldAddr (some 0) (Cp 24)),Yi 3 (.load (some none) (Yq 0)),Yi 4 (.len (some (.slc,0)) (Yq 0)),Yi 5 (.bin .add .other none (Yq 3) (Yq 0)),Yi 6 (.call (.cst (.fn 14 [] [])) [(Yq 5)]),.chk (some (some ((Yq 7),false))) (.load (some none) (Yq 4)) (some (Yq 3)),Yi 7 (.bin .gtr .other none (Yq 0) (Yq 1)),Cr (.pick (Yq 8) (.cst (.bool true)) (Yq 0))] [Cs 162,Cs 161,Cs 155,Cs 160,Cs 159,Cs 158,Cs 157,Cs 156,Cs 154,Cs 153,Cs 152,Cs 151,Cs 149,Cs 150,Cs 148,Cs 147,Cs 146,Cs 145,Cs 144,Cs 143,Cs 142,Cs 141,Cs 140,Cs 139,Cs 138,Cs 137,Cs 136,Cs 135,Cs 134,Cs 133,Cs 132,Cs 131,Cs 130,Cs 129,Cs 128,Cs 127,Cs 126,Cs 125,Cs 124,Cs 123,Cs 122,Cs 121,Cs 120,Cs 119,Cs 118,Cs 117,Cs 116,Cs 115,Cs 114,Cs 113]
def c4_45:MCode:=.region [Yo (.bool false)] [Cs 6]
def c4_44:MCode:=.seq c4_45 .ret
def c4_43:MCode:=.cond (Cp 162) c4_44 .skip
def c4_41:MCode:=.seq c4_42 c4_43
def c4_48:MCode:=.region [Cm 7,Ym 25 [(Yq 0)],C0,Yg 0 0,Yg 1 1,Yn 1,Yn 1] [Cs 27,Cs 26,none,none,none,none,none]
def c4_50:MCode:=.region [Cm 27,Yh .neq (Yq 0) (Ck 0),C0,Yi 0 (.move (Cp 26)),Yi 1 (.un .not (Yq 0)),Cr (.pick (Yq 2) (.cst (.bool true)) (Yq 0))] [Cs 173,none,none,none,none,none]
def c4_53:MCode:=.region [Yo (.bool false)] [Cs 6]
def c4_52:MCode:=.seq c4_53 .ret
def c4_51:MCode:=.cond (Cp 173) c4_52 .skip
def c4_49:MCode:=.seq c4_50 c4_51
def c4_47:MCode:=.seq c4_48 c4_49
def c4_56:MCode:=.region [Cm 7,Ym 14 [(Yq 0)],Cm 7,Ym 18 [(Yq 0)],Yh .add (Yq 2) (Yq 0),Yp 0] [Cs 179,Cs 178,none,none,none,none]
def c4_60:MCode:=.region [Yh .lss (Cp 179) (Cp 178)] [Cs 180]
def c4_62:MCode:=.cond (Cp 180) .skip (.exit 0)
def c4_66:MCode:=.region [Cm 179,C0] [Cs 28,none]
def c4_68:MCode:=.region [Cm 7,Cm 28,Ym 22 [(Yq 1),(Yq 0)],C0,Yg 0 0,Yg 1 1,Cr (.alloc (some [.nilSlice,(.int .i64 0)])),Yk 2 (Yq 0) (Yq 2),Yn 2] [Cs 30,none,Cs 29,none,none,none,none,none,none]
def c4_71:MCode:=.region [Cm 30,Yh .eql (Yq 0) (Ck 1)] [Cs 189,none]
def c4_72:MCode:=.cond (Cp 189) (.exit 1) .skip
def c4_70:MCode:=.seq c4_71 c4_72
def c4_74:MCode:=.region [Cm 7,Yr 2 (Cp 29),Ym 19 [(Yq 1),(Yq 0)],C0,Yg 0 0,Yg 1 1,Yn 1,Yn 1] [Cs 32,Cs 31,none,none,none,none,none,none]
def c4_76:MCode:=.region [Cm 30,Yh .neq (Yq 0) (Ck 0),C0,Yi 0 (.move (Cp 32)),Yi 1 (.bin .neq .other none (Yq 0) (Ck 0)),Cr (.pick (Yq 2) (.cst (.bool true)) (Yq 0)),C0,Yi 0 (.move (Cp 31)),Yi 1 (.move (Cp 28)),Yi 2 (.bin .neq .other none (Yq 1) (Yq 0)),Cr (.pick (Yq 3) (.cst (.bool true)) (Yq 0))] [Cs 206,none,none,none,none,none,none,none,none,none,none]
def c4_79:MCode:=.region [Yo (.bool false)] [Cs 6]
def c4_78:MCode:=.seq c4_79 .ret
def c4_77:MCode:=.cond (Cp 206) c4_78 .skip
def c4_75:MCode:=.seq c4_76 c4_77
def c4_73:MCode:=.seq c4_74 c4_75
def c4_69:MCode:=.seq c4_70 c4_73
def c4_67:MCode:=.seq c4_68 c4_69
def c4_65:MCode:=.seq c4_66 c4_67
def c4_64:MCode:=.block 1 c4_65
def c4_80:MCode:=.region [Yh .add (Cp 179) (Ck 1),C0] [Cs 179,none]
def c4_63:MCode:=.seq c4_64 c4_80
def c4_61:MCode:=.seq c4_62 c4_63
def c4_59:MCode:=.seq c4_60 c4_61
def c4_58:MCode:=.loop c4_59
def c4_57:MCode:=.block 0 c4_58
def c4_55:MCode:=.seq c4_56 c4_57
def c4_82:MCode:=.region [Ym 9 [],C0] [Cs 6,none]
def c4_81:MCode:=.seq c4_82 .ret
def c4_54:MCode:=.seq c4_55 c4_81
def c4_46:MCode:=.seq c4_47 c4_54
def c4_40:MCode:=.seq c4_41 c4_46
def c4_38:MCode:=.seq c4_39 c4_40
def c4_36:MCode:=.seq c4_37 c4_38
def c4_34:MCode:=.seq c4_35 c4_36
def c4_32:MCode:=.seq c4_33 c4_34
def c4_24:MCode:=.seq c4_25 c4_32
def c4_22:MCode:=.seq c4_23 c4_24
def c4_20:MCode:=.seq c4_21 c4_22
def c4_18:MCode:=.seq c4_19 c4_20
def c4_10:MCode:=.seq c4_11 c4_18
def c4_4:MCode:=.seq c4_5 c4_10
def c4_2:MCode:=.seq c4_3 c4_4
def c4_0:MCode:=.seq c4_1 c4_2
theorem fi4:funInfo Tryd.prog 4 = some { code:=c4_0,ntmps:=209,nargs:=3,ps:=[206,31,32,29,189,30,28,180,178,179,173,26,27,162,113,114,19,116,117,115,118,21,120,121,119,122,23,124,125,123,126,25,128,129,127,130,18,133,132,134,131,135,20,138,137,139,136,140,22,143,142,144,145,141,146,148,150,149,151,147,152,154,13,24,157,158,159,156,160,155,161,153,14,2,89,91,90,92,88,93,87,94,95,12,17,62,15,11,1,47,10,7,40,8,0,6],res:=[.tmp 6] }:=by kernel_rfl
end Go.Proofs
end
section
open Go Go.AM
namespace Go.Proofs
def c62_1:MCode:=.region [Cr (.box (Cp 0)),Cr (.box (Cp 1)),Yo .nilSlice] [Cs 4,Cs 3,Cs 2]
def c62_3:MCode:=.region [Yr 1 (Cp 2),Ym 50 [(Yq 0)],C0,Yg 0 0,Yg 1 1,Yn 1,Yn 1] [Cs 6,Cs 5,none,none,none,none,none]
def c62_5:MCode:=.region [Cm 5,Yl (Yq 0),C0] [Cs 7,none,none]
def c62_8:MCode:=.region [Yd 0 3,Ya 0,Yl (Yq 0),Yp 0] [Cs 26,Cs 25,Cs 24,none]
def c62_12:MCode:=.region [Yh .lss (Cp 26) (Cp 25)] [Cs 27]
def c62_14:MCode:=.cond (Cp 27) .skip (.exit 0)
def c62_18:MCode:=.region [Cm 26,Ye 2 40 (Cp 24) (Cp 26),Yr 2 (Yq 0),Cr (.alloc (some [(.str []),.nilSlice])),Yn 3,Yk 2 (Yq 1) (Yq 2)] [none,Cs 8,Cs 9,none,none,none]
def c62_20:MCode:=.region [Yd 0 9,Ya 0,Cr (.build (some [(0,(1,(Yq 0)))]) (some [(.str []),.nilSlice])),Cr (.alloc (some [(.str []),.nilSlice])),Yk 2 (Yq 0) (Yq 1)] [none,Cs 10,none,none,none]
def c62_23:MCode:=.region [Yd 1 9,Ya 0,Yl (Yq 0),Yp 0] [Cs 37,Cs 36,Cs 35,none]
def c62_27:MCode:=.region [Yh .lss (Cp 37) (Cp 36)] [Cs 38]
def c62_29:MCode:=.cond (Cp 38) .skip (.exit 2)
def c62_33:MCode:=.region [Ye 1 8 (Cp 35) (Cp 37),Ya 0,C0] [Cs 12,none,none]
def c62_34:MCode:=.region [Yd 1 10,Ya 0,Cm 7,Cm 12,Yh .add (Yq 1) (Yq 0),Cr (.buildSlice (some (1,8)) (some [(.int .i64 0)]) 1 [(0,(Yq 0))]),Cr (.append (some (1,8)) (Yq 4) (Yq 0)),Yd 1 10,Yk 1 (Yq 0) (Yq 1)] [none,none,none,none,none,none,none,none,none]
def c62_32:MCode:=.seq c62_33 c62_34
def c62_31:MCode:=.block 3 c62_32
def c62_35:MCode:=.region [Yh .add (Cp 37) (Ck 1),C0] [Cs 37,none]
def c62_30:MCode:=.seq c62_31 c62_35
def c62_28:MCode:=.seq c62_29 c62_30
def c62_26:MCode:=.seq c62_27 c62_28
def c62_25:MCode:=.loop c62_26
def c62_24:MCode:=.block 2 c62_25
def Ztw:MCode:=.seq c62_23 c62_24
def c62_36:MCode:=.region [Cm 5,Yr 2 (Cp 10),Cr (.buildSlice (some (2,40)) (some [(.str []),.nilSlice]) 1 [(0,(Yq 0))]),Cr (.append (some (2,40)) (Yq 2) (Yq 0)),Cm 6,Cm 7,Cm 8,Yh .add (Yq 1) (Yq 0),Cr (.buildSlice (some (1,8)) (some [(.int .i64 0)]) 1 [(0,(Yq 0))]),Cr (.append (some (1,8)) (Yq 4) (Yq 0)),Yn 6,Yn 1] [Cs 6,Cs 5,none,none,none,none,none,none,none,none,none,none]
def c62_21:MCode:=.seq Ztw c62_36
def c62_19:MCode:=.seq c62_20 c62_21
def c62_17:MCode:=.seq c62_18 c62_19
def c62_16:MCode:=.block 1 c62_17
def c62_37:MCode:=.region [Yh .add (Cp 26) (Ck 1),C0] [Cs 26,none]
def c62_15:MCode:=.seq c62_16 c62_37
def c62_13:MCode:=.seq c62_14 c62_15
def c62_11:MCode:=.seq c62_12 c62_13
def c62_10:MCode:=.loop c62_11
def c62_9:MCode:=.block 0 c62_10
def c62_7:MCode:=.seq c62_8 c62_9
def c62_39:MCode:=.region [Cm 5,Cm 6,Ym 49 [(Yq 1),(Yq 0)],C0] [Cs 13,none,none,none]
def c62_41:MCode:=.region [Yd 0 3,Ya 0,Yl (Yq 0),Cr (.makeSlice (some (1,8)) (some [(.int .i64 0)]) (Yq 0) (Yq 0)),C0] [Cs 14,none,none,none,none]
def c62_44:MCode:=.region [Cm 14,Yl (Yq 0),Yp 0] [Cs 70,Cs 69,none]
def c62_48:MCode:=.region [Yh .lss (Cp 70) (Cp 69)] [Cs 71]
def c62_50:MCode:=.cond (Cp 71) .skip (.exit 4)
def c62_54:MCode:=.region [Cm 70,C0] [Cs 15,none]
def c62_55:MCode:=.region [Cm 14,Cm 15,Cm 13,Cm 7,Cr (.slice .slc (some (1,8)) none (Yq 1) none (some (Yq 0)) none),Cm 13,Cm 7,Cm 15,Yh .add (Yq 1) (Yq 0),Ye 1 8 (Yq 3) (Yq 0),Ya 0,Ym 53 [(Yq 6),(Yq 0)],Ye 1 8 (Yq 11) (Yq 10),Yk 1 (Yq 0) (Yq 1)] [none,Cs 85,Cs 84,Cs 83,Cs 82,Cs 81,Cs 80,Cs 79,Cs 78,Cs 77,Cs 76,Cs 75,Cs 74,Cs 73]
def c62_53:MCode:=.seq c62_54 c62_55
def c62_52:MCode:=.block 5 c62_53
def c62_56:MCode:=.region [Yh .add (Cp 70) (Ck 1),C0] [Cs 70,none]
def c62_51:MCode:=.seq c62_52 c62_56
def c62_49:MCode:=.seq c62_50 c62_51
def c62_47:MCode:=.seq c62_48 c62_49
def c62_46:MCode:=.loop c62_47
def c62_45:MCode:=.block 4 c62_46
def c62_43:MCode:=.seq c62_44 c62_45
def c62_58:MCode:=.region [Cm 14,C0] [Cs 4,none]
def c62_57:MCode:=.seq c62_58 .ret
def c62_42:MCode:=.seq c62_43 c62_57
def c62_40:MCode:=.seq c62_41 c62_42
def c62_38:MCode:=.seq c62_39 c62_40
def c62_6:MCode:=.seq c62_7 c62_38
def c62_4:MCode:=.seq c62_5 c62_6
def c62_2:MCode:=.seq c62_3 c62_4
def c62_0:MCode:=.seq c62_1 c62_2
theorem fi62:funInfo Tryd.prog 62 = some { code:=c62_0,ntmps:=88,nargs:=2,ps:=[76,75,13,15,80,79,81,78,82,83,77,74,73,84,85,71,69,70,14,8,6,12,7,10,35,38,36,37,9,24,27,25,26,3,5,2,1,0,4],res:=[.tmp 4] }:=by kernel_rfl
def c66_1:MCode:=.region [Cr (.box (Cp 0)),Cr (.box (Cp 1))] [Cs 4,Cs 3]
def c66_3:MCode:=.region [Yd 0 3,Ya 0,Yl (Yq 0),Cr (.makeSlice (some (1,1)) (some [(.bool false)]) (Yq 0) (Yq 0)),Cr (.alloc (some [.nilSlice])),Yk 1 (Yq 0) (Yq 1)] [none,Cs 6,none,none,none,none]
def c66_5:MCode:=.region [Cr (.alloc (some [.nilSlice]))] [Cs 7]
def c66_7:MCode:=.region [Cr (.func (some 97) [] [(Cp 6),(Cp 7),(Cp 4)]),C0] [Cs 8,none]
def c66_9:MCode:=.region [Cm 2,Yl (Yq 0),Yp 0] [Cs 20,Cs 19,Cs 18]
def c66_13:MCode:=.region [Yh .lss (Cp 20) (Cp 19)] [Cs 21]
def c66_15:MCode:=.cond (Cp 21) .skip (.exit 0)
def c66_19:MCode:=.region [Ye 1 8 (Cp 18) (Cp 20),Ya 0,C0] [Cs 10,none,none]
def c66_21:MCode:=.region [Cm 8,Cm 10,Cr (.call (Yq 1) [(Yq 0)])] [none,none,none]
def c66_26:MCode:=.region [Yb 7,Yl (Yq 0),Yh .gtr (Yq 0) (Ck 0)] [Cs 29,none,none]
def c66_27:MCode:=.cond (Cp 29) .skip (.exit 2)
def c66_25:MCode:=.seq c66_26 c66_27
def c66_31:MCode:=.region [Yd 0 3,Ya 0,Yb 7,Ye 1 8 (Yq 0) (Ck 0),Ya 0,Ye 4 56 (Yq 3) (Yq 0),Yc 2 0,Ya 0,Yl (Yq 0),Yp 0] [Cs 41,Cs 40,Cs 39,Cs 38,Cs 37,Cs 36,Cs 35,Cs 34,Cs 33,Cs 32]
def c66_35:MCode:=.region [Yh .lss (Cp 41) (Cp 40)] [Cs 42]
def c66_37:MCode:=.cond (Cp 42) .skip (.exit 4)
def c66_41:MCode:=.region [Ye 1 8 (Cp 39) (Cp 41),Ya 0,C0] [Cs 12,none,none]
def c66_42:MCode:=.region [Cm 8,Cm 12,Cr (.call (Yq 1) [(Yq 0)])] [none,none,none]
def c66_40:MCode:=.seq c66_41 c66_42
def c66_39:MCode:=.block 5 c66_40
def c66_43:MCode:=.region [Yh .add (Cp 41) (Ck 1),C0] [Cs 41,none]
def c66_38:MCode:=.seq c66_39 c66_43
def c66_36:MCode:=.seq c66_37 c66_38
def c66_34:MCode:=.seq c66_35 c66_36
def c66_33:MCode:=.loop c66_34
def c66_32:MCode:=.block 4 c66_33
def Zty:MCode:=.seq c66_31 c66_32
def c66_29:MCode:=.block 3 Zty
def c66_44:MCode:=.region [Yb 7,Cr (.slice .slc (some (1,8)) none (Yq 0) (some (Ck 1)) none none),Yk 1 (Cp 7) (Yq 0)] [none,none,none]
def c66_28:MCode:=.seq c66_29 c66_44
def c66_24:MCode:=.seq c66_25 c66_28
def c66_23:MCode:=.loop c66_24
def Ztx:MCode:=.block 2 c66_23
def c66_20:MCode:=.seq c66_21 Ztx
def c66_18:MCode:=.seq c66_19 c66_20
def c66_17:MCode:=.block 1 c66_18
def c66_45:MCode:=.region [Yh .add (Cp 20) (Ck 1),C0] [Cs 20,none]
def c66_16:MCode:=.seq c66_17 c66_45
def c66_14:MCode:=.seq c66_15 c66_16
def c66_12:MCode:=.seq c66_13 c66_14
def c66_11:MCode:=.loop c66_12
def c66_10:MCode:=.block 0 c66_11
def c66_8:MCode:=.seq c66_9 c66_10
def c66_6:MCode:=.seq c66_7 c66_8
def c66_4:MCode:=.seq c66_5 c66_6
def c66_2:MCode:=.seq c66_3 c66_4
def c66_0:MCode:=.seq c66_1 c66_2
theorem fi66:funInfo Tryd.prog 66 = some { code:=c66_0,ntmps:=50,nargs:=3,ps:=[12,42,40,41,32,34,35,36,33,37,38,39,29,10,8,18,21,19,20,2,4,7,6,3,1,0],res:=[] }:=by kernel_rfl
def c67_0:MCode:=.region [Yb 1,Cm 0,Cr (.buildSlice (some (1,8)) (some [(.int .i64 0)]) 1 [(0,(Yq 0))]),Cr (.append (some (1,8)) (Yq 2) (Yq 0)),Yk 1 (Cp 1) (Yq 0)] [none,none,none,none,none]
theorem fi67:funInfo Tryd.prog 67 = some { code:=c67_0,ntmps:=7,nargs:=2,ps:=[0,1],res:=[] }:=by kernel_rfl
def c97_1:MCode:=.region [Yb 1,Cm 0,Ye 1 1 (Yq 1) (Yq 0),Ya 0,Cr (.un .not (Yq 0))] [Cs 9,none,none,none,none]
def c97_4:MCode:=.region [Yb 1,Cm 0,Ye 1 1 (Yq 1) (Yq 0),Cr (.store (some 1) (Yq 0) (.cst (.bool true)))] [none,none,none,none]
def c97_6:MCode:=.region [Yb 2,Cm 0,Cr (.buildSlice (some (1,8)) (some [(.int .i64 0)]) 1 [(0,(Yq 0))]),Cr (.append (some (1,8)) (Yq 2) (Yq 0)),Yk 1 (Cp 2) (Yq 0)] [none,none,none,none,none]
def c97_7:MCode:=.region [Yb 3,Cm 0,Cr (.call (Yq 1) [(Yq 0)])] [none,none,none]
def c97_5:MCode:=.seq c97_6 c97_7
def c97_3:MCode:=.seq c97_4 c97_5
def c97_2:MCode:=.cond (Cp 9) c97_3 .skip
def c97_0:MCode:=.seq c97_1 c97_2
theorem fi97:funInfo Tryd.prog 97 = some { code:=c97_0,ntmps:=20,nargs:=4,ps:=[3,2,9,0,1],res:=[] }:=by kernel_rfl
def c39_1:MCode:=.region [Yo (.bool false)] [Cs 4]
def c39_4:MCode:=.region [Cm 0,Yl (Yq 0),Cm 1,Yl (Yq 0),Yh .neq (Yq 2) (Yq 0)] [Cs 10,none,none,none,none]
def c39_7:MCode:=.region [Yo (.bool false)] [Cs 4]
def c39_6:MCode:=.seq c39_7 .ret
def c39_5:MCode:=.cond (Cp 10) c39_6 .skip
def c39_3:MCode:=.seq c39_4 c39_5
def c39_10:MCode:=.region [Cm 0,Yl (Yq 0),Yp 0] [Cs 13,Cs 12,none]
def c39_14:MCode:=.region [Yh .lss (Cp 13) (Cp 12)] [Cs 14]
def c39_16:MCode:=.cond (Cp 14) .skip (.exit 0)
def c39_20:MCode:=.region [Cm 13,C0] [Cs 5,none]
def c39_22:MCode:=.region [Cm 0,Cm 5,Ye 1 8 (Yq 1) (Yq 0),Ya 0,Cm 1,Cm 5,Ye 1 8 (Yq 1) (Yq 0),Ya 0,Yh .neq (Yq 4) (Yq 0)] [Cs 24,Cs 23,Cs 22,Cs 21,Cs 20,Cs 19,Cs 18,Cs 17,Cs 16]
def c39_25:MCode:=.region [Yo (.bool false)] [Cs 4]
def c39_24:MCode:=.seq c39_25 .ret
def c39_23:MCode:=.cond (Cp 24) c39_24 .skip
def c39_21:MCode:=.seq c39_22 c39_23
def c39_19:MCode:=.seq c39_20 c39_21
def c39_18:MCode:=.block 1 c39_19
def c39_26:MCode:=.region [Yh .add (Cp 13) (Ck 1),C0] [Cs 13,none]
def c39_17:MCode:=.seq c39_18 c39_26
def c39_15:MCode:=.seq c39_16 c39_17
def c39_13:MCode:=.seq c39_14 c39_15
def c39_12:MCode:=.loop c39_13
def c39_11:MCode:=.block 0 c39_12
def c39_9:MCode:=.seq c39_10 c39_11
def c39_28:MCode:=.region [Yo (.bool true)] [Cs 4]
def c39_27:MCode:=.seq c39_28 .ret
def c39_8:MCode:=.seq c39_9 c39_27
def c39_2:MCode:=.seq c39_3 c39_8
def c39_0:MCode:=.seq c39_1 c39_2
theorem fi39:funInfo Tryd.prog 39 = some { code:=c39_0,ntmps:=26,nargs:=2,ps:=[24,17,16,18,5,21,20,22,23,19,14,12,13,10,1,0,4],res:=[.tmp 4] }:=by kernel_rfl
end Go.Proofs
end
