/- Parts of the proof: Grw, PermC, Sav, MovP, Pck1, Mgd2, Lst, Fnd1, Fnd2, Fin, Put1, Put2, Put3, Put4, Bk1. -/
import Derived.Test.YtoipnedbpjfeiaaGreatDoorAb07
set_option linter.all false
set_option linter.unusedSectionVars false
set_option linter.unusedSimpArgs false
set_option linter.unusedVariables false
section
open Go Go.AM
namespace Go.Proofs
set_option maxRecDepth 100000
def Z7r (es:Nat) (v:AVal) (k:Nat) (xs:List AVal) (m:Lets):Prop:=xs.length = k * es∧((k = 0∧v = .nilSlice∧m = []) ∨ ∃ q,k ≠ 0∧v = .slice q 0 k (.opn es)∧m = [(q,C xs)])
theorem Z7r.nil (es:Nat):Z7r es .nilSlice 0 [] []:=⟨by simp,.inl ⟨rfl,rfl,rfl⟩⟩
theorem Z7r.len {es k:Nat} {v:AVal} {xs:List AVal} {m:Lets} (h:Z7r es v k xs m):Z18 v = some k:=by
 rcases h with ⟨_,⟨rfl,rfl,_⟩ | ⟨q,_,rfl,_⟩⟩ <;> rfl
theorem Z7r.ntup {es k:Nat} {v:AVal} {xs:List AVal} {m:Lets} (h:Z7r es v k xs m):∀ t,¬ v = .tup t:=by
 rintro t rfl
 have:=h.len
 cases this
theorem Z7r.cells {es k:Nat} {v:AVal} {xs:List AVal} {m:Lets} (h:Z7r es v k xs m):v.cells = [v]:=by
 rcases h with ⟨_,⟨rfl,rfl,_⟩ | ⟨q,_,rfl,_⟩⟩ <;> rfl
theorem Zuw {s0 s:St} {W:Pos→Prop} {r pre mg:Lets} {es eb k:Nat} {v:AVal} {xs new:List AVal} {Q:AVal→St→Prop} (h:Ctx s0 W (pre ++ (mg ++ r)) s) (hg:Z7r es v k xs mg) (hn:new.length = es) (hs:(k + 1) * eb ≤ Z0g)
  (q:∀ v' mg' s',Z7r es v' (k + 1) (xs ++ new) mg'→Ctx s0 W (pre ++ (mg' ++ r)) s'→Q v' s'):appP (es,eb) v new 1 s Q:=by
 obtain ⟨hl,⟨rfl,rfl,rfl⟩ | ⟨b,hk,rfl,rfl⟩⟩:=hg
 ·have hx:xs = []:=List.length_eq_zero_iff.1 (by simpa using hl)
  subst hx
  simp only [appP,Z4m]
  rw [if_neg (by decide)]
  refine ⟨by simpa using hs,?_⟩
  have:=h.alloc (C new)
  refine q (.slice s.next 0 1 (.opn es)) [(s.next,C ([] ++ new))] _ ⟨by simp [hn],.inr ⟨_,by simp,rfl,rfl⟩⟩ (this.perm ?_)
  simp only [List.nil_append]
  exact List.perm_middle.symm
 ·have hb:s.own b = some xs:=Z13 (h.own (b,C xs) (by simp))
  have h1:Ctx s0 W ((b,C xs) :: (pre ++ r)) s:=h.perm (by simp)
  have h2:=(h1.put0 .dead).tail.alloc (C (xs ++ new))
  have hne:¬ 0 + (k + 1) * es ≤ xs.length ∨ es = 0:=by
   rcases Nat.eq_zero_or_pos es with e | e
   ·exact .inr e
   ·left
    rw [hl,Nat.zero_add,Nat.add_mul,Nat.one_mul]
    omega
  have ht:List.take (k * es) (List.drop 0 xs) = xs:=by rw [List.drop_zero]; exact List.take_of_length_le (by omega)
  have hnx:(s.put b .dead).next = s.next:=rfl
  simp only [appP,Z4m]
  rw [if_neg (by decide)]
  refine ⟨trivial,?_⟩
  rw [hb]
  simp only [Z0y]
  rw [if_neg hk]
  by_cases hes:es = 0
  ·subst hes
   have hx:xs = []:=List.length_eq_zero_iff.1 (by simpa using hl)
   have hnn:new = []:=List.length_eq_zero_iff.1 hn
   subst hx hnn
   rw [if_pos (by simp)]
   refine ⟨by simp,?_⟩
   have h3:=h1.put0 (C [])
   refine q _ [(b,C ([] ++ []))] _ ⟨by simp,.inr ⟨b,by simp,rfl,rfl⟩⟩ (h3.perm ?_)
   exact List.perm_middle.symm
  ·rw [if_neg (by rcases hne with h | h; exact h; exact (hes h).elim)]
   refine ⟨by omega,hs,?_⟩
   rw [ht]
   refine q (.slice s.next 0 (k + 1) (.opn es)) [(s.next,C (xs ++ new))] _ ⟨by simp [hl,hn,Nat.add_mul],.inr ⟨_,by simp,rfl,rfl⟩⟩ (h2.perm ?_)
   rw [hnx]
   exact List.perm_middle.symm
def Zim (p:Pos) (cs:List CV) (m:Lets):Prop:=∃ V mr,m.Perm ((p,C (encs (rcs cs V))) :: mr)∧Z0s (cs.map CV.kids) V mr
def Z94:List (List CV)→List Pos→Lets→Prop
 | [],[],m => m = []
 | cs :: L,p :: ps,m => ∃ m1 m2,m.Perm (m1 ++ m2)∧Zim p cs m1∧Z94 L ps m2
 | _,_,_ => False
def Zgf (n:Nat) (vs:AVal) (L:List (List CV)) (m:Lets):Prop:=∃ ps mg ml,Z7r 1 vs L.length (ps.map fun p => .slice p 0 n (.lim n)) mg∧Z94 L ps ml∧m.Perm (mg ++ ml)∧∀ cs ∈ L,cs.length = n
theorem Z94.len:∀ {L:List (List CV)} {ps:List Pos} {m:Lets},Z94 L ps m→ps.length = L.length
 | [],[],_,_ => rfl
 | _ :: L,_ :: ps,_,⟨_,_,_,_,h⟩ => by simp [h.len]
 | [],_ :: _,_,h => h.elim
 | _ :: _,[],_,h => h.elim
theorem Z94.snoc:∀ {L:List (List CV)} {ps:List Pos} {m:Lets} {cs:List CV} {p:Pos} {m1:Lets},Z94 L ps m→Zim p cs m1→Z94 (L ++ [cs]) (ps ++ [p]) (m ++ m1)
 | [],[],m,cs,p,m1,h,hs => by
  have h:m = []:=h
  subst h
  exact ⟨m1,[],by simp,hs,rfl⟩
 | c :: L,p0 :: ps,m,cs,p,m1,⟨a,b,h1,h2,h3⟩,hs => ⟨a,b ++ m1,by rw [← List.append_assoc]; exact h1.append (List.Perm.refl m1),h2,Z94.snoc h3 hs⟩
 | [],_ :: _,_,_,_,_,h,_ => h.elim
 | _ :: _,[],_,_,_,_,h,_ => h.elim
theorem Z94.at:∀ {L:List (List CV)} {ps:List Pos} {m:Lets} {i:Nat} {cs:List CV},Z94 L ps m→L[i]? = some cs→∃ p m1 m2,ps[i]? = some p∧Zim p cs m1∧m.Perm (m1 ++ m2)
 | [],_,_,_,_,_,h => by simp at h
 | c :: L,p :: ps,m,0,cs,⟨a,b,h1,h2,h3⟩,h => by
  simp at h
  subst h
  exact ⟨p,a,b,rfl,h2,h1⟩
 | c :: L,p :: ps,m,i + 1,cs,⟨a,b,h1,h2,h3⟩,h => by
  obtain ⟨p',a',b',g1,g2,g3⟩:=Z94.at h3 (i:=i) (by simpa using h)
  refine ⟨p',a',a ++ b',by simpa using g1,g2,h1.trans ?_⟩
  refine ((List.Perm.refl a).append g3).trans ?_
  rw [← List.append_assoc,← List.append_assoc]
  exact List.perm_append_comm.append (List.Perm.refl b')
 | _ :: _,[],_,_,_,h,_ => h.elim
theorem Zt5 {s0 s:St} {W:Pos→Prop} {p:Pos} {cs:List CV} {V:List AVal} {base:Lets} {Q:AVal→St→Prop} (hc:Ctx s0 W base s) (hV:V.length = cs.length) (h1:1 ≤ cs.length) (h4:cs.length ≤ 400) (hk4:∀ c ∈ cs,c.kids.length ≤ 1000)
  (hp:(p,C (encs (rcs cs V))) ∈ base) {mr:Lets} (hR:Z0s (cs.map CV.kids) V mr) (hmr:∀ x ∈ mr,x ∈ base)
  (q:∀ pn mn s',Zim pn cs mn→Ctx s0 W (mn ++ base) s'→Q (.agg [.slice pn 0 cs.length (.lim cs.length)]) s'):Z0c Tryz.prog 47 [.agg [.slice p 0 cs.length (.lim cs.length)]] s Q:=by
 have hl:=Z1c hV
 obtain ⟨r1,r2,r3⟩:=Z9h (p:=p) (cs:=cs) (V:=V) hc hp hR hmr
 refine own_w (K:=Z0o cs) hl hc.wf r1 r2 h1 h4 (fun j c hj => ?_) fun pn kvs s5 k5 hpn hopn hOwn => ?_
 ·have hlt:j < cs.length:=by have:=(List.getElem?_eq_some_iff.1 hj).1; rwa [hl] at this
  obtain ⟨kv,g1,g2⟩:=r3 j _ (List.getElem?_eq_getElem hlt)
  rw [Z1k (List.getElem?_eq_getElem hlt) g1] at hj
  cases hj
  rw [Z1d (List.getElem?_eq_getElem hlt)]
  exact ⟨g2,hk4 _ (List.getElem_mem hlt)⟩
 rw [Zqk hV] at hopn
 obtain ⟨mk,hRk,hok,hnk,hfk⟩:=Zod hOwn
 generalize (List.range cs.length).map kvs = V' at hRk hopn
 have c5:=(hc.made k5 hpn (St.Z2b hopn)).addL (m:=mk) hok hnk (fun x hx ho => ((hfk x hx).1 (hc.old ho)).elim) (fun x hx => by
  rw [List.map_cons,List.mem_cons]
  rintro (e | hm)
  ·exact (hfk x hx).2 e
  ·obtain ⟨y,hy,e⟩:=List.mem_map.1 hm
   exact (hfk x hx).1 (e ▸ hc.ob hy))
 refine q pn ((pn,C (encs (rcs cs V'))) :: mk) s5 ⟨V',mk,List.Perm.refl _,hRk⟩ (c5.perm ?_)
 exact List.perm_middle
end Go.Proofs
end
section
open Go Go.AM
namespace Go.Proofs
open Classical in
noncomputable def one (x a:Pos × AObj):Nat:=if x = a then 1 else 0
noncomputable def cnt:Lets→Pos × AObj→Nat
 | [],_ => 0
 | x :: l,a => one x a + cnt l a
theorem Z0z (a:Pos × AObj):cnt [] a = 0:=rfl
theorem Z0j (x a:Pos × AObj) (l:Lets):cnt (x :: l) a = one x a + cnt l a:=rfl
theorem Z0i (a:Pos × AObj):∀ (l m:Lets),cnt (l ++ m) a = cnt l a + cnt m a
 | [],m => by simp [cnt]
 | x :: l,m => by rw [List.cons_append,Z0j,Z0j,Z0i a l m]; omega
theorem Z3d {l m:Lets} (h:l.Perm m) (a:Pos × AObj):cnt l a = cnt m a:=by
 induction h with
 | nil => rfl
 | cons x _ ih => rw [Z0j,Z0j,ih]
 | swap x y l => rw [Z0j,Z0j,Z0j,Z0j]; omega
 | trans _ _ h1 h2 => rw [h1,h2]
theorem Zqj {x:Pos × AObj}:∀ {l:Lets},0 < cnt l x→x ∈ l
 | [],h => by simp [cnt] at h
 | y :: l,h => by
  rw [Z0j] at h
  by_cases e:y = x
  ·simp [e]
  ·have:one y x = 0:=by unfold one; rw [if_neg e]
   rw [this,Nat.zero_add] at h
   exact List.mem_cons_of_mem _ (Zqj h)
theorem Znw (x:Pos × AObj):one x x = 1:=by unfold one; rw [if_pos rfl]
theorem Z0n:∀ {l m:Lets},(∀ a,cnt l a = cnt m a)→l.Perm m
 | [],m,h => by
  cases m with
  | nil => exact List.Perm.refl _
  | cons x m =>
   have:=h x
   rw [Z0j,Znw] at this
   simp [cnt] at this
   omega
 | x :: l,m,h => by
  have hx:x ∈ m:=Zqj (by rw [← h x,Z0j,Znw]; omega)
  obtain ⟨i,hi⟩:=List.getElem?_of_mem hx
  have hp:=Z8j m i x hi
  have:l.Perm (m.eraseIdx i):=Z0n fun a => by
   have h1:=h a
   have h2:=Z3d hp a
   rw [Z0j] at h1 h2
   omega
  exact (List.Perm.cons x this).trans hp.symm
end Go.Proofs
end
section
open Go Go.AM
namespace Go.Proofs
set_option maxRecDepth 100000
section
variable {s0 s:St} {W:Pos→Prop} {hb:Pos} {vs:AVal} {cs:List CV} {L:List (List CV)} {m mv r:Lets} {Q:AVal→St→Prop}
theorem Zgf.nil (n:Nat):Zgf n .nilSlice [] []:=⟨[],[],[],Z7r.nil 1,rfl,by simp,by simp⟩
theorem Zwt {es k:Nat} {v:AVal} {xs:List AVal} {mg:Lets} (h:Z7r es v k xs mg):Z2l 8 v v = true:=by
 rcases h with ⟨_,⟨rfl,rfl,_⟩ | ⟨q,_,rfl,_⟩⟩
 ·rfl
 ·simp [Z2l,Zch]
theorem save_c (hH:Z26 hb vs cs m) (hVr:Zgf cs.length vs L mv) (h:Ctx s0 W (m ++ (mv ++ r)) s) (hO:HOk cs) (hL:L.length ≤ 8)
  (q0:L.length = 8→∀ s',Ctx s0 W (m ++ (mv ++ r)) s'→Q (.tup [.int .i64 0,.int .i64 12]) s')
  (q1:L.length < 8→∀ vs' m' mv' s',Z26 hb vs' cs m'→Zgf cs.length vs' (L ++ [cs]) mv'→Ctx s0 W (m' ++ (mv' ++ r)) s'→Q (.tup [.int .i64 (L.length:Int),.int .i64 0]) s'):Z0c Tryz.prog 14 [.ptr hb 0] s Q:=by
 obtain ⟨p,V,mr,hc,hR,hV,h1,h4,hP⟩:=Z9g hH h
 obtain ⟨ps,mg,ml,g1,g2,g3,g4⟩:=id hVr
 have hno:cs.length ≠ 0:=by omega
 refine Z08 (Z0d (by decide)) fi14 rfl (by decide) rfl ?_
 refine Z00 ?_
 simp
 refine AM.wp_seq ?_
 refine AM.wp_block ?_
 refine Z00 ?_
 simp
 refine Z02 ?_
 refine Z5j (hc.c 0 rfl) rfl hno ?_
 simp
 refine AM.Z04 ?_
 simp
 refine Z00 ?_
 simp [hc.c 0 rfl,g1.ntup,g1.len]
 refine AM.Z04 ?_
 by_cases h8:L.length = 8
 ·have h8':(L.length:Int) = 8:=by omega
  simp [h8,h8']
  refine Z00 ?_
  simp
  refine AM.wp_ret ?_
  simp
  exact q0 h8 s h
 ·have h8':¬ (L.length:Int) = 8:=by omega
  simp [h8,h8']
  refine AM.wp_skip ?_
  simp
  have hc2:=hc.perm (m':=(hb,C [.slice p 0 cs.length (.lim cs.length),vs]) :: (p,C (encs (rcs cs V))) :: (mr ++ (mg ++ (ml ++ r)))) (List.Perm.cons _ (List.Perm.cons _ ((List.Perm.refl mr).append (by
   have:=g3.append (List.Perm.refl r)
   simpa using this))))
  refine Z00 ?_
  simp [hc2.c 0 rfl,g1.ntup]
  refine Z02 ?_
  refine Zt5 (p:=p) (V:=V) (mr:=mr) hc2 hV h1 h4 (fun c hx => by have:=hO.kids4 c hx; omega) (by simp) hR (fun x hx => by simp [hx]) fun pn mn s1 hS c1 => ?_
  have c1:=c1.perm (m':=(hb,C [.slice p 0 cs.length (.lim cs.length),vs]) :: (p,C (encs (rcs cs V))) :: (mg ++ (mn ++ (mr ++ (ml ++ r))))) (Z0n fun a => by
   simp only [Z0j,Z0i,Z0z]
   omega)
  have hns:s1.obj s1.next = none:=c1.wf _ (Z0b _)
  simp [c1.c 0 rfl,Zwt g1,hns,Z20,srcP]
  have c2:=c1.alloc (C [.slice pn 0 cs.length (.lim cs.length)])
  generalize s1.alloc (.cells [.slice pn 0 cs.length (.lim cs.length)] false) = s2 at c2 ⊢
  generalize s1.next = T at c2 ⊢
  refine Zuw (pre:=[(T,C [.slice pn 0 cs.length (.lim cs.length)]),(hb,C [.slice p 0 cs.length (.lim cs.length),vs]),(p,C (encs (rcs cs V)))]) (mg:=mg) (r:=mn ++ (mr ++ (ml ++ r))) (by simpa using c2) g1 rfl (by unfold Z0g; omega) fun v' mg' s3 g1' c3 => ?_
  simp only [List.cons_append,List.nil_append] at c3
  simp [g1'.ntup,g1'.cells,c3.o 1 rfl]
  have c4:=(c3.put 1 rfl (C [.slice p 0 cs.length (.lim cs.length),v'])).tail
  simp only [List.set_cons_zero] at c4
  generalize s3.put hb (.cells [.slice p 0 cs.length (.lim cs.length),v'] false) = s4 at c4 ⊢
  refine Z00 ?_
  have hwr:IntKind.wrap .i64 ((L.length:Int) + 1 - 1) = (L.length:Int):=by rw [IntWalk.i64_in _ (by omega)]; omega
  have hwr2:IntKind.wrap .i64 (L.length:Int) = (L.length:Int):=by rw [IntWalk.i64_in _ (by omega)]
  simp [c4.c 0 rfl,g1'.ntup,g1'.len,hwr,hwr2]
  refine AM.wp_ret ?_
  simp
  refine q1 (by omega) v' _ (mg' ++ (ml ++ mn)) s4 (Z2a (p:=p) (V:=V) (mr:=mr) hR h1 h4) ⟨ps ++ [pn],mg',ml ++ mn,by simpa using g1',g2.snoc hS,List.Perm.refl _,by
   intro c hx
   rcases List.mem_append.1 hx with hx | hx
   ·exact g4 c hx
   ·simp at hx
    rw [hx]⟩ (c4.perm ?_)
  refine Z0n fun a => ?_
  simp only [Z0j,Z0i,Z0z]
  omega
theorem Ztx {i:Int} (hH:Z26 hb vs cs m) (hVr:Zgf cs.length vs L mv) (h:Ctx s0 W (m ++ (mv ++ r)) s) (hO:∀ c ∈ L,HOk c) (hL:L.length ≤ 8)
  (q0:(i < 0 ∨ (L.length:Int) ≤ i)→∀ s',Ctx s0 W (m ++ (mv ++ r)) s'→Q (.int .i64 1) s')
  (q1:∀ c m' s',0 ≤ i→L[i.toNat]? = some c→Z26 hb vs c m'→Ctx s0 W (m' ++ (mv ++ r)) s'→Q (.int .i64 0) s'):Z0c Tryz.prog 23 [.ptr hb 0,.int .i64 i] s Q:=by
 obtain ⟨p,V,mr,hc,hR,hV,h1,h4,hP⟩:=Z9g hH h
 obtain ⟨ps,mg,ml,g1,g2,g3,g4⟩:=id hVr
 have hno:cs.length ≠ 0:=by omega
 refine Z08 (Z0d (by decide)) fi23 rfl (by decide) rfl ?_
 refine Z00 ?_
 simp
 refine AM.wp_seq ?_
 refine AM.wp_block ?_
 refine Z00 ?_
 simp
 refine Z02 ?_
 refine Z5j (hc.c 0 rfl) rfl hno ?_
 simp
 refine AM.Z04 ?_
 simp
 refine Z00 ?_
 by_cases hneg:i < 0
 ·simp [hneg]
  refine AM.Z04 ?_
  simp
  refine Z00 ?_
  simp
  refine AM.wp_ret ?_
  simp
  exact q0 (.inl hneg) s h
 ·by_cases hge:i < (L.length:Int)
  ·have h0:0 ≤ i:=by omega
   simp [hneg,hc.c 0 rfl,g1.ntup,g1.len,hge]
   refine AM.Z04 ?_
   simp
   refine AM.wp_skip ?_
   simp
   obtain ⟨c,hci⟩:∃ c,L[i.toNat]? = some c:=⟨_,List.getElem?_eq_getElem (by omega)⟩
   have hcl:=g4 c (List.mem_of_getElem? hci)
   obtain ⟨pv,m1,m2,e1,⟨V1,mr1,e2,e3⟩,e4⟩:=g2.at hci
   have hV1:V1.length = c.length:=by simpa using e3.len
   obtain ⟨gl,gg⟩:=g1
   rcases gg with ⟨hk0,_⟩ | ⟨qv,hk,rfl,rfl⟩
   ·rw [hk0] at hge
    simp at hge
    omega
   have hc2:=hc.perm (m':=(hb,C [.slice p 0 cs.length (.lim cs.length),.slice qv 0 L.length (.opn 1)]) :: (p,C (encs (rcs cs V))) :: (qv,C (ps.map fun p => .slice p 0 cs.length (.lim cs.length))) :: (pv,C (encs (rcs c V1))) :: (mr1 ++ (m2 ++ (mr ++ r)))) (by
    refine Z0n fun a => ?_
    have i3:=Z3d g3 a
    have i4:=Z3d e4 a
    have i2:=Z3d e2 a
    simp only [Z0j,Z0i,Z0z] at i2 i3 i4 ⊢
    omega)
   have hgp:(ps.map fun p => AVal.slice p 0 cs.length (.lim cs.length))[i.toNat]? = some (.slice pv 0 cs.length (.lim cs.length)):=by rw [List.getElem?_map,e1]; rfl
   obtain ⟨psx,hpsx⟩:∃ x,x = ps.map fun p => AVal.slice p 0 cs.length (.lim cs.length):=⟨_,rfl⟩
   rw [← hpsx] at hgp hc2
   refine Z00 ?_
   have hpl:psx.length = L.length:=by rw [hpsx]; simp [g2.len]
   have hle:i.toNat + 1 ≤ psx.length:=by omega
   have htk:List.take 1 (List.drop i.toNat psx) = [.slice pv 0 cs.length (.lim cs.length)]:=by
    rw [List.drop_eq_getElem_cons (by omega)]
    have:=List.getElem?_eq_getElem (show i.toNat < psx.length by omega)
    rw [hgp] at this
    rw [← Option.some.inj this]
    rfl
   simp [hc2.c 0 rfl,hc2.c 2 rfl,h0,hge,hle,htk]
   refine Z02 ?_
   rw [← hcl]
   refine Zt5 (p:=pv) (V:=V1) (mr:=mr1) hc2 hV1 (by omega) (by omega) (fun x hx => by have:=(hO c (List.mem_of_getElem? hci)).kids4 x hx; omega) (by simp) e3 (fun x hx => by simp [hx]) fun pn mn s1 hS c1 => ?_
   rw [hcl]
   have c1:=c1.perm (m':=(hb,C [.slice p 0 cs.length (.lim cs.length),.slice qv 0 L.length (.opn 1)]) :: (mn ++ ((p,C (encs (rcs cs V))) :: (mr ++ (mv ++ r))))) (Z0n fun a => by
    have i3:=Z3d g3 a
    have i4:=Z3d e4 a
    have i2:=Z3d e2 a
    simp only [Z0j,Z0i,Z0z,hpsx] at i2 i3 i4 ⊢
    omega)
   simp [c1.o 0 rfl]
   have c2:=c1.put 0 rfl (C [.slice pn 0 cs.length (.lim cs.length),.slice qv 0 L.length (.opn 1)])
   simp only [List.set_cons_zero] at c2
   generalize s1.put hb (.cells [.slice pn 0 cs.length (.lim cs.length),.slice qv 0 L.length (.opn 1)] false) = s2 at c2 ⊢
   refine Z00 ?_
   simp
   refine AM.wp_ret ?_
   simp
   obtain ⟨V2,mr2,f1,f2⟩:=hS
   refine q1 c ((hb,C [.slice pn 0 c.length (.lim c.length),.slice qv 0 L.length (.opn 1)]) :: mn) s2 h0 hci ⟨pn,V2,mr2,List.Perm.cons _ f1,f2,by omega,by omega⟩ ?_
   rw [hcl]
   refine c2.sub (.cons_cons _ ((List.Sublist.refl mn).append (.cons _ ?_)))
   exact List.sublist_append_right mr _
  ·simp [hneg,hc.c 0 rfl,g1.ntup,g1.len,hge]
   refine AM.Z04 ?_
   simp
   refine Z00 ?_
   simp
   refine AM.wp_ret ?_
   simp
   exact q0 (.inr (by omega)) s h
end
def toP (cls:List Int) (k:Int):Int:=(cls[k.toNat]?).getD (-1)
theorem Zxm {s:St} {Bc:Pos} {v:AVal} {cls:List Int} {i:Int} {c:Int} {Q:AVal→St→Prop} (hB:s.cells Bc = some [v]) (hv:Z0e s v cls) (hi:0 ≤ i) (hc:cls[i.toNat]? = some c)
  (q:Q (.int .i64 c) s):Z0c Tryz.prog 66 [.int .i64 i,.ptr Bc 0] s Q:=by
 have hlt:i.toNat < cls.length:=(List.getElem?_eq_some_iff.1 hc).1
 refine Z08 (Z0d (by decide)) fi66 rfl (by decide) rfl ?_
 refine Z00 ?_
 simp
 refine Z00 ?_
 rcases hv with ⟨_,h0⟩ | ⟨b,o,cp,cs,rfl,hb,hcs,hle,hel⟩
 ·subst h0
  simp at hlt
 have hg:=hel _ _ hc
 have hil:i < cls.length:=by omega
 simp [hB,hi,hil,hcs,hg]
 refine AM.wp_ret ?_
 simp
 exact q
def Z6i (cls ks:List Int) (j:Nat):List Int:=(ks.take j).map (toP cls) ++ ks.drop j
theorem Zro (cls ks:List Int):Z6i cls ks 0 = ks:=by simp [Z6i]
theorem Zks (cls ks:List Int) (j:Nat):(Z6i cls ks j).length = ks.length:=by
 simp [Z6i]
 omega
theorem Ztq (cls ks:List Int):Z6i cls ks ks.length = ks.map (toP cls):=by simp [Z6i]
theorem Ztr {cls ks:List Int} {j:Nat} {k:Int} (h:ks[j]? = some k):(Z6i cls ks j)[j]? = some k:=by
 have hj:=(List.getElem?_eq_some_iff.1 h).1
 unfold Z6i
 rw [List.getElem?_append_right (by simp; omega)]
 have e:j - ((ks.take j).map (toP cls)).length = 0:=by simp; omega
 rw [e,List.getElem?_drop]
 simpa using h
theorem Zrn {cls ks:List Int} {j:Nat} {k:Int} (h:ks[j]? = some k):(Z6i cls ks j).set j (toP cls k) = Z6i cls ks (j + 1):=by
 have hj:=(List.getElem?_eq_some_iff.1 h).1
 unfold Z6i
 have hl:((ks.take j).map (toP cls)).length = j:=by simp; omega
 rw [List.set_append_right _ _ (by omega),hl,Nat.sub_self,List.take_add_one,h]
 have hd:ks.drop j = k :: ks.drop (j + 1):=by
  rw [List.drop_eq_getElem_cons hj]
  have:ks[j] = k:=(List.getElem?_eq_some_iff.1 h).2
  rw [this]
 rw [hd]
 simp
theorem Zts {fr:FI} {s:St} {t0:PT AVal} {p q B2 B3 Bc:Pos} {l:List RC} {i:Nat} {c:RC} {cp:Cap} {cv:AVal} {cls ks:List Int} {Q:Ex→PT AVal→St→Prop}
  (hw:s.Wf) (t2:PT.get (posOf 2) t0 = some (.ptr B2 0)) (t3:PT.get (posOf 3) t0 = some (.ptr B3 0)) (t4:PT.get (posOf 4) t0 = some (.int .i64 i))
  (hci:l[i]? = some c) (hkv:c.kv = .slice q 0 ks.length cp) (hq:s.own q = some (ks.map fun k => .int .i64 k)) (hks:ks.length ≤ 1000) (hcl:cls.length ≤ 1000) (hin:∀ k ∈ ks,0 ≤ k∧k < cls.length)
  (hst:∀ s',Same [q] s s'→s'.cells B3 = some [.slice p 0 l.length (.lim l.length)]∧s'.cells p = some (encs l)∧s'.cells B2 = some [.fn 66 [] [.ptr Bc 0]]∧s'.cells Bc = some [cv]∧Z0e s' cv cls)
  (qq:∀ t s',Same [q] s s'→s'.own q = some ((ks.map (toP cls)).map fun k => .int .i64 k)→Q .normal t s'):wp Tryz.prog Zru fr t0 s Q:=by
 have hi:i < l.length:=(List.getElem?_eq_some_iff.1 hci).1
 have hg:(encs l)[i * 4 + 2]? = some (.slice q 0 ks.length cp):=by rw [← hkv]; exact Z2o l i 2 c hci (by decide)
 obtain ⟨b3,bp,b2,bc,hcv⟩:=hst s (Same.refl _ _)
 have hoq:=Z09 hw hq
 refine Z00 ?_
 simp [t3,t4,b3,bp,hi,hg]
 refine AM.wp_block ?_
 refine AM.wp_loop (fun m t s' => ∃ j:Nat,j ≤ ks.length∧m = ks.length - j∧PT.get (posOf 2) t = some (.ptr B2 0)∧PT.get (posOf 3) t = some (.ptr B3 0)∧PT.get (posOf 4) t = some (.int .i64 i)∧PT.get (posOf 15) t = some (.slice q 0 ks.length cp)∧PT.get (posOf 16) t = some (.int .i64 ks.length)∧PT.get (posOf 17) t = some (.int .i64 j)∧Same [q] s s' ∧
  s'.own q = some ((Z6i cls ks j).map fun k => .int .i64 k)) ks.length ⟨0,by simp,by simp,by simp [t2],by simp [t3],by simp [t4],by simp,by simp,by simp,Same.refl _ _,by rw [Zro]; exact hq⟩ ?_
 rintro m t s' ⟨j,hj,rfl,g2,g3,g4,g15,g16,g17,hS,hO⟩
 obtain ⟨b3,bp,b2,bc,hcv⟩:=hst s' hS
 refine Z00 ?_
 simp [g16,g17]
 refine AM.wp_seq ?_
 refine AM.Z04 ?_
 by_cases hlt:j < ks.length
 ·obtain ⟨k,hk⟩:∃ k,ks[j]? = some k:=⟨_,List.getElem?_eq_getElem hlt⟩
  obtain ⟨hk0,hk1⟩:=hin k (List.mem_of_getElem? hk)
  obtain ⟨cc,hcc⟩:∃ cc,cls[k.toNat]? = some cc:=⟨_,List.getElem?_eq_getElem (by omega)⟩
  have hto:toP cls k = cc:=by unfold toP; rw [hcc]; rfl
  have hgk:((Z6i cls ks j).map fun k => AVal.int .i64 k)[j]? = some (.int .i64 k):=by rw [List.getElem?_map,Ztr hk]; rfl
  have hwr:IntKind.wrap .i64 ((j:Int) + 1) = ((j + 1:Nat):Int):=by rw [IntWalk.i64_in _ (by omega)]; omega
  have hlay:=Z5z (Z6i cls ks j) j (toP cls k) (by rw [Zks]; omega)
  rw [Zrn hk] at hlay
  have hml:=Zks cls ks j
  simp [hlt]
  refine AM.wp_skip ?_
  simp
  refine AM.wp_seq ?_
  refine AM.wp_block ?_
  generalize Z6i cls ks j = mv at hO hgk hlay hml ⊢
  have hle:j + 1 ≤ mv.length:=by omega
  refine Z00 ?_
  simp only [List.getElem?_map] at hgk
  simp [g15,g17,hlt,Z0a hO,hgk]
  refine AM.wp_region ?_
  simp [g2,g3,g4,b3,bp,hi,hg,b2]
  refine Z02 ?_
  refine Zxm bc hcv hk0 hcc ?_
  simp [b3,bp,hi,hg,Z8u,Zqo,hlt,hO,hle]
  rw [← hto]
  simp [lay] at hlay
  rw [hlay]
  refine AM.wp_region ?_
  simp [g17,hwr]
  exact ⟨ks.length - (j + 1),by omega,j + 1,by omega,by omega,by simp [g2],by simp [g3],by simp [g4],by simp [g15],by simp [g16],by simp,hS.put _ (by simp) (hS.old hoq),by simp⟩
 ·simp [hlt]
  refine AM.wp_exit ?_
  simp
  have hje:j = ks.length:=by omega
  subst hje
  rw [Ztq] at hO
  exact qq _ s' hS hO
theorem Ztt {s:St} {p Bc:Pos} {l:List RC} {K:Nat→List Int} {cv:AVal} {cls:List Int} {qs:List Pos} {Q:AVal→St→Prop} (hw:s.Wf) (hp:s.Old p) (hc:s.cells p = some (encs l)) (hl:l.length ≤ 400) (hcl:cls.length ≤ 1000)
  (hK:∀ j c,l[j]? = some c→KidV s c.kv (K j)∧(K j).length ≤ 1000∧(c.taken = true→∀ k ∈ K j,0 ≤ k∧k < cls.length))
  (hqs:∀ j c q cp,l[j]? = some c→c.kv = .slice q 0 (K j).length cp→K j ≠ []→q ∈ qs) (hpq:p ∉ qs) (hqo:∀ q ∈ qs,s.Old q)
  (hsep:∀ j j' c c' q cp cp',l[j]? = some c→l[j']? = some c'→c.kv = .slice q 0 (K j).length cp→c'.kv = .slice q 0 (K j').length cp'→K j ≠ []→K j' ≠ []→j = j')
  (hcv:∀ s',Same qs s s'→s'.cells Bc = some [cv]∧Z0e s' cv cls)
  (q:∀ s',Same qs s s'→(∀ j c,l[j]? = some c→KidV s' c.kv (if c.taken = true then (K j).map (toP cls) else K j))→Q (.tup []) s') :
  Z0c Tryz.prog 57 [.agg [.fn 66 [] [.ptr Bc 0]],.agg [.slice p 0 l.length (.lim l.length)]] s Q:=by
 refine Z08 (Z0d (by decide)) fi57 rfl (by decide) rfl ?_
 refine Z00 ?_
 simp
 have hK1:Keeps s (s.alloc (.cells [.fn 66 [] [.ptr Bc 0]] false)):=Keeps.alloc _ _
 have hB1:(s.alloc (.cells [.fn 66 [] [.ptr Bc 0]] false)).own s.next = some [.fn 66 [] [.ptr Bc 0]]:=Z12 _ _
 have hf1:¬ s.Old s.next:=Z0b s
 generalize s.alloc (.cells [.fn 66 [] [.ptr Bc 0]] false) = s1 at hK1 hB1 ⊢
 generalize s.next = B2 at hB1 hf1 ⊢
 have hw1:s1.Wf:=hK1.wf hw
 have ho1:s1.Old B2:=Z09 hw1 hB1
 have hK2:Keeps s1 (s1.alloc (.cells [.slice p 0 l.length (.lim l.length)] false)):=Keeps.alloc _ _
 have hB2:(s1.alloc (.cells [.slice p 0 l.length (.lim l.length)] false)).own s1.next = some [.slice p 0 l.length (.lim l.length)]:=Z12 _ _
 have hf2:¬ s1.Old s1.next:=Z0b s1
 generalize s1.alloc (.cells [.slice p 0 l.length (.lim l.length)] false) = s2 at hK2 hB2 ⊢
 generalize s1.next = B3 at hB2 hf2 ⊢
 have hw2:s2.Wf:=hK2.wf hw1
 have ho2:s2.Old B3:=Z09 hw2 hB2
 have hB1':s2.own B2 = some [.fn 66 [] [.ptr Bc 0]]:=(hK2.own ho1).trans hB1
 refine Z00 ?_
 simp [Z0a hB2]
 refine Z02 ?_
 refine Z8q fun BB hBB => ?_
 have hK5:Keeps s2 (s2.alloc (.cells [.slice p 0 l.length (.lim l.length)] false)):=Keeps.alloc _ _
 have hBB5:(s2.alloc (.cells [.slice p 0 l.length (.lim l.length)] false)).own BB = some [.slice p 0 l.length (.lim l.length)]:=by rw [hBB]; exact Z12 _ _
 have hBo2:¬ s2.Old BB:=by rw [hBB]; exact Z0b s2
 generalize s2.alloc (.cells [.slice p 0 l.length (.lim l.length)] false) = s5 at hK5 hBB5 ⊢
 have hw5:s5.Wf:=hK5.wf hw2
 have hk5:Keeps s s5:=(hK1.trans hK2).trans hK5
 have n2:B2 ∉ qs:=fun h => hf1 (hqo _ h)
 have n3:B3 ∉ qs:=fun h => hf2 (hK1.old (hqo _ h))
 have nB:BB ∉ qs:=fun h => hBo2 (hK2.old (hK1.old (hqo _ h)))
 simp
 refine AM.wp_block ?_
 have hLo:∀ b,s5.Old b→b ≠ s5.next:=fun b hb => ne_next hb
 have nL:s5.next ∉ qs:=fun h => hLo _ (hk5.old (hqo _ h)) rfl
 refine Zaf (I:=fun i s' => s'.Wf∧Same (s5.next :: qs) s5 s'∧∀ j c,l[j]? = some c→KidV s' c.kv (if j < i∧c.taken = true then (K j).map (toP cls) else K j)) (p:=p) (B:=BB) (l:=l) hl (by simp) rfl fi57 rfl ?_ ?_ ?_ ?_ ⟨hw5,Same.refl _ _,fun j c h => by simpa using (hK j c h).1.keep hw hk5⟩ ?_
 ·rintro i s' ⟨h,hS,hV⟩
  have hb:s'.own BB = some [.slice p 0 l.length (.lim l.length)]:=(hS.own (by simpa using ⟨hLo _ (Z09 hw5 hBB5),nB⟩) (Z09 hw5 hBB5)).trans hBB5
  exact ⟨h,hS.old (hk5.old hp),Z09 h hb,(hS.cells (by simpa using ⟨hLo _ (hk5.old hp),hpq⟩) (hk5.old hp)).trans ((hk5.cells hp).trans hc),Z0a hb⟩
 ·rintro i s' s'' ⟨h,hS,hV⟩ hS2
  refine ⟨hS2.wf h,⟨fun b hb ho => (hS2.obj b (by simp at hb ⊢; exact hb.1) (hS.old ho)).trans (hS.obj b hb ho),Nat.le_trans hS.next hS2.next,fun _ => hS2.wf h⟩,fun j c hj => ?_⟩
  refine (hV j c hj).stay fun q' c' he hne => ?_
  have hl2:(if j < i∧c.taken = true then (K j).map (toP cls) else K j).length = (K j).length:=by split <;> simp
  rw [hl2] at he
  have hne':K j ≠ []:=by
   intro e
   rw [e] at hne
   simp at hne
  have hm:=hqs j c q' c' hj he hne'
  exact hS2.own (by simpa using hLo _ (hk5.old (hqo _ hm))) (hS.old (hk5.old (hqo _ hm)))
 ·rintro i c s' hci hct ⟨h,hS,hV⟩
  refine ⟨h,hS,fun j d hj => ?_⟩
  have:=hV j d hj
  by_cases e:j = i
  ·subst e
   rw [hci] at hj
   cases hj
   simpa [hct] using this
  ·have e2:j < i ↔ j < i + 1:=by omega
   simpa [e2] using this
 ·rintro i c s' W hci hct ⟨h,hS,hV⟩ hoL hW
  have hi:i < l.length:=(List.getElem?_eq_some_iff.1 hci).1
  obtain ⟨_,hk1000,hkin⟩:=hK i c hci
  have hB3s:s'.own B3 = some [.slice p 0 l.length (.lim l.length)]:=(hS.own (by simpa using ⟨hLo _ (hK5.old ho2),n3⟩) (hK5.old ho2)).trans ((hK5.own ho2).trans hB2)
  have hB2s:s'.own B2 = some [.fn 66 [] [.ptr Bc 0]]:=(hS.own (by simpa using ⟨hLo _ (hK5.old (hK2.old ho1)),n2⟩) (hK5.old (hK2.old ho1))).trans ((hK5.own (hK2.old ho1)).trans hB1')
  have hps:s'.cells p = some (encs l):=(hS.cells (by simpa using ⟨hLo _ (hk5.old hp),hpq⟩) (hk5.old hp)).trans ((hk5.cells hp).trans hc)
  have hg:(encs l)[i * 4 + 2]? = some c.kv:=Z2o l i 2 c hci (by decide)
  have hVi:=hV i c hci
  simp at hVi
  refine AM.wp_block ?_
  by_cases h0:K i = []
  ·have hlen:=hVi.len
   rw [h0] at hlen
   have hkt:∀ t,¬ c.kv = .tup t:=by
    rintro t e
    rw [e] at hlen
    cases hlen
   refine Z00 ?_
   simp [Z0a hB3s,hps,hi,hg,hlen]
   refine AM.wp_block ?_
   refine AM.wp_loop (fun m t s2 => PT.get (posOf 16) t = some (.int .i64 0)∧PT.get (posOf 17) t = some (.int .i64 0)∧s2 = s') 0 ⟨by simp,by simp,rfl⟩ ?_
   rintro m t2 s2 ⟨g16,g17,rfl⟩
   refine Z00 ?_
   simp [g16,g17]
   refine AM.wp_seq ?_
   refine AM.Z04 ?_
   simp
   refine AM.wp_exit ?_
   simp
   refine hW _ _ ⟨h,hS,fun j d hj => ?_⟩ rfl
   by_cases e:j = i
   ·subst e
    have:=hV j d hj
    rw [h0] at this ⊢
    simpa using this
   ·have e2:j < i ↔ j < i + 1:=by omega
    have:=hV j d hj
    simpa [e2] using this
  ·rcases hVi with ⟨_,e⟩ | ⟨q',cp,hkv,hq⟩
   ·exact (h0 e).elim
   have hm:=hqs i c q' cp hci hkv h0
   have hoq':s'.Old q':=hS.old (hk5.old (hqo _ hm))
   have hne3:B3 ≠ q':=fun e => n3 (e ▸ hm)
   have hne2:B2 ≠ q':=fun e => n2 (e ▸ hm)
   have hnep:p ≠ q':=fun e => hpq (e ▸ hm)
   refine Zts (B2:=B2) (B3:=B3) (p:=p) (q:=q') (l:=l) (i:=i) (cp:=cp) (cv:=cv) (cls:=cls) (ks:=K i) (Bc:=Bc) h (by simp) (by simp) (by simp) hci hkv hq hk1000 hcl (hkin hct) ?_ ?_
   ·intro s2 hS2
    have hSq:Same qs s s2:=⟨fun b hb ho => ((hS2.obj b (by simpa using fun e:b = q' => hb (e ▸ hm)) (hS.old (hk5.old ho))).trans (hS.obj b (by simpa using ⟨hLo _ (hk5.old ho),hb⟩) (hk5.old ho))).trans (hk5.obj b ho),Nat.le_trans hk5.next (Nat.le_trans hS.next hS2.next),fun _ => hS2.wf h⟩
    obtain ⟨j1,j2⟩:=hcv s2 hSq
    exact ⟨Z0a ((hS2.own (by simpa using hne3) (Z09 h hB3s)).trans hB3s),(hS2.cells (by simpa using hnep) (hS.old (hk5.old hp))).trans hps,Z0a ((hS2.own (by simpa using hne2) (Z09 h hB2s)).trans hB2s),j1,j2⟩
   ·intro t2 s2 hS2 hO2
    refine hW _ _ ⟨hS2.wf h,⟨fun b hb ho => (hS2.obj b (by simp at hb ⊢; exact fun e => hb.2 (e ▸ hm)) (hS.old ho)).trans (hS.obj b hb ho),Nat.le_trans hS.next hS2.next,fun _ => hS2.wf h⟩,fun j d hj => ?_⟩ (hS2.obj _ (by simpa using fun e:s5.next = q' => nL (e ▸ hm)) hoL)
    by_cases e:j = i
    ·subst e
     rw [hci] at hj
     cases hj
     simp [hct]
     exact .inr ⟨q',cp,by rw [hkv]; simp,by simpa using hO2⟩
    ·have e2:j < i ↔ j < i + 1:=by omega
     have hv:=hV j d hj
     have eg:(if j < i + 1∧d.taken = true then (K j).map (toP cls) else K j) = (if j < i∧d.taken = true then (K j).map (toP cls) else K j):=by simp [e2]
     rw [eg]
     refine hv.stay fun q2 c2 he hne => ?_
     have hl2:(if j < i∧d.taken = true then (K j).map (toP cls) else K j).length = (K j).length:=by split <;> simp
     rw [hl2] at he
     have hne':K j ≠ []:=by
      intro e
      rw [e] at hne
      simp at hne
     refine hS2.own (by simpa using fun e3:q2 = q' => e (hsep j i d c q' c2 cp hj hci (e3 ▸ he) hkv hne' h0)) (hS.old (hk5.old (hqo _ (hqs j d q2 c2 hj he hne'))))
 ·rintro s' ⟨h,hS,hV⟩
  simp
  refine q s' ⟨fun b hb ho => (hS.obj b (by simpa using ⟨hLo _ (hk5.old ho),hb⟩) (hk5.old ho)).trans (hk5.obj b ho),Nat.le_trans hk5.next hS.next,fun _ => h⟩ fun j c hj => ?_
  have:=hV j c hj
  have hjl:j < l.length:=(List.getElem?_eq_some_iff.1 hj).1
  simpa [hjl] using this
theorem Zwe {s:St} {p Bc:Pos} {l:List RC} {n:Nat} {K:Nat→List Int} {cv:AVal} {cls:List Int} {qs:List Pos} {Q:AVal→St→Prop} (hn:l.length = n) (hw:s.Wf) (hp:s.Old p) (hc:s.cells p = some (encs l)) (hl:n ≤ 400) (hcl:cls.length ≤ 1000)
  (hK:∀ j c,l[j]? = some c→KidV s c.kv (K j)∧(K j).length ≤ 1000∧(c.taken = true→∀ k ∈ K j,0 ≤ k∧k < cls.length))
  (hqs:∀ j c q cp,l[j]? = some c→c.kv = .slice q 0 (K j).length cp→K j ≠ []→q ∈ qs) (hpq:p ∉ qs) (hqo:∀ q ∈ qs,s.Old q)
  (hsep:∀ j j' c c' q cp cp',l[j]? = some c→l[j']? = some c'→c.kv = .slice q 0 (K j).length cp→c'.kv = .slice q 0 (K j').length cp'→K j ≠ []→K j' ≠ []→j = j')
  (hcv:∀ s',Same qs s s'→s'.cells Bc = some [cv]∧Z0e s' cv cls)
  (q:∀ s',Same qs s s'→(∀ j c,l[j]? = some c→KidV s' c.kv (if c.taken = true then (K j).map (toP cls) else K j))→Q (.tup []) s') :
  Z0c Tryz.prog 57 [.agg [.fn 66 [] [.ptr Bc 0]],.agg [.slice p 0 n (.lim n)]] s Q:=by
 subst hn
 exact Ztt hw hp hc hl hcl hK hqs hpq hqo hsep hcv q
def Z45 (cls:List Int) (cs:List CV):List CV:=cs.map fun c => if c.taken = true then { c with kids:=c.kids.map (toP cls) } else c
theorem Z93 (cls:List Int) (cs:List CV):(Z45 cls cs).length = cs.length:=by simp [Z45]
theorem Zb7 {cls:List Int} {cs:List CV} {i:Nat} {c:CV} (h:cs[i]? = some c):(Z45 cls cs)[i]? = some (if c.taken = true then { c with kids:=c.kids.map (toP cls) } else c):=by simp [Z45,h]
theorem Zwc {s0 s:St} {W:Pos→Prop} {pn B4 Bx:Pos} {cs:List CV} {V:List AVal} {cls:List Int} {mk r:Lets} {cp:Cap} {Q:AVal→St→Prop} (h:Ctx s0 W (mk ++ r) s) (hR:Z0s (cs.map CV.kids) V mk) (hO4:∀ c ∈ cs,c.kids.length ≤ 4) (hOk:∀ c ∈ cs,c.taken = true→∀ k ∈ c.kids,0 ≤ k∧k < cs.length) (hcl:cls.length = cs.length) (h4:cs.length ≤ 400)
  (hpn:(pn,C (encs (rcs cs V))) ∈ r) (hB4:(B4,C [.slice Bx 0 cs.length cp]) ∈ r) (hBx:(Bx,C (ints cls)) ∈ r)
  (q:∀ mk' s',Z0s ((Z45 cls cs).map CV.kids) V mk'→Ctx s0 W (mk' ++ r) s'→Q (.tup []) s') :
  Z0c Tryz.prog 57 [.agg [.fn 66 [] [.ptr B4 0]],.agg [.slice pn 0 cs.length (.lim cs.length)]] s Q:=by
 have hV:V.length = cs.length:=by simpa using hR.len
 have hl:=Z1c hV
 have hn:=h.nodup
 rw [List.map_append,List.nodup_append] at hn
 have hget:∀ j c,(rcs cs V)[j]? = some c→∃ (hj:j < cs.length),V[j]? = some c.kv∧c.taken = cs[j].taken∧c = ⟨cs[j].taken,cs[j].name,c.kv,cs[j].held⟩:=by
  intro j c hc
  have hlt:j < cs.length:=by have:=(List.getElem?_eq_some_iff.1 hc).1; rwa [hl] at this
  have hv:V[j]? = some (V[j]'(by omega)):=List.getElem?_eq_getElem (by omega)
  rw [Z1k (List.getElem?_eq_getElem hlt) hv] at hc
  cases hc
  exact ⟨hlt,hv,rfl,rfl⟩
 have hrow:∀ j c,(rcs cs V)[j]? = some c→(Z0o cs j = []∧Z18 c.kv = some 0) ∨ ∃ q cp,Z0o cs j ≠ []∧c.kv = .slice q 0 (Z0o cs j).length cp∧(q,C (ints (Z0o cs j))) ∈ mk:=by
  intro j c hc
  obtain ⟨hj,hv,_⟩:=hget j c hc
  obtain ⟨kv,g1,g2⟩:=hR.each (Z69 hj)
  rw [hv] at g1
  cases g1
  exact g2
 refine Zwe (K:=Z0o cs) (cls:=cls) (cv:=.slice Bx 0 cs.length cp) (qs:=mk.map (·.1)) hl h.wf (h.ob (List.mem_append_right _ hpn)) (Z0a (Z13 (h.own _ (List.mem_append_right _ hpn)))) h4 (by omega) ?_ ?_ ?_ ?_ ?_ ?_ ?_
 ·intro j c hc
  obtain ⟨hj,hv,ht,_⟩:=hget j c hc
  have hko:=Z1d (List.getElem?_eq_getElem hj)
  refine ⟨?_,?_,?_⟩
  ·rcases hrow j c hc with ⟨e1,e2⟩ | ⟨q,cp,e1,e2,e3⟩
   ·exact .inl ⟨e2,e1⟩
   ·exact .inr ⟨q,cp,e2,Z13 (h.own _ (List.mem_append_left _ e3))⟩
  ·rw [hko]
   have:=hO4 _ (List.getElem_mem hj)
   omega
  ·intro hct k hk
   rw [hko] at hk
   have:=hOk _ (List.getElem_mem hj) (ht ▸ hct) k hk
   exact ⟨this.1,by omega⟩
 ·intro j c q cp hc hkv hne
  rcases hrow j c hc with ⟨e1,e2⟩ | ⟨q',cp',e1,e2,e3⟩
  ·exact (hne e1).elim
  ·rw [hkv] at e2
   cases e2
   exact List.mem_map.2 ⟨_,e3,rfl⟩
 ·exact fun hm => hn.2.2 _ hm _ (List.mem_map.2 ⟨_,hpn,rfl⟩) rfl
 ·intro q hq
  obtain ⟨x,hx,rfl⟩:=List.mem_map.1 hq
  exact h.ob (List.mem_append_left _ hx)
 ·intro j j' c c' q cp cp' hc hc' hkv hkv' hne hne'
  obtain ⟨hj,hv,_⟩:=hget j c hc
  obtain ⟨hj',hv',_⟩:=hget j' c' hc'
  rw [hkv] at hv
  rw [hkv'] at hv'
  exact hR.sep hn.1 (Z69 hj) (Z69 hj') hne hne' hv hv'
 ·intro s' hS
  have h':=h.lose hS
  have e:cls.length = cs.length:=hcl
  refine ⟨Z0a (Z13 (h'.own _ hB4)),?_⟩
  rw [← hcl]
  exact Z60 h'.wf (Z13 (h'.own _ hBx)) _
 ·intro s' hS hk
  have h':=h.lose hS
  have hlast:∀ (i:Nat) (ks:List Int) (qq:Pos) (c:Cap),((Z45 cls cs).map CV.kids)[i]? = some ks→ks ≠ []→V[i]? = some (AVal.slice qq 0 ks.length c)→∃ hi:i < cs.length,Z0o cs i ≠ []∧ks.length = (Z0o cs i).length∧qq ∈ mk.map (·.1):=by
   intro i ks qq c hks hne hv
   obtain ⟨hi,e⟩:=Z7g hks
   rw [Z93] at hi
   have hm:=Zb7 (cls:=cls) (List.getElem?_eq_getElem hi)
   have e2:=Z1d hm
   rw [e] at e2
   have e3:=Z1d (List.getElem?_eq_getElem hi)
   have hlen:ks.length = (Z0o cs i).length:=by
    rw [e2,e3]
    split <;> simp
   have hne':Z0o cs i ≠ []:=by
    intro e0
    rw [e0] at hlen
    exact hne (List.length_eq_zero_iff.1 hlen)
   refine ⟨hi,hne',hlen,?_⟩
   rcases hrow i _ (Z1k (List.getElem?_eq_getElem hi) hv) with ⟨e1,_⟩ | ⟨q',cp',_,e5,e6⟩
   ·exact (hne' e1).elim
   ·have:q' = qq:=(AVal.slice.inj e5).1.symm
    subst this
    exact List.mem_map.2 ⟨_,e6,rfl⟩
  obtain ⟨mk',r1,r2,r3,r4⟩:=Zgv (s:=s') ((Z45 cls cs).map CV.kids) V (by simp [hV,Z93]) (fun i ks kv hks hv => by
   obtain ⟨hi,e⟩:=Z7g hks
   rw [Z93] at hi
   have:=hk i _ (Z1k (List.getElem?_eq_getElem hi) hv)
   rw [Z1d (Zb7 (List.getElem?_eq_getElem hi))] at e
   rw [← e]
   rw [Z1d (List.getElem?_eq_getElem hi)] at this
   have e2:(if cs[i].taken = true then { cs[i] with kids:=cs[i].kids.map (toP cls) } else cs[i]).kids = if cs[i].taken = true then cs[i].kids.map (toP cls) else cs[i].kids:=by split <;> rfl
   rw [e2]
   exact this) (fun i j ks ks' qq c c' hks hks' hne hne' hv hv' => by
   obtain ⟨hi,n1,l1,_⟩:=hlast i ks qq c hks hne hv
   obtain ⟨hj,n2,l2,_⟩:=hlast j ks' qq c' hks' hne' hv'
   rw [l1] at hv
   rw [l2] at hv'
   exact hR.sep hn.1 (Z69 hi) (Z69 hj) n1 n2 hv hv')
  refine q mk' s' r1 (h'.addL r2 r3 ?_ ?_)
  ·intro x hx ho
   obtain ⟨i,ks,c,e1,e2,e3⟩:=r4 x hx
   obtain ⟨_,_,_,hm⟩:=hlast i ks x.1 c e1 e2 e3
   obtain ⟨y,hy,e⟩:=List.mem_map.1 hm
   rw [← e] at ho ⊢
   exact h.free y (List.mem_append_left _ hy) ho
  ·intro x hx hr
   obtain ⟨i,ks,c,e1,e2,e3⟩:=r4 x hx
   obtain ⟨_,_,_,hm⟩:=hlast i ks x.1 c e1 e2 e3
   exact hn.2.2 _ hm _ hr rfl
def outL (n:Nat) (v:List Nat):List Int:=(List.range n).map fun a => if a ∈ v then (v.idxOf a:Int) else -1
def pick {α:Type} (l:List α) (d:α) (v:List Nat):List α:=v.map fun a => (l[a]?).getD d
def Z1o (cs:List CV) (v:List Nat):List CV:=pick cs Z1r v ++ List.replicate (cs.length - v.length) Z1r
def Z2u (n:Nat) (V:List AVal) (v:List Nat):List AVal:=pick V .nilSlice v ++ List.replicate (n - v.length) .nilSlice
def Zml (cs:List CV):List Int × List CV:=(outL cs.length (Z16 cs),Z45 (outL cs.length (Z16 cs)) (Z1o cs (Z16 cs)))
theorem Z8p (n:Nat) (v:List Nat):(outL n v).length = n:=by simp [outL]
theorem Zed {n a:Nat} (v:List Nat) (h:a < n):(outL n v)[a]? = some (if a ∈ v then (v.idxOf a:Int) else -1):=by
 unfold outL
 rw [List.getElem?_map,List.getElem?_range h]
 rfl
theorem Zxj {n a:Nat} {v:List Nat} (h:a < n) (hv:a ∉ v):(outL n v).set a (v.length:Int) = outL n (v ++ [a]):=by
 refine List.ext_getElem? fun j => ?_
 rw [List.getElem?_set]
 by_cases hj:j < n
 ·rw [Zed _ hj,Zed _ hj]
  by_cases e:a = j
  ·subst e
   rw [if_pos rfl,Z8p,if_pos h,if_pos (by simp),List.idxOf_append,if_neg hv]
   simp
  ·rw [if_neg e]
   have e':¬ j = a:=fun h => e h.symm
   by_cases hm:j ∈ v
   ·rw [if_pos hm,if_pos (by simp [hm]),List.idxOf_append,if_pos hm]
   ·rw [if_neg hm,if_neg (by simp [hm,e'])]
 ·have h1:(outL n v)[j]? = none:=List.getElem?_eq_none (by rw [Z8p]; omega)
  have h2:(outL n (v ++ [a]))[j]? = none:=List.getElem?_eq_none (by rw [Z8p]; omega)
  rw [h1,h2]
  split
  ·rename_i e
   subst e
   omega
  ·rfl
theorem Zlx {α:Type} (l:List α) (d:α) (v:List Nat) (a:Nat):pick l d (v ++ [a]) = pick l d v ++ [(l[a]?).getD d]:=by simp [pick]
theorem Z6n {α:Type} (l:List α) (d:α) (v:List Nat):(pick l d v).length = v.length:=by simp [pick]
theorem Zrd {α:Type} (x:List α) (d y:α) (n:Nat) (h:x.length < n):(x ++ List.replicate (n - x.length) d).set x.length y = (x ++ [y]) ++ List.replicate (n - (x.length + 1)) d:=by
 have e:n - x.length = (n - (x.length + 1)) + 1:=by omega
 rw [e,List.replicate_succ,List.set_append_right _ _ (Nat.le_refl _),Nat.sub_self,List.set_cons_zero]
 simp
theorem Zct {cs:List CV} {v:List Nat} (h:v.length ≤ cs.length):(Z1o cs v).length = cs.length:=by
 unfold Z1o
 rw [List.length_append,Z6n,List.length_replicate]
 omega
theorem Zvu {n:Nat} {V:List AVal} {v:List Nat} (h:v.length ≤ n):(Z2u n V v).length = n:=by
 unfold Z2u
 rw [List.length_append,Z6n,List.length_replicate]
 omega
theorem Zt7 {cs:List CV} {v:List Nat} {a:Nat} {c:CV} (h:v.length < cs.length) (hc:cs[a]? = some c):(Z1o cs v).set v.length c = Z1o cs (v ++ [a]):=by
 have:=Zrd (pick cs Z1r v) Z1r c cs.length (by rw [Z6n]; exact h)
 rw [Z6n] at this
 unfold Z1o
 rw [this,Zlx,hc,List.length_append]
 rfl
theorem Zt9 {n:Nat} {V:List AVal} {v:List Nat} {a:Nat} {kv:AVal} (h:v.length < n) (hc:V[a]? = some kv):(Z2u n V v).set v.length kv = Z2u n V (v ++ [a]):=by
 have:=Zrd (pick V .nilSlice v) .nilSlice kv n (by rw [Z6n]; exact h)
 rw [Z6n] at this
 unfold Z2u
 rw [this,Zlx,hc,List.length_append]
 rfl
theorem Z0s.pick:∀ {v:List Nat} {K:List (List Int)} {V:List AVal} {m:Lets},Z0s K V m→v.Nodup→(∀ a ∈ v,a < K.length)→∃ m1 d,Z0s (pick K [] v) (pick V .nilSlice v) m1∧m.Perm (m1 ++ d)
 | [],K,V,m,h,_,_ => ⟨[],m,rfl,by simp⟩
 | a :: v,K,V,m,h,hn,hlt => by
  rw [List.nodup_cons] at hn
  have ha:=hlt a (by simp)
  obtain ⟨kv,m1,m2,g1,g2,g3,g4⟩:=h.at (i:=a) (ks:=K[a]) (List.getElem?_eq_getElem ha)
  have h2:=g4 [] .nilSlice [] (.inl ⟨rfl,rfl,rfl⟩)
  obtain ⟨m3,d,e1,e2⟩:=Z0s.pick (v:=v) h2 hn.2 (fun x hx => by simpa using hlt x (by simp [hx]))
  have hk:Go.Proofs.pick (K.set a []) [] v = Go.Proofs.pick K [] v:=by
   unfold Go.Proofs.pick
   refine List.map_congr_left fun x hx => ?_
   rw [List.getElem?_set_ne (show a ≠ x from fun e => hn.1 (e.symm ▸ hx))]
  have hv:Go.Proofs.pick (V.set a .nilSlice) .nilSlice v = Go.Proofs.pick V .nilSlice v:=by
   unfold Go.Proofs.pick
   refine List.map_congr_left fun x hx => ?_
   rw [List.getElem?_set_ne (show a ≠ x from fun e => hn.1 (e.symm ▸ hx))]
  rw [hk,hv] at e1
  refine ⟨m1 ++ m3,d,⟨m1,m3,List.Perm.refl _,?_,e1⟩,?_⟩
  ·show RowR ((V[a]?).getD .nilSlice) ((K[a]?).getD []) m1
   rw [List.getElem?_eq_getElem ha,g1]
   exact g2
  ·refine Z0n fun x => ?_
   have i1:=Z3d g3 x
   have i2:=Z3d e2 x
   simp only [Z0i,Z0z] at i1 i2 ⊢
   omega
theorem Z0s.nils:∀ {K:List (List Int)} {V:List AVal} {m:Lets} (k:Nat),Z0s K V m→Z0s (K ++ List.replicate k []) (V ++ List.replicate k .nilSlice) m
 | K,V,m,0,h => by simpa using h
 | K,V,m,k + 1,h => by
  have:=(Z0s.nils k h).snoc (mk:=[]) (ks:=[]) (kv:=.nilSlice) (.inl ⟨rfl,rfl,rfl⟩)
  rw [List.replicate_succ',List.replicate_succ',← List.append_assoc,← List.append_assoc]
  simpa using this
theorem Zt6 (cs:List CV) (v:List Nat):(Z1o cs v).map CV.kids = pick (cs.map CV.kids) [] v ++ List.replicate (cs.length - v.length) []:=by
 unfold Z1o pick
 rw [List.map_append,List.map_map,List.map_replicate]
 congr 1
 refine List.map_congr_left fun a _ => ?_
 simp only [Function.comp,List.getElem?_map]
 cases cs[a]? <;> rfl
theorem Zup (l:List RC) (i:Nat) (c:RC) (h:i < l.length):lay (encs l) (i * 4) [.bool c.taken,.str c.name,c.kv,.int .i64 c.held] = encs (l.set i c):=Zc3 l i c h
theorem Zxl {s0 s:St} {W:Pos→Prop} {cs:List CV} {V:List AVal} {vs:AVal} {a:Nat} {v:List Nat} {B7 B4 Bo B6 pn B1 hb p:Pos} {pre r:Lets} {Q:AVal→St→Prop} (hV:V.length = cs.length) (hmax:cs.length ≤ 400)
  (hc:Ctx s0 W (pre ++ ((B7,C [.int .i64 v.length]) :: (B4,C [.slice Bo 0 cs.length (.lim cs.length)]) :: (Bo,C (ints (outL cs.length v))) :: (B6,C [.slice pn 0 cs.length (.lim cs.length)]) :: (pn,C (encs (rcs (Z1o cs v) (Z2u cs.length V v)))) :: (B1,C [.ptr hb 0]) :: (hb,C [.slice p 0 cs.length (.lim cs.length),vs]) :: (p,C (encs (rcs cs V))) :: r)) s)
  (ha:a < cs.length) (hav:a ∉ v) (hvn:v.Nodup) (hvlt:∀ y ∈ v,y < cs.length)
  (hkv:∀ (i:Nat) kv,V[i]? = some kv→kv.cells = [kv]∧∀ t,¬ kv = .tup t)
  (q:∀ s',Ctx s0 W (pre ++ ((B7,C [.int .i64 (v ++ [a]).length]) :: (B4,C [.slice Bo 0 cs.length (.lim cs.length)]) :: (Bo,C (ints (outL cs.length (v ++ [a])))) :: (B6,C [.slice pn 0 cs.length (.lim cs.length)]) :: (pn,C (encs (rcs (Z1o cs (v ++ [a])) (Z2u cs.length V (v ++ [a]))))) :: (B1,C [.ptr hb 0]) :: (hb,C [.slice p 0 cs.length (.lim cs.length),vs]) :: (p,C (encs (rcs cs V))) :: r)) s'→Q (.tup []) s') :
  Z0c Tryz.prog 65 [.int .i64 a,.ptr B7 0,.ptr B4 0,.ptr B1 0,.ptr B6 0] s Q:=by
 have hvl:v.length < cs.length:=by
  have:=Z34 (n:=cs.length) (v:=v ++ [a]) (by rw [List.nodup_append]; exact ⟨hvn,by simp,by rintro x hx y hy rfl; simp at hy; exact hav (hy ▸ hx)⟩) (by intro y hy; rcases List.mem_append.1 hy with hy | hy; exact hvlt y hy; simp at hy; omega)
  simp at this
  omega
 have hc0:Ctx s0 W ((B7,C [.int .i64 v.length]) :: (B4,C [.slice Bo 0 cs.length (.lim cs.length)]) :: (Bo,C (ints (outL cs.length v))) :: (B6,C [.slice pn 0 cs.length (.lim cs.length)]) :: (pn,C (encs (rcs (Z1o cs v) (Z2u cs.length V v)))) :: (B1,C [.ptr hb 0]) :: (hb,C [.slice p 0 cs.length (.lim cs.length),vs]) :: (p,C (encs (rcs cs V))) :: (pre ++ r)) s:=hc.perm (Z0n fun x => by
  simp only [Z0j,Z0i]
  omega)
 have hcd:cs[a]? = some cs[a]:=List.getElem?_eq_getElem ha
 obtain ⟨kv,hkv0⟩:∃ kv,V[a]? = some kv:=⟨_,List.getElem?_eq_getElem (by omega)⟩
 obtain ⟨hkc,hkt⟩:=hkv a kv hkv0
 have hseg:=Z9q _ a _ (Z1k hcd hkv0)
 simp only [RC.enc] at hseg
 have hle:a * 4 + 4 ≤ (encs (rcs cs V)).length:=by rw [Z2j,Z1c hV]; omega
 have hrl:(rcs (Z1o cs v) (Z2u cs.length V v)).length = cs.length:=by rw [Z1c (by rw [Zct (by omega),Zvu (by omega)]),Zct (by omega)]
 have hle2:v.length * 4 + 4 ≤ (encs (rcs (Z1o cs v) (Z2u cs.length V v))).length:=by rw [Z2j,hrl]; omega
 have hlay:=Zup (rcs (Z1o cs v) (Z2u cs.length V v)) v.length ⟨cs[a].taken,cs[a].name,kv,cs[a].held⟩ (by omega)
 rw [Z84 (d:=cs[a]),Zt7 hvl hcd,Zt9 hvl hkv0] at hlay
 have hlay2:=Z5z (outL cs.length v) a (v.length:Int) (by rw [Z8p]; exact ha)
 rw [Zxj ha hav] at hlay2
 have hol:(outL cs.length v).length = cs.length:=Z8p _ _
 have hwr:IntKind.wrap .i64 ((v.length:Int) + 1) = (((v ++ [a]).length:Nat):Int):=by rw [List.length_append,List.length_singleton,IntWalk.i64_in _ (by omega)]; omega
 generalize outL cs.length v = ov at hc0 hlay2 hol
 generalize hov':outL cs.length (v ++ [a]) = ov' at hlay2 q
 refine Z08 (Z0d (by decide)) fi65 rfl (by decide) rfl ?_
 refine Z00 ?_
 have hle3:a + 1 ≤ ov.length:=by omega
 simp [lay] at hlay2
 simp [hc0.c 0 rfl,hc0.c 1 rfl,hc0.o 2 rfl,ha,hle3]
 rw [hlay2]
 have c1:=hc0.put 2 rfl (C (ints ov'))
 simp only [List.set_cons_succ,List.set_cons_zero] at c1
 generalize s.put Bo (.cells (List.map (fun k => .int .i64 k) ov') false) = s1 at c1 ⊢
 refine Z00 ?_
 generalize hpc:encs (rcs (Z1o cs v) (Z2u cs.length V v)) = pcs at c1 hle2 hlay
 have hvl':(v.length:Int) < (cs.length:Int):=by omega
 simp [lay] at hlay
 simp [c1.c 0 rfl,c1.c 3 rfl,c1.c 5 rfl,c1.c 6 rfl,c1.c 7 rfl,c1.o 4 rfl,ha,hvl,hvl',hle,hseg,hle2,hkc,hkt]
 rw [hlay]
 have c2:=c1.put 4 rfl (C (encs (rcs (Z1o cs (v ++ [a])) (Z2u cs.length V (v ++ [a])))))
 simp only [List.set_cons_succ,List.set_cons_zero] at c2
 generalize s1.put pn (.cells (encs (rcs (Z1o cs (v ++ [a])) (Z2u cs.length V (v ++ [a])))) false) = s2 at c2 ⊢
 refine AM.wp_region ?_
 simp [c2.c 0 rfl,c2.o 0 rfl,hwr,-List.length_append]
 have c3:=c2.put 0 rfl (C [.int .i64 ((v ++ [a]).length:Nat)])
 simp only [List.set_cons_zero] at c3
 refine q _ (c3.perm (Z0n fun x => by
  simp only [Z0j,Z0i]
  omega))
theorem Zvc {s:St} {nds:List ND} {Nv Lv Cv:AVal} {L:List Nat} {cls:List Int} {M:Nat} {Q:AVal→St→Prop} (hw:s.Wf) (hN:Z1v s Nv nds) (hL:Z0e s Lv (nats L)) (hC:Z0e s Cv cls)
  (hn:nds.length ≤ 1000) (hLl:L.length ≤ 1000) (hcl:cls.length = nds.length) (hlt:∀ a ∈ L,a < nds.length)
  (hk:∀ (a:Nat) nd,nds[a]? = some nd→nd.2.length ≤ 4∧∀ k ∈ nd.2,0 ≤ k∧k < nds.length) (hnm:∀ (a:Nat) nd,a ∈ L→nds[a]? = some nd→nd.1 ≠ [])
  (hord:∀ (j a:Nat),L[j]? = some a→∃ c:Nat,cls[a]? = some (c:Int)∧c ≤ (outF cls nds (L.take j)).length) (hM:(outF cls nds L).length = M)
  (q:∀ Bn mn s',Zil Bn (outF cls nds L) mn→Ctx s (fun _ => False) mn s'→Q (.agg [.slice Bn 0 M (.lim M),.int .i64 0]) s'):Z0c Tryz.prog 111 [Nv,Lv,Cv,.int .i64 M] s Q:=by
 have hML:M ≤ L.length:=by rw [← hM]; exact Zob _ _ _
 have hz1:M ≤ Z0g:=by unfold Z0g; omega
 have hz2:M * 40 ≤ Z0g:=by unfold Z0g; omega
 have hNt:=hN.ntup
 have hLt:=hL.ntup
 have hCt:=hC.ntup
 refine Z08 (Z0d (by decide)) fi111 rfl (by decide) rfl ?_
 refine Z00 ?_
 simp
 have d0:=(Ctx.start (fun _ => False) hw).alloc (C [.nilSlice,.int .i64 0])
 generalize s.alloc (.cells [.nilSlice,.int .i64 0] false) = s1 at d0 ⊢
 generalize s.next = B8 at d0 ⊢
 refine Z00 ?_
 simp [hz1,hz2]
 have hz0:(List.replicate M [AVal.str [],.nilSlice]).flatten = Z0h (padF M []) (List.replicate M .nilSlice):=by
  simp [padF,Z0h,penc,List.zipWith_replicate,List.flatMap]
 rw [hz0]
 have d1:=d0.alloc (C (Z0h (padF M []) (List.replicate M .nilSlice)))
 generalize s1.alloc (.cells (Z0h (padF M []) (List.replicate M .nilSlice)) false) = s2 at d1 ⊢
 generalize s1.next = Bn at d1 ⊢
 have d2:=(d1.alloc (C [.nilSlice,.int .i64 0])).put 0 rfl (C [.slice Bn 0 M (.lim M),.int .i64 0])
 simp only [List.set_cons_zero] at d2
 generalize (s2.alloc (.cells [.nilSlice,.int .i64 0] false)).put s2.next (.cells [.slice Bn 0 M (.lim M),.int .i64 0] false) = s3 at d2 ⊢
 generalize s2.next = B9 at d2 ⊢
 have hR0:Z0s ((padF M []).map Prod.snd) (List.replicate M .nilSlice) []:=by
  have:=Z0s.nils (K:=[]) (V:=[]) (m:=[]) M rfl
  simpa [padF] using this
 have d3:Ctx s (fun _ => False) ((B9,C [.slice Bn 0 M (.lim M),.int .i64 0]) :: (B8,C [.nilSlice,.int .i64 0]) :: (Bn,C (Z0h (padF M []) (List.replicate M .nilSlice))) :: []) s3:=d2.perm (Z0n fun x => by
  simp only [Z0j,Z0z]
  omega)
 refine AM.wp_seq ?_
 refine Z00 ?_
 simp [hLt,hL.len]
 refine AM.wp_block ?_
 refine AM.wp_loop (fun k t s' => ∃ (j:Nat) (V:List AVal) (mr:Lets),j ≤ L.length∧k = L.length - j∧PT.get (posOf 0) t = some Nv∧PT.get (posOf 2) t = some Cv∧PT.get (posOf 8) t = some (.ptr B8 0)∧PT.get (posOf 9) t = some (.ptr B9 0) ∧
   PT.get (posOf 18) t = some Lv∧PT.get (posOf 19) t = some (.int .i64 L.length)∧PT.get (posOf 20) t = some (.int .i64 j)∧Z0s ((padF M (outF cls nds (L.take j))).map Prod.snd) V mr ∧
   Ctx s (fun _ => False) ((B9,C [.slice Bn 0 M (.lim M),.int .i64 0]) :: (B8,C [.nilSlice,.int .i64 0]) :: (Bn,C (Z0h (padF M (outF cls nds (L.take j))) V)) :: mr) s') L.length
  ⟨0,List.replicate M .nilSlice,[],by simp,by simp,by simp,by simp,by simp,by simp,by simp,by simp,by simp,by simpa [outF] using hR0,by simpa [outF] using d3⟩ ?_
 rintro k t s' ⟨j,V,mr,hj,rfl,t0,t2,t8,t9,t18,t19,t20,hR,d⟩
 refine Z00 ?_
 simp [t19,t20]
 refine AM.wp_seq ?_
 refine AM.Z04 ?_
 by_cases hlt':j < L.length
 ·have hwr:IntKind.wrap .i64 ((j:Int) + 1) = ((j + 1:Nat):Int):=by rw [IntWalk.i64_in _ (by omega)]; omega
  obtain ⟨a,ha⟩:∃ a,L[j]? = some a:=⟨_,List.getElem?_eq_getElem hlt'⟩
  have haL:=List.mem_of_getElem? ha
  have han:=hlt a haL
  obtain ⟨nd,hnd⟩:∃ nd,nds[a]? = some nd:=⟨_,List.getElem?_eq_getElem han⟩
  obtain ⟨c,hc,hcle⟩:=hord j a ha
  have hnx:=Zvr (cls:=cls) (nds:=nds) ha
  have hst:Z2t cls nds (outF cls nds (L.take j)) a = if (c:Int) < (outF cls nds (L.take j)).length then outF cls nds (L.take j) else outF cls nds (L.take j) ++ [Z59 cls nd]:=by
   unfold Z2t
   rw [hc,hnd]
  rw [hst] at hnx
  have hmono:=Zlt cls nds L (j + 1)
  have hmono0:=Zlt cls nds L j
  obtain ⟨hk4,hkin⟩:=hk a nd hnd
  have hndn:=hnm a nd haL hnd
  have hnames:∀ x ∈ outF cls nds (L.take j),x.1 ≠ []:=fun x hx => by
   obtain ⟨b,nd',h1,h2,rfl⟩:=Zi8 hx
   exact hnm b nd' (List.mem_of_mem_take h1) h2
  have hpl:(padF M (outF cls nds (L.take j))).length = M:=Zxn (by omega)
  have hVl:V.length = M:=by have:=hR.len; simpa [hpl] using this
  have hcM:c < M:=by
   by_cases h:(c:Int) < (outF cls nds (L.take j)).length
   ·omega
   ·rw [if_neg h] at hnx
    rw [hnx] at hmono
    simp at hmono
    omega
  have hel:=Z6g (ns:=padF M (outF cls nds (L.take j))) (V:=V) (by omega)
  rcases hL with ⟨_,e0⟩ | ⟨bl,ol,cl,cellsl,rfl,hbl,hcsl,hlel,hell⟩
  ·have:L = []:=by simpa using e0
   rw [this] at hlt'
   simp at hlt'
  rw [List.length_map] at t18
  have hgl:=hell j (a:Int) (by rw [List.getElem?_map,ha]; rfl)
  rcases hC with ⟨_,e0⟩ | ⟨bx,ox,cx,cellsx,rfl,hbx,hcsx,hlex,helx⟩
  ·rw [e0] at hc
   simp at hc
  have hgx:=helx a (c:Int) hc
  have hax:a < cls.length:=by omega
  rcases hN with ⟨_,e0⟩ | ⟨bn,on,cn,cellsn,rfl,hbn,hcsn,hlen,heln⟩
  ·rw [e0] at hnd
   simp at hnd
  obtain ⟨hgn,kv,hgk,hkv⟩:=heln a _ hnd
  have rl:∀ {m:Lets} {s'':St},Ctx s (fun _ => False) m s''→s''.cells bl = some cellsl:=fun d => (d.Z0m.cells hbl).trans hcsl
  have rx:∀ {m:Lets} {s'':St},Ctx s (fun _ => False) m s''→s''.cells bx = some cellsx:=fun d => (d.Z0m.cells hbx).trans hcsx
  have rn:∀ {m:Lets} {s'':St},Ctx s (fun _ => False) m s''→s''.cells bn = some cellsn:=fun d => (d.Z0m.cells hbn).trans hcsn
  simp [hlt']
  refine AM.wp_skip ?_
  simp
  refine AM.wp_seq ?_
  refine AM.wp_block ?_
  refine Z00 ?_
  simp [t18,t20,hlt',rl d,hgl]
  refine Z00 ?_
  simp [t2,t9,hax,rx d,hgx,d.c 0 rfl,hcM]
  refine AM.wp_seq ?_
  by_cases hx:(c:Int) < (outF cls nds (L.take j)).length
  ·rw [if_pos hx] at hnx
   obtain ⟨x,hxx⟩:∃ x,(outF cls nds (L.take j))[c]? = some x:=⟨_,List.getElem?_eq_getElem (by omega)⟩
   have hxn:=hnames x (List.mem_of_getElem? hxx)
   obtain ⟨kv',g1,_⟩:=hR.each (i:=c) (ks:=x.2) (by rw [List.getElem?_map,Zoe hxx]; rfl)
   obtain ⟨e1,_⟩:=Z7j (Zoe (M:=M) hxx) g1
   refine Z00 ?_
   simp [d.c 2 rfl,e1]
   refine AM.Z04 ?_
   simp [hxn]
   refine AM.wp_exit ?_
   simp
   refine AM.wp_region ?_
   simp [t20,hwr]
   refine ⟨L.length - (j + 1),by omega,j + 1,by omega,by omega,by simp [t0],by simp [t2],by simp [t8],by simp [t9],by simp [t18],by simp [t19],by simp,V,mr,by rw [hnx]; exact hR,by rw [hnx]; exact d⟩
  ·rw [if_neg hx] at hnx
   have hce:c = (outF cls nds (L.take j)).length:=by omega
   generalize hout:outF cls nds (L.take j) = out at *
   subst hce
   have hnew:=Zxo (l:=out) hcM
   obtain ⟨kv0,m1,m2,g1,g2,g3,g4⟩:=hR.at (i:=out.length) (ks:=[]) (by rw [List.getElem?_map,hnew]; rfl)
   obtain rfl:m1 = []:=by
    rcases g2 with ⟨_,_,h⟩ | ⟨_,_,h,_⟩
    ·exact h
    ·exact (h rfl).elim
   obtain ⟨e1,e2⟩:=Z7j hnew g1
   refine Z00 ?_
   simp [d.c 2 rfl,e1]
   refine AM.Z04 ?_
   simp
   refine AM.wp_skip ?_
   simp
   have hl1:=Zsq nd.1 nd.2 hnew g1
   have hb1:out.length * 2 + 1 ≤ (Z0h (padF M out) V).length:=by omega
   refine Z00 ?_
   simp [t0,han,rn d,hgn,d.o 2 rfl,hb1]
   simp [lay] at hl1
   rw [hl1]
   have d1:=d.put 2 rfl (C (Z0h ((padF M out).set out.length nd) V))
   simp only [List.set_cons_succ,List.set_cons_zero] at d1
   generalize s'.put Bn (.cells (Z0h ((padF M out).set out.length nd) V) false) = s4 at d1 ⊢
   have hn1:((padF M out).set out.length nd)[out.length]? = some nd:=by rw [List.getElem?_set_self (by omega)]
   have hset:=Zof nd hcM
   generalize hn2:(padF M out).set out.length nd = ns1 at d1 hn1 ⊢
   have hkt:=hkv.ntup
   have hz3:nd.2.length ≤ Z0g:=by unfold Z0g; omega
   have hz4:nd.2.length * 8 ≤ Z0g:=by unfold Z0g; omega
   have hl2:=Zsr (.slice s4.next 0 nd.2.length (.lim nd.2.length)) hn1 g1
   have hel1:(Z0h ns1 V).length = 2 * M:=by
    have e:ns1.length = M:=by rw [← hn2]; simp [hpl]
    rw [Z6g (by omega),e]
   have hb2:out.length * 2 + 1 + 1 ≤ (Z0h ns1 V).length:=by omega
   have d2:=(d1.alloc (C (List.replicate nd.2.length (.int .i64 0))))
   refine Z00 ?_
   simp [t0,han,rn d1,hgk,hkt,hkv.len,hz3,hz4,d2.o 3 rfl,hb2]
   simp [lay] at hl2
   rw [hl2]
   have d3:=d2.put 3 rfl (C (Z0h ns1 (V.set out.length (.slice s4.next 0 nd.2.length (.lim nd.2.length)))))
   simp only [List.set_cons_succ,List.set_cons_zero] at d3
   generalize (s4.alloc (.cells (List.replicate nd.2.length (.int .i64 0)) false)).put Bn (.cells (Z0h ns1 (V.set out.length (.slice s4.next 0 nd.2.length (.lim nd.2.length)))) false) = s5 at d3 ⊢
   generalize s4.next = Bk at d3 ⊢
   have hV2:(V.set out.length (AVal.slice Bk 0 nd.2.length (.lim nd.2.length)))[out.length]? = some (.slice Bk 0 nd.2.length (.lim nd.2.length)):=by rw [List.getElem?_set_self (by omega)]
   have hel2:(Z0h ns1 (V.set out.length (.slice Bk 0 nd.2.length (.lim nd.2.length)))).length = 2 * M:=by
    have e:ns1.length = M:=by rw [← hn2]; simp [hpl]
    rw [Z6g (by simp; omega),e]
   obtain ⟨_,e3⟩:=Z7j hn1 hV2
   have d4:Ctx s (fun _ => False) ((B9,C [.slice Bn 0 M (.lim M),.int .i64 0]) :: (B8,C [.nilSlice,.int .i64 0]) :: (Bn,C (Z0h ns1 (V.set out.length (.slice Bk 0 nd.2.length (.lim nd.2.length))))) :: (Bk,C (List.replicate nd.2.length (.int .i64 0))) :: mr) s5:=d3.perm (Z0n fun x => by
    simp only [Z0j]
    omega)
   generalize hV2e:V.set out.length (AVal.slice Bk 0 nd.2.length (.lim nd.2.length)) = V2 at hV2 hel2 e3 d4 ⊢
   refine AM.wp_seq ?_
   refine AM.wp_region ?_
   simp [t0,han,rn d4,hgk,hkt,d4.c 2 rfl,e3]
   refine Zrx (pre:=[(B9,C [.slice Bn 0 M (.lim M),.int .i64 0]),(B8,C [.nilSlice,.int .i64 0]),(Bn,C (Z0h ns1 V2))]) (r:=mr) (ks:=nd.2) (kv:=kv) (c:=.lim nd.2.length) (by simpa using d4) (by simp) (by simp) (hkv.keep d4.Z0m) fun _ s6 d5 => ?_
   simp only [List.cons_append,List.nil_append] at d5
   refine Z00 ?_
   simp [d5.c 2 rfl,e3]
   refine AM.wp_block ?_
   refine AM.wp_loop (fun k t s' => ∃ i:Nat,i ≤ nd.2.length∧k = nd.2.length - i∧PT.get (posOf 0) t = some (.slice bn on nds.length cn)∧PT.get (posOf 2) t = some (.slice bx ox cls.length cx)∧PT.get (posOf 8) t = some (.ptr B8 0)∧PT.get (posOf 9) t = some (.ptr B9 0) ∧
     PT.get (posOf 18) t = some (.slice bl ol L.length cl)∧PT.get (posOf 19) t = some (.int .i64 L.length)∧PT.get (posOf 20) t = some (.int .i64 j)∧PT.get (posOf 12) t = some (.ptr Bn (out.length * 2)) ∧
     PT.get (posOf 67) t = some (.slice Bk 0 nd.2.length (.lim nd.2.length))∧PT.get (posOf 68) t = some (.int .i64 nd.2.length)∧PT.get (posOf 69) t = some (.int .i64 i) ∧
     Ctx s (fun _ => False) ((B9,C [.slice Bn 0 M (.lim M),.int .i64 0]) :: (B8,C [.nilSlice,.int .i64 0]) :: (Bn,C (Z0h ns1 V2)) :: (Bk,C (ints (Z4k (clOf cls) nd.2 i))) :: mr) s') nd.2.length
    ⟨0,by simp,by simp,by simp [t0],by simp [t2],by simp [t8],by simp [t9],by simp [t18],by simp [t19],by simp [t20],by simp,by simp,by simp,by simp,by rw [Zrm]; exact d5⟩ ?_
   rintro k t s' ⟨i,hi,rfl,t0,t2,t8,t9,t18,t19,t20,t12,t67,t68,t69,d⟩
   refine Z00 ?_
   simp [t68,t69]
   refine AM.wp_seq ?_
   refine AM.Z04 ?_
   by_cases hilt:i < nd.2.length
   ·have hwi:IntKind.wrap .i64 ((i:Int) + 1) = ((i + 1:Nat):Int):=by rw [IntWalk.i64_in _ (by omega)]; omega
    obtain ⟨kk,hkk⟩:∃ kk,nd.2[i]? = some kk:=⟨_,List.getElem?_eq_getElem hilt⟩
    obtain ⟨hk0,hk1⟩:=hkin kk (List.mem_of_getElem? hkk)
    obtain ⟨kc,rfl⟩:∃ n:Nat,kk = (n:Int):=⟨kk.toNat,by omega⟩
    have hkc:kc < cls.length:=by omega
    obtain ⟨cc,hcc⟩:∃ cc,cls[kc]? = some cc:=⟨_,List.getElem?_eq_getElem hkc⟩
    have hto:clOf cls (kc:Int) = cc:=by unfold clOf; rw [Int.toNat_natCast,hcc]; rfl
    have hgxx:=helx kc cc hcc
    have hgm:(ints (Z4k (clOf cls) nd.2 i))[i]? = some (.int .i64 kc):=by rw [List.getElem?_map,Ztp hkk]; rfl
    have hlay:lay (ints (Z4k (clOf cls) nd.2 i)) i [.int .i64 cc] = ints (Z4k (clOf cls) nd.2 (i + 1)):=by
     have:=Z5z (Z4k (clOf cls) nd.2 i) i (clOf cls kc) (by rw [Zkr]; omega)
     rw [Zrl hkk,hto] at this
     exact this
    have hml:(ints (Z4k (clOf cls) nd.2 i)).length = nd.2.length:=by simp [Zkr]
    simp [hilt]
    refine AM.wp_skip ?_
    simp
    refine AM.wp_seq ?_
    refine AM.wp_block ?_
    refine Z00 ?_
    have hown:=d.c 3 rfl
    have hown':=d.o 3 rfl
    have dd:=d.put 3 rfl (C (ints (Z4k (clOf cls) nd.2 (i + 1))))
    simp only [List.set_cons_succ,List.set_cons_zero] at dd
    generalize hmv:ints (Z4k (clOf cls) nd.2 i) = mv at hgm hlay hml hown hown' d
    have hlei:i + 1 ≤ mv.length:=by omega
    simp [t67,t69,hilt,hown,hgm]
    refine AM.wp_region ?_
    simp [t12,t67,t69,t2,hilt,d.c 2 rfl,e3,hkc,rx d,hgxx,hown',hlei]
    simp [lay] at hlay
    rw [hlay]
    refine AM.wp_region ?_
    simp [t69,hwi]
    exact ⟨nd.2.length - (i + 1),by omega,i + 1,by omega,by omega,by simp [t0],by simp [t2],by simp [t8],by simp [t9],by simp [t18],by simp [t19],by simp [t20],by simp [t12],by simp [t67],by simp [t68],by simp,dd⟩
   ·simp [hilt]
    refine AM.wp_exit ?_
    simp
    have hie:i = nd.2.length:=by omega
    subst hie
    rw [Zto] at d
    have hcm:nd.2.map (clOf cls) = (Z59 cls nd).2:=rfl
    rw [hcm] at d
    have hset':=Zof (Z59 cls nd) hcM
    have hname:Z0h ns1 V2 = Z0h (padF M (out ++ [Z59 cls nd])) V2:=by
     refine Zpq V2 ?_
     rw [← hn2,← hset',List.map_set,List.map_set]
     rfl
    rw [hname] at d
    have hfin:∃ mr',Z0s ((padF M (out ++ [Z59 cls nd])).map Prod.snd) V2 mr'∧Ctx s (fun _ => False) ((B9,C [.slice Bn 0 M (.lim M),.int .i64 0]) :: (B8,C [.nilSlice,.int .i64 0]) :: (Bn,C (Z0h (padF M (out ++ [Z59 cls nd])) V2)) :: mr') s':=by
     have g5:∀ (ks':List Int) (kv':AVal) (m1':Lets),RowR kv' ks' m1'→Z0s (((padF M out).map Prod.snd).set out.length ks') (V.set out.length kv') (m1' ++ m2):=g4
     have hms:(padF M (out ++ [Z59 cls nd])).map Prod.snd = ((padF M out).map Prod.snd).set out.length (Z59 cls nd).2:=by rw [← hset',List.map_set]
     rw [hms,← hV2e]
     rw [← hV2e] at d
     by_cases h0:nd.2 = []
     ·refine ⟨[] ++ m2,g5 _ _ [] (.inl ⟨by simp [Z59,h0],by simp [h0],rfl⟩),(d.sub (.cons_cons _ (.cons_cons _ (.cons_cons _ (List.sublist_cons_self _ _))))).perm ?_⟩
      exact List.Perm.cons _ (List.Perm.cons _ (List.Perm.cons _ g3))
     ·refine ⟨[(Bk,C (ints (Z59 cls nd).2))] ++ m2,g5 _ _ _ (.inr ⟨Bk,.lim nd.2.length,by simpa [Z59] using h0,by simp [Z59],rfl⟩),d.perm ?_⟩
      exact List.Perm.cons _ (List.Perm.cons _ (List.Perm.cons _ (List.Perm.cons _ g3)))
    obtain ⟨mr',hR',d'⟩:=hfin
    refine AM.wp_region ?_
    simp [t20,hwr]
    refine ⟨L.length - (j + 1),by omega,j + 1,by omega,by omega,by simp [t0],by simp [t2],by simp [t8],by simp [t9],by simp [t18],by simp [t19],by simp,V2,mr',by rw [hnx]; exact hR',by rw [hnx]; exact d'⟩
 ·simp [hlt']
  refine AM.wp_exit ?_
  simp
  have hje:j = L.length:=by omega
  subst hje
  rw [List.take_length] at hR d
  have hpad:padF M (outF cls nds L) = outF cls nds L:=by unfold padF; rw [hM,Nat.sub_self]; simp
  rw [hpad] at hR d
  refine Z00 ?_
  simp [t8,t9,d.c 0 rfl,d.o 1 rfl]
  have e:=d.put 1 rfl (C [.slice Bn 0 M (.lim M),.int .i64 0])
  simp only [List.set_cons_succ,List.set_cons_zero] at e
  generalize s'.put B8 (.cells [.slice Bn 0 M (.lim M),.int .i64 0] false) = s4 at e ⊢
  refine AM.wp_ret ?_
  simp [t8,e.c 1 rfl]
  exact q Bn _ s4 ⟨V,mr,List.Perm.refl _,hR⟩ e.tail.tail
theorem Zfi {ns:List ND} (h:GrOk ns) {roots:List Nat} (hr:∀ r ∈ roots,r < ns.length):Closed ns (bfsF (kidG ns) ns.length roots)∧(bfsF (kidG ns) ns.length roots).Nodup∧(∀ a ∈ bfsF (kidG ns) ns.length roots,a < ns.length)∧∀ r ∈ roots,r ∈ bfsF (kidG ns) ns.length roots:=by
 obtain ⟨h1,h2,h3,h4,_⟩:=Zdy (n:=ns.length) h.Zkc roots hr
 refine ⟨⟨h2,fun a ha x hx => ?_⟩,h1,h2,h4⟩
 refine ⟨(h x (List.mem_of_getElem? hx)).1,fun k hk => h3 a ha _ ?_⟩
 rw [Zhy hx]
 exact List.mem_map.2 ⟨k,hk,rfl⟩
theorem Zf7 {ns:List ND} {root:Int} (h:Z1m ns root = 0):1 ≤ ns.length∧ns.length ≤ 60∧GrOk ns∧(∀ nd ∈ ns,Z2k nd.1 = true)∧0 ≤ root∧root < ns.length:=by
 unfold Z1m at h
 split at h
 ·cases h
 ·rename_i h1
  split at h
  ·cases h
  ·rename_i h2
   split at h
   ·cases h
   ·rename_i h3
    simp only [not_or,Bool.not_eq_false,List.all_eq_true,decide_eq_true_eq,Bool.and_eq_true] at h1 h2 h3
    exact ⟨by omega,by omega,fun nd hnd => ⟨h1.2.2 nd hnd,fun k hk => h3.2 nd hnd k hk⟩,h2,h3.1⟩
theorem Zuv {nm:List UInt8} (h:Z2k nm = true):nm ≠ []:=by
 rintro rfl
 simp [Z2k] at h
noncomputable def Z1q (ns:List ND) (r:Nat):List ND:=outF (clsF ns (bfsF (kidG ns) ns.length [r])) ns (bfsF (kidG ns) ns.length [r])
def Z78 (s:St) (nv:AVal) (ns:List ND):Prop:=(Z18 nv = some 0∧ns = []) ∨ ∃ p c,nv = .slice p 0 ns.length c∧NodesG s p ns
theorem Z78.keep {s s':St} {nv:AVal} {ns:List ND} (h:Z78 s nv ns) (k:Keeps s s'):Z78 s' nv ns:=by
 rcases h with h | ⟨p,c,h1,h2⟩
 ·exact .inl h
 ·exact .inr ⟨p,c,h1,h2.keep k⟩
theorem Z78.at {s:St} {nv:AVal} {ns:List ND} (h:Z78 s nv ns):Z1v s nv ns:=by
 rcases h with h | ⟨p,c,rfl,h2⟩
 ·exact .inl h
 ·exact h2.of c
theorem Zlm {s:St} {p:Pos} {ns:List ND} {c:Cap} (hne:ns ≠ []) (h:Z1v s (.slice p 0 ns.length c) ns):NodesG s p ns:=by
 rcases h with ⟨_,h⟩ | ⟨b,o,c',cs,e,h1,h2,h3,h4⟩
 ·exact (hne h).elim
 ·cases e
  refine ⟨h1,cs,h2,by omega,fun i nd hi => ?_⟩
  have:=h4 i nd hi
  rwa [Nat.zero_add] at this
theorem Z5k.at0 {s0 s:St} {W:Pos→Prop} {nv:AVal} {ns:List ND} {m:Lets} (h:Z5k nv ns m) (hc:Ctx s0 W m s):Z78 s nv ns:=by
 have h':=h.at hc
 rcases h with ⟨rfl,rfl,_⟩ | ⟨q,V,mr,hne,rfl,hp,hR⟩
 ·exact .inl ⟨rfl,rfl⟩
 ·exact .inr ⟨q,_,rfl,Zlm hne h'⟩
theorem Zx4 {s:St} {nv:AVal} {ns:List ND} {root:Int} {Q:AVal→St→Prop} (hw:s.Wf) (hN:Z78 s nv ns) (hsm:Zge ns) (hmax:ns.length ≤ 2 ^ 62)
  (q0:∀ s',Keeps s s'→Z1m ns root ≠ 0→Q (.tup [.agg [.nilSlice,.int .i64 0],.int .i64 (Z1m ns root)]) s')
  (q:∀ Bn mn s',Z1m ns root = 0→Zil Bn (Z1q ns root.toNat) mn→Ctx s (fun _ => False) mn s'→Q (.tup [.agg [.slice Bn 0 (Z1q ns root.toNat).length (.lim (Z1q ns root.toNat).length),.int .i64 0],.int .i64 0]) s') :
  Z0c Tryz.prog 67 [.agg [nv,.int .i64 root]] s Q:=by
 have hNt:=hN.at.ntup
 have hNc:=hN.at.Zd0
 refine Z08 (Z0d (by decide)) fi67 rfl (by decide) rfl ?_
 refine Z00 ?_
 simp [hNt,hNc]
 have d1:=(Ctx.start (fun _ => False) hw).alloc (C [nv,.int .i64 root])
 generalize s.alloc (.cells [nv,.int .i64 root] false) = s1 at d1 ⊢
 generalize s.next = B1 at d1 ⊢
 have d2:=d1.alloc (C [.nilSlice,.int .i64 0])
 generalize s1.alloc (.cells [.nilSlice,.int .i64 0] false) = s2 at d2 ⊢
 generalize s1.next = B2 at d2 ⊢
 refine AM.wp_seq ?_
 refine Z00 ?_
 simp [d2.c 1 rfl,hNt,hNc]
 have d3:=d2.alloc (C [nv,.int .i64 root])
 generalize s2.alloc (.cells [nv,.int .i64 root] false) = s3 at d3 ⊢
 generalize s2.next = T at d3 ⊢
 have hT:Z6v s3 (.slice T 0 1 (.lim 1)) [(ns,root)]:=by
  refine .inr ⟨T,0,.lim 1,_,rfl,d3.oi 0 rfl,d3.c 0 rfl,by simp,fun i t hi => ?_⟩
  cases i with
  | succ i => simp at hi
  | zero =>
   simp at hi
   subst hi
   exact ⟨nv,rfl,rfl,hN.at.keep d3.Z0m⟩
 refine Z02 ?_
 refine Zrv d3.wf hT (by
  intro t ht
  simp at ht
  subst ht
  exact ⟨hmax,hsm⟩) (by simp) fun s4 k4 => ?_
 have d4:=d3.keeps k4
 have hcf:Z8l [(ns,root)] = Z1m ns root:=by
  unfold Z8l
  simp only [List.find?_cons,List.find?_nil]
  by_cases h:Z1m ns root = 0
  ·simp [h]
  ·simp [h]
 rw [hcf]
 simp
 refine Z00 ?_
 simp
 refine AM.Z04 ?_
 by_cases hz:Z1m ns root = 0
 ·simp [hz]
  refine AM.wp_skip ?_
  simp
  obtain ⟨o1,o2,hO,hnm,r0,r1⟩:=Zf7 hz
  obtain ⟨rt,rfl⟩:∃ n:Nat,root = (n:Int):=⟨root.toNat,by omega⟩
  rw [Int.toNat_natCast] at q
  refine Z00 ?_
  simp [d4.c 2 rfl,hNt,hNc]
  have d5:=d4.alloc (C [.int .i64 rt])
  generalize s4.alloc (.cells [.int .i64 rt] false) = s5 at d5 ⊢
  generalize s4.next = T2 at d5 ⊢
  have hr:∀ a ∈ [rt],a < ns.length:=by simp; omega
  refine Z02 ?_
  refine Zmw (roots:=[rt]) d5.wf (hN.at.keep d5.Z0m) hO (by omega) ?_ (by simp) hr fun lv mg s6 hg hx => ?_
  ·have e:=Z60 (ks:=[(rt:Int)]) d5.wf (d5.o 0 rfl) (.lim 1)
   exact e
  obtain ⟨hC,hnd,hlt,hroot⟩:=Zfi hO hr
  have hLl:=Z34 hnd hlt
  unfold Z1q at q
  generalize bfsF (kidG ns) ns.length [rt] = L at hg hC hnd hlt hroot hLl q
  have d6:=d5.keeps hx.Z0m
  have hLv:Z0e s6 lv (nats L):=(hg.row.kid fun y hy => hx.own y hy).ints hx.wf
  rcases (hN.keep d6.Z0m) with ⟨_,e0⟩ | ⟨p,c0,rfl,hG⟩
  ·rw [e0] at o1
   simp at o1
  have hks:∀ (a:Nat) nd,ns[a]? = some nd→nd.2.length ≤ 4∧∀ k ∈ nd.2,0 ≤ k∧k < ns.length:=fun a nd h => hO nd (List.mem_of_getElem? h)
  have hLne:L ≠ []:=by
   rintro rfl
   simpa using hroot rt (by simp)
  obtain ⟨R,g1,g2,g3⟩:=Zpd hC hLne
  simp
  refine Z00 ?_
  simp [d6.c 3 rfl,hg.ntup]
  refine Z02 ?_
  refine Zpc d6.wf hG (by omega) hLv hC.lt (by omega) hks g1 g2 fun Bx s7 k7 _ hox => ?_
  have d7:=d6.keeps k7
  rw [Zqz hC g3,← Zoc hC]
  rw [g3] at hox
  simp
  refine Z00 ?_
  simp [d7.c 3 rfl,hg.ntup]
  refine Z02 ?_
  have hcl:=Ze0 hC
  have hCx:Z0e s7 (.slice Bx 0 ns.length (.lim ns.length)) (clsF ns L):=by
   have:=Z60 d7.wf hox (.lim ns.length)
   rwa [hcl] at this
  refine Zvc (nds:=ns) d7.wf (hN.at.keep d7.Z0m) (hLv.keep k7) hCx (by omega) (by omega) hcl hC.lt hks (fun a nd _ h => Zuv (hnm nd (List.mem_of_getElem? h))) (fun j a hj => ?_) rfl fun Bn mn s8 hM hc8 => ?_
  ·have hj':=(List.getElem?_eq_some_iff.1 hj).1
   have hsp:L = L.take j ++ a :: L.drop (j + 1):=by
    have h1:=List.take_append_drop j L
    rw [List.drop_eq_getElem_cons hj'] at h1
    have h2:L[j] = a:=(List.getElem?_eq_some_iff.1 hj).2
    rw [h2] at h1
    exact h1.symm
   obtain ⟨c,e1,e2,_⟩:=Znk hC hsp
   exact ⟨c,e1,e2⟩
  have d8:Ctx s (fun _ => False) (mn ++ [(T2,C [.int .i64 rt]),(T,C [.slice p 0 ns.length c0,.int .i64 rt]),(B2,C [.nilSlice,.int .i64 0]),(B1,C [.slice p 0 ns.length c0,.int .i64 rt])]) s8:=Ctx.on (m:=[]) (by simpa using d7) (by simpa using hc8)
  have d9:=d8.perm (m':=(B2,C [.nilSlice,.int .i64 0]) :: (mn ++ [(T2,C [.int .i64 rt]),(T,C [.slice p 0 ns.length c0,.int .i64 rt]),(B1,C [.slice p 0 ns.length c0,.int .i64 rt])])) (Z0n fun x => by
   simp only [Z0j,Z0i,Z0z]
   omega)
  simp [d9.o 0 rfl]
  have d10:=d9.put 0 rfl (C [.slice Bn 0 (outF (clsF ns L) ns L).length (.lim (outF (clsF ns L) ns L).length),.int .i64 0])
  simp only [List.set_cons_zero] at d10
  refine AM.wp_ret ?_
  simp
  exact q Bn mn _ hz hM (d10.tail.sub (List.sublist_append_left mn _))
 ·simp [hz]
  refine Z00 ?_
  simp [d4.o 1 rfl]
  have d5:=d4.put 1 rfl (C [.nilSlice,.int .i64 0])
  simp only [List.set_cons_succ,List.set_cons_zero] at d5
  refine AM.wp_ret ?_
  simp
  exact q0 _ d5.Z0m hz
def Z5s (n:Nat) (nd:ND):ND:=(nd.1,nd.2.map fun k => (n:Int) + k)
def bigG (cs:List CV) (ts:List ND):List ND:=Z11 cs ++ ts.map (Z5s cs.length)
def bigL (cs:List CV) (ts:List ND):List Nat:=Z1f cs cs.length ++ (List.range ts.length).map fun i => cs.length + i
noncomputable def Z24 (cs:List CV) (ts:List ND):List Int:=(List.range ts.length).map fun i => Z3f (fun d => decide (((clsF (bigG cs ts) (bigL cs ts))[cs.length + i]?).getD 0 = d)) ((clsF (bigG cs ts) (bigL cs ts)).take cs.length)
theorem Zc0 (cs:List CV) (ts:List ND):(bigG cs ts).length = cs.length + ts.length:=by simp [bigG,Z1s]
theorem Zf2 {cs:List CV} {ts:List ND} {a:Nat} (h:a < cs.length):(bigG cs ts)[a]? = (Z11 cs)[a]?:=by
 unfold bigG
 rw [List.getElem?_append_left (by rw [Z1s]; exact h)]
theorem Zf3 {cs:List CV} {ts:List ND} (i:Nat):(bigG cs ts)[cs.length + i]? = (ts[i]?).map (Z5s cs.length):=by
 unfold bigG
 rw [List.getElem?_append_right (by rw [Z1s]; omega),Z1s,List.getElem?_map]
 congr 2
 omega
theorem Z9y {cs:List CV} {ts:List ND} {a:Nat}:a ∈ bigL cs ts ↔ (a < cs.length∧Z07 cs (a:Int) = true) ∨ (cs.length ≤ a∧a < cs.length + ts.length):=by
 unfold bigL
 rw [List.mem_append,Z4o]
 refine or_congr Iff.rfl ?_
 simp only [List.mem_map,List.mem_range]
 constructor
 ·rintro ⟨i,hi,rfl⟩
  omega
 ·rintro ⟨h1,h2⟩
  exact ⟨a - cs.length,by omega,by omega⟩
theorem Zu1 {cs:List CV} {ts:List ND} (hO:HOk cs) (hT:GrOk ts):Closed (bigG cs ts) (bigL cs ts)∧∀ (a:Nat) nd,(bigG cs ts)[a]? = some nd→nd.2.length ≤ 4∧∀ k ∈ nd.2,0 ≤ k∧k < (bigG cs ts).length:=by
 have hg:∀ (a:Nat) nd,(bigG cs ts)[a]? = some nd→(a < cs.length∧(Z11 cs)[a]? = some nd) ∨ (cs.length ≤ a∧∃ x,ts[a - cs.length]? = some x∧nd = Z5s cs.length x):=by
  intro a nd h
  by_cases ha:a < cs.length
  ·rw [Zf2 ha] at h
   exact .inl ⟨ha,h⟩
  ·obtain ⟨i,rfl⟩:∃ i,a = cs.length + i:=⟨a - cs.length,by omega⟩
   rw [Zf3] at h
   cases hx:ts[i]? with
   | none => rw [hx] at h; cases h
   | some x =>
    rw [hx] at h
    refine .inr ⟨by omega,x,by rw [Nat.add_sub_cancel_left]; exact hx,?_⟩
    simpa using h.symm
 refine ⟨⟨fun a ha => ?_,fun a ha x hx => ?_⟩,fun a nd h => ?_⟩
 ·rw [Zc0]
  rcases Z9y.1 ha with h | h <;> omega
 ·rcases hg a x hx with ⟨h1,h2⟩ | ⟨h1,y,h2,rfl⟩
  ·have hcl:=hO.closed
   have ham:a ∈ Z1f cs cs.length:=by
    rcases Z9y.1 ha with h | h
    ·exact Z4o.2 h
    ·omega
   obtain ⟨h4,hk⟩:=hcl.kids a ham x h2
   refine ⟨h4,fun k hkm => ?_⟩
   exact List.mem_append_left _ (hk k hkm)
  ·obtain ⟨h4,hk⟩:=hT y (List.mem_of_getElem? h2)
   refine ⟨by simpa [Z5s] using h4,fun k hkm => ?_⟩
   obtain ⟨k',hk',rfl⟩:=List.mem_map.1 hkm
   obtain ⟨k0,k1⟩:=hk k' hk'
   exact Z9y.2 (.inr (by omega))
 ·rw [Zc0]
  rcases hg a nd h with ⟨h1,h2⟩ | ⟨h1,y,h2,rfl⟩
  ·obtain ⟨g1,g2⟩:=hO.Zjd a nd h2
   refine ⟨g1,fun k hk => ?_⟩
   obtain ⟨k0,k1⟩:=g2 k hk
   rw [Z1s] at k1
   omega
  ·obtain ⟨h4,hk⟩:=hT y (List.mem_of_getElem? h2)
   refine ⟨by simpa [Z5s] using h4,fun k hkm => ?_⟩
   obtain ⟨k',hk',rfl⟩:=List.mem_map.1 hkm
   obtain ⟨k0,k1⟩:=hk k' hk'
   omega
section
variable {sc s:St} {fr:FI} {t0:PT AVal} {n:Nat} {r:Lets} {Q:Ex→PT AVal→St→Prop}
theorem Zsb {B9 B10:Pos} {nm:List UInt8} {kv0:AVal} {ks:List Int} (hk:Z0e sc kv0 ks) (h4:ks.length ≤ 4) (hn:n ≤ 400) (hin:∀ k ∈ ks,0 ≤ k∧k < 1000)
  (hc:Ctx sc (fun _ => False) ((B10,C [.str nm,.nilSlice]) :: (B9,C [.str nm,kv0]) :: r) s) (t7:PT.get (posOf 7) t0 = some (.int .i64 n)) (t9:PT.get (posOf 9) t0 = some (.ptr B9 0)) (t10:PT.get (posOf 10) t0 = some (.ptr B10 0))
  (q:∀ t s' kv mg,Fr [12,35,36,37,38] t0 t→Z23 kv (ks.map fun k => (n:Int) + k) mg→Ctx sc (fun _ => False) ((B10,C [.str nm,kv]) :: (B9,C [.str nm,kv0]) :: (mg ++ r)) s'→Q .normal t s'):wp Tryz.prog Zuj fr t0 s Q:=by
 have hkt:=hk.ntup
 refine Z00 ?_
 simp [t9,hc.c 1 rfl,hkt,hk.len]
 refine AM.wp_block ?_
 refine AM.wp_loop (fun m t s' => ∃ (j:Nat) (kv:AVal) (mg:Lets),j ≤ ks.length∧m = ks.length - j∧Fr [12,35,36,37,38] t0 t∧PT.get (posOf 35) t = some kv0∧PT.get (posOf 36) t = some (.int .i64 ks.length)∧PT.get (posOf 37) t = some (.int .i64 j) ∧
   Z23 kv ((ks.take j).map fun k => (n:Int) + k) mg∧Ctx sc (fun _ => False) ((B10,C [.str nm,kv]) :: (B9,C [.str nm,kv0]) :: (mg ++ r)) s') ks.length ⟨0,.nilSlice,[],by simp,by simp,?_,by simp,by simp,by simp,.inl ⟨by simp,rfl,rfl⟩,hc⟩ ?_
 ·intro y hy
  simp at hy
  simp [hy]
 rintro m t s' ⟨j,kv,mg,hj,rfl,hF,t35,t36,t37,hg,hc'⟩
 refine Z00 ?_
 simp [t36,t37]
 refine AM.wp_seq ?_
 refine AM.Z04 ?_
 by_cases hlt:j < ks.length
 ·have hwr:IntKind.wrap .i64 ((j:Int) + 1) = ((j + 1:Nat):Int):=by rw [IntWalk.i64_in _ (by omega)]; omega
  obtain ⟨k,hkk⟩:∃ k,ks[j]? = some k:=⟨_,List.getElem?_eq_getElem hlt⟩
  obtain ⟨k0,k1⟩:=hin k (List.mem_of_getElem? hkk)
  have hwk:IntKind.wrap .i64 ((n:Int) + k) = (n:Int) + k:=IntWalk.i64_in _ (by omega)
  have u7:=(hF 7 (by simp)).trans t7
  have u10:=(hF 10 (by simp)).trans t10
  rcases hk.keep hc'.Z0m with ⟨_,h0⟩ | ⟨b5,o5,c5,cells5,rfl,hb5,hcs5,hle5,hel5⟩
  ·rw [h0] at hlt
   simp at hlt
  have hgk:=hel5 _ _ hkk
  simp [hlt]
  refine AM.wp_skip ?_
  simp
  refine AM.wp_seq ?_
  refine AM.wp_block ?_
  refine Z00 ?_
  simp [t35,t37,hlt,hcs5,hgk]
  refine AM.wp_region ?_
  have hns:s'.obj s'.next = none:=hc'.wf _ (Z0b _)
  simp [u7,u10,hc'.c 0 rfl,hg.ntup,hg.cells,hns,hwk,Z20,srcP]
  have d2:=hc'.alloc (C [.int .i64 (n + k)])
  generalize s'.alloc (.cells [.int .i64 (n + k)] false) = sB at d2 ⊢
  generalize s'.next = T at d2 ⊢
  refine Z6w (pre:=[(T,C [.int .i64 (n + k)]),(B10,C [.str nm,kv]),(B9,C [.str nm,.slice b5 o5 ks.length c5])]) d2 hg (by simp; omega) fun kv' mg' sC hg' d3 => ?_
  simp only [List.cons_append,List.nil_append] at d3
  simp [hg'.ntup,hg'.cells,d3.o 1 rfl]
  have d4:=(d3.put 1 rfl (C [.str nm,kv'])).tail
  simp only [List.set_cons_zero,List.set_cons_succ] at d4
  have hnx:((ks.take j).map fun k => (n:Int) + k) ++ [(n:Int) + k] = (ks.take (j + 1)).map fun k => (n:Int) + k:=by
   rw [List.take_add_one,hkk,List.map_append]
   simp
  rw [hnx] at hg'
  refine AM.wp_region ?_
  simp [t37,hwr]
  refine ⟨ks.length - (j + 1),by omega,j + 1,by omega,by omega,?_,by simp [t35],by simp [t36],by simp,kv',mg',by simpa using hg',d4⟩
  intro y hy
  simp at hy
  simp [hy]
  exact hF y (by simp [hy])
 ·simp [hlt]
  refine AM.wp_exit ?_
  simp
  have hje:j = ks.length:=by omega
  subst hje
  rw [List.take_length] at hg
  refine q _ s' kv mg ?_ hg hc'
  intro y hy
  simp at hy
  simp [hy]
  exact hF y (by simp [hy])
theorem Zyb {s0:St} {W:Pos→Prop} {q:Pos} {cells:List AVal} {m:Nat} {cp:Cap} {a b:AVal} {Q:AVal→St→Prop} (h:Ctx s0 W ((q,C cells) :: r) s) (hl:cells.length = 2 * m) (h1:1 ≤ m) (hm:m ≤ 1000) (hcp:cp = .lim m ∨ cp = .opn 2)
  (qq:∀ q' s',Ctx s0 W ((q',C (cells ++ [a,b])) :: r) s'→Q (.slice q' 0 (m + 1) (.opn 2)) s'):appP (2,40) (.slice q 0 m cp) [a,b] 1 s Q:=by
 have ht:List.take (m * 2) (List.drop 0 cells) = cells:=by rw [List.drop_zero]; exact List.take_of_length_le (by omega)
 rcases hcp with rfl | rfl
 ·simp only [appP,Z4m]
  rw [if_neg (by decide),if_neg (by omega),if_neg (by omega),h.c 0 rfl]
  refine ⟨by omega,by unfold Z0g; omega,?_⟩
  rw [ht]
  exact qq _ _ ((h.alloc (C (cells ++ [a,b]))).sub (.cons_cons _ (.cons _ (List.Sublist.refl _))))
 ·simp only [appP,Z4m]
  rw [if_neg (by decide)]
  refine ⟨trivial,?_⟩
  rw [h.o 0 rfl]
  simp only [Z0y]
  rw [if_neg (by omega),if_neg (by omega)]
  refine ⟨by omega,by unfold Z0g; omega,?_⟩
  rw [ht]
  exact qq _ _ ((h.put0 .dead).tail.alloc (C (cells ++ [a,b])))
end
def Z44 (n:Nat) (ts:List ND) (i:Nat):List ND:=(ts.take i).map (Z5s n)
theorem Zjy {n i:Nat} {ts:List ND} {nd:ND} (h:ts[i]? = some nd):Z44 n ts (i + 1) = Z44 n ts i ++ [Z5s n nd]:=by
 unfold Z44
 rw [List.take_add_one,h]
 simp
theorem graph_c {s0 s:St} {p:Pos} {cs:List CV} {V:List AVal} {m:Lets} {Q:AVal→St→Prop} (hc:Ctx s0 (fun _ => False) m s) (hp:s0.Old p) (hpc:s0.cells p = some (encs (rcs cs V))) (hV:V.length = cs.length) (h4:cs.length ≤ 400)
  (hK:∀ j c,(rcs cs V)[j]? = some c→Z0e s0 c.kv (Z0o cs j))
  (q:∀ pn lv mg Vg s',Z23 lv (nats (Z1f cs cs.length)) mg→Vg.length = cs.length→(∀ (i:Nat) nd kv,(Z11 cs)[i]? = some nd→Vg[i]? = some kv→Z0e s0 kv nd.2)→Ctx s0 (fun _ => False) ((pn,C (Z0h (Z11 cs) Vg)) :: (mg ++ m)) s'→Q (.tup [.slice pn 0 cs.length (.lim cs.length),lv]) s') :
  Z0c Tryz.prog 54 [.agg [.slice p 0 cs.length (.lim cs.length)]] s Q:=by
 have hl:=Z1c hV
 have htk:=Zrf hV cs.length
 have hget:∀ (i:Nat) (c:CV),cs[i]? = some c→∃ kv,V[i]? = some kv∧(rcs cs V)[i]? = some ⟨c.taken,c.name,kv,c.held⟩:=fun i c hi => by
  have hlt:=(List.getElem?_eq_some_iff.1 hi).1
  have hv:V[i]? = some (V[i]'(by omega)):=List.getElem?_eq_getElem _
  exact ⟨_,hv,Z1k hi hv⟩
 generalize rcs cs V = l at hpc hK hl htk hget
 rw [← hl]
 refine Zl8 hc.wf (hc.Z0m.old hp) ((hc.Z0m.cells hp).trans hpc) (by omega) (fun j c hj => (hK j c hj).keep hc.Z0m) fun pn lv s3 k3 hpn hox hlv _ _ => ?_
 rw [hl] at hox hlv ⊢
 rw [htk] at hlv
 have hel:∀ (i:Nat) (c:CV),cs[i]? = some c→∃ kv,(nlI l cs.length)[i]? = some (if c.taken = true then (c.name,kv) else ([],.nilSlice))∧Z0e s0 kv c.kids:=by
  intro i c hi
  obtain ⟨kv,g1,g2⟩:=hget i c hi
  refine ⟨kv,?_,?_⟩
  ·rw [Z8z g2]
   have hlt:=(List.getElem?_eq_some_iff.1 hi).1
   simp [hlt]
  ·have:=hK i _ g2
   rwa [Z1d hi] at this
 have hPl:(nlI l cs.length).length = cs.length:=by rw [Z6z,hl]
 generalize nlI l cs.length = P at hox hel hPl
 have hP:penc P = Z0h (Z11 cs) (P.map Prod.snd):=by
  unfold Z0h
  congr 1
  refine List.ext_getElem? fun i => ?_
  by_cases hi:i < cs.length
  ·obtain ⟨kv,g1,_⟩:=hel i _ (List.getElem?_eq_getElem hi)
   rw [List.getElem?_zipWith,Z39 (List.getElem?_eq_getElem hi),List.getElem?_map,g1]
   split <;> rfl
  ·rw [List.getElem?_eq_none (by omega),List.getElem?_eq_none (by simp [Z1s]; omega)]
 rw [hP] at hox
 have hVg:∀ (i:Nat) nd kv,(Z11 cs)[i]? = some nd→(P.map Prod.snd)[i]? = some kv→Z0e s0 kv nd.2:=by
  intro i nd kv hnd hkv
  have hi:i < cs.length:=by have:=(List.getElem?_eq_some_iff.1 hnd).1; rwa [Z1s] at this
  obtain ⟨kv',g1,g2⟩:=hel i _ (List.getElem?_eq_getElem hi)
  rw [Z39 (List.getElem?_eq_getElem hi)] at hnd
  rw [List.getElem?_map,g1] at hkv
  by_cases ht:cs[i].taken = true
  ·simp [ht] at hnd hkv
   subst hnd hkv
   exact g2
  ·simp [ht] at hnd hkv
   subst hnd hkv
   exact .inl ⟨rfl,rfl⟩
 have c1:=hc.made k3 hpn (St.Z2b hox)
 rcases hlv with ⟨rfl,h0⟩ | ⟨q',rfl,h0,h5,h6,h7⟩
 ·exact q pn .nilSlice [] _ s3 (.inl ⟨by rw [h0]; rfl,rfl,rfl⟩) (by simp [hPl]) hVg (by simpa using c1)
 ·have hq:(q',C (ints (nats (Z1f cs cs.length)))).1 ∉ (((pn,C (Z0h (Z11 cs) (P.map Prod.snd))) :: m).map (·.1)):=by
   rw [List.map_cons,List.mem_cons]
   rintro (h | h)
   ·exact h7 h
   ·exact hc.Zvj h6 h
  have hobj:s3.obj q' = some (C (ints (nats (Z1f cs cs.length)))):=by
   have:=St.Z2b h5
   rw [this]
   simp [ints]
  have c2:=c1.add (b:=q') (x:=C (ints (nats (Z1f cs cs.length)))) hobj (fun ho => h6 (hc.Z0m.old ho)) hq
  refine q pn _ [(q',C (ints (nats (Z1f cs cs.length))))] _ s3 (.inr ⟨q',by simpa using h0,by simp,rfl⟩) (by simp [hPl]) hVg (c2.perm (List.Perm.swap _ _ _))
def capI (n:Nat):Nat→Cap
 | 0 => .lim n
 | _ + 1 => .opn 2
theorem capI_or (n i:Nat):capI n i = .lim (n + i) ∨ capI n i = .opn 2:=by
 cases i with
 | zero => exact .inl rfl
 | succ i => exact .inr rfl
theorem seg2 {cs:List AVal} {o:Nat} {a b:AVal} (h1:cs[o]? = some a) (h2:cs[o + 1]? = some b):(cs.drop o).take 2 = [a,b]∧o + 2 ≤ cs.length:=by
 obtain ⟨g1,e1⟩:=List.getElem?_eq_some_iff.1 h1
 obtain ⟨g2,e2⟩:=List.getElem?_eq_some_iff.1 h2
 refine ⟨?_,by omega⟩
 rw [List.drop_eq_getElem_cons g1,List.drop_eq_getElem_cons g2,e1,e2]
 rfl
theorem Zwx {s:St} {p:Pos} {cs:List CV} {V:List AVal} {nv:AVal} {ts:List ND} {root:Int} {Q:AVal→St→Prop} (hw:s.Wf) (hp:s.Old p) (hpc:s.cells p = some (encs (rcs cs V))) (hV:V.length = cs.length) (h1:1 ≤ cs.length) (h4:cs.length ≤ 400)
  (hK:∀ j c,(rcs cs V)[j]? = some c→Z0e s c.kv (Z0o cs j)) (hO:HOk cs) (hN:Z1v s nv ts) (hT:GrOk ts) (hl1:1 ≤ ts.length) (hl2:ts.length ≤ 60)
  (q:∀ Bo s',Keeps s s'→¬ s.Old Bo→s'.own Bo = some (ints (Z24 cs ts))→Q (.slice Bo 0 ts.length (.lim ts.length)) s'):Z0c Tryz.prog 68 [.agg [.slice p 0 cs.length (.lim cs.length)],.agg [nv,.int .i64 root]] s Q:=by
 have hNt:=hN.ntup
 have hNc:=hN.Zd0
 have hl:=Z1c hV
 refine Z08 (Z0d (by decide)) fi68 rfl (by decide) rfl ?_
 refine Z00 ?_
 simp [hNt,hNc]
 have d1:=(Ctx.start (fun _ => False) hw).alloc (C [.slice p 0 cs.length (.lim cs.length)])
 generalize s.alloc (.cells [.slice p 0 cs.length (.lim cs.length)] false) = s1 at d1 ⊢
 generalize s.next = B2 at d1 ⊢
 have d2:=d1.alloc (C [nv,.int .i64 root])
 generalize s1.alloc (.cells [nv,.int .i64 root] false) = s2 at d2 ⊢
 generalize s1.next = B3 at d2 ⊢
 refine Z00 ?_
 simp [d2.c 1 rfl]
 refine Z02 ?_
 refine graph_c d2 hp hpc hV h4 hK fun pn lv mg Vg s3 hg hVg hVk d3 => ?_
 simp
 refine Z00 ?_
 simp
 have d4:Ctx s (fun _ => False) ((pn,C (Z0h (Z11 cs ++ Z44 cs.length ts 0) (Vg ++ []))) :: (B3,C [nv,.int .i64 root]) :: ([] ++ (mg ++ []))) s3:=by
  have:=d3.perm (m':=(B2,C [.slice p 0 cs.length (.lim cs.length)]) :: (pn,C (Z0h (Z11 cs) Vg)) :: (B3,C [nv,.int .i64 root]) :: mg) (Z0n fun x => by
   simp only [Z0j,Z0i,Z0z]
   omega)
  simpa [Z44] using this.tail
 refine AM.wp_seq ?_
 refine Z00 ?_
 simp [d4.c 1 rfl,hNt,hN.len]
 refine AM.wp_block ?_
 refine AM.wp_loop (fun k t s' => ∃ (i:Nat) (qn:Pos) (lv:AVal) (Vk:List AVal) (mk mg:Lets),i ≤ ts.length∧k = ts.length - i∧PT.get (posOf 3) t = some (.ptr B3 0)∧PT.get (posOf 5) t = some (.slice qn 0 (cs.length + i) (capI cs.length i))∧PT.get (posOf 6) t = some lv∧PT.get (posOf 7) t = some (.int .i64 cs.length) ∧
   PT.get (posOf 24) t = some nv∧PT.get (posOf 25) t = some (.int .i64 ts.length)∧PT.get (posOf 26) t = some (.int .i64 i)∧Z23 lv (nats (Z1f cs cs.length ++ (List.range i).map fun x => cs.length + x)) mg∧Z0s ((Z44 cs.length ts i).map Prod.snd) Vk mk ∧
   Ctx s (fun _ => False) ((qn,C (Z0h (Z11 cs ++ Z44 cs.length ts i) (Vg ++ Vk))) :: (B3,C [nv,.int .i64 root]) :: (mk ++ (mg ++ []))) s') ts.length
  ⟨0,pn,lv,[],[],mg,by simp,by simp,by simp,by simp [capI],by simp,by simp,by simp,by simp,by simp,by simpa using hg,by simp [Z44,Z0s],d4⟩ ?_
 rintro k t s' ⟨i,qn,lv,Vk,mk,mg,hi,rfl,t3,t5,t6,t7,t24,t25,t26,hg,hR,d⟩
 refine Z00 ?_
 simp [t25,t26]
 refine AM.wp_seq ?_
 refine AM.Z04 ?_
 by_cases hlt:i < ts.length
 ·have hwr:IntKind.wrap .i64 ((i:Int) + 1) = ((i + 1:Nat):Int):=by rw [IntWalk.i64_in _ (by omega)]; omega
  have hwn:IntKind.wrap .i64 ((cs.length:Int) + i) = ((cs.length + i:Nat):Int):=by rw [IntWalk.i64_in _ (by omega)]; omega
  obtain ⟨nd,hnd⟩:∃ nd,ts[i]? = some nd:=⟨_,List.getElem?_eq_getElem hlt⟩
  obtain ⟨hk4,hkin⟩:=hT nd (List.mem_of_getElem? hnd)
  rcases hN with ⟨_,e0⟩ | ⟨bn,on,cn,cellsn,rfl,hbn,hcsn,hlen,heln⟩
  ·rw [e0] at hnd
   simp at hnd
  have rn:∀ {m:Lets} {s'':St},Ctx s (fun _ => False) m s''→s''.cells bn = some cellsn:=fun d => (d.Z0m.cells hbn).trans hcsn
  obtain ⟨hgn,kv,hgk,hkv⟩:=heln i nd hnd
  have hkt:=hkv.ntup
  have hkc:=hkv.Zd0
  obtain ⟨hsg,hsl⟩:=seg2 hgn hgk
  have hmin:min 2 (cellsn.length - (on + i * 2)) = 2:=by omega
  simp [hlt]
  refine AM.wp_skip ?_
  simp
  refine AM.wp_seq ?_
  refine AM.wp_block ?_
  refine Z00 ?_
  simp [t24,t26,hlt,rn d,hsl,hmin,hsg]
  have e1:=(d.alloc (C [.str [],.nilSlice])).put 0 rfl (C [.str nd.1,kv])
  simp only [List.set_cons_zero] at e1
  generalize (s'.alloc (.cells [.str [],.nilSlice] false)).put s'.next (.cells [.str nd.1,kv] false) = s4 at e1 ⊢
  generalize s'.next = B9 at e1 ⊢
  refine Z00 ?_
  simp [e1.c 0 rfl]
  have e2:=(e1.alloc (C [.str [],.nilSlice])).put 0 rfl (C [.str nd.1,.nilSlice])
  simp only [List.set_cons_zero] at e2
  generalize (s4.alloc (.cells [.str [],.nilSlice] false)).put s4.next (.cells [.str nd.1,.nilSlice] false) = s5 at e2 ⊢
  generalize s4.next = B10 at e2 ⊢
  refine AM.wp_seq ?_
  refine Zsb (n:=cs.length) hkv hk4 h4 (fun k hk => by have:=hkin k hk; omega) e2 (by simp [t7]) (by simp) (by simp) fun t2 s6 kv2 mk2 hF2 hg2 e3 => ?_
  have u3:PT.get (posOf 3) t2 = some (.ptr B3 0):=(hF2 3 (by simp)).trans (by simp [t3])
  have u5:PT.get (posOf 5) t2 = some (.slice qn 0 (cs.length + i) (capI cs.length i)):=(hF2 5 (by simp)).trans (by simp [t5])
  have u6:PT.get (posOf 6) t2 = some lv:=(hF2 6 (by simp)).trans (by simp [t6])
  have u7:PT.get (posOf 7) t2 = some (.int .i64 cs.length):=(hF2 7 (by simp)).trans (by simp [t7])
  have u8:PT.get (posOf 8) t2 = some (.int .i64 i):=(hF2 8 (by simp)).trans (by simp)
  have u10:PT.get (posOf 10) t2 = some (.ptr B10 0):=(hF2 10 (by simp)).trans (by simp)
  have u24:PT.get (posOf 24) t2 = some (.slice bn on ts.length cn):=(hF2 24 (by simp)).trans (by simp [t24])
  have u25:PT.get (posOf 25) t2 = some (.int .i64 ts.length):=(hF2 25 (by simp)).trans (by simp [t25])
  have u26:PT.get (posOf 26) t2 = some (.int .i64 i):=(hF2 26 (by simp)).trans (by simp [t26])
  simp
  refine AM.wp_region ?_
  simp [u5,u6,u7,u8,u10,e3.c 0 rfl,hg2.ntup,hg2.cells,Z20,srcP]
  have e4:=e3.alloc (C [.str nd.1,kv2])
  generalize s6.alloc (.cells [.str nd.1,kv2] false) = s7 at e4 ⊢
  generalize s6.next = T at e4 ⊢
  have hVk':Vk.length = i:=by
   have:=hR.len
   simpa [Z44,Nat.min_eq_left hi] using this
  have hVV:(Vg ++ Vk).length = (Z11 cs ++ Z44 cs.length ts i).length:=by simp [hVg,hVk',Z1s,Z44,Nat.min_eq_left hi]
  have hcl:(Z0h (Z11 cs ++ Z44 cs.length ts i) (Vg ++ Vk)).length = 2 * (cs.length + i):=by
   rw [Z6g hVV]
   simp [Z1s,Z44,Nat.min_eq_left hi]
  have e5:=e4.perm (m':=(qn,C (Z0h (Z11 cs ++ Z44 cs.length ts i) (Vg ++ Vk))) :: (B3,C [.slice bn on ts.length cn,.int .i64 root]) :: (mk2 ++ (mk ++ mg)) ++ [(T,C [.str nd.1,kv2]),(B10,C [.str nd.1,kv2]),(B9,C [.str nd.1,kv])]) (Z0n fun x => by
   simp only [Z0j,Z0i,Z0z]
   omega)
  have e6:=e5.sub (m':=(qn,C (Z0h (Z11 cs ++ Z44 cs.length ts i) (Vg ++ Vk))) :: (B3,C [.slice bn on ts.length cn,.int .i64 root]) :: (mk2 ++ (mk ++ mg))) (List.sublist_append_left _ _)
  refine Zyb e6 hcl (by omega) (by omega) (capI_or _ _) fun qn' s8 e7 => ?_
  have hsn:Z0h (Z11 cs ++ Z44 cs.length ts i) (Vg ++ Vk) ++ [.str nd.1,kv2] = Z0h (Z11 cs ++ Z44 cs.length ts (i + 1)) (Vg ++ (Vk ++ [kv2])):=by
   have:=Zjn hVV (Z5s cs.length nd) kv2
   rw [List.append_assoc,← Zjy hnd,List.append_assoc] at this
   exact this.symm
  rw [hsn] at e7
  have e8:=e7.alloc (C [.int .i64 (cs.length + i:Nat)])
  rw [hwn]
  generalize s8.alloc (.cells [.int .i64 (cs.length + i:Nat)] false) = s9 at e8 ⊢
  generalize s8.next = T2 at e8 ⊢
  have e9:=e8.tail.perm (m':=[(qn',C (Z0h (Z11 cs ++ Z44 cs.length ts (i + 1)) (Vg ++ (Vk ++ [kv2])))),(B3,C [.slice bn on ts.length cn,.int .i64 root])] ++ (mg ++ (mk ++ mk2))) (Z0n fun x => by
   simp only [Z0j,Z0i,Z0z]
   omega)
  have hll:(Z1f cs cs.length).length ≤ cs.length:=Nat.le_trans (List.length_filter_le _ _) (by simp)
  refine Z6w e9 hg (by simp; omega) fun lv' mg' s10 hg' e10 => ?_
  have hg'':Z23 lv' (nats (Z1f cs cs.length ++ (List.range (i + 1)).map fun x => cs.length + x)) mg':=by
   have:nats (Z1f cs cs.length ++ (List.range (i + 1)).map fun x => cs.length + x) = nats (Z1f cs cs.length ++ (List.range i).map fun x => cs.length + x) ++ [((cs.length + i:Nat):Int)]:=by
    rw [List.range_succ]
    simp
   rw [this]
   exact hg'
  have hR':Z0s ((Z44 cs.length ts (i + 1)).map Prod.snd) (Vk ++ [kv2]) (mk ++ mk2):=by
   rw [Zjy hnd,List.map_append]
   exact hR.snoc hg2.row
  refine AM.wp_region ?_
  simp [u26,hwr]
  refine ⟨ts.length - (i + 1),by omega,i + 1,by omega,by omega,u3,qn',⟨rfl,by omega,rfl⟩,u7,u24,u25,by omega,Vk ++ [kv2],mk ++ mk2,mg',by simpa using hg'',hR',?_⟩
  refine e10.perm (Z0n fun x => ?_)
  simp only [Z0j,Z0i,Z0z]
  omega
 ·simp [hlt]
  refine AM.wp_exit ?_
  simp
  have hie:i = ts.length:=by omega
  subst hie
  have htl:Z44 cs.length ts ts.length = ts.map (Z5s cs.length):=by simp [Z44]
  rw [htl] at hR d
  have hVk':Vk.length = ts.length:=by
   have:=hR.len
   simpa using this
  have hVV:(Vg ++ Vk).length = (Z11 cs ++ ts.map (Z5s cs.length)).length:=by simp [hVg,hVk',Z1s]
  have hbl:=Zc0 cs ts
  have hNG:NodesG s' qn (bigG cs ts):=by
   refine ⟨d.oi 0 rfl,_,d.c 0 rfl,by rw [Z6g hVV]; simp [bigG],fun j nd hnd => ?_⟩
   have hj:j < cs.length + ts.length:=by have:=(List.getElem?_eq_some_iff.1 hnd).1; omega
   have hv:(Vg ++ Vk)[j]? = some ((Vg ++ Vk)[j]'(by simp; omega)):=List.getElem?_eq_getElem _
   obtain ⟨g1,g2⟩:=Z7j hnd hv
   refine ⟨g1,_,g2,?_⟩
   generalize (Vg ++ Vk)[j]'(by simp; omega) = kv at hv
   by_cases hjn:j < cs.length
   ·rw [Zf2 hjn] at hnd
    rw [List.getElem?_append_left (by omega)] at hv
    exact (hVk j nd kv hnd hv).keep d.Z0m
   ·obtain ⟨x,rfl⟩:∃ x,j = cs.length + x:=⟨j - cs.length,by omega⟩
    rw [Zf3] at hnd
    rw [List.getElem?_append_right (by omega),hVg,Nat.add_sub_cancel_left] at hv
    obtain ⟨kv',r1,r2⟩:=hR.each (i:=x) (ks:=nd.2) (by rw [List.map_map,List.getElem?_map]; rw [← Option.map_map,hnd]; rfl)
    rw [hv] at r1
    cases r1
    rcases r2 with ⟨r3,r4⟩ | ⟨q',c',r3,r4,r5⟩
    ·exact .inl ⟨r4,r3⟩
    ·rw [r4]
     exact Z60 d.wf (Z13 (d.own (q',C (ints nd.2)) (by simp [r5]))) c'
  obtain ⟨hC,hks⟩:=Zu1 hO hT
  have hLi:Z0e s' lv (nats (bigL cs ts)):=(hg.row.kid fun y hy => d.own y (by simp [hy])).ints d.wf
  have hll:(Z1f cs cs.length).length ≤ cs.length:=Nat.le_trans (List.length_filter_le _ _) (by simp)
  have hbL:(bigL cs ts).length ≤ 1000:=by simp [bigL]; omega
  have hlt':=hg.ntup
  refine Z00 ?_
  simp [t5,t6]
  refine Z02 ?_
  refine Zkz hbl d.wf hNG (by omega) hLi hbL hC hks fun Bx s4 k4 hBx hox => ?_
  have hcl:=Ze0 hC
  simp only [Z24] at q
  generalize clsF (bigG cs ts) (bigL cs ts) = cls at hox hcl q
  have e1:=d.made k4 hBx (St.Z2b hox)
  rw [hbl] at hcl
  simp
  have hz3:ts.length ≤ Z0g:=by unfold Z0g; omega
  have hz4:ts.length * 8 ≤ Z0g:=by unfold Z0g; omega
  refine Z00 ?_
  simp [t3,e1.c 2 rfl,hNt,hN.len,hz3,hz4]
  have e2:=e1.alloc (C (List.replicate ts.length (.int .i64 0)))
  have hBo:¬ s.Old s4.next:=fun ho => Z0b s4 (e1.Z0m.old ho)
  generalize s4.alloc (.cells (List.replicate ts.length (.int .i64 0)) false) = s5 at e2 ⊢
  generalize s4.next = Bo at e2 hBo ⊢
  refine AM.wp_seq ?_
  refine Z00 ?_
  simp
  have e3:=e2.sub (m':=(Bo,C (List.replicate ts.length (.int .i64 0))) :: (Bx,C (ints cls)) :: []) (.cons_cons _ (.cons_cons _ (List.nil_sublist _)))
  have hz0:List.replicate ts.length (AVal.int .i64 0) = ints (((List.range ts.length).map fun i => Z3f (fun d => decide ((cls[cs.length + i]?).getD 0 = d)) (cls.take cs.length)).take 0 ++ List.replicate (ts.length - 0) 0):=by simp [ints]
  generalize hres:((List.range ts.length).map fun i => Z3f (fun d => decide ((cls[cs.length + i]?).getD 0 = d)) (cls.take cs.length)) = res at hz0 q
  have hresl:res.length = ts.length:=by rw [← hres]; simp
  rw [hz0] at e3
  refine AM.wp_block ?_
  refine AM.wp_loop (fun k t s' => ∃ i:Nat,i ≤ ts.length∧k = ts.length - i∧PT.get (posOf 7) t = some (.int .i64 cs.length)∧PT.get (posOf 13) t = some (.slice Bx 0 (cs.length + ts.length) (.lim (cs.length + ts.length)))∧PT.get (posOf 14) t = some (.slice Bo 0 ts.length (.lim ts.length)) ∧
    PT.get (posOf 69) t = some (.int .i64 ts.length)∧PT.get (posOf 70) t = some (.int .i64 i)∧Ctx s (fun _ => False) ((Bo,C (ints (res.take i ++ List.replicate (ts.length - i) 0))) :: (Bx,C (ints cls)) :: []) s') ts.length
   ⟨0,by simp,by simp,by simp [t7],by simp,by simp,by simp,by simp,e3⟩ ?_
  rintro k t s' ⟨i,hi,rfl,t7,t13,t14,t69,t70,d⟩
  refine Z00 ?_
  simp [t69,t70]
  refine AM.wp_seq ?_
  refine AM.Z04 ?_
  by_cases hlt:i < ts.length
  ·have hwr:IntKind.wrap .i64 ((i:Int) + 1) = ((i + 1:Nat):Int):=by rw [IntWalk.i64_in _ (by omega)]; omega
   have hwn:IntKind.wrap .i64 ((cs.length:Int) + i) = ((cs.length + i:Nat):Int):=by rw [IntWalk.i64_in _ (by omega)]; omega
   obtain ⟨cc,hcc⟩:∃ cc,cls[cs.length + i]? = some cc:=⟨_,List.getElem?_eq_getElem (by omega)⟩
   have hgc:(ints cls)[cs.length + i]? = some (.int .i64 cc):=by rw [List.getElem?_map,hcc]; rfl
   simp [hlt]
   refine AM.wp_skip ?_
   simp
   refine AM.wp_seq ?_
   refine AM.wp_block ?_
   refine Z00 ?_
   simp [t70]
   refine AM.wp_region ?_
   simp [t7,t13,t14]
   refine Zo5 (a:=0) (b:=cs.length) (off:=0) (n:=cs.length + ts.length) (c:=cs.length + ts.length) (p:=Bx) (by simp) rfl ⟨.i64,by simp⟩ (by omega) (by omega) ?_
   rw [if_neg (by omega),hwn]
   have hlt2:((cs.length + i:Nat):Int) < (cs.length:Int) + ts.length:=by omega
   have hlt3:(0:Int) ≤ ((cs.length + i:Nat):Int):=by omega
   simp only [Nat.zero_mul,Nat.add_zero,Nat.zero_add,Nat.sub_zero,Int.toNat_natCast,Nat.mul_one]
   refine ⟨hlt3,hlt2,?_⟩
   rw [d.c 1 rfl]
   simp only [Z0y,hgc]
   have hIx:Z0e s' (.slice Bx 0 cs.length (.lim (cs.length + ts.length))) (cls.take cs.length):=by
    refine .inr ⟨Bx,0,.lim (cs.length + ts.length),ints cls,?_,d.oi 1 rfl,d.c 1 rfl,?_,fun j k hk => ?_⟩
    ·rw [List.length_take,hcl,Nat.min_eq_left (by omega)]
    ·simp
     omega
    ·rw [List.getElem?_take] at hk
     split at hk
     ·rw [Nat.zero_add,List.getElem?_map,hk]
      rfl
     ·cases hk
   refine Z02 ?_
   refine Zjf hIx (by rw [List.length_take]; omega) ?_
   have hri:res[i]? = some (Z3f (fun d => decide (cc = d)) (cls.take cs.length)):=by
    rw [← hres,List.getElem?_map,List.getElem?_range hlt]
    simp [hcc]
   generalize Z3f (fun d => decide (cc = d)) (cls.take cs.length) = vv at hri ⊢
   have hnx:(res.take i ++ List.replicate (ts.length - i) 0).set i vv = res.take (i + 1) ++ List.replicate (ts.length - (i + 1)) 0:=by
    have hln:(res.take i).length = i:=by rw [List.length_take]; omega
    rw [List.set_append_right _ _ (by omega),hln,Nat.sub_self]
    have e:ts.length - i = (ts.length - (i + 1)) + 1:=by omega
    rw [e,List.replicate_succ,List.set_cons_zero,List.take_add_one,hri]
    simp
   have hln:(res.take i ++ List.replicate (ts.length - i) 0).length = ts.length:=by
    rw [List.length_append,List.length_take,List.length_replicate]
    omega
   have hlay:lay (ints (res.take i ++ List.replicate (ts.length - i) 0)) i [.int .i64 vv] = ints (res.take (i + 1) ++ List.replicate (ts.length - (i + 1)) 0):=by
    have:=Z5z (res.take i ++ List.replicate (ts.length - i) 0) i vv (by omega)
    rw [hnx] at this
    exact this
   have hown:=d.o 0 rfl
   have dd:=d.put 0 rfl (C (ints (res.take (i + 1) ++ List.replicate (ts.length - (i + 1)) 0)))
   simp only [List.set_cons_zero] at dd
   have hlen:i + 1 ≤ (ints (res.take i ++ List.replicate (ts.length - i) 0)).length:=by rw [List.length_map]; omega
   generalize ints (res.take i ++ List.replicate (ts.length - i) 0) = mv at hlay hown hlen
   generalize hY:ints (res.take (i + 1) ++ List.replicate (ts.length - (i + 1)) 0) = Y at hlay dd
   simp [lay] at hlay
   simp [hlt,hown,hlen]
   rw [hlay]
   refine AM.wp_region ?_
   simp [t70,hwr]
   exact ⟨ts.length - (i + 1),by omega,i + 1,by omega,by omega,by simp [t7],by simp [t13],by simp [t14],by simp [t69],by simp,by rw [← hY] at dd ⊢; simpa [ints] using dd⟩
  ·simp [hlt]
   refine AM.wp_exit ?_
   simp
   have hie:i = ts.length:=by omega
   subst hie
   have hrt:res.take ts.length ++ List.replicate (ts.length - ts.length) 0 = res:=by
    rw [Nat.sub_self,← hresl,List.take_length]
    simp
   rw [hrt] at d
   refine Z00 ?_
   simp [t14]
   refine AM.wp_ret ?_
   simp
   exact q Bo s' d.Z0m hBo (d.o 0 rfl)
theorem Zle {ns:List ND} {r:Nat} (hO:GrOk ns) (hr:r < ns.length):GrOk (Z1q ns r)∧1 ≤ (Z1q ns r).length∧(Z1q ns r).length ≤ ns.length:=by
 have hr':∀ a ∈ [r],a < ns.length:=by simpa using hr
 obtain ⟨hC,hnd,hlt,hroot⟩:=Zfi hO hr'
 unfold Z1q
 generalize bfsF (kidG ns) ns.length [r] = L at hC hnd hlt hroot
 have hm:(outF (clsF ns L) ns L).length = Zjk ns L:=Zoc hC
 refine ⟨fun x hx => ?_,?_,?_⟩
 ·obtain ⟨a,nd,h1,h2,rfl⟩:=Zi8 hx
  refine ⟨by simpa [Z59] using (hO nd (List.mem_of_getElem? h2)).1,fun k hk => ?_⟩
  obtain ⟨k',hk',rfl⟩:=List.mem_map.1 hk
  obtain ⟨_,hkin⟩:=hC.kids a h1 nd h2
  obtain ⟨c,e1,e2⟩:=Zf9 hC (hkin k' hk')
  rw [e1]
  simp only [Option.getD_some]
  omega
 ·rcases hroot r (by simp) with h
  obtain ⟨c,e1,e2⟩:=Zf9 hC h
  omega
 ·have:=Zob (clsF ns L) ns L
  have:=Z34 hnd hlt
  omega
theorem Zj9 (cs:List CV) (ts:List ND):(Z24 cs ts).length = ts.length:=by simp [Z24]
def Z3j (L:List ND) (th:List Int) (cs:List CV):Nat→Option (List CV × List Int)
 | 0 => some (cs,th)
 | i + 1 => match Z3j L th cs i with
  | none => none
  | some x => if 0 ≤ (th[i]?).getD 0 then some x else if Z5q x.1 < 0 then none else some (x.1.set (Z5q x.1).toNat ⟨true,((L[i]?).getD ([],[])).1,[],0⟩,x.2.set i (Z5q x.1))
def Z1u (f:List Int) (ks:List Int):List Int:=ks.map fun k => (f[k.toNat]?).getD 0
def setK (cs:List CV) (a:Nat) (ks:List Int):List CV:=match cs[a]? with
 | some c => cs.set a { c with kids:=ks }
 | none => cs
def Z27 (L:List ND) (th f:List Int) (cs:List CV):Nat→List CV
 | 0 => cs
 | i + 1 => if 0 ≤ (th[i]?).getD 0 then Z27 L th f cs i else setK (Z27 L th f cs i) ((f[i]?).getD 0).toNat (Z1u f ((L[i]?).getD ([],[])).2)
theorem Zxx (cs:List CV) (a:Nat) (ks:List Int):(setK cs a ks).length = cs.length:=by
 unfold setK; split <;> simp
theorem Z8v (L:List ND) (th f:List Int) (cs:List CV):∀ i,(Z27 L th f cs i).length = cs.length
 | 0 => rfl
 | i + 1 => by
  unfold Z27
  split
  ·exact Z8v L th f cs i
  ·rw [Zxx,Z8v L th f cs i]
theorem Zrq {L:List ND} {th:List Int} {cs:List CV} {i:Nat} (h:Z3j L th cs i = none):∀ j,i ≤ j→Z3j L th cs j = none:=by
 intro j hj
 induction j with
 | zero =>
  have:i = 0:=by omega
  subst this
  exact h
 | succ j ih =>
  by_cases e:i = j + 1
  ·subst e; exact h
  ·unfold Z3j
   rw [ih (by omega)]
noncomputable def putF (cs:List CV) (ns:List ND) (root:Int):Int × Int × List CV :=
 if Z1m ns root ≠ 0 then (0,Z1m ns root,cs) else
 if (0:Int) ≤ ((Z24 cs (Z1q ns root.toNat))[0]?).getD (0:Int) then (((Z24 cs (Z1q ns root.toNat))[0]?).getD (0:Int),(0:Int),cs) else
 match Z3j (Z1q ns root.toNat) (Z24 cs (Z1q ns root.toNat)) cs (Z1q ns root.toNat).length with
 | none => (0,12,cs)
 | some (c,f) => ((f[0]?).getD (0:Int),(0:Int),Z27 (Z1q ns root.toNat) (Z24 cs (Z1q ns root.toNat)) f c (Z1q ns root.toNat).length)
theorem Zaa (cs:List CV):Z5q cs = -1 ∨ ∃ (i:Nat) (c:CV),Z5q cs = i∧cs[i]? = some c∧c.taken = false:=by
 unfold Z5q
 split
 ·rename_i i h
  obtain ⟨h1,h2,_⟩:=List.findIdx?_eq_some_iff_getElem.1 h
  exact .inr ⟨i,cs[i],rfl,List.getElem?_eq_getElem h1,by simpa using h2⟩
 ·exact .inl rfl
structure AllI (L:List ND) (th:List Int) (cs c:List CV) (V:List AVal) (f:List Int) (i:Nat):Prop where
 len:c.length = cs.length
 flen:f.length = L.length
 cell:∀ j,j < i→(th[j]?).getD 0 < 0→∃ (a:Nat) (d:CV),f[j]? = some (a:Int)∧c[a]? = some d∧d.taken = true∧d.kids = []∧V[a]? = some .nilSlice
 inj:∀ j j',j < i→j' < i→(th[j]?).getD 0 < 0→(th[j']?).getD 0 < 0→f[j]? = f[j']?→j = j'
theorem AllI.zero {L:List ND} {th:List Int} {cs:List CV} {V:List AVal} (h:th.length = L.length):AllI L th cs cs V th 0 :=
 ⟨rfl,h,fun j hj => by omega,fun j j' hj => by omega⟩
theorem AllI.skip {L:List ND} {th f:List Int} {cs c:List CV} {V:List AVal} {i:Nat} (h:AllI L th cs c V f i) (hi:0 ≤ (th[i]?).getD 0):AllI L th cs c V f (i + 1):=by
 refine ⟨h.len,h.flen,fun j hj hn => ?_,fun j j' hj hj' hn hn' e => ?_⟩
 ·by_cases e:j = i
  ·subst e; omega
  ·exact h.cell j (by omega) hn
 ·by_cases e1:j = i
  ·subst e1; omega
  ·by_cases e2:j' = i
   ·subst e2; omega
   ·exact h.inj j j' (by omega) (by omega) hn hn' e
theorem AllI.next {L:List ND} {th f:List Int} {cs c:List CV} {V:List AVal} {i a:Nat} {nm:List UInt8} {d:CV} (h:AllI L th cs c V f i) (hV:V.length = cs.length) (hi:i < L.length) (ha:c[a]? = some d) (hf:d.taken = false) :
  AllI L th cs (c.set a ⟨true,nm,[],0⟩) (V.set a .nilSlice) (f.set i a) (i + 1):=by
 have hal:a < c.length:=(List.getElem?_eq_some_iff.1 ha).1
 have hne:∀ {b:Nat} {x:CV},c[b]? = some x→x.taken = true→a ≠ b:=by
  rintro b x hx ht rfl
  rw [ha] at hx
  cases hx
  rw [hf] at ht
  cases ht
 have hfi:i < f.length:=by rw [h.flen]; exact hi
 refine ⟨by rw [List.length_set]; exact h.len,by rw [List.length_set]; exact h.flen,fun j hj hn => ?_,fun j j' hj hj' hn hn' e => ?_⟩
 ·by_cases e:j = i
  ·subst e
   have hav:a < V.length:=by rw [hV,← h.len]; exact hal
   exact ⟨a,⟨true,nm,[],0⟩,by simp [hfi],by simp [hal],rfl,rfl,by simp [hav]⟩
  ·obtain ⟨b,x,h1,h2,h3,h4,h5⟩:=h.cell j (by omega) hn
   have:=hne h2 h3
   exact ⟨b,x,by rw [List.getElem?_set_ne (by omega)]; exact h1,by rw [List.getElem?_set_ne this]; exact h2,h3,h4,by rw [List.getElem?_set_ne this]; exact h5⟩
 ·by_cases e1:j = i
  ·by_cases e2:j' = i
   ·omega
   ·exfalso
    subst e1
    obtain ⟨b,x,h1,h2,h3,_⟩:=h.cell j' (by omega) hn'
    rw [List.getElem?_set_ne (show j ≠ j' by omega),h1] at e
    simp [hfi] at e
    exact hne h2 h3 (by omega)
  ·by_cases e2:j' = i
   ·exfalso
    subst e2
    obtain ⟨b,x,h1,h2,h3,_⟩:=h.cell j (by omega) hn
    rw [List.getElem?_set_ne (show j' ≠ j by omega),h1] at e
    simp [hfi] at e
    exact hne h2 h3 (by omega)
   ·rw [List.getElem?_set_ne (show i ≠ j by omega),List.getElem?_set_ne (show i ≠ j' by omega)] at e
    exact h.inj j j' (by omega) (by omega) hn hn' e
structure FilI (L:List ND) (th c0l:List Int) (c:List CV) (V:List AVal) (i:Nat):Prop where
 cell:∀ j,i ≤ j→j < L.length→(th[j]?).getD 0 < 0→∃ (a:Nat) (d:CV),c0l[j]? = some (a:Int)∧c[a]? = some d∧d.kids = []∧V[a]? = some .nilSlice
 inj:∀ j j',j < L.length→j' < L.length→(th[j]?).getD 0 < 0→(th[j']?).getD 0 < 0→c0l[j]? = c0l[j']?→j = j'
theorem AllI.fil {L:List ND} {th f:List Int} {cs c:List CV} {V:List AVal} (h:AllI L th cs c V f L.length):FilI L th f c V 0 :=
 ⟨fun j _ hj hn => by
  obtain ⟨a,d,h1,h2,_,h4,h5⟩:=h.cell j hj hn
  exact ⟨a,d,h1,h2,h4,h5⟩,h.inj⟩
theorem FilI.skip {L:List ND} {th f:List Int} {c:List CV} {V:List AVal} {i:Nat} (h:FilI L th f c V i):FilI L th f c V (i + 1) :=
 ⟨fun j hj => h.cell j (by omega),h.inj⟩
theorem FilI.next {L:List ND} {th f:List Int} {c:List CV} {V:List AVal} {i a:Nat} {d:CV} {kv:AVal} (h:FilI L th f c V i) (hi:i < L.length) (hn:(th[i]?).getD 0 < 0) (ha:f[i]? = some (a:Int)):FilI L th f (c.set a d) (V.set a kv) (i + 1):=by
 refine ⟨fun j hj hl hm => ?_,h.inj⟩
 obtain ⟨b,x,h1,h2,h3,h4⟩:=h.cell j (by omega) hl hm
 have:a ≠ b:=by
  rintro rfl
  have:=h.inj i j hi hl hn hm (by rw [ha,h1])
  omega
 exact ⟨b,x,h1,by rw [List.getElem?_set_ne this]; exact h2,h3,by rw [List.getElem?_set_ne this]; exact h4⟩
theorem Zl5:∀ (l:List RC) (i:Nat) (c:RC) (v:AVal),l[i]? = some c→lay (encs l) (i * 4 + 2) [v] = encs (l.set i { c with kv:=v })
 | [],i,c,d,h => by simp at h
 | e :: l,0,c,d,h => by
  simp at h
  subst h
  have e1:encs (e :: l) = e.enc ++ encs l:=rfl
  have e2:encs ((e :: l).set 0 { e with kv:=d }) = (RC.enc { e with kv:=d }) ++ encs l:=rfl
  rw [e1,e2]
  simp [lay,RC.enc]
 | e :: l,i + 1,c,d,h => by
  have e1:encs (e :: l) = e.enc ++ encs l:=rfl
  have e2:encs ((e :: l).set (i + 1) { c with kv:=d }) = e.enc ++ encs (l.set i { c with kv:=d }):=rfl
  have ih:=Zl5 l i c d (by simpa using h)
  have hd:e.enc.length = 4:=rfl
  have e3:(i + 1) * 4 + 2 = e.enc.length + (i * 4 + 2):=by rw [hd]; omega
  rw [e1,e2,← ih]
  unfold lay
  rw [e3,List.take_length_add_append,Nat.add_assoc,List.drop_length_add_append]
  simp
theorem eq8i (k:IntKind) (a:Int):Z2l 8 (.int k a) (.int k a) = true:=by
 simp [Z2l]
section
variable {s0 s:St} {W:Pos→Prop} {fr:FI} {t0:PT AVal} {Q:Ex→PT AVal→St→Prop} {r:Lets}
theorem Z41 {α:Type} {l:List α} {a:Nat} {x:α} (h:l[a]? = some x):l.set a x = l:=by
 refine List.ext_getElem? fun i => ?_
 rw [List.getElem?_set]
 by_cases e:a = i
 ·subst e
  rw [if_pos rfl,h,if_pos (List.getElem?_eq_some_iff.1 h).1]
 ·rw [if_neg e]
theorem Zxs {B9 B14 Bf pn:Pos} {nm:List UInt8} {kv0:AVal} {ks f:List Int} {cs:List CV} {V:List AVal} {a l n i:Nat} {c8:Cap} {d:CV}
  (hk:(ks = []∧Z18 kv0 = some 0) ∨ ∃ q c,ks ≠ []∧kv0 = .slice q 0 ks.length c∧(q,C (ints ks)) ∈ r)
  (h4:ks.length ≤ 4) (hin:∀ k ∈ ks,0 ≤ k∧k < l) (hn:cs.length = n) (hV:V.length = n) (ha:cs[a]? = some d) (hd:d.kids = []) (hva:V[a]? = some .nilSlice) (hfi:f[i]? = some (a:Int)) (hl:f.length = l)
  (hc:Ctx s0 W ((B14,C [.str nm,kv0]) :: (B9,C [.slice pn 0 n (.lim n)]) :: (pn,C (encs (rcs cs V))) :: (Bf,C (ints f)) :: r) s)
  (t8:PT.get (posOf 8) t0 = some (.slice Bf 0 l c8)) (t9:PT.get (posOf 9) t0 = some (.ptr B9 0)) (t13:PT.get (posOf 13) t0 = some (.int .i64 i)) (t14:PT.get (posOf 14) t0 = some (.ptr B14 0))
  (q:∀ t s' kv mg,Fr [16,90,91,92,93,96,97,98,99,100,101,102,103,104,105,106,107,108,109,110,111,112,113,114,115,116,117,118] t0 t→Z23 kv (Z1u f ks) mg →
   Ctx s0 W ((B14,C [.str nm,kv0]) :: (B9,C [.slice pn 0 n (.lim n)]) :: (pn,C (encs (rcs (cs.set a { d with kids:=Z1u f ks }) (V.set a kv)))) :: (Bf,C (ints f)) :: (mg ++ r)) s'→Q .normal t s'):wp Tryz.prog Zu9 fr t0 s Q:=by
 have hkl:Z18 kv0 = some ks.length:=by
  rcases hk with ⟨h1,h2⟩ | ⟨q,c,_,h2,_⟩
  ·rw [h1,h2]; rfl
  ·rw [h2]; rfl
 have hkt:∀ t,¬ kv0 = .tup t:=by
  rintro t rfl
  cases hkl
 have hal:a < cs.length:=(List.getElem?_eq_some_iff.1 ha).1
 refine Z00 ?_
 simp [t14,hc.c 0 rfl,hkt,hkl]
 refine AM.wp_block ?_
 refine AM.wp_loop (fun m t s' => ∃ (j:Nat) (kv:AVal) (mg:Lets),j ≤ ks.length∧m = ks.length - j∧Fr [16,90,91,92,93,96,97,98,99,100,101,102,103,104,105,106,107,108,109,110,111,112,113,114,115,116,117,118] t0 t∧PT.get (posOf 90) t = some kv0∧PT.get (posOf 91) t = some (.int .i64 ks.length)∧PT.get (posOf 92) t = some (.int .i64 j) ∧
   Z23 kv (Z1u f (ks.take j)) mg∧Ctx s0 W ((B14,C [.str nm,kv0]) :: (B9,C [.slice pn 0 n (.lim n)]) :: (pn,C (encs (rcs (cs.set a { d with kids:=Z1u f (ks.take j) }) (V.set a kv)))) :: (Bf,C (ints f)) :: (mg ++ r)) s') ks.length ⟨0,.nilSlice,[],by simp,by simp,?_,by simp,by simp,by simp,.inl ⟨by simp [Z1u],rfl,rfl⟩,?_⟩ ?_
 ·intro y hy
  simp at hy
  simp [hy]
 ·have e1:cs.set a { d with kids:=Z1u f (ks.take 0) } = cs:=by
   refine Z41 ?_
   rw [ha]
   congr 1
   cases d
   simp at hd
   simp [Z1u,hd]
  rw [e1,Z41 hva]
  exact hc
 rintro m t s' ⟨j,kv,mg,hj,rfl,hF,t90,t91,t92,hg,hc'⟩
 refine Z00 ?_
 simp [t91,t92]
 refine AM.wp_seq ?_
 refine AM.Z04 ?_
 by_cases hlt:j < ks.length
 ·have hwr:IntKind.wrap .i64 ((j:Int) + 1) = ((j + 1:Nat):Int):=by rw [IntWalk.i64_in _ (by omega)]; omega
  obtain ⟨k,hkk⟩:∃ k,ks[j]? = some k:=⟨_,List.getElem?_eq_getElem hlt⟩
  obtain ⟨k0,k1⟩:=hin k (List.mem_of_getElem? hkk)
  obtain ⟨x,hx⟩:∃ x,f[k.toNat]? = some x:=⟨_,List.getElem?_eq_getElem (by omega)⟩
  have u8:=(hF 8 (by simp)).trans t8
  have u9:=(hF 9 (by simp)).trans t9
  have u13:=(hF 13 (by simp)).trans t13
  rcases hk with ⟨h0,_⟩ | ⟨q5,c5,_,rfl,hq5⟩
  ·rw [h0] at hlt
   simp at hlt
  have hcs5:s'.cells q5 = some (ints ks):=Z0a (Z13 (hc'.own (q5,C (ints ks)) (by simp [hq5])))
  have hgk:(ints ks)[j]? = some (.int .i64 k):=by rw [List.getElem?_map,hkk]; rfl
  have hgi:(ints f)[i]? = some (.int .i64 a):=by rw [List.getElem?_map,hfi]; rfl
  have hgx:(ints f)[k.toNat]? = some (.int .i64 x):=by rw [List.getElem?_map,hx]; rfl
  have hil:(i:Int) < l:=by have:=(List.getElem?_eq_some_iff.1 hfi).1; omega
  have han:(a:Int) < n:=by omega
  have hnx:Z1u f (ks.take j) ++ [x] = Z1u f (ks.take (j + 1)):=by
   unfold Z1u
   rw [List.take_add_one,hkk,List.map_append]
   simp [hx]
  have hxr:=Z1k (cs:=cs.set a { d with kids:=Z1u f (ks.take j) }) (V:=V.set a kv) (i:=a) (d:={ d with kids:=Z1u f (ks.take j) }) (kv:=kv) (by simp [hal]) (by rw [List.getElem?_set_self (by omega)])
  have hg2:(encs (rcs (cs.set a { d with kids:=Z1u f (ks.take j) }) (V.set a kv)))[a * 4 + 2]? = some kv:=Z2o _ a 2 _ hxr (by decide)
  have hlen:a * 4 + 2 + 1 ≤ (encs (rcs (cs.set a { d with kids:=Z1u f (ks.take j) }) (V.set a kv))).length:=by
   rw [Z2j,Z1c (by simp [hV,hn])]
   simp
   omega
  have hlay:∀ kv',lay (encs (rcs (cs.set a { d with kids:=Z1u f (ks.take j) }) (V.set a kv))) (a * 4 + 2) [kv'] = encs (rcs (cs.set a { d with kids:=Z1u f (ks.take (j + 1)) }) (V.set a kv')):=by
   intro kv'
   rw [Zl5 _ a _ kv' hxr]
   have:=Z84 (cs:=cs.set a { d with kids:=Z1u f (ks.take j) }) (V:=V.set a kv) (i:=a) (d:={ d with kids:=Z1u f (ks.take (j + 1)) }) (kv:=kv')
   rw [List.set_set,List.set_set] at this
   rw [← this]
  generalize encs (rcs (cs.set a { d with kids:=Z1u f (ks.take j) }) (V.set a kv)) = E at hc' hg2 hlen hlay
  obtain ⟨FS,hFS⟩:∃ x,x = ints f:=⟨_,rfl⟩
  rw [← hFS] at hgi hgx
  have hfl:s'.cells Bf = some FS:=by rw [hFS]; exact hc'.c 3 rfl
  generalize ints ks = KS at hcs5 hgk
  simp [hlt]
  refine AM.wp_skip ?_
  simp
  refine AM.wp_seq ?_
  refine AM.wp_block ?_
  refine Z00 ?_
  simp [t90,t92,hlt,hcs5,hgk]
  refine AM.wp_region ?_
  have hns:s'.obj s'.next = none:=hc'.wf _ (Z0b _)
  simp [u8,u9,u13,hc'.c 1 rfl,hc'.c 2 rfl,hfl,hgi,hgx,hg2,hil,han,k0,k1,hg.ntup,hg.cells,hns,Z20,srcP]
  have d2:=hc'.alloc (C [.int .i64 x])
  generalize s'.alloc (.cells [.int .i64 x] false) = sB at d2 ⊢
  generalize s'.next = T at d2 ⊢
  refine Z6w (pre:=[(T,C [.int .i64 x]),(B14,C [.str nm,.slice q5 0 ks.length c5]),(B9,C [.slice pn 0 n (.lim n)]),(pn,C E),(Bf,C (ints f))]) d2 hg (by simp [Z1u]; omega) fun kv' mg' sC hg' d3 => ?_
  simp only [List.cons_append,List.nil_append] at d3
  have hfl3:sC.cells Bf = some FS:=by rw [hFS]; exact d3.c 4 rfl
  have hly:=hlay kv'
  simp [lay] at hly
  simp [hg'.ntup,hg'.cells,d3.o 3 rfl,d3.c 2 rfl,d3.c 3 rfl,hfl3,hgi,hgx,han,hil,hlen,eq8i,Z8u]
  rw [hly]
  have d4:=(d3.put 3 rfl (C (encs (rcs (cs.set a { d with kids:=Z1u f (ks.take (j + 1)) }) (V.set a kv'))))).tail
  simp only [List.set_cons_zero,List.set_cons_succ] at d4
  rw [hnx] at hg'
  refine AM.wp_region ?_
  simp [t92,hwr]
  refine ⟨ks.length - (j + 1),by omega,j + 1,by omega,by omega,?_,by simp [t90],by simp [t91],by simp,kv',mg',hg',d4⟩
  intro y hy
  simp at hy
  simp [hy]
  exact hF y (by simp [hy])
 ·simp [hlt]
  refine AM.wp_exit ?_
  simp
  have hje:j = ks.length:=by omega
  subst hje
  rw [List.take_length] at hg hc'
  refine q _ s' kv mg ?_ hg hc'
  intro y hy
  simp at hy
  simp [hy]
  exact hF y (by simp [hy])
theorem Zr3 {L:List ND} {VL:List AVal} {mrL:Lets} (hVL:Z0s (L.map Prod.snd) VL mrL) {i:Nat} {nd:ND} (h:L[i]? = some nd):∃ kv,((Z0h L VL).drop (i * 2)).take 2 = [.str nd.1,kv]∧i * 2 + 2 ≤ (Z0h L VL).length ∧
  ((nd.2 = []∧Z18 kv = some 0) ∨ ∃ q c,nd.2 ≠ []∧kv = .slice q 0 nd.2.length c∧(q,C (ints nd.2)) ∈ mrL):=by
 obtain ⟨kv,g1,g2⟩:=hVL.each (i:=i) (ks:=nd.2) (by rw [List.getElem?_map,h]; rfl)
 obtain ⟨e1,e2⟩:=Z7j h g1
 obtain ⟨e3,e4⟩:=seg2 e1 e2
 exact ⟨kv,e3,e4,g2⟩
theorem Zxr {B3 B9 Bo Bf Bn pn:Pos} {cs:List CV} {V0 VL:List AVal} {L:List ND} {th f:List Int} {mrL mk base:Lets} {n l:Nat} {c3 c7 c8:Cap} {rt:AVal}
  (hl:L.length = l) (hl6:l ≤ 60) (hn:cs.length = n) (hG:GrOk L) (hVL:Z0s (L.map Prod.snd) VL mrL) (hth:th.length = l) (hf:f.length = l) (hI:FilI L th f cs V0 0) (hR:Z0s (cs.map CV.kids) V0 mk)
  (t3:PT.get (posOf 3) t0 = some (.ptr B3 0)) (t7:PT.get (posOf 7) t0 = some (.slice Bo 0 l c7)) (t8:PT.get (posOf 8) t0 = some (.slice Bf 0 l c8)) (t9:PT.get (posOf 9) t0 = some (.ptr B9 0))
  (hc:Ctx s0 W ((B9,C [.slice pn 0 n (.lim n)]) :: (pn,C (encs (rcs cs V0))) :: (Bf,C (ints f)) :: (Bo,C (ints th)) :: (B3,C [.slice Bn 0 l c3,rt]) :: (Bn,C (Z0h L VL)) :: (mrL ++ (mk ++ base))) s)
  (q:∀ t s' V mk',PT.get (posOf 0) t = PT.get (posOf 0) t0→PT.get (posOf 8) t = some (.slice Bf 0 l c8)→PT.get (posOf 9) t = some (.ptr B9 0)→Z0s ((Z27 L th f cs l).map CV.kids) V mk' →
   Ctx s0 W ((B9,C [.slice pn 0 n (.lim n)]) :: (pn,C (encs (rcs (Z27 L th f cs l) V))) :: (Bf,C (ints f)) :: (Bo,C (ints th)) :: (B3,C [.slice Bn 0 l c3,rt]) :: (Bn,C (Z0h L VL)) :: (mrL ++ (mk' ++ base))) s' →
   wp Tryz.prog Zua fr t s' Q):wp Tryz.prog Zmx fr t0 s Q:=by
 refine AM.wp_seq ?_
 refine Z00 ?_
 simp [t3,hc.c 4 rfl]
 refine AM.wp_block ?_
 refine AM.wp_loop (fun m t s' => ∃ (i:Nat) (V:List AVal) (mk':Lets),i ≤ l∧m = l - i∧PT.get (posOf 0) t = PT.get (posOf 0) t0∧PT.get (posOf 3) t = some (.ptr B3 0)∧PT.get (posOf 7) t = some (.slice Bo 0 l c7)∧PT.get (posOf 8) t = some (.slice Bf 0 l c8)∧PT.get (posOf 9) t = some (.ptr B9 0) ∧
   PT.get (posOf 77) t = some (.slice Bn 0 l c3)∧PT.get (posOf 78) t = some (.int .i64 l)∧PT.get (posOf 79) t = some (.int .i64 i)∧FilI L th f (Z27 L th f cs i) V i∧Z0s ((Z27 L th f cs i).map CV.kids) V mk' ∧
   Ctx s0 W ((B9,C [.slice pn 0 n (.lim n)]) :: (pn,C (encs (rcs (Z27 L th f cs i) V))) :: (Bf,C (ints f)) :: (Bo,C (ints th)) :: (B3,C [.slice Bn 0 l c3,rt]) :: (Bn,C (Z0h L VL)) :: (mrL ++ (mk' ++ base))) s') l
   ⟨0,V0,mk,by simp,by simp,by simp,by simp [t3],by simp [t7],by simp [t8],by simp [t9],by simp,by simp,by simp,hI,hR,hc⟩ ?_
 rintro m t s' ⟨i,V,mk',hi,rfl,e0,u3,u7,u8,u9,u77,u78,u79,hI',hR',hc'⟩
 refine Z00 ?_
 simp [u78,u79]
 refine AM.wp_seq ?_
 refine AM.Z04 ?_
 by_cases hlt:i < l
 ·have hwr:IntKind.wrap .i64 ((i:Int) + 1) = ((i + 1:Nat):Int):=by rw [IntWalk.i64_in _ (by omega)]; omega
  obtain ⟨nd,hnd⟩:∃ nd,L[i]? = some nd:=⟨_,List.getElem?_eq_getElem (by omega)⟩
  obtain ⟨x,hx⟩:∃ x,th[i]? = some x:=⟨_,List.getElem?_eq_getElem (by omega)⟩
  have hgx:(ints th)[i]? = some (.int .i64 x):=by rw [List.getElem?_map,hx]; rfl
  have hbn:s'.cells Bn = some (Z0h L VL):=hc'.c 5 rfl
  have hbo:s'.cells Bo = some (ints th):=hc'.c 3 rfl
  obtain ⟨kv,hsg,hsl,hkv⟩:=Zr3 hVL hnd
  have hkt:∀ t,¬ kv = .tup t:=by
   rintro t rfl
   rcases hkv with ⟨_,h2⟩ | ⟨q,c,_,h2,_⟩
   ·cases h2
   ·cases h2
  have hmin:min 2 ((Z0h L VL).length - i * 2) = 2:=by omega
  simp [hlt]
  refine AM.wp_skip ?_
  simp
  refine AM.wp_seq ?_
  refine AM.wp_block ?_
  refine Z00 ?_
  simp [u77,u79,hlt,hbn,hsl,hmin,hsg]
  have e1:=(hc'.alloc (C [.str [],.nilSlice])).put 0 rfl (C [.str nd.1,kv])
  simp only [List.set_cons_zero] at e1
  generalize (s'.alloc (.cells [.str [],.nilSlice] false)).put s'.next (.cells [.str nd.1,kv] false) = s4 at e1 ⊢
  generalize s'.next = B14 at e1 ⊢
  have hbo4:s4.cells Bo = some (ints th):=e1.c 4 rfl
  refine AM.wp_seq ?_
  refine Z00 ?_
  simp [u7,hlt,hbo4,hgx]
  refine AM.Z04 ?_
  by_cases hx0:x < 0
  ·simp [hx0]
   refine AM.wp_skip ?_
   simp
   have hxd:(th[i]?).getD 0 < 0:=by rw [hx]; exact hx0
   obtain ⟨a,d,g1,g2,g3,g4⟩:=hI'.cell i (Nat.le_refl _) (by omega) hxd
   have hV:V.length = n:=by have:=hR'.len; rw [List.length_map,Z8v,hn] at this; exact this
   obtain ⟨hk4,hkin⟩:=hG nd (List.mem_of_getElem? hnd)
   refine Zxs (ks:=nd.2) (f:=f) (cs:=Z27 L th f cs i) (V:=V) (a:=a) (l:=l) (n:=n) (i:=i) (d:=d) (c8:=c8) (nm:=nd.1) (kv0:=kv) (Bf:=Bf) (pn:=pn) (B9:=B9) (B14:=B14) (r:=(Bo,C (ints th)) :: (B3,C [.slice Bn 0 l c3,rt]) :: (Bn,C (Z0h L VL)) :: (mrL ++ (mk' ++ base))) ?_ hk4 (by rw [hl] at hkin; exact hkin) (by rw [Z8v,hn]) hV g2 g3 g4 g1 hf e1 (by simp [u8]) (by simp [u9]) (by simp) (by simp) fun t2 s5 kv2 mg hF2 hg2 e2 => ?_
   ·rcases hkv with h | ⟨q,c,h1,h2,h3⟩
    ·exact .inl h
    ·exact .inr ⟨q,c,h1,h2,by simp [h3]⟩
   have v0:PT.get (posOf 0) t2 = PT.get (posOf 0) t0:=(hF2 0 (by simp)).trans (by simpa using e0)
   have v3:PT.get (posOf 3) t2 = some (.ptr B3 0):=(hF2 3 (by simp)).trans (by simp [u3])
   have v7:PT.get (posOf 7) t2 = some (.slice Bo 0 l c7):=(hF2 7 (by simp)).trans (by simp [u7])
   have v8:PT.get (posOf 8) t2 = some (.slice Bf 0 l c8):=(hF2 8 (by simp)).trans (by simp [u8])
   have v9:PT.get (posOf 9) t2 = some (.ptr B9 0):=(hF2 9 (by simp)).trans (by simp [u9])
   have v77:PT.get (posOf 77) t2 = some (.slice Bn 0 l c3):=(hF2 77 (by simp)).trans (by simp [u77])
   have v78:PT.get (posOf 78) t2 = some (.int .i64 l):=(hF2 78 (by simp)).trans (by simp [u78])
   have v79:PT.get (posOf 79) t2 = some (.int .i64 i):=(hF2 79 (by simp)).trans (by simp [u79])
   have hnxt:Z27 L th f cs (i + 1) = (Z27 L th f cs i).set a { d with kids:=Z1u f nd.2 }:=by
    have:¬ 0 ≤ (th[i]?).getD 0:=by omega
    rw [Z27,if_neg this,g1,hnd]
    unfold setK
    simp [g2]
   rw [← hnxt] at e2
   obtain ⟨kv3,m1,m2,f1,f2,f3,f4⟩:=hR'.at (i:=a) (ks:=[]) (by rw [List.getElem?_map,g2,← g3]; rfl)
   have hm1:m1 = []:=by
    rcases f2 with ⟨_,_,h⟩ | ⟨_,_,h,_⟩
    ·exact h
    ·exact (h rfl).elim
   subst hm1
   have hR2:=f4 (Z1u f nd.2) kv2 mg hg2.row
   have hmp:((Z27 L th f cs i).map CV.kids).set a (Z1u f nd.2) = (Z27 L th f cs (i + 1)).map CV.kids:=by rw [hnxt,List.map_set]
   rw [hmp] at hR2
   have hI2:=hI'.next (kv:=kv2) (d:={ d with kids:=Z1u f nd.2 }) (by omega) hxd g1
   rw [← hnxt] at hI2
   simp
   refine AM.wp_region ?_
   simp [v79,hwr]
   refine ⟨l - (i + 1),by omega,i + 1,by omega,by omega,by simpa using v0,by simp [v3],by simp [v7],by simp [v8],by simp [v9],by simp [v77],by simp [v78],by simp,V.set a kv2,hI2,mg ++ m2,hR2,?_⟩
   refine e2.tail.perm (Z0n fun y => ?_)
   have i3:=Z3d f3 y
   simp only [Z0j,Z0i,Z0z] at i3 ⊢
   omega
  ·simp [hx0]
   refine AM.wp_exit ?_
   simp
   have hnxt:Z27 L th f cs (i + 1) = Z27 L th f cs i:=by
    have:0 ≤ (th[i]?).getD 0:=by rw [hx]; show 0 ≤ x; omega
    rw [Z27,if_pos this]
   refine AM.wp_region ?_
   simp [u79,hwr]
   refine ⟨l - (i + 1),by omega,i + 1,by omega,by omega,by simpa using e0,by simp [u3],by simp [u7],by simp [u8],by simp [u9],by simp [u77],by simp [u78],by simp,V,by rw [hnxt]; exact hI'.skip,mk',by rw [hnxt]; exact hR',?_⟩
   rw [hnxt]
   exact e1.tail
 ·simp [hlt]
  refine AM.wp_exit ?_
  simp
  have hie:i = l:=by omega
  subst hie
  exact q _ s' V mk' (by simpa using e0) (by simp [u8]) (by simp [u9]) hR' hc'
end
section
variable {s0 s:St} {W:Pos→Prop} {fr:FI} {t0:PT AVal} {Q:Ex→PT AVal→St→Prop} {r:Lets}
theorem Zxq {B3 B9 Bo Bf Bn pn:Pos} {cs:List CV} {V0 VL:List AVal} {L:List ND} {th:List Int} {mrL mk base:Lets} {n l:Nat} {c3 c7 c8:Cap} {rt:AVal}
  (hl:L.length = l) (hl6:l ≤ 60) (hn:cs.length = n) (hn4:n ≤ 400) (hVL:Z0s (L.map Prod.snd) VL mrL) (hth:th.length = l) (hR:Z0s (cs.map CV.kids) V0 mk)
  (t3:PT.get (posOf 3) t0 = some (.ptr B3 0)) (t7:PT.get (posOf 7) t0 = some (.slice Bo 0 l c7)) (t8:PT.get (posOf 8) t0 = some (.slice Bf 0 l c8)) (t9:PT.get (posOf 9) t0 = some (.ptr B9 0))
  (hc:Ctx s0 W ((B9,C [.slice pn 0 n (.lim n)]) :: (pn,C (encs (rcs cs V0))) :: (Bf,C (ints th)) :: (Bo,C (ints th)) :: (B3,C [.slice Bn 0 l c3,rt]) :: (Bn,C (Z0h L VL)) :: (mrL ++ (mk ++ base))) s)
  (qf:∀ t s' m',Z3j L th cs l = none→PT.get (posOf 4) t = some (.int .i64 0)→PT.get (posOf 5) t = some (.int .i64 12)→Ctx s0 W (m' ++ base) s'→Q .ret t s')
  (q:∀ t s' c f V mk',Z3j L th cs l = some (c,f)→AllI L th cs c V f l→PT.get (posOf 0) t = PT.get (posOf 0) t0→PT.get (posOf 3) t = some (.ptr B3 0)→PT.get (posOf 7) t = some (.slice Bo 0 l c7)→PT.get (posOf 8) t = some (.slice Bf 0 l c8)→PT.get (posOf 9) t = some (.ptr B9 0)→Z0s (c.map CV.kids) V mk' →
   Ctx s0 W ((B9,C [.slice pn 0 n (.lim n)]) :: (pn,C (encs (rcs c V))) :: (Bf,C (ints f)) :: (Bo,C (ints th)) :: (B3,C [.slice Bn 0 l c3,rt]) :: (Bn,C (Z0h L VL)) :: (mrL ++ (mk' ++ base))) s' →
   wp Tryz.prog Zmx fr t s' Q):wp Tryz.prog Zu8 fr t0 s Q:=by
 refine AM.wp_seq ?_
 refine Z00 ?_
 simp [t3,hc.c 4 rfl]
 refine AM.wp_block ?_
 refine AM.wp_loop (fun m t s' => ∃ (i:Nat) (c:List CV) (f:List Int) (V:List AVal) (mk':Lets),i ≤ l∧m = l - i∧PT.get (posOf 0) t = PT.get (posOf 0) t0∧PT.get (posOf 3) t = some (.ptr B3 0)∧PT.get (posOf 7) t = some (.slice Bo 0 l c7)∧PT.get (posOf 8) t = some (.slice Bf 0 l c8)∧PT.get (posOf 9) t = some (.ptr B9 0) ∧
   PT.get (posOf 48) t = some (.slice Bn 0 l c3)∧PT.get (posOf 49) t = some (.int .i64 l)∧PT.get (posOf 50) t = some (.int .i64 i)∧Z3j L th cs i = some (c,f)∧AllI L th cs c V f i∧Z0s (c.map CV.kids) V mk' ∧
   Ctx s0 W ((B9,C [.slice pn 0 n (.lim n)]) :: (pn,C (encs (rcs c V))) :: (Bf,C (ints f)) :: (Bo,C (ints th)) :: (B3,C [.slice Bn 0 l c3,rt]) :: (Bn,C (Z0h L VL)) :: (mrL ++ (mk' ++ base))) s') l
   ⟨0,cs,th,V0,mk,by simp,by simp,by simp,by simp [t3],by simp [t7],by simp [t8],by simp [t9],by simp,by simp,by simp,rfl,AllI.zero (by omega),hR,hc⟩ ?_
 rintro m t s' ⟨i,c,f,V,mk',hi,rfl,e0,u3,u7,u8,u9,u48,u49,u50,hA,hI,hR',hc'⟩
 refine Z00 ?_
 simp [u49,u50]
 refine AM.wp_seq ?_
 refine AM.Z04 ?_
 by_cases hlt:i < l
 ·have hwr:IntKind.wrap .i64 ((i:Int) + 1) = ((i + 1:Nat):Int):=by rw [IntWalk.i64_in _ (by omega)]; omega
  obtain ⟨nd,hnd⟩:∃ nd,L[i]? = some nd:=⟨_,List.getElem?_eq_getElem (by omega)⟩
  obtain ⟨x,hx⟩:∃ x,th[i]? = some x:=⟨_,List.getElem?_eq_getElem (by omega)⟩
  have hgx:(ints th)[i]? = some (.int .i64 x):=by rw [List.getElem?_map,hx]; rfl
  have hbn:s'.cells Bn = some (Z0h L VL):=hc'.c 5 rfl
  obtain ⟨kv,hsg,hsl,hkv⟩:=Zr3 hVL hnd
  have hkt:∀ t,¬ kv = .tup t:=by
   rintro t rfl
   rcases hkv with ⟨_,h2⟩ | ⟨q,c,_,h2,_⟩
   ·cases h2
   ·cases h2
  have hkc:kv.cells = [kv]:=by
   rcases hkv with ⟨_,h2⟩ | ⟨q,c,_,h2,_⟩
   ·cases kv <;> first | rfl | cases h2
   ·rw [h2]; rfl
  have hmin:min 2 ((Z0h L VL).length - i * 2) = 2:=by omega
  have hV:V.length = c.length:=by have:=hR'.len; simpa using this
  have hcn:c.length = n:=hI.len.trans hn
  simp [hlt]
  refine AM.wp_skip ?_
  simp
  refine AM.wp_seq ?_
  refine AM.wp_block ?_
  refine Z00 ?_
  simp [u48,u50,hlt,hbn,hsl,hmin,hsg]
  have e1:=(hc'.alloc (C [.str [],.nilSlice])).put 0 rfl (C [.str nd.1,kv])
  simp only [List.set_cons_zero] at e1
  generalize (s'.alloc (.cells [.str [],.nilSlice] false)).put s'.next (.cells [.str nd.1,kv] false) = s4 at e1 ⊢
  generalize s'.next = B11 at e1 ⊢
  have hbo4:s4.cells Bo = some (ints th):=e1.c 4 rfl
  refine AM.wp_seq ?_
  refine Z00 ?_
  simp [u7,hlt,hbo4,hgx]
  refine AM.Z04 ?_
  by_cases hx0:x < 0
  ·have hxd:¬ 0 ≤ (th[i]?).getD 0:=by rw [hx]; show ¬ 0 ≤ x; omega
   simp [hx0]
   refine AM.wp_skip ?_
   simp
   refine Z00 ?_
   simp [u9,e1.c 1 rfl]
   refine Z02 ?_
   have hl2:=Z1c hV
   rw [hcn] at hl2
   refine Zqr (e1.oi 2 rfl) (e1.c 2 rfl) hl2 hn4 fun s5 k5 => ?_
   have e2:=e1.keeps k5
   rw [Znd hV]
   simp
   refine AM.wp_seq ?_
   refine Z00 ?_
   simp
   refine AM.Z04 ?_
   rcases Zaa c with hfr | ⟨a,d,hfr,had,hdt⟩
   ·rw [hfr]
    simp
    refine Z00 ?_
    simp
    refine AM.wp_ret ?_
    simp
    refine qf _ s5 ((B11,C [.str nd.1,kv]) :: (B9,C [.slice pn 0 n (.lim n)]) :: (pn,C (encs (rcs c V))) :: (Bf,C (ints f)) :: (Bo,C (ints th)) :: (B3,C [.slice Bn 0 l c3,rt]) :: (Bn,C (Z0h L VL)) :: (mrL ++ mk')) ?_ (by simp) (by simp) (by simpa using e2)
    refine Zrq (i:=i + 1) ?_ _ (by omega)
    rw [Z3j,hA]
    simp only
    rw [if_neg hxd,if_pos (by omega)]
   ·have hal:a < c.length:=(List.getElem?_eq_some_iff.1 had).1
    rw [hfr]
    have ha0:¬ (a:Int) < 0:=by omega
    simp [ha0]
    refine AM.wp_skip ?_
    simp
    have han:(a:Int) < n:=by omega
    have hrg:a < (rcs c V).length:=by rw [hl2]; omega
    have hlay:=Zc3 (rcs c V) a ⟨true,nd.1,.nilSlice,0⟩ hrg
    have hrs:(rcs c V).set a ⟨true,nd.1,.nilSlice,0⟩ = rcs (c.set a ⟨true,nd.1,[],0⟩) (V.set a .nilSlice):=Z84 (d:=⟨true,nd.1,[],0⟩)
    rw [hrs] at hlay
    have hle:a * 4 + 4 ≤ (encs (rcs c V)).length:=by rw [Z2j,hl2]; omega
    simp [lay,RC.enc] at hlay
    have hpn:s5.own pn = some (encs (rcs c V)):=e2.o 2 rfl
    refine Z00 ?_
    simp [u9,e2.c 0 rfl,e2.c 1 rfl,han,hpn,hle]
    rw [hlay]
    have e3:=e2.put 2 rfl (C (encs (rcs (c.set a ⟨true,nd.1,[],0⟩) (V.set a .nilSlice))))
    simp only [List.set_cons_zero,List.set_cons_succ] at e3
    generalize s5.put pn (.cells (encs (rcs (c.set a ⟨true,nd.1,[],0⟩) (V.set a .nilSlice))) false) = s6 at e3 ⊢
    have hfl:f.length = l:=hI.flen.trans hl
    have hbf:s6.own Bf = some (ints f):=e3.o 3 rfl
    have hlf:i + 1 ≤ (ints f).length:=by simp [hfl]; omega
    have hlay2:lay (ints f) i [.int .i64 a] = ints (f.set i a):=Z5z f i a (by omega)
    generalize hY:ints (f.set i a) = Y at hlay2
    generalize hX:ints f = X at hbf hlf hlay2
    simp [lay] at hlay2
    refine AM.wp_region ?_
    simp [u8,hlt,hbf,hlf]
    rw [hlay2]
    have e4:=e3.put 3 rfl (C Y)
    simp only [List.set_cons_zero,List.set_cons_succ] at e4
    generalize s6.put Bf (.cells Y false) = s7 at e4 ⊢
    rw [← hY] at e4
    obtain ⟨kv3,m1,m2,f1,f2,f3,f4⟩:=hR'.at (i:=a) (ks:=d.kids) (by rw [List.getElem?_map,had]; rfl)
    have hR2:=f4 [] .nilSlice [] (.inl ⟨rfl,rfl,rfl⟩)
    have hmp:(c.map CV.kids).set a [] = (c.set a ⟨true,nd.1,[],0⟩).map CV.kids:=by rw [List.map_set]
    rw [hmp] at hR2
    refine AM.wp_region ?_
    simp [u50,hwr]
    refine ⟨l - (i + 1),by omega,i + 1,by omega,by omega,by simpa using e0,by simp [u3],by simp [u7],by simp [u8],by simp [u9],by simp [u48],by simp [u49],by simp,c.set a ⟨true,nd.1,[],0⟩,f.set i a,?_,V.set a .nilSlice,hI.next (by rw [hV]; exact hI.len) (by omega) had hdt,[] ++ m2,hR2,?_⟩
    ·rw [Z3j,hA]
     simp only
     rw [if_neg hxd,hfr,if_neg (by omega),hnd]
     rfl
    ·refine (e4.tail.perm (m':=((B9,C [.slice pn 0 n (.lim n)]) :: (pn,C (encs (rcs (c.set a ⟨true,nd.1,[],0⟩) (V.set a .nilSlice)))) :: (Bf,C (ints (f.set i a))) :: (Bo,C (ints th)) :: (B3,C [.slice Bn 0 l c3,rt]) :: (Bn,C (Z0h L VL)) :: (mrL ++ (([] ++ m2) ++ base))) ++ m1) (Z0n fun y => ?_)).sub (List.sublist_append_left _ _)
     have i3:=Z3d f3 y
     simp only [Z0j,Z0i,Z0z] at i3 ⊢
     omega
  ·have hxd:0 ≤ (th[i]?).getD 0:=by rw [hx]; show 0 ≤ x; omega
   simp [hx0]
   refine AM.wp_exit ?_
   simp
   refine AM.wp_region ?_
   simp [u50,hwr]
   refine ⟨l - (i + 1),by omega,i + 1,by omega,by omega,by simpa using e0,by simp [u3],by simp [u7],by simp [u8],by simp [u9],by simp [u48],by simp [u49],by simp,c,f,?_,V,hI.skip hxd,mk',hR',e1.tail⟩
   rw [Z3j,hA]
   simp only
   rw [if_pos hxd]
 ·simp [hlt]
  refine AM.wp_exit ?_
  simp
  have hie:i = l:=by omega
  subst hie
  exact q _ s' c f V mk' hA hI (by simpa using e0) (by simp [u3]) (by simp [u7]) (by simp [u8]) (by simp [u9]) hR' hc'
end
theorem kid_one {s0 s s':St} {W:Pos→Prop} {m:Lets} {kv:AVal} {ks:List Int} (hc:Ctx s0 W m s) (k:Keeps s s') (hne:ks ≠ []) (h:KidV s' kv ks) (hf:∀ q c,kv = .slice q 0 ks.length c→¬ s.Old q∧s'.Old q):∃ q c,kv = .slice q 0 ks.length c∧Ctx s0 W ((q,C (ints ks)) :: m) s':=by
 rcases h with ⟨_,h⟩ | ⟨q,c,rfl,h⟩
 ·exact (hne h).elim
 ·exact ⟨q,c,rfl,hc.made k (hf q c rfl).1 (St.Z2b h)⟩
theorem put_c {s0 s:St} {W:Pos→Prop} {hb:Pos} {vs:AVal} {cs:List CV} {m r:Lets} {nv:AVal} {ns:List ND} {root:Int} {Q:AVal→St→Prop} (hH:Z26 hb vs cs m) (h:Ctx s0 W (m ++ r) s) (hO:HOk cs) (hN:Z78 s nv ns) (hsm:Zge ns) (hmax:ns.length ≤ 2 ^ 62)
  (q:∀ m' s',Z26 hb vs (putF cs ns root).2.2 m'→Ctx s0 W (m' ++ r) s'→Q (.tup [.int .i64 (putF cs ns root).1,.int .i64 (putF cs ns root).2.1]) s'):Z0c Tryz.prog 21 [.ptr hb 0,.agg [nv,.int .i64 root]] s Q:=by
 obtain ⟨p,V,mr,hc,hR,hV,h1,h4,hP⟩:=Z9g hH h
 have hNt:=hN.at.ntup
 have hNc:=hN.at.Zd0
 have hno:cs.length ≠ 0:=by omega
 have d0:=Ctx.start (fun _ => False) hc.wf
 refine Z08 (Z0d (by decide)) fi21 rfl (by decide) rfl ?_
 refine Z00 ?_
 simp [hNt,hNc]
 have d1:=d0.alloc (C [nv,.int .i64 root])
 generalize s.alloc (.cells [nv,.int .i64 root] false) = s1 at d1 ⊢
 generalize s.next = B3 at d1 ⊢
 refine AM.wp_seq ?_
 refine Z00 ?_
 simp
 refine Z02 ?_
 refine Z5j ((d1.Z0m.cells (hc.oi 0 rfl)).trans (hc.c 0 rfl)) rfl hno ?_
 simp
 refine AM.Z04 ?_
 simp
 refine AM.wp_skip ?_
 simp
 refine Z00 ?_
 simp [d1.c 0 rfl]
 refine Z02 ?_
 unfold putF at q
 refine Zx4 d1.wf (hN.keep d1.Z0m) hsm hmax (fun s2 k2 hz => ?_) fun Bn mn s2 hz hM hx => ?_
 ·rw [if_pos hz] at q
  have d2:=d1.keeps k2
  simp [d2.o 0 rfl]
  have d3:=d2.put 0 rfl (C [.nilSlice,.int .i64 0])
  simp only [List.set_cons_zero] at d3
  generalize s2.put B3 (.cells [.nilSlice,.int .i64 0] false) = s3 at d3 ⊢
  refine AM.wp_seq ?_
  refine Z00 ?_
  simp
  refine AM.Z04 ?_
  simp [hz]
  refine Z00 ?_
  simp
  refine AM.wp_ret ?_
  simp
  exact q m s3 hH (h.keeps d3.Z0m)
 ·rw [if_neg (by simpa using hz)] at q
  obtain ⟨o1,o2,hGO,hnm,r0,r1⟩:=Zf7 hz
  obtain ⟨hGL,hL1,hL2⟩:=Zle (r:=root.toNat) hGO (by omega)
  generalize hLG:Z1q ns root.toNat = L at hM hGL hL1 hL2 q
  have d3:Ctx s (fun _ => False) (mn ++ [(B3,C [nv,.int .i64 root])]) s2:=Ctx.on (m:=[]) (by simpa using d1) (by simpa using hx)
  obtain ⟨VL,mrL,hp1,hVL⟩:=id hM
  have d4:=d3.perm (m':=(B3,C [nv,.int .i64 root]) :: (Bn,C (Z0h L VL)) :: mrL) (Z0n fun x => by
   have i1:=Z3d hp1 x
   simp only [Z0j,Z0i,Z0z] at i1 ⊢
   omega)
  simp [d4.o 0 rfl]
  have d5:=d4.put 0 rfl (C [.slice Bn 0 L.length (.lim L.length),.int .i64 0])
  simp only [List.set_cons_zero] at d5
  generalize s2.put B3 (.cells [.slice Bn 0 L.length (.lim L.length),.int .i64 0] false) = s4 at d5 ⊢
  have hMA:=hM.at (.lim L.length) (d5.tail.perm hp1.symm)
  have hb4:s4.cells hb = some [.slice p 0 cs.length (.lim cs.length),vs]:=(d5.Z0m.cells (hc.oi 0 rfl)).trans (hc.c 0 rfl)
  have c4:=hc.keeps d5.Z0m
  refine AM.wp_seq ?_
  refine Z00 ?_
  simp
  refine AM.Z04 ?_
  simp
  refine AM.wp_skip ?_
  simp
  refine Z00 ?_
  simp [hb4,d5.c 0 rfl]
  refine Z02 ?_
  have hobs:∀ j c,(rcs cs V)[j]? = some c→Z0e s4 c.kv (Z0o cs j):=by
   intro j c hj
   obtain ⟨_,_,r3⟩:=Z9h (p:=p) (cs:=cs) (V:=V) c4 (by simp) hR (fun y hy => by simp [hy])
   have hjl:j < cs.length:=by have:=(List.getElem?_eq_some_iff.1 hj).1; rwa [Z1c hV] at this
   obtain ⟨kv,e1,e2⟩:=r3 j _ (List.getElem?_eq_getElem hjl)
   rw [Z1k (List.getElem?_eq_getElem hjl) e1] at hj
   cases hj
   rw [Z1d (List.getElem?_eq_getElem hjl)]
   exact e2
  refine Zwx (V:=V) d5.wf (c4.oi 1 rfl) (c4.c 1 rfl) hV h1 h4 hobs hO hMA hGL hL1 (by omega) fun Bo s5 k5 hBo hox => ?_
  have hfl:=Zj9 cs L
  generalize Z24 cs L = th at hox hfl q
  obtain ⟨x,hx0⟩:∃ x,th[0]? = some x:=⟨_,List.getElem?_eq_getElem (by omega)⟩
  have d6:=d5.made k5 hBo (St.Z2b hox)
  have hg0:(ints th)[0]? = some (.int .i64 x):=by rw [List.getElem?_map,hx0]; rfl
  have hL1':0 < L.length:=by omega
  have hcBo:s5.cells Bo = some (ints th):=Z0a hox
  simp
  refine AM.wp_seq ?_
  refine Z00 ?_
  simp [hL1',hcBo,hg0]
  refine AM.Z04 ?_
  rw [hx0] at q
  simp only [Option.getD_some] at q
  by_cases hx1:x < 0
  ·rw [if_neg (by omega)] at q
   simp [hx1]
   refine AM.wp_skip ?_
   simp
   refine Z00 ?_
   simp
   refine Z02 ?_
   have hti:Z0e s5 (.slice Bo 0 L.length (.lim L.length)) th:=by
    have:=Z60 d6.wf hox (.lim L.length)
    rwa [hfl] at this
   refine Zhq d6.wf hti (by omega) fun kvf s6 k6 hkf hff => ?_
   obtain ⟨Bf,cf,rfl,d7⟩:=kid_one d6 k6 (by intro e; rw [e] at hfl; simp at hfl; omega) hkf hff
   rw [hfl]
   simp
   have c7:Ctx s0 W ((Bf,C (ints th)) :: (Bo,C (ints th)) :: (B3,C [.slice Bn 0 L.length (.lim L.length),.int .i64 0]) :: (Bn,C (Z0h L VL)) :: (hb,C [.slice p 0 cs.length (.lim cs.length),vs]) :: (p,C (encs (rcs cs V))) :: (mrL ++ (mr ++ r))) s6:=by
    have:=Ctx.on (s0:=s0) (W:=W) (m:=[]) (m':=(Bf,C (ints th)) :: (Bo,C (ints th)) :: (B3,C [.slice Bn 0 L.length (.lim L.length),.int .i64 0]) :: (Bn,C (Z0h L VL)) :: mrL) (r:=(hb,C [.slice p 0 cs.length (.lim cs.length),vs]) :: (p,C (encs (rcs cs V))) :: (mr ++ r)) (by simpa using hc) (by simpa using d7)
    refine this.perm (Z0n fun y => ?_)
    simp only [Z0j,Z0i,Z0z]
    omega
   refine Z00 ?_
   simp [c7.c 4 rfl]
   refine Z02 ?_
   refine Zt5 (p:=p) (V:=V) (mr:=mr) c7 hV h1 h4 (fun x hx => by have:=hO.kids4 x hx; omega) (by simp) hR (fun x hx => by simp [hx]) fun pn mn s7 hS c8 => ?_
   obtain ⟨V1,mk1,f1,f2⟩:=hS
   simp
   have c9:=(c8.alloc (C [.nilSlice])).put 0 rfl (C [.slice pn 0 cs.length (.lim cs.length)])
   simp only [List.set_cons_zero] at c9
   generalize (s7.alloc (.cells [.nilSlice] false)).put s7.next (.cells [.slice pn 0 cs.length (.lim cs.length)] false) = s8 at c9 ⊢
   generalize s7.next = B9 at c9 ⊢
   have c10:=c9.perm (m':=(B9,C [.slice pn 0 cs.length (.lim cs.length)]) :: (pn,C (encs (rcs cs V1))) :: (Bf,C (ints th)) :: (Bo,C (ints th)) :: (B3,C [.slice Bn 0 L.length (.lim L.length),.int .i64 0]) :: (Bn,C (Z0h L VL)) :: (mrL ++ (mk1 ++ ((hb,C [.slice p 0 cs.length (.lim cs.length),vs]) :: (p,C (encs (rcs cs V))) :: (mr ++ r))))) (Z0n fun y => by
    have i1:=Z3d f1 y
    simp only [Z0j,Z0i,Z0z] at i1 ⊢
    omega)
   refine Zxq (l:=L.length) (n:=cs.length) (c7:=.lim L.length) (c8:=cf) rfl (by omega) rfl h4 hVL hfl f2 (by simp) (by simp) (by simp) (by simp) c10 (fun t s' m' hal t4 t5 e1 => ?_) fun t1 s9 c f V2 mk2 hal hI t0 t3 t7 t8 t9 hR2 c11 => ?_
   ·rw [hal] at q
    simp [t4,t5]
    refine q m s' hH ((e1.sub (List.sublist_append_right _ _)).perm ?_)
    refine Z0n fun y => ?_
    have i1:=Z3d hP y
    simp only [Z0j,Z0i,Z0z] at i1 ⊢
    omega
   ·rw [hal] at q
    simp only at q
    refine Zxr (l:=L.length) (n:=cs.length) rfl (by omega) hI.len hGL hVL hfl (hI.flen) hI.fil hR2 t3 t7 t8 t9 c11 fun t2 s10 V3 mk3 v0 v8 v9 hR3 c12 => ?_
    have v0:PT.get (posOf 0) t2 = some (.ptr hb 0):=v0.trans (t0.trans (by simp))
    have hcl:(Z27 L th f c L.length).length = cs.length:=(Z8v L th f c L.length).trans hI.len
    generalize Z27 L th f c L.length = cE at hR3 c12 q hcl
    have c13:=c12.perm (m':=(B9,C [.slice pn 0 cs.length (.lim cs.length)]) :: (hb,C [.slice p 0 cs.length (.lim cs.length),vs]) :: (Bf,C (ints f)) :: (pn,C (encs (rcs cE V3))) :: ((mk3 ++ r) ++ ((Bo,C (ints th)) :: (B3,C [.slice Bn 0 L.length (.lim L.length),.int .i64 0]) :: (Bn,C (Z0h L VL)) :: (p,C (encs (rcs cs V))) :: (mrL ++ mr)))) (Z0n fun y => by
     simp only [Z0j,Z0i,Z0z]
     omega)
    obtain ⟨y,hy⟩:∃ y,f[0]? = some y:=⟨_,List.getElem?_eq_getElem (by have:=hI.flen; omega)⟩
    rw [hy] at q
    simp only [Option.getD_some] at q
    have hgy:(ints f)[0]? = some (.int .i64 y):=by rw [List.getElem?_map,hy]; rfl
    refine Z00 ?_
    simp [v0,v9,c13.c 0 rfl,c13.o 1 rfl]
    have c14:=c13.put 1 rfl (C [.slice pn 0 cs.length (.lim cs.length),vs])
    simp only [List.set_cons_zero,List.set_cons_succ] at c14
    generalize s10.put hb (.cells [.slice pn 0 cs.length (.lim cs.length),vs] false) = s11 at c14 ⊢
    have hBf:s11.cells Bf = some (ints f):=c14.c 2 rfl
    refine Z00 ?_
    simp [v8,hBf,hgy,hL1']
    refine AM.wp_ret ?_
    simp
    refine q ((hb,C [.slice pn 0 cs.length (.lim cs.length),vs]) :: (pn,C (encs (rcs cE V3))) :: mk3) s11 ⟨pn,V3,mk3,by rw [hcl],hR3,by omega,by omega⟩ ?_
    refine (c14.perm (m':=(((hb,C [.slice pn 0 cs.length (.lim cs.length),vs]) :: (pn,C (encs (rcs cE V3))) :: mk3) ++ r) ++ ((B9,C [.slice pn 0 cs.length (.lim cs.length)]) :: (Bf,C (ints f)) :: (Bo,C (ints th)) :: (B3,C [.slice Bn 0 L.length (.lim L.length),.int .i64 0]) :: (Bn,C (Z0h L VL)) :: (p,C (encs (rcs cs V))) :: (mrL ++ mr))) (Z0n fun y => ?_)).sub (List.sublist_append_left _ _)
    simp only [Z0j,Z0i,Z0z]
    omega
  ·rw [if_pos (by omega)] at q
   simp [hx1]
   refine Z00 ?_
   simp [hL1',hcBo,hg0]
   refine AM.wp_ret ?_
   simp
   exact q m s5 hH (h.keeps d6.Z0m)
def Zjp (nd:ND):Prop:=nd.1.length ≤ 40∧nd.2.length ≤ 12
theorem Zwn {s:St} {nm:List UInt8} {kv:AVal} {n:Nat} {Q:AVal→St→Prop} (hk:Z18 kv = some n) (q:∀ b s',Keeps s s'→(b = false→nm.length ≤ 40∧n ≤ 12)→Q (.bool b) s'):Z0c Tryz.prog 99 [.agg [.str nm,kv]] s Q:=by
 refine Z08 (Z0d (by decide)) fi99 rfl (by decide) rfl ?_
 refine Z00 ?_
 simp
 refine Z00 ?_
 by_cases hc:(12:Int) < n
 ·simp [hk,hc]
  refine AM.wp_ret ?_
  simp
  exact q _ _ (Keeps.alloc _ _) (fun h => by cases h)
 ·simp [hk,hc]
  refine AM.wp_ret ?_
  simp
  refine q _ _ (Keeps.alloc _ _) (fun h => ?_)
  simp at h
  omega
theorem Zu3 {s:St} {v:AVal} {ns:List ND} {Q:AVal→St→Prop} (hw:s.Wf) (hm:ns.length ≤ 2 ^ 63 - 1) (hn:Z1v s v ns) (q:∀ (i:Int) s',Keeps s s'→(i < 0→∀ nd ∈ ns,Zjp nd)→Q (.int .i64 i) s'):Z0c Tryz.prog 128 [v,.fn 99 [] []] s Q:=by
 have hvn:=hn.ntup
 refine Z08 (Z0d (by decide)) fi128 rfl (by decide) rfl ?_
 refine Z00 ?_
 simp
 refine AM.wp_seq ?_
 refine Z00 ?_
 simp [hn.len]
 refine AM.wp_block ?_
 refine AM.wp_loop (fun n t s' => ∃ i:Nat,i ≤ ns.length∧n = ns.length - i∧PT.get (posOf 0) t = some v∧PT.get (posOf 1) t = some (.fn 99 [] [])∧PT.get (posOf 7) t = some (.int .i64 ns.length)∧PT.get (posOf 8) t = some (.int .i64 i)∧(∀ (j:Nat) nd,j < i→ns[j]? = some nd→Zjp nd)∧Keeps s s') ns.length
  ⟨0,by simp,by simp,by simp,by simp,by simp,by simp,(fun j nd h => by omega),Keeps.refl _⟩ ?_
 rintro n t s' ⟨i,hi,rfl,h0,h1,h7,h8,hS,hk⟩
 refine Z00 ?_
 simp [h7,h8]
 refine AM.wp_seq ?_
 refine AM.Z04 ?_
 by_cases hlt:i < ns.length
 ·simp [hlt]
  refine AM.wp_skip ?_
  simp
  obtain ⟨nd,hnd⟩:∃ nd,ns[i]? = some nd:=⟨_,List.getElem?_eq_getElem hlt⟩
  rcases hn.keep hk with ⟨_,rfl⟩ | ⟨p,o,c,cs,rfl,hp,hcs,hlen,hel⟩
  ·cases hnd
  obtain ⟨g1,kv,g2,g3⟩:=hel i nd hnd
  obtain ⟨htk,_⟩:=seg2 g1 g2
  have hwr:IntKind.wrap .i64 ((i:Int) + 1) = ((i + 1:Nat):Int):=by rw [IntWalk.i64_in _ (by omega)]; omega
  refine AM.wp_seq ?_
  refine AM.wp_block ?_
  refine Z00 ?_
  simp [h8]
  refine Z00 ?_
  simp [h0,h1,hlt,hcs,htk,show o + i * 2 + 2 ≤ cs.length by omega]
  refine Z02 ?_
  refine Zwn g3.len fun b s2 hk2 hb => ?_
  simp
  refine AM.Z04 ?_
  cases b with
  | true =>
   simp
   refine Z00 ?_
   simp
   refine AM.wp_ret ?_
   simp
   exact q _ _ (hk.trans hk2) (fun h => by omega)
  | false =>
   simp
   refine AM.wp_skip ?_
   simp
   refine AM.wp_region ?_
   simp [h8,hwr]
   refine ⟨ns.length - (i + 1),by omega,i + 1,by omega,by omega,h0,h1,h7,by simp,?_,hk.trans hk2⟩
   intro j x y hj hd
   by_cases hji:j = i
   ·subst hji
    rw [hnd] at hd
    cases hd
    exact hb rfl
   ·exact hS j (x,y) (by omega) hd
 ·simp [hlt]
  refine AM.wp_exit ?_
  simp
  refine Z00 ?_
  simp
  refine AM.wp_ret ?_
  simp
  refine q _ _ hk fun _ nd hnd => ?_
  obtain ⟨j,hj⟩:=List.getElem?_of_mem hnd
  exact hS j nd (by have:=(List.getElem?_eq_some_iff.1 hj).1; omega) hj
theorem Zmr {s:St} {v:AVal} {ns:List ND} {Q:AVal→St→Prop} (hw:s.Wf) (hm:ns.length ≤ 2 ^ 63 - 1) (hn:Z1v s v ns) (q:∀ b s',Keeps s s'→(b = false→∀ nd ∈ ns,Zjp nd)→Q (.bool b) s'):Z0c Tryz.prog 98 [v,.fn 99 [] []] s Q:=by
 have hvn:=hn.ntup
 refine Z08 (Z0d (by decide)) fi98 rfl (by decide) rfl ?_
 refine Z00 ?_
 simp
 refine Z00 ?_
 simp
 refine Z02 ?_
 refine Zu3 hw hm hn fun i s' hk hS => ?_
 simp
 refine AM.wp_ret ?_
 simp
 exact q _ _ hk (fun h => hS (by simpa using h))
def Zgz (ns:List ND):Prop:=ns.length ≤ 68∧∀ nd ∈ ns,Zjp nd
theorem Zu0 {s:St} {v:AVal} {ns:List ND} {r:Int} {Q:AVal→St→Prop} (hw:s.Wf) (hm:ns.length ≤ 2 ^ 63 - 1) (hn:Z1v s v ns) (q:∀ b s',Keeps s s'→(b = false→Zgz ns)→Q (.bool b) s'):Z0c Tryz.prog 37 [.agg [v,.int .i64 r]] s Q:=by
 have hvn:=hn.ntup
 refine Z08 (Z0d (by decide)) fi37 rfl (by decide) rfl ?_
 refine Z00 ?_
 simp
 refine Z00 ?_
 by_cases hc:(68:Int) < ns.length
 ·simp [hn.len,hc]
  refine AM.wp_ret ?_
  simp
  exact q _ _ (Keeps.alloc _ _) (fun h => by cases h)
 ·simp [hn.len,hc]
  refine Z02 ?_
  refine Zmr (Zij _ hw) hm (hn.keep (Keeps.alloc _ _)) fun b s' hk hS => ?_
  simp [hc]
  refine AM.wp_ret ?_
  simp
  exact q _ _ ((Keeps.alloc _ _).trans hk) (fun h => ⟨by omega,hS h⟩)
structure OpV where
 k:Int
 nm:List UInt8
 n:Nat
 a:Int
 b:Int
 c:Int
 ns:List ND
 r:Int
def OpAt (s:St) (l:List AVal) (o:OpV):Prop:=∃ kids nodes,l = [.int .i64 o.k,.str o.nm,kids,.int .i64 o.a,.int .i64 o.b,.int .i64 o.c,nodes,.int .i64 o.r]∧Z18 kids = some o.n∧Z78 s nodes o.ns∧o.ns.length ≤ 2 ^ 63 - 1
theorem OpAt.keep {s s':St} {l:List AVal} {o:OpV} (h:OpAt s l o) (k:Keeps s s'):OpAt s' l o:=by
 obtain ⟨kids,nodes,h1,h2,h3,h4⟩:=h
 exact ⟨kids,nodes,h1,h2,h3.keep k,h4⟩
theorem Zya {s:St} {l:List AVal} {o:OpV} {Q:AVal→St→Prop} (hw:s.Wf) (ho:OpAt s l o) (q:∀ b s',Keeps s s'→(b = false→Zgz o.ns)→Q (.bool b) s'):Z0c Tryz.prog 9 [.agg l] s Q:=by
 obtain ⟨kids,nodes,rfl,hn,hno,hm⟩:=ho
 have hnk:∀ t,¬ kids = .tup t:=by
  rintro t rfl
  cases hn
 have hnn:=hno.at.ntup
 refine Z08 (Z0d (by decide)) fi9 rfl (by decide) rfl ?_
 refine Z00 ?_
 simp
 refine Z00 ?_
 by_cases hc:(40:Int) < o.nm.length
 ·simp [hn,hc]
  refine AM.wp_ret ?_
  simp
  exact q _ _ (Keeps.alloc _ _) (fun h => by cases h)
 ·by_cases hd:(9:Int) < o.n
  ·simp [hn,hc,hd]
   refine AM.wp_ret ?_
   simp
   exact q _ _ (Keeps.alloc _ _) (fun h => by cases h)
  ·simp [hn,hc,hd]
   refine Z02 ?_
   refine Zu0 (Zij _ hw) hm (hno.at.keep (Keeps.alloc _ _)) fun b s' hk hS => ?_
   simp [hc,hd]
   refine AM.wp_ret ?_
   simp
   exact q _ _ ((Keeps.alloc _ _).trans hk) hS
def Z8g (s:St) (v:AVal) (os:List OpV):Prop:=(Z18 v = some 0∧os = []) ∨
 ∃ b c cs,v = .slice b 0 os.length c∧s.Old b∧s.cells b = some cs∧os.length * 8 ≤ cs.length∧∀ (i:Nat) o,os[i]? = some o→OpAt s ((cs.drop (i * 8)).take 8) o
theorem Z8g.keep {s s':St} {v:AVal} {os:List OpV} (h:Z8g s v os) (k:Keeps s s'):Z8g s' v os:=by
 rcases h with h | ⟨b,c,cs,h1,h2,h3,h4,h5⟩
 ·exact .inl h
 ·exact .inr ⟨b,c,cs,h1,k.old h2,(k.cells h2).trans h3,h4,fun i o hi => (h5 i o hi).keep k⟩
theorem Z8g.len {s:St} {v:AVal} {os:List OpV} (h:Z8g s v os):Z18 v = some os.length:=by
 rcases h with ⟨h1,rfl⟩ | ⟨b,c,cs,rfl,_⟩
 ·exact h1
 ·rfl
theorem Z8g.ntup {s:St} {v:AVal} {os:List OpV} (h:Z8g s v os):∀ t,¬ v = .tup t:=by
 rintro t rfl
 have:=h.len
 cases this
theorem Zvn {s:St} {v:AVal} {os:List OpV} {Q:AVal→St→Prop} (hw:s.Wf) (hm:os.length ≤ 12) (hn:Z8g s v os) (q:∀ (i:Int) s',Keeps s s'→(i < 0→∀ o ∈ os,Zgz o.ns)→Q (.int .i64 i) s'):Z0c Tryz.prog 36 [v,.fn 9 [] []] s Q:=by
 have hvn:=hn.ntup
 refine Z08 (Z0d (by decide)) fi36 rfl (by decide) rfl ?_
 refine Z00 ?_
 simp
 refine AM.wp_seq ?_
 refine Z00 ?_
 simp [hn.len]
 refine AM.wp_block ?_
 refine AM.wp_loop (fun n t s' => ∃ i:Nat,i ≤ os.length∧n = os.length - i∧PT.get (posOf 0) t = some v∧PT.get (posOf 1) t = some (.fn 9 [] [])∧PT.get (posOf 7) t = some (.int .i64 os.length)∧PT.get (posOf 8) t = some (.int .i64 i)∧(∀ (j:Nat) nd,j < i→os[j]? = some nd→Zgz nd.ns)∧Keeps s s') os.length
  ⟨0,by simp,by simp,by simp,by simp,by simp,by simp,(fun j nd h => by omega),Keeps.refl _⟩ ?_
 rintro n t s' ⟨i,hi,rfl,h0,h1,h7,h8,hS,hk⟩
 refine Z00 ?_
 simp [h7,h8]
 refine AM.wp_seq ?_
 refine AM.Z04 ?_
 by_cases hlt:i < os.length
 ·simp [hlt]
  refine AM.wp_skip ?_
  simp
  obtain ⟨nd,hnd⟩:∃ nd,os[i]? = some nd:=⟨_,List.getElem?_eq_getElem hlt⟩
  rcases hn.keep hk with ⟨_,rfl⟩ | ⟨p,c,cs,rfl,hp,hcs,hlen,hel⟩
  ·cases hnd
  have hop:=hel i nd hnd
  have hwr:IntKind.wrap .i64 ((i:Int) + 1) = ((i + 1:Nat):Int):=by rw [IntWalk.i64_in _ (by omega)]; omega
  refine AM.wp_seq ?_
  refine AM.wp_block ?_
  refine Z00 ?_
  simp [h8]
  refine Z00 ?_
  simp [h0,h1,hlt,hcs,show i * 8 + 8 ≤ cs.length by omega]
  refine Z02 ?_
  refine Zya (hk.wf hw) hop fun b s2 hk2 hb => ?_
  simp
  refine AM.Z04 ?_
  cases b with
  | true =>
   simp
   refine Z00 ?_
   simp
   refine AM.wp_ret ?_
   simp
   exact q _ _ (hk.trans hk2) (fun h => by omega)
  | false =>
   simp
   refine AM.wp_skip ?_
   simp
   refine AM.wp_region ?_
   simp [h8,hwr]
   refine ⟨os.length - (i + 1),by omega,i + 1,by omega,by omega,h0,h1,h7,by simp,?_,hk.trans hk2⟩
   intro j d hj hd
   by_cases hji:j = i
   ·subst hji
    rw [hnd] at hd
    cases hd
    exact hb rfl
   ·exact hS j d (by omega) hd
 ·simp [hlt]
  refine AM.wp_exit ?_
  simp
  refine Z00 ?_
  simp
  refine AM.wp_ret ?_
  simp
  refine q _ _ hk fun _ nd hnd => ?_
  obtain ⟨j,hj⟩:=List.getElem?_of_mem hnd
  exact hS j nd (by have:=(List.getElem?_eq_some_iff.1 hj).1; omega) hj
theorem Znu {s:St} {v:AVal} {os:List OpV} {Q:AVal→St→Prop} (hw:s.Wf) (hm:os.length ≤ 12) (hn:Z8g s v os) (q:∀ b s',Keeps s s'→(b = false→∀ o ∈ os,Zgz o.ns)→Q (.bool b) s'):Z0c Tryz.prog 8 [v,.fn 9 [] []] s Q:=by
 have hvn:=hn.ntup
 refine Z08 (Z0d (by decide)) fi8 rfl (by decide) rfl ?_
 refine Z00 ?_
 simp
 refine Z00 ?_
 simp
 refine Z02 ?_
 refine Zvn hw hm hn fun i s' hk hS => ?_
 simp
 refine AM.wp_ret ?_
 simp
 exact q _ _ hk (fun h => hS (by simpa using h))
theorem mod_wp {s:St} {k:Int} {Q:AVal→St→Prop} (q:∀ z:Int,Q (.int .i64 z) s):Z0c Tryz.prog 15 [.int .i64 k,.int .i64 7] s Q:=by
 refine Z08 (Z0d (by decide)) fi15 rfl (by decide) rfl ?_
 refine Z00 ?_
 simp
 refine AM.wp_seq ?_
 refine Z00 ?_
 simp
 refine AM.Z04 ?_
 simp
 refine AM.wp_skip ?_
 simp
 refine AM.wp_seq ?_
 refine Z00 ?_
 simp
 refine Z00 ?_
 simp
 refine AM.Z04 ?_
 by_cases hlt:Int.tmod k 7 < 0
 ·simp [hlt]
  refine AM.wp_region ?_
  simp
  refine Z00 ?_
  simp
  refine AM.wp_ret ?_
  simp
  exact q _
 ·simp [hlt]
  refine AM.wp_skip ?_
  simp
  refine Z00 ?_
  simp
  refine AM.wp_ret ?_
  simp
  exact q _
end Go.Proofs
end
