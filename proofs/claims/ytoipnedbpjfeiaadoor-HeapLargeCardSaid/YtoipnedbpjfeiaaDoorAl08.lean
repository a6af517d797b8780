/- Parts of the proof: Grw, PermC, Sav, MovP, Pck1, Mgd2, Lst, Fnd1, Fnd2, Fin, Lrg1, Tgt, Pck2, Lrg2. -/
import Derived.Test.YtoipnedbpjfeiaaDoorAl07
set_option linter.all false
set_option linter.unusedSectionVars false
set_option linter.unusedSimpArgs false
set_option linter.unusedVariables false
section
/- Rows of anything that grow. -/
open Go Go.AM
namespace Go.Proofs
set_option maxRecDepth 100000
def Z6u (es:Nat) (v:AVal) (k:Nat) (xs:List AVal) (m:Lets):Prop:=xs.length = k * es∧((k = 0∧v = .nilSlice∧m = []) ∨ ∃ q,k ≠ 0∧v = .slice q 0 k (.opn es)∧m = [(q,C xs)])
theorem Z6u.nil (es:Nat):Z6u es .nilSlice 0 [] []:=⟨by simp,.inl ⟨rfl,rfl,rfl⟩⟩
theorem Z6u.len {es k:Nat} {v:AVal} {xs:List AVal} {m:Lets} (h:Z6u es v k xs m):Z1b v = some k:=by
 rcases h with ⟨_,⟨rfl,rfl,_⟩ | ⟨q,_,rfl,_⟩⟩ <;> rfl
theorem Z6u.ntup {es k:Nat} {v:AVal} {xs:List AVal} {m:Lets} (h:Z6u es v k xs m):∀ t,¬ v = .tup t:=by
 rintro t rfl
 have:=h.len
 cases this
theorem Z6u.cells {es k:Nat} {v:AVal} {xs:List AVal} {m:Lets} (h:Z6u es v k xs m):v.cells = [v]:=by
 rcases h with ⟨_,⟨rfl,rfl,_⟩ | ⟨q,_,rfl,_⟩⟩ <;> rfl
theorem Ztv {s0 s:St} {W:Pos→Prop} {r pre mg:Lets} {es eb k:Nat} {v:AVal} {xs new:List AVal} {Q:AVal→St→Prop} (h:Ctx s0 W (pre ++ (mg ++ r)) s) (hg:Z6u es v k xs mg) (hn:new.length = es) (hs:(k + 1) * eb ≤ Z0h)
  (q:∀ v' mg' s',Z6u es v' (k + 1) (xs ++ new) mg'→Ctx s0 W (pre ++ (mg' ++ r)) s'→Q v' s'):appP (es,eb) v new 1 s Q:=by
 obtain ⟨hl,⟨rfl,rfl,rfl⟩ | ⟨b,hk,rfl,rfl⟩⟩:=hg
 ·have hx:xs = []:=List.length_eq_zero_iff.1 (by simpa using hl)
  subst hx
  simp only [appP,Z3t]
  rw [if_neg (by decide)]
  refine ⟨by simpa using hs,?_⟩
  have:=h.alloc (C new)
  refine q (.slice s.next 0 1 (.opn es)) [(s.next,C ([] ++ new))] _ ⟨by simp [hn],.inr ⟨_,by simp,rfl,rfl⟩⟩ (this.perm ?_)
  simp only [List.nil_append]
  exact List.perm_middle.symm
 ·have hb:s.own b = some xs:=Z0n (h.own (b,C xs) (by simp))
  have h1:Ctx s0 W ((b,C xs) :: (pre ++ r)) s:=h.perm (by simp)
  have h2:=(h1.put0 .dead).tail.alloc (C (xs ++ new))
  have hne:¬ 0 + (k + 1) * es ≤ xs.length ∨ es = 0:=by
   rcases Nat.eq_zero_or_pos es with e | e
   ·exact .inr e
   ·left
    rw [hl,Nat.zero_add,Nat.add_mul,Nat.one_mul]
    omega
  have ht:List.take (k * es) (List.drop 0 xs) = xs:=by rw [List.drop_zero]; exact List.take_of_length_le (by omega)
  have hnx:(s.put b .dead).next = s.next:=rfl
  simp only [appP,Z3t]
  rw [if_neg (by decide)]
  refine ⟨trivial,?_⟩
  rw [hb]
  simp only [Z0u]
  rw [if_neg hk]
  by_cases hes:es = 0
  ·subst hes
   have hx:xs = []:=List.length_eq_zero_iff.1 (by simpa using hl)
   have hnn:new = []:=List.length_eq_zero_iff.1 hn
   subst hx hnn
   rw [if_pos (by simp)]
   refine ⟨by simp,?_⟩
   have h3:=h1.put0 (C [])
   refine q _ [(b,C ([] ++ []))] _ ⟨by simp,.inr ⟨b,by simp,rfl,rfl⟩⟩ (h3.perm ?_)
   exact List.perm_middle.symm
  ·rw [if_neg (by rcases hne with h | h; exact h; exact (hes h).elim)]
   refine ⟨by omega,hs,?_⟩
   rw [ht]
   refine q (.slice s.next 0 (k + 1) (.opn es)) [(s.next,C (xs ++ new))] _ ⟨by simp [hl,hn,Nat.add_mul],.inr ⟨_,by simp,rfl,rfl⟩⟩ (h2.perm ?_)
   rw [hnx]
   exact List.perm_middle.symm
def Zik (p:Pos) (cs:List CV) (m:Lets):Prop:=∃ V mr,m.Perm ((p,C (encs (rcs cs V))) :: mr)∧Z0x (cs.map CV.kids) V mr
def Z8u:List (List CV)→List Pos→Lets→Prop
 | [],[],m => m = []
 | cs :: L,p :: ps,m => ∃ m1 m2,m.Perm (m1 ++ m2)∧Zik p cs m1∧Z8u L ps m2
 | _,_,_ => False
def Z5l (n:Nat) (vs:AVal) (L:List (List CV)) (m:Lets):Prop:=∃ ps mg ml,Z6u 1 vs L.length (ps.map fun p => .slice p 0 n (.lim n)) mg∧Z8u L ps ml∧m.Perm (mg ++ ml)∧∀ cs ∈ L,cs.length = n
theorem Z8u.len:∀ {L:List (List CV)} {ps:List Pos} {m:Lets},Z8u L ps m→ps.length = L.length
 | [],[],_,_ => rfl
 | _ :: L,_ :: ps,_,⟨_,_,_,_,h⟩ => by simp [h.len]
 | [],_ :: _,_,h => h.elim
 | _ :: _,[],_,h => h.elim
theorem Z8u.snoc:∀ {L:List (List CV)} {ps:List Pos} {m:Lets} {cs:List CV} {p:Pos} {m1:Lets},Z8u L ps m→Zik p cs m1→Z8u (L ++ [cs]) (ps ++ [p]) (m ++ m1)
 | [],[],m,cs,p,m1,h,hs => by
  have h:m = []:=h
  subst h
  exact ⟨m1,[],by simp,hs,rfl⟩
 | c :: L,p0 :: ps,m,cs,p,m1,⟨a,b,h1,h2,h3⟩,hs => ⟨a,b ++ m1,by rw [← List.append_assoc]; exact h1.append (List.Perm.refl m1),h2,Z8u.snoc h3 hs⟩
 | [],_ :: _,_,_,_,_,h,_ => h.elim
 | _ :: _,[],_,_,_,_,h,_ => h.elim
theorem Z8u.at:∀ {L:List (List CV)} {ps:List Pos} {m:Lets} {i:Nat} {cs:List CV},Z8u L ps m→L[i]? = some cs→∃ p m1 m2,ps[i]? = some p∧Zik p cs m1∧m.Perm (m1 ++ m2)
 | [],_,_,_,_,_,h => by simp at h
 | c :: L,p :: ps,m,0,cs,⟨a,b,h1,h2,h3⟩,h => by
  simp at h
  subst h
  exact ⟨p,a,b,rfl,h2,h1⟩
 | c :: L,p :: ps,m,i + 1,cs,⟨a,b,h1,h2,h3⟩,h => by
  obtain ⟨p',a',b',g1,g2,g3⟩:=Z8u.at h3 (i:=i) (by simpa using h)
  refine ⟨p',a',a ++ b',by simpa using g1,g2,h1.trans ?_⟩
  refine ((List.Perm.refl a).append g3).trans ?_
  rw [← List.append_assoc,← List.append_assoc]
  exact List.perm_append_comm.append (List.Perm.refl b')
 | _ :: _,[],_,_,_,h,_ => h.elim
theorem own_c {s0 s:St} {W:Pos→Prop} {p:Pos} {cs:List CV} {V:List AVal} {base:Lets} {Q:AVal→St→Prop} (hc:Ctx s0 W base s) (hV:V.length = cs.length) (h1:1 ≤ cs.length) (h4:cs.length ≤ 400) (hk4:∀ c ∈ cs,c.kids.length ≤ 1000)
  (hp:(p,C (encs (rcs cs V))) ∈ base) {mr:Lets} (hR:Z0x (cs.map CV.kids) V mr) (hmr:∀ x ∈ mr,x ∈ base)
  (q:∀ pn mn s',Zik pn cs mn→Ctx s0 W (mn ++ base) s'→Q (.agg [.slice pn 0 cs.length (.lim cs.length)]) s'):Z0b Tryd.prog 51 [.agg [.slice p 0 cs.length (.lim cs.length)]] s Q:=by
 have hl:=Z17 hV
 obtain ⟨r1,r2,r3⟩:=Z5e (p:=p) (cs:=cs) (V:=V) hc hp hR hmr
 refine own_w (K:=Z0j cs) hl hc.wf r1 r2 h1 h4 (fun j c hj => ?_) fun pn kvs s5 k5 hpn hopn hOwn => ?_
 ·have hlt:j < cs.length:=by have:=(List.getElem?_eq_some_iff.1 hj).1; rwa [hl] at this
  obtain ⟨kv,g1,g2⟩:=r3 j _ (List.getElem?_eq_getElem hlt)
  rw [Z18 (List.getElem?_eq_getElem hlt) g1] at hj
  cases hj
  rw [Z13 (List.getElem?_eq_getElem hlt)]
  exact ⟨g2,hk4 _ (List.getElem_mem hlt)⟩
 rw [Zpr hV] at hopn
 obtain ⟨mk,hRk,hok,hnk,hfk⟩:=Zmb hOwn
 generalize (List.range cs.length).map kvs = V' at hRk hopn
 have c5:=(hc.made k5 hpn (St.Z28 hopn)).addL (m:=mk) hok hnk (fun x hx ho => ((hfk x hx).1 (hc.old ho)).elim) (fun x hx => by
  rw [List.map_cons,List.mem_cons]
  rintro (e | hm)
  ·exact (hfk x hx).2 e
  ·obtain ⟨y,hy,e⟩:=List.mem_map.1 hm
   exact (hfk x hx).1 (e ▸ hc.ob hy))
 refine q pn ((pn,C (encs (rcs cs V'))) :: mk) s5 ⟨V',mk,List.Perm.refl _,hRk⟩ (c5.perm ?_)
 exact List.perm_middle
end Go.Proofs
end
section
/- Blocks in another order: by counting. -/
open Go Go.AM
namespace Go.Proofs
open Classical in
noncomputable def one (x a:Pos × AObj):Nat:=if x = a then 1 else 0
noncomputable def cnt:Lets→Pos × AObj→Nat
 | [],_ => 0
 | x :: l,a => one x a + cnt l a
theorem Z1x (a:Pos × AObj):cnt [] a = 0:=rfl
theorem Z0o (x a:Pos × AObj) (l:Lets):cnt (x :: l) a = one x a + cnt l a:=rfl
theorem Z0w (a:Pos × AObj):∀ (l m:Lets),cnt (l ++ m) a = cnt l a + cnt m a
 | [],m => by simp [cnt]
 | x :: l,m => by rw [List.cons_append,Z0o,Z0o,Z0w a l m]; omega
theorem Z4u {l m:Lets} (h:l.Perm m) (a:Pos × AObj):cnt l a = cnt m a:=by
 induction h with
 | nil => rfl
 | cons x _ ih => rw [Z0o,Z0o,ih]
 | swap x y l => rw [Z0o,Z0o,Z0o,Z0o]; omega
 | trans _ _ h1 h2 => rw [h1,h2]
theorem Zpk {x:Pos × AObj}:∀ {l:Lets},0 < cnt l x→x ∈ l
 | [],h => by simp [cnt] at h
 | y :: l,h => by
  rw [Z0o] at h
  by_cases e:y = x
  ·simp [e]
  ·have:one y x = 0:=by unfold one; rw [if_neg e]
   rw [this,Nat.zero_add] at h
   exact List.mem_cons_of_mem _ (Zpk h)
theorem Zlx (x:Pos × AObj):one x x = 1:=by unfold one; rw [if_pos rfl]
theorem Z19:∀ {l m:Lets},(∀ a,cnt l a = cnt m a)→l.Perm m
 | [],m,h => by
  cases m with
  | nil => exact List.Perm.refl _
  | cons x m =>
   have:=h x
   rw [Z0o,Zlx] at this
   simp [cnt] at this
   omega
 | x :: l,m,h => by
  have hx:x ∈ m:=Zpk (by rw [← h x,Z0o,Zlx]; omega)
  obtain ⟨i,hi⟩:=List.getElem?_of_mem hx
  have hp:=Z89 m i x hi
  have:l.Perm (m.eraseIdx i):=Z19 fun a => by
   have h1:=h a
   have h2:=Z4u hp a
   rw [Z0o] at h1 h2
   omega
  exact (List.Perm.cons x this).trans hp.symm
end Go.Proofs
end
section
/- Save and Back: the contracts. -/
open Go Go.AM
namespace Go.Proofs
set_option maxRecDepth 100000
section
variable {s0 s:St} {W:Pos→Prop} {hb:Pos} {vs:AVal} {cs:List CV} {L:List (List CV)} {m mv r:Lets} {Q:AVal→St→Prop}
theorem Z5l.len {n:Nat} (h:Z5l n vs L mv):Z1b vs = some L.length:=by
 obtain ⟨ps,mg,ml,h1,_⟩:=h
 exact h1.len
theorem Z5l.ntup {n:Nat} (h:Z5l n vs L mv):∀ t,¬ vs = .tup t:=by
 obtain ⟨ps,mg,ml,h1,_⟩:=h
 exact h1.ntup
theorem Z5l.cells {n:Nat} (h:Z5l n vs L mv):vs.cells = [vs]:=by
 obtain ⟨ps,mg,ml,h1,_⟩:=h
 exact h1.cells
theorem Z5l.nil (n:Nat):Z5l n .nilSlice [] []:=⟨[],[],[],Z6u.nil 1,rfl,by simp,by simp⟩
theorem Zw8 {es k:Nat} {v:AVal} {xs:List AVal} {mg:Lets} (h:Z6u es v k xs mg):Z2y 8 v v = true:=by
 rcases h with ⟨_,⟨rfl,rfl,_⟩ | ⟨q,_,rfl,_⟩⟩
 ·rfl
 ·simp [Z2y,Zeg]
theorem save_c (hH:Z1m hb vs cs m) (hVr:Z5l cs.length vs L mv) (h:Ctx s0 W (m ++ (mv ++ r)) s) (hO:HOk cs) (hL:L.length ≤ 8)
  (q0:L.length = 8→∀ s',Ctx s0 W (m ++ (mv ++ r)) s'→Q (.tup [.int .i64 0,.int .i64 12]) s')
  (q1:L.length < 8→∀ vs' m' mv' s',Z1m hb vs' cs m'→Z5l cs.length vs' (L ++ [cs]) mv'→Ctx s0 W (m' ++ (mv' ++ r)) s'→Q (.tup [.int .i64 (L.length:Int),.int .i64 0]) s'):Z0b Tryd.prog 36 [.ptr hb 0] s Q:=by
 obtain ⟨p,V,mr,hc,hR,hV,h1,h4,hP⟩:=Z5a hH h
 obtain ⟨ps,mg,ml,g1,g2,g3,g4⟩:=id hVr
 have hno:cs.length ≠ 0:=by omega
 refine Z07 (Z0e (by decide)) fi36 rfl (by decide) rfl ?_
 refine Z00 ?_
 simp
 refine AM.wp_seq ?_
 refine AM.wp_block ?_
 refine Z00 ?_
 simp
 refine Z02 ?_
 refine Z3o (hc.c 0 rfl) rfl hno ?_
 simp
 refine AM.Z04 ?_
 simp
 refine Z00 ?_
 simp [hc.c 0 rfl,g1.ntup,g1.len]
 refine AM.Z04 ?_
 by_cases h8:L.length = 8
 ·have h8':(L.length:Int) = 8:=by omega
  simp [h8,h8']
  refine Z00 ?_
  simp
  refine AM.wp_ret ?_
  simp
  exact q0 h8 s h
 ·have h8':¬ (L.length:Int) = 8:=by omega
  simp [h8,h8']
  refine AM.wp_skip ?_
  simp
  have hc2:=hc.perm (m':=(hb,C [.slice p 0 cs.length (.lim cs.length),vs]) :: (p,C (encs (rcs cs V))) :: (mr ++ (mg ++ (ml ++ r)))) (List.Perm.cons _ (List.Perm.cons _ ((List.Perm.refl mr).append (by
   have:=g3.append (List.Perm.refl r)
   simpa using this))))
  refine Z00 ?_
  simp [hc2.c 0 rfl,g1.ntup]
  refine Z02 ?_
  refine own_c (p:=p) (V:=V) (mr:=mr) hc2 hV h1 h4 (fun c hx => by have:=hO.kids4 c hx; omega) (by simp) hR (fun x hx => by simp [hx]) fun pn mn s1 hS c1 => ?_
  have c1:=c1.perm (m':=(hb,C [.slice p 0 cs.length (.lim cs.length),vs]) :: (p,C (encs (rcs cs V))) :: (mg ++ (mn ++ (mr ++ (ml ++ r))))) (Z19 fun a => by
   simp only [Z0o,Z0w,Z1x]
   omega)
  have hns:s1.obj s1.next = none:=c1.wf _ (Z0a _)
  simp [c1.c 0 rfl,Zw8 g1,hns,Z1p,srcP]
  have c2:=c1.alloc (C [.slice pn 0 cs.length (.lim cs.length)])
  generalize s1.alloc (.cells [.slice pn 0 cs.length (.lim cs.length)] false) = s2 at c2 ⊢
  generalize s1.next = T at c2 ⊢
  refine Ztv (pre:=[(T,C [.slice pn 0 cs.length (.lim cs.length)]),(hb,C [.slice p 0 cs.length (.lim cs.length),vs]),(p,C (encs (rcs cs V)))]) (mg:=mg) (r:=mn ++ (mr ++ (ml ++ r))) (by simpa using c2) g1 rfl (by unfold Z0h; omega) fun v' mg' s3 g1' c3 => ?_
  simp only [List.cons_append,List.nil_append] at c3
  simp [g1'.ntup,g1'.cells,c3.o 1 rfl]
  have c4:=(c3.put 1 rfl (C [.slice p 0 cs.length (.lim cs.length),v'])).tail
  simp only [List.set_cons_zero] at c4
  generalize s3.put hb (.cells [.slice p 0 cs.length (.lim cs.length),v'] false) = s4 at c4 ⊢
  refine Z00 ?_
  have hwr:IntKind.wrap .i64 ((L.length:Int) + 1 - 1) = (L.length:Int):=by rw [IntWalk.i64_in _ (by omega)]; omega
  have hwr2:IntKind.wrap .i64 (L.length:Int) = (L.length:Int):=by rw [IntWalk.i64_in _ (by omega)]
  simp [c4.c 0 rfl,g1'.ntup,g1'.len,hwr,hwr2]
  refine AM.wp_ret ?_
  simp
  refine q1 (by omega) v' _ (mg' ++ (ml ++ mn)) s4 (Z21 (p:=p) (V:=V) (mr:=mr) hR h1 h4) ⟨ps ++ [pn],mg',ml ++ mn,by simpa using g1',g2.snoc hS,List.Perm.refl _,by
   intro c hx
   rcases List.mem_append.1 hx with hx | hx
   ·exact g4 c hx
   ·simp at hx
    rw [hx]⟩ (c4.perm ?_)
  refine Z19 fun a => ?_
  simp only [Z0o,Z0w,Z1x]
  omega
theorem back_c {i:Int} (hH:Z1m hb vs cs m) (hVr:Z5l cs.length vs L mv) (h:Ctx s0 W (m ++ (mv ++ r)) s) (hO:∀ c ∈ L,HOk c) (hL:L.length ≤ 8)
  (q0:(i < 0 ∨ (L.length:Int) ≤ i)→∀ s',Ctx s0 W (m ++ (mv ++ r)) s'→Q (.int .i64 1) s')
  (q1:∀ c m' s',0 ≤ i→L[i.toNat]? = some c→Z1m hb vs c m'→Ctx s0 W (m' ++ (mv ++ r)) s'→Q (.int .i64 0) s'):Z0b Tryd.prog 40 [.ptr hb 0,.int .i64 i] s Q:=by
 obtain ⟨p,V,mr,hc,hR,hV,h1,h4,hP⟩:=Z5a hH h
 obtain ⟨ps,mg,ml,g1,g2,g3,g4⟩:=id hVr
 have hno:cs.length ≠ 0:=by omega
 refine Z07 (Z0e (by decide)) fi40 rfl (by decide) rfl ?_
 refine Z00 ?_
 simp
 refine AM.wp_seq ?_
 refine AM.wp_block ?_
 refine Z00 ?_
 simp
 refine Z02 ?_
 refine Z3o (hc.c 0 rfl) rfl hno ?_
 simp
 refine AM.Z04 ?_
 simp
 refine Z00 ?_
 by_cases hneg:i < 0
 ·simp [hneg]
  refine AM.Z04 ?_
  simp
  refine Z00 ?_
  simp
  refine AM.wp_ret ?_
  simp
  exact q0 (.inl hneg) s h
 ·by_cases hge:i < (L.length:Int)
  ·have h0:0 ≤ i:=by omega
   simp [hneg,hc.c 0 rfl,g1.ntup,g1.len,hge]
   refine AM.Z04 ?_
   simp
   refine AM.wp_skip ?_
   simp
   obtain ⟨c,hci⟩:∃ c,L[i.toNat]? = some c:=⟨_,List.getElem?_eq_getElem (by omega)⟩
   have hcl:=g4 c (List.mem_of_getElem? hci)
   obtain ⟨pv,m1,m2,e1,⟨V1,mr1,e2,e3⟩,e4⟩:=g2.at hci
   have hV1:V1.length = c.length:=by simpa using e3.len
   obtain ⟨gl,gg⟩:=g1
   rcases gg with ⟨hk0,_⟩ | ⟨qv,hk,rfl,rfl⟩
   ·rw [hk0] at hge
    simp at hge
    omega
   have hc2:=hc.perm (m':=(hb,C [.slice p 0 cs.length (.lim cs.length),.slice qv 0 L.length (.opn 1)]) :: (p,C (encs (rcs cs V))) :: (qv,C (ps.map fun p => .slice p 0 cs.length (.lim cs.length))) :: (pv,C (encs (rcs c V1))) :: (mr1 ++ (m2 ++ (mr ++ r)))) (by
    refine Z19 fun a => ?_
    have i3:=Z4u g3 a
    have i4:=Z4u e4 a
    have i2:=Z4u e2 a
    simp only [Z0o,Z0w,Z1x] at i2 i3 i4 ⊢
    omega)
   have hgp:(ps.map fun p => AVal.slice p 0 cs.length (.lim cs.length))[i.toNat]? = some (.slice pv 0 cs.length (.lim cs.length)):=by rw [List.getElem?_map,e1]; rfl
   obtain ⟨psx,hpsx⟩:∃ x,x = ps.map fun p => AVal.slice p 0 cs.length (.lim cs.length):=⟨_,rfl⟩
   rw [← hpsx] at hgp hc2
   refine Z00 ?_
   have hpl:psx.length = L.length:=by rw [hpsx]; simp [g2.len]
   have hle:i.toNat + 1 ≤ psx.length:=by omega
   have htk:List.take 1 (List.drop i.toNat psx) = [.slice pv 0 cs.length (.lim cs.length)]:=by
    rw [List.drop_eq_getElem_cons (by omega)]
    have:=List.getElem?_eq_getElem (show i.toNat < psx.length by omega)
    rw [hgp] at this
    rw [← Option.some.inj this]
    rfl
   simp [hc2.c 0 rfl,hc2.c 2 rfl,h0,hge,hle,htk]
   refine Z02 ?_
   rw [← hcl]
   refine own_c (p:=pv) (V:=V1) (mr:=mr1) hc2 hV1 (by omega) (by omega) (fun x hx => by have:=(hO c (List.mem_of_getElem? hci)).kids4 x hx; omega) (by simp) e3 (fun x hx => by simp [hx]) fun pn mn s1 hS c1 => ?_
   rw [hcl]
   have c1:=c1.perm (m':=(hb,C [.slice p 0 cs.length (.lim cs.length),.slice qv 0 L.length (.opn 1)]) :: (mn ++ ((p,C (encs (rcs cs V))) :: (mr ++ (mv ++ r))))) (Z19 fun a => by
    have i3:=Z4u g3 a
    have i4:=Z4u e4 a
    have i2:=Z4u e2 a
    simp only [Z0o,Z0w,Z1x,hpsx] at i2 i3 i4 ⊢
    omega)
   simp [c1.o 0 rfl]
   have c2:=c1.put 0 rfl (C [.slice pn 0 cs.length (.lim cs.length),.slice qv 0 L.length (.opn 1)])
   simp only [List.set_cons_zero] at c2
   generalize s1.put hb (.cells [.slice pn 0 cs.length (.lim cs.length),.slice qv 0 L.length (.opn 1)] false) = s2 at c2 ⊢
   refine Z00 ?_
   simp
   refine AM.wp_ret ?_
   simp
   obtain ⟨V2,mr2,f1,f2⟩:=hS
   refine q1 c ((hb,C [.slice pn 0 c.length (.lim c.length),.slice qv 0 L.length (.opn 1)]) :: mn) s2 h0 hci ⟨pn,V2,mr2,List.Perm.cons _ f1,f2,by omega,by omega⟩ ?_
   rw [hcl]
   refine c2.sub (.cons_cons _ ((List.Sublist.refl mn).append (.cons _ ?_)))
   exact List.sublist_append_right mr _
  ·simp [hneg,hc.c 0 rfl,g1.ntup,g1.len,hge]
   refine AM.Z04 ?_
   simp
   refine Z00 ?_
   simp
   refine AM.wp_ret ?_
   simp
   exact q0 (.inr (by omega)) s h
end
end Go.Proofs
end
section
/- moves,for Pack. -/
open Go Go.AM
namespace Go.Proofs
set_option maxRecDepth 100000
def toP (cls:List Int) (k:Int):Int:=(cls[k.toNat]?).getD (-1)
theorem Zuu {s:St} {Bc:Pos} {v:AVal} {cls:List Int} {i:Int} {c:Int} {Q:AVal→St→Prop} (hB:s.cells Bc = some [v]) (hv:Z0c s v cls) (hi:0 ≤ i) (hc:cls[i.toNat]? = some c)
  (q:Q (.int .i64 c) s):Z0b Tryd.prog 82 [.int .i64 i,.ptr Bc 0] s Q:=by
 have hlt:i.toNat < cls.length:=(List.getElem?_eq_some_iff.1 hc).1
 refine Z07 (Z0e (by decide)) fi82 rfl (by decide) rfl ?_
 refine Z00 ?_
 simp
 refine Z00 ?_
 rcases hv with ⟨_,h0⟩ | ⟨b,o,cp,cs,rfl,hb,hcs,hle,hel⟩
 ·subst h0
  simp at hlt
 have hg:=hel _ _ hc
 have hil:i < cls.length:=by omega
 simp [hB,hi,hil,hcs,hg]
 refine AM.wp_ret ?_
 simp
 exact q
def Z66 (cls ks:List Int) (j:Nat):List Int:=(ks.take j).map (toP cls) ++ ks.drop j
theorem Zqt (cls ks:List Int):Z66 cls ks 0 = ks:=by simp [Z66]
theorem Zl7 (cls ks:List Int) (j:Nat):(Z66 cls ks j).length = ks.length:=by
 simp [Z66]
 omega
theorem Zsd (cls ks:List Int):Z66 cls ks ks.length = ks.map (toP cls):=by simp [Z66]
theorem Zsj {cls ks:List Int} {j:Nat} {k:Int} (h:ks[j]? = some k):(Z66 cls ks j)[j]? = some k:=by
 have hj:=(List.getElem?_eq_some_iff.1 h).1
 unfold Z66
 rw [List.getElem?_append_right (by simp; omega)]
 have e:j - ((ks.take j).map (toP cls)).length = 0:=by simp; omega
 rw [e,List.getElem?_drop]
 simpa using h
theorem Zqa {cls ks:List Int} {j:Nat} {k:Int} (h:ks[j]? = some k):(Z66 cls ks j).set j (toP cls k) = Z66 cls ks (j + 1):=by
 have hj:=(List.getElem?_eq_some_iff.1 h).1
 unfold Z66
 have hl:((ks.take j).map (toP cls)).length = j:=by simp; omega
 rw [List.set_append_right _ _ (by omega),hl,Nat.sub_self,List.take_add_one,h]
 have hd:ks.drop j = k :: ks.drop (j + 1):=by
  rw [List.drop_eq_getElem_cons hj]
  have:ks[j] = k:=(List.getElem?_eq_some_iff.1 h).2
  rw [this]
 rw [hd]
 simp
theorem Ztn {fr:FI} {s:St} {t0:PT AVal} {p q B2 B3 Bc:Pos} {l:List RC} {i:Nat} {c:RC} {cp:Cap} {cv:AVal} {cls ks:List Int} {Q:Ex→PT AVal→St→Prop}
  (hw:s.Wf) (t2:PT.get (posOf 2) t0 = some (.ptr B2 0)) (t3:PT.get (posOf 3) t0 = some (.ptr B3 0)) (t4:PT.get (posOf 4) t0 = some (.int .i64 i))
  (hci:l[i]? = some c) (hkv:c.kv = .slice q 0 ks.length cp) (hq:s.own q = some (ks.map fun k => .int .i64 k)) (hks:ks.length ≤ 1000) (hcl:cls.length ≤ 1000) (hin:∀ k ∈ ks,0 ≤ k∧k < cls.length)
  (hst:∀ s',Same [q] s s'→s'.cells B3 = some [.slice p 0 l.length (.lim l.length)]∧s'.cells p = some (encs l)∧s'.cells B2 = some [.fn 82 [] [.ptr Bc 0]]∧s'.cells Bc = some [cv]∧Z0c s' cv cls)
  (qq:∀ t s',Same [q] s s'→s'.own q = some ((ks.map (toP cls)).map fun k => .int .i64 k)→Q .normal t s'):wp Tryd.prog Zq0 fr t0 s Q:=by
 have hi:i < l.length:=(List.getElem?_eq_some_iff.1 hci).1
 have hg:(encs l)[i * 4 + 2]? = some (.slice q 0 ks.length cp):=by rw [← hkv]; exact Z2k l i 2 c hci (by decide)
 obtain ⟨b3,bp,b2,bc,hcv⟩:=hst s (Same.refl _ _)
 have hoq:=Z09 hw hq
 refine Z00 ?_
 simp [t3,t4,b3,bp,hi,hg]
 refine AM.wp_block ?_
 refine AM.wp_loop (fun m t s' => ∃ j:Nat,j ≤ ks.length∧m = ks.length - j∧PT.get (posOf 2) t = some (.ptr B2 0)∧PT.get (posOf 3) t = some (.ptr B3 0)∧PT.get (posOf 4) t = some (.int .i64 i)∧PT.get (posOf 15) t = some (.slice q 0 ks.length cp)∧PT.get (posOf 16) t = some (.int .i64 ks.length)∧PT.get (posOf 17) t = some (.int .i64 j)∧Same [q] s s' ∧
  s'.own q = some ((Z66 cls ks j).map fun k => .int .i64 k)) ks.length ⟨0,by simp,by simp,by simp [t2],by simp [t3],by simp [t4],by simp,by simp,by simp,Same.refl _ _,by rw [Zqt]; exact hq⟩ ?_
 rintro m t s' ⟨j,hj,rfl,g2,g3,g4,g15,g16,g17,hS,hO⟩
 obtain ⟨b3,bp,b2,bc,hcv⟩:=hst s' hS
 refine Z00 ?_
 simp [g16,g17]
 refine AM.wp_seq ?_
 refine AM.Z04 ?_
 by_cases hlt:j < ks.length
 ·obtain ⟨k,hk⟩:∃ k,ks[j]? = some k:=⟨_,List.getElem?_eq_getElem hlt⟩
  obtain ⟨hk0,hk1⟩:=hin k (List.mem_of_getElem? hk)
  obtain ⟨cc,hcc⟩:∃ cc,cls[k.toNat]? = some cc:=⟨_,List.getElem?_eq_getElem (by omega)⟩
  have hto:toP cls k = cc:=by unfold toP; rw [hcc]; rfl
  have hgk:((Z66 cls ks j).map fun k => AVal.int .i64 k)[j]? = some (.int .i64 k):=by rw [List.getElem?_map,Zsj hk]; rfl
  have hwr:IntKind.wrap .i64 ((j:Int) + 1) = ((j + 1:Nat):Int):=by rw [IntWalk.i64_in _ (by omega)]; omega
  have hlay:=Z68 (Z66 cls ks j) j (toP cls k) (by rw [Zl7]; omega)
  rw [Zqa hk] at hlay
  have hml:=Zl7 cls ks j
  simp [hlt]
  refine AM.wp_skip ?_
  simp
  refine AM.wp_seq ?_
  refine AM.wp_block ?_
  generalize Z66 cls ks j = mv at hO hgk hlay hml ⊢
  have hle:j + 1 ≤ mv.length:=by omega
  refine Z00 ?_
  simp only [List.getElem?_map] at hgk
  simp [g15,g17,hlt,Z08 hO,hgk]
  refine AM.wp_region ?_
  simp [g2,g3,g4,b3,bp,hi,hg,b2]
  refine Z02 ?_
  refine Zuu bc hcv hk0 hcc ?_
  simp [b3,bp,hi,hg,Zaf,Zpt,hlt,hO,hle]
  rw [← hto]
  simp [lay] at hlay
  rw [hlay]
  refine AM.wp_region ?_
  simp [g17,hwr]
  exact ⟨ks.length - (j + 1),by omega,j + 1,by omega,by omega,by simp [g2],by simp [g3],by simp [g4],by simp [g15],by simp [g16],by simp,hS.put _ (by simp) (hS.old hoq),by simp⟩
 ·simp [hlt]
  refine AM.wp_exit ?_
  simp
  have hje:j = ks.length:=by omega
  subst hje
  rw [Zsd] at hO
  exact qq _ s' hS hO
theorem Zu1 {s:St} {p Bc:Pos} {l:List RC} {K:Nat→List Int} {cv:AVal} {cls:List Int} {qs:List Pos} {Q:AVal→St→Prop} (hw:s.Wf) (hp:s.Old p) (hc:s.cells p = some (encs l)) (hl:l.length ≤ 400) (hcl:cls.length ≤ 1000)
  (hK:∀ j c,l[j]? = some c→KidV s c.kv (K j)∧(K j).length ≤ 1000∧(c.taken = true→∀ k ∈ K j,0 ≤ k∧k < cls.length))
  (hqs:∀ j c q cp,l[j]? = some c→c.kv = .slice q 0 (K j).length cp→K j ≠ []→q ∈ qs) (hpq:p ∉ qs) (hqo:∀ q ∈ qs,s.Old q)
  (hsep:∀ j j' c c' q cp cp',l[j]? = some c→l[j']? = some c'→c.kv = .slice q 0 (K j).length cp→c'.kv = .slice q 0 (K j').length cp'→K j ≠ []→K j' ≠ []→j = j')
  (hcv:∀ s',Same qs s s'→s'.cells Bc = some [cv]∧Z0c s' cv cls)
  (q:∀ s',Same qs s s'→(∀ j c,l[j]? = some c→KidV s' c.kv (if c.taken = true then (K j).map (toP cls) else K j))→Q (.tup []) s') :
  Z0b Tryd.prog 54 [.agg [.fn 82 [] [.ptr Bc 0]],.agg [.slice p 0 l.length (.lim l.length)]] s Q:=by
 refine Z07 (Z0e (by decide)) fi54 rfl (by decide) rfl ?_
 refine Z00 ?_
 simp
 have hK1:Keeps s (s.alloc (.cells [.fn 82 [] [.ptr Bc 0]] false)):=Keeps.alloc _ _
 have hB1:(s.alloc (.cells [.fn 82 [] [.ptr Bc 0]] false)).own s.next = some [.fn 82 [] [.ptr Bc 0]]:=Z12 _ _
 have hf1:¬ s.Old s.next:=Z0a s
 generalize s.alloc (.cells [.fn 82 [] [.ptr Bc 0]] false) = s1 at hK1 hB1 ⊢
 generalize s.next = B2 at hB1 hf1 ⊢
 have hw1:s1.Wf:=hK1.wf hw
 have ho1:s1.Old B2:=Z09 hw1 hB1
 have hK2:Keeps s1 (s1.alloc (.cells [.slice p 0 l.length (.lim l.length)] false)):=Keeps.alloc _ _
 have hB2:(s1.alloc (.cells [.slice p 0 l.length (.lim l.length)] false)).own s1.next = some [.slice p 0 l.length (.lim l.length)]:=Z12 _ _
 have hf2:¬ s1.Old s1.next:=Z0a s1
 generalize s1.alloc (.cells [.slice p 0 l.length (.lim l.length)] false) = s2 at hK2 hB2 ⊢
 generalize s1.next = B3 at hB2 hf2 ⊢
 have hw2:s2.Wf:=hK2.wf hw1
 have ho2:s2.Old B3:=Z09 hw2 hB2
 have hB1':s2.own B2 = some [.fn 82 [] [.ptr Bc 0]]:=(hK2.own ho1).trans hB1
 refine Z00 ?_
 simp [Z08 hB2]
 refine Z02 ?_
 refine Z78 fun BB hBB => ?_
 have hK5:Keeps s2 (s2.alloc (.cells [.slice p 0 l.length (.lim l.length)] false)):=Keeps.alloc _ _
 have hBB5:(s2.alloc (.cells [.slice p 0 l.length (.lim l.length)] false)).own BB = some [.slice p 0 l.length (.lim l.length)]:=by rw [hBB]; exact Z12 _ _
 have hBo2:¬ s2.Old BB:=by rw [hBB]; exact Z0a s2
 generalize s2.alloc (.cells [.slice p 0 l.length (.lim l.length)] false) = s5 at hK5 hBB5 ⊢
 have hw5:s5.Wf:=hK5.wf hw2
 have hk5:Keeps s s5:=(hK1.trans hK2).trans hK5
 have n2:B2 ∉ qs:=fun h => hf1 (hqo _ h)
 have n3:B3 ∉ qs:=fun h => hf2 (hK1.old (hqo _ h))
 have nB:BB ∉ qs:=fun h => hBo2 (hK2.old (hK1.old (hqo _ h)))
 simp
 refine AM.wp_block ?_
 have hLo:∀ b,s5.Old b→b ≠ s5.next:=fun b hb => ne_next hb
 have nL:s5.next ∉ qs:=fun h => hLo _ (hk5.old (hqo _ h)) rfl
 refine Z9y (I:=fun i s' => s'.Wf∧Same (s5.next :: qs) s5 s'∧∀ j c,l[j]? = some c→KidV s' c.kv (if j < i∧c.taken = true then (K j).map (toP cls) else K j)) (p:=p) (B:=BB) (l:=l) hl (by simp) rfl fi54 rfl ?_ ?_ ?_ ?_ ⟨hw5,Same.refl _ _,fun j c h => by simpa using (hK j c h).1.keep hw hk5⟩ ?_
 ·rintro i s' ⟨h,hS,hV⟩
  have hb:s'.own BB = some [.slice p 0 l.length (.lim l.length)]:=(hS.own (by simpa using ⟨hLo _ (Z09 hw5 hBB5),nB⟩) (Z09 hw5 hBB5)).trans hBB5
  exact ⟨h,hS.old (hk5.old hp),Z09 h hb,(hS.cells (by simpa using ⟨hLo _ (hk5.old hp),hpq⟩) (hk5.old hp)).trans ((hk5.cells hp).trans hc),Z08 hb⟩
 ·rintro i s' s'' ⟨h,hS,hV⟩ hS2
  refine ⟨hS2.wf h,⟨fun b hb ho => (hS2.obj b (by simp at hb ⊢; exact hb.1) (hS.old ho)).trans (hS.obj b hb ho),Nat.le_trans hS.next hS2.next,fun _ => hS2.wf h⟩,fun j c hj => ?_⟩
  refine (hV j c hj).stay fun q' c' he hne => ?_
  have hl2:(if j < i∧c.taken = true then (K j).map (toP cls) else K j).length = (K j).length:=by split <;> simp
  rw [hl2] at he
  have hne':K j ≠ []:=by
   intro e
   rw [e] at hne
   simp at hne
  have hm:=hqs j c q' c' hj he hne'
  exact hS2.own (by simpa using hLo _ (hk5.old (hqo _ hm))) (hS.old (hk5.old (hqo _ hm)))
 ·rintro i c s' hci hct ⟨h,hS,hV⟩
  refine ⟨h,hS,fun j d hj => ?_⟩
  have:=hV j d hj
  by_cases e:j = i
  ·subst e
   rw [hci] at hj
   cases hj
   simpa [hct] using this
  ·have e2:j < i ↔ j < i + 1:=by omega
   simpa [e2] using this
 ·rintro i c s' W hci hct ⟨h,hS,hV⟩ hoL hW
  have hi:i < l.length:=(List.getElem?_eq_some_iff.1 hci).1
  obtain ⟨_,hk1000,hkin⟩:=hK i c hci
  have hB3s:s'.own B3 = some [.slice p 0 l.length (.lim l.length)]:=(hS.own (by simpa using ⟨hLo _ (hK5.old ho2),n3⟩) (hK5.old ho2)).trans ((hK5.own ho2).trans hB2)
  have hB2s:s'.own B2 = some [.fn 82 [] [.ptr Bc 0]]:=(hS.own (by simpa using ⟨hLo _ (hK5.old (hK2.old ho1)),n2⟩) (hK5.old (hK2.old ho1))).trans ((hK5.own (hK2.old ho1)).trans hB1')
  have hps:s'.cells p = some (encs l):=(hS.cells (by simpa using ⟨hLo _ (hk5.old hp),hpq⟩) (hk5.old hp)).trans ((hk5.cells hp).trans hc)
  have hg:(encs l)[i * 4 + 2]? = some c.kv:=Z2k l i 2 c hci (by decide)
  have hVi:=hV i c hci
  simp at hVi
  refine AM.wp_block ?_
  by_cases h0:K i = []
  ·have hlen:=hVi.len
   rw [h0] at hlen
   have hkt:∀ t,¬ c.kv = .tup t:=by
    rintro t e
    rw [e] at hlen
    cases hlen
   refine Z00 ?_
   simp [Z08 hB3s,hps,hi,hg,hlen]
   refine AM.wp_block ?_
   refine AM.wp_loop (fun m t s2 => PT.get (posOf 16) t = some (.int .i64 0)∧PT.get (posOf 17) t = some (.int .i64 0)∧s2 = s') 0 ⟨by simp,by simp,rfl⟩ ?_
   rintro m t2 s2 ⟨g16,g17,rfl⟩
   refine Z00 ?_
   simp [g16,g17]
   refine AM.wp_seq ?_
   refine AM.Z04 ?_
   simp
   refine AM.wp_exit ?_
   simp
   refine hW _ _ ⟨h,hS,fun j d hj => ?_⟩ rfl
   by_cases e:j = i
   ·subst e
    have:=hV j d hj
    rw [h0] at this ⊢
    simpa using this
   ·have e2:j < i ↔ j < i + 1:=by omega
    have:=hV j d hj
    simpa [e2] using this
  ·rcases hVi with ⟨_,e⟩ | ⟨q',cp,hkv,hq⟩
   ·exact (h0 e).elim
   have hm:=hqs i c q' cp hci hkv h0
   have hoq':s'.Old q':=hS.old (hk5.old (hqo _ hm))
   have hne3:B3 ≠ q':=fun e => n3 (e ▸ hm)
   have hne2:B2 ≠ q':=fun e => n2 (e ▸ hm)
   have hnep:p ≠ q':=fun e => hpq (e ▸ hm)
   refine Ztn (B2:=B2) (B3:=B3) (p:=p) (q:=q') (l:=l) (i:=i) (cp:=cp) (cv:=cv) (cls:=cls) (ks:=K i) (Bc:=Bc) h (by simp) (by simp) (by simp) hci hkv hq hk1000 hcl (hkin hct) ?_ ?_
   ·intro s2 hS2
    have hSq:Same qs s s2:=⟨fun b hb ho => ((hS2.obj b (by simpa using fun e:b = q' => hb (e ▸ hm)) (hS.old (hk5.old ho))).trans (hS.obj b (by simpa using ⟨hLo _ (hk5.old ho),hb⟩) (hk5.old ho))).trans (hk5.obj b ho),Nat.le_trans hk5.next (Nat.le_trans hS.next hS2.next),fun _ => hS2.wf h⟩
    obtain ⟨j1,j2⟩:=hcv s2 hSq
    exact ⟨Z08 ((hS2.own (by simpa using hne3) (Z09 h hB3s)).trans hB3s),(hS2.cells (by simpa using hnep) (hS.old (hk5.old hp))).trans hps,Z08 ((hS2.own (by simpa using hne2) (Z09 h hB2s)).trans hB2s),j1,j2⟩
   ·intro t2 s2 hS2 hO2
    refine hW _ _ ⟨hS2.wf h,⟨fun b hb ho => (hS2.obj b (by simp at hb ⊢; exact fun e => hb.2 (e ▸ hm)) (hS.old ho)).trans (hS.obj b hb ho),Nat.le_trans hS.next hS2.next,fun _ => hS2.wf h⟩,fun j d hj => ?_⟩ (hS2.obj _ (by simpa using fun e:s5.next = q' => nL (e ▸ hm)) hoL)
    by_cases e:j = i
    ·subst e
     rw [hci] at hj
     cases hj
     simp [hct]
     exact .inr ⟨q',cp,by rw [hkv]; simp,by simpa using hO2⟩
    ·have e2:j < i ↔ j < i + 1:=by omega
     have hv:=hV j d hj
     have eg:(if j < i + 1∧d.taken = true then (K j).map (toP cls) else K j) = (if j < i∧d.taken = true then (K j).map (toP cls) else K j):=by simp [e2]
     rw [eg]
     refine hv.stay fun q2 c2 he hne => ?_
     have hl2:(if j < i∧d.taken = true then (K j).map (toP cls) else K j).length = (K j).length:=by split <;> simp
     rw [hl2] at he
     have hne':K j ≠ []:=by
      intro e
      rw [e] at hne
      simp at hne
     refine hS2.own (by simpa using fun e3:q2 = q' => e (hsep j i d c q' c2 cp hj hci (e3 ▸ he) hkv hne' h0)) (hS.old (hk5.old (hqo _ (hqs j d q2 c2 hj he hne'))))
 ·rintro s' ⟨h,hS,hV⟩
  simp
  refine q s' ⟨fun b hb ho => (hS.obj b (by simpa using ⟨hLo _ (hk5.old ho),hb⟩) (hk5.old ho)).trans (hk5.obj b ho),Nat.le_trans hk5.next hS.next,fun _ => h⟩ fun j c hj => ?_
  have:=hV j c hj
  have hjl:j < l.length:=(List.getElem?_eq_some_iff.1 hj).1
  simpa [hjl] using this
theorem Zvd {s:St} {p Bc:Pos} {l:List RC} {n:Nat} {K:Nat→List Int} {cv:AVal} {cls:List Int} {qs:List Pos} {Q:AVal→St→Prop} (hn:l.length = n) (hw:s.Wf) (hp:s.Old p) (hc:s.cells p = some (encs l)) (hl:n ≤ 400) (hcl:cls.length ≤ 1000)
  (hK:∀ j c,l[j]? = some c→KidV s c.kv (K j)∧(K j).length ≤ 1000∧(c.taken = true→∀ k ∈ K j,0 ≤ k∧k < cls.length))
  (hqs:∀ j c q cp,l[j]? = some c→c.kv = .slice q 0 (K j).length cp→K j ≠ []→q ∈ qs) (hpq:p ∉ qs) (hqo:∀ q ∈ qs,s.Old q)
  (hsep:∀ j j' c c' q cp cp',l[j]? = some c→l[j']? = some c'→c.kv = .slice q 0 (K j).length cp→c'.kv = .slice q 0 (K j').length cp'→K j ≠ []→K j' ≠ []→j = j')
  (hcv:∀ s',Same qs s s'→s'.cells Bc = some [cv]∧Z0c s' cv cls)
  (q:∀ s',Same qs s s'→(∀ j c,l[j]? = some c→KidV s' c.kv (if c.taken = true then (K j).map (toP cls) else K j))→Q (.tup []) s') :
  Z0b Tryd.prog 54 [.agg [.fn 82 [] [.ptr Bc 0]],.agg [.slice p 0 n (.lim n)]] s Q:=by
 subst hn
 exact Zu1 hw hp hc hl hcl hK hqs hpq hqo hsep hcv q
def Z6h (cls:List Int) (cs:List CV):List CV:=cs.map fun c => if c.taken = true then { c with kids:=c.kids.map (toP cls) } else c
theorem Z90 (cls:List Int) (cs:List CV):(Z6h cls cs).length = cs.length:=by simp [Z6h]
theorem Zek {cls:List Int} {cs:List CV} {i:Nat} {c:CV} (h:cs[i]? = some c):(Z6h cls cs)[i]? = some (if c.taken = true then { c with kids:=c.kids.map (toP cls) } else c):=by simp [Z6h,h]
theorem Zw1 {s0 s:St} {W:Pos→Prop} {pn B4 Bx:Pos} {cs:List CV} {V:List AVal} {cls:List Int} {mk r:Lets} {cp:Cap} {Q:AVal→St→Prop} (h:Ctx s0 W (mk ++ r) s) (hR:Z0x (cs.map CV.kids) V mk) (hO4:∀ c ∈ cs,c.kids.length ≤ 4) (hOk:∀ c ∈ cs,c.taken = true→∀ k ∈ c.kids,0 ≤ k∧k < cs.length) (hcl:cls.length = cs.length) (h4:cs.length ≤ 400)
  (hpn:(pn,C (encs (rcs cs V))) ∈ r) (hB4:(B4,C [.slice Bx 0 cs.length cp]) ∈ r) (hBx:(Bx,C (ints cls)) ∈ r)
  (q:∀ mk' s',Z0x ((Z6h cls cs).map CV.kids) V mk'→Ctx s0 W (mk' ++ r) s'→Q (.tup []) s') :
  Z0b Tryd.prog 54 [.agg [.fn 82 [] [.ptr B4 0]],.agg [.slice pn 0 cs.length (.lim cs.length)]] s Q:=by
 have hV:V.length = cs.length:=by simpa using hR.len
 have hl:=Z17 hV
 have hn:=h.nodup
 rw [List.map_append,List.nodup_append] at hn
 have hget:∀ j c,(rcs cs V)[j]? = some c→∃ (hj:j < cs.length),V[j]? = some c.kv∧c.taken = cs[j].taken∧c = ⟨cs[j].taken,cs[j].name,c.kv,cs[j].held⟩:=by
  intro j c hc
  have hlt:j < cs.length:=by have:=(List.getElem?_eq_some_iff.1 hc).1; rwa [hl] at this
  have hv:V[j]? = some (V[j]'(by omega)):=List.getElem?_eq_getElem (by omega)
  rw [Z18 (List.getElem?_eq_getElem hlt) hv] at hc
  cases hc
  exact ⟨hlt,hv,rfl,rfl⟩
 have hrow:∀ j c,(rcs cs V)[j]? = some c→(Z0j cs j = []∧Z1b c.kv = some 0) ∨ ∃ q cp,Z0j cs j ≠ []∧c.kv = .slice q 0 (Z0j cs j).length cp∧(q,C (ints (Z0j cs j))) ∈ mk:=by
  intro j c hc
  obtain ⟨hj,hv,_⟩:=hget j c hc
  obtain ⟨kv,g1,g2⟩:=hR.each (Z5v hj)
  rw [hv] at g1
  cases g1
  exact g2
 refine Zvd (K:=Z0j cs) (cls:=cls) (cv:=.slice Bx 0 cs.length cp) (qs:=mk.map (·.1)) hl h.wf (h.ob (List.mem_append_right _ hpn)) (Z08 (Z0n (h.own _ (List.mem_append_right _ hpn)))) h4 (by omega) ?_ ?_ ?_ ?_ ?_ ?_ ?_
 ·intro j c hc
  obtain ⟨hj,hv,ht,_⟩:=hget j c hc
  have hko:=Z13 (List.getElem?_eq_getElem hj)
  refine ⟨?_,?_,?_⟩
  ·rcases hrow j c hc with ⟨e1,e2⟩ | ⟨q,cp,e1,e2,e3⟩
   ·exact .inl ⟨e2,e1⟩
   ·exact .inr ⟨q,cp,e2,Z0n (h.own _ (List.mem_append_left _ e3))⟩
  ·rw [hko]
   have:=hO4 _ (List.getElem_mem hj)
   omega
  ·intro hct k hk
   rw [hko] at hk
   have:=hOk _ (List.getElem_mem hj) (ht ▸ hct) k hk
   exact ⟨this.1,by omega⟩
 ·intro j c q cp hc hkv hne
  rcases hrow j c hc with ⟨e1,e2⟩ | ⟨q',cp',e1,e2,e3⟩
  ·exact (hne e1).elim
  ·rw [hkv] at e2
   cases e2
   exact List.mem_map.2 ⟨_,e3,rfl⟩
 ·exact fun hm => hn.2.2 _ hm _ (List.mem_map.2 ⟨_,hpn,rfl⟩) rfl
 ·intro q hq
  obtain ⟨x,hx,rfl⟩:=List.mem_map.1 hq
  exact h.ob (List.mem_append_left _ hx)
 ·intro j j' c c' q cp cp' hc hc' hkv hkv' hne hne'
  obtain ⟨hj,hv,_⟩:=hget j c hc
  obtain ⟨hj',hv',_⟩:=hget j' c' hc'
  rw [hkv] at hv
  rw [hkv'] at hv'
  exact hR.sep hn.1 (Z5v hj) (Z5v hj') hne hne' hv hv'
 ·intro s' hS
  have h':=h.lose hS
  have e:cls.length = cs.length:=hcl
  refine ⟨Z08 (Z0n (h'.own _ hB4)),?_⟩
  rw [← hcl]
  exact Z37 h'.wf (Z0n (h'.own _ hBx)) _
 ·intro s' hS hk
  have h':=h.lose hS
  have hlast:∀ (i:Nat) (ks:List Int) (qq:Pos) (c:Cap),((Z6h cls cs).map CV.kids)[i]? = some ks→ks ≠ []→V[i]? = some (AVal.slice qq 0 ks.length c)→∃ hi:i < cs.length,Z0j cs i ≠ []∧ks.length = (Z0j cs i).length∧qq ∈ mk.map (·.1):=by
   intro i ks qq c hks hne hv
   obtain ⟨hi,e⟩:=Z7a hks
   rw [Z90] at hi
   have hm:=Zek (cls:=cls) (List.getElem?_eq_getElem hi)
   have e2:=Z13 hm
   rw [e] at e2
   have e3:=Z13 (List.getElem?_eq_getElem hi)
   have hlen:ks.length = (Z0j cs i).length:=by
    rw [e2,e3]
    split <;> simp
   have hne':Z0j cs i ≠ []:=by
    intro e0
    rw [e0] at hlen
    exact hne (List.length_eq_zero_iff.1 hlen)
   refine ⟨hi,hne',hlen,?_⟩
   rcases hrow i _ (Z18 (List.getElem?_eq_getElem hi) hv) with ⟨e1,_⟩ | ⟨q',cp',_,e5,e6⟩
   ·exact (hne' e1).elim
   ·have:q' = qq:=(AVal.slice.inj e5).1.symm
    subst this
    exact List.mem_map.2 ⟨_,e6,rfl⟩
  obtain ⟨mk',r1,r2,r3,r4⟩:=Zgk (s:=s') ((Z6h cls cs).map CV.kids) V (by simp [hV,Z90]) (fun i ks kv hks hv => by
   obtain ⟨hi,e⟩:=Z7a hks
   rw [Z90] at hi
   have:=hk i _ (Z18 (List.getElem?_eq_getElem hi) hv)
   rw [Z13 (Zek (List.getElem?_eq_getElem hi))] at e
   rw [← e]
   rw [Z13 (List.getElem?_eq_getElem hi)] at this
   have e2:(if cs[i].taken = true then { cs[i] with kids:=cs[i].kids.map (toP cls) } else cs[i]).kids = if cs[i].taken = true then cs[i].kids.map (toP cls) else cs[i].kids:=by split <;> rfl
   rw [e2]
   exact this) (fun i j ks ks' qq c c' hks hks' hne hne' hv hv' => by
   obtain ⟨hi,n1,l1,_⟩:=hlast i ks qq c hks hne hv
   obtain ⟨hj,n2,l2,_⟩:=hlast j ks' qq c' hks' hne' hv'
   rw [l1] at hv
   rw [l2] at hv'
   exact hR.sep hn.1 (Z5v hi) (Z5v hj) n1 n2 hv hv')
  refine q mk' s' r1 (h'.addL r2 r3 ?_ ?_)
  ·intro x hx ho
   obtain ⟨i,ks,c,e1,e2,e3⟩:=r4 x hx
   obtain ⟨_,_,_,hm⟩:=hlast i ks x.1 c e1 e2 e3
   obtain ⟨y,hy,e⟩:=List.mem_map.1 hm
   rw [← e] at ho ⊢
   exact h.free y (List.mem_append_left _ hy) ho
  ·intro x hx hr
   obtain ⟨i,ks,c,e1,e2,e3⟩:=r4 x hx
   obtain ⟨_,_,_,hm⟩:=hlast i ks x.1 c e1 e2 e3
   exact hn.2.2 _ hm _ hr rfl
end Go.Proofs
end
section
/- Pack: in plain,and its closure. -/
open Go Go.AM
namespace Go.Proofs
set_option maxRecDepth 100000
def outL (n:Nat) (v:List Nat):List Int:=(List.range n).map fun a => if a ∈ v then (v.idxOf a:Int) else -1
def pick {α:Type} (l:List α) (d:α) (v:List Nat):List α:=v.map fun a => (l[a]?).getD d
def Z1s (cs:List CV) (v:List Nat):List CV:=pick cs Z0v v ++ List.replicate (cs.length - v.length) Z0v
def Z2g (n:Nat) (V:List AVal) (v:List Nat):List AVal:=pick V .nilSlice v ++ List.replicate (n - v.length) .nilSlice
def Z97 (cs:List CV):List Int × List CV:=(outL cs.length (Z44 cs),Z6h (outL cs.length (Z44 cs)) (Z1s cs (Z44 cs)))
theorem Z71 (n:Nat) (v:List Nat):(outL n v).length = n:=by simp [outL]
theorem Z9n {n a:Nat} (v:List Nat) (h:a < n):(outL n v)[a]? = some (if a ∈ v then (v.idxOf a:Int) else -1):=by
 unfold outL
 rw [List.getElem?_map,List.getElem?_range h]
 rfl
theorem Zuv {n a:Nat} {v:List Nat} (h:a < n) (hv:a ∉ v):(outL n v).set a (v.length:Int) = outL n (v ++ [a]):=by
 refine List.ext_getElem? fun j => ?_
 rw [List.getElem?_set]
 by_cases hj:j < n
 ·rw [Z9n _ hj,Z9n _ hj]
  by_cases e:a = j
  ·subst e
   rw [if_pos rfl,Z71,if_pos h,if_pos (by simp),List.idxOf_append,if_neg hv]
   simp
  ·rw [if_neg e]
   have e':¬ j = a:=fun h => e h.symm
   by_cases hm:j ∈ v
   ·rw [if_pos hm,if_pos (by simp [hm]),List.idxOf_append,if_pos hm]
   ·rw [if_neg hm,if_neg (by simp [hm,e'])]
 ·have h1:(outL n v)[j]? = none:=List.getElem?_eq_none (by rw [Z71]; omega)
  have h2:(outL n (v ++ [a]))[j]? = none:=List.getElem?_eq_none (by rw [Z71]; omega)
  rw [h1,h2]
  split
  ·rename_i e
   subst e
   omega
  ·rfl
theorem Zkg {α:Type} (l:List α) (d:α) (v:List Nat) (a:Nat):pick l d (v ++ [a]) = pick l d v ++ [(l[a]?).getD d]:=by simp [pick]
theorem Z9j {α:Type} (l:List α) (d:α) (v:List Nat):(pick l d v).length = v.length:=by simp [pick]
theorem Zpl {α:Type} (x:List α) (d y:α) (n:Nat) (h:x.length < n):(x ++ List.replicate (n - x.length) d).set x.length y = (x ++ [y]) ++ List.replicate (n - (x.length + 1)) d:=by
 have e:n - x.length = (n - (x.length + 1)) + 1:=by omega
 rw [e,List.replicate_succ,List.set_append_right _ _ (Nat.le_refl _),Nat.sub_self,List.set_cons_zero]
 simp
theorem Zcr {cs:List CV} {v:List Nat} (h:v.length ≤ cs.length):(Z1s cs v).length = cs.length:=by
 unfold Z1s
 rw [List.length_append,Z9j,List.length_replicate]
 omega
theorem Zti {n:Nat} {V:List AVal} {v:List Nat} (h:v.length ≤ n):(Z2g n V v).length = n:=by
 unfold Z2g
 rw [List.length_append,Z9j,List.length_replicate]
 omega
theorem Zqw {cs:List CV} {v:List Nat} {a:Nat} {c:CV} (h:v.length < cs.length) (hc:cs[a]? = some c):(Z1s cs v).set v.length c = Z1s cs (v ++ [a]):=by
 have:=Zpl (pick cs Z0v v) Z0v c cs.length (by rw [Z9j]; exact h)
 rw [Z9j] at this
 unfold Z1s
 rw [this,Zkg,hc,List.length_append]
 rfl
theorem Zqq {n:Nat} {V:List AVal} {v:List Nat} {a:Nat} {kv:AVal} (h:v.length < n) (hc:V[a]? = some kv):(Z2g n V v).set v.length kv = Z2g n V (v ++ [a]):=by
 have:=Zpl (pick V .nilSlice v) .nilSlice kv n (by rw [Z9j]; exact h)
 rw [Z9j] at this
 unfold Z2g
 rw [this,Zkg,hc,List.length_append]
 rfl
theorem Z0x.pick:∀ {v:List Nat} {K:List (List Int)} {V:List AVal} {m:Lets},Z0x K V m→v.Nodup→(∀ a ∈ v,a < K.length)→∃ m1 d,Z0x (pick K [] v) (pick V .nilSlice v) m1∧m.Perm (m1 ++ d)
 | [],K,V,m,h,_,_ => ⟨[],m,rfl,by simp⟩
 | a :: v,K,V,m,h,hn,hlt => by
  rw [List.nodup_cons] at hn
  have ha:=hlt a (by simp)
  obtain ⟨kv,m1,m2,g1,g2,g3,g4⟩:=h.at (i:=a) (ks:=K[a]) (List.getElem?_eq_getElem ha)
  have h2:=g4 [] .nilSlice [] (.inl ⟨rfl,rfl,rfl⟩)
  obtain ⟨m3,d,e1,e2⟩:=Z0x.pick (v:=v) h2 hn.2 (fun x hx => by simpa using hlt x (by simp [hx]))
  have hk:Go.Proofs.pick (K.set a []) [] v = Go.Proofs.pick K [] v:=by
   unfold Go.Proofs.pick
   refine List.map_congr_left fun x hx => ?_
   rw [List.getElem?_set_ne (show a ≠ x from fun e => hn.1 (e.symm ▸ hx))]
  have hv:Go.Proofs.pick (V.set a .nilSlice) .nilSlice v = Go.Proofs.pick V .nilSlice v:=by
   unfold Go.Proofs.pick
   refine List.map_congr_left fun x hx => ?_
   rw [List.getElem?_set_ne (show a ≠ x from fun e => hn.1 (e.symm ▸ hx))]
  rw [hk,hv] at e1
  refine ⟨m1 ++ m3,d,⟨m1,m3,List.Perm.refl _,?_,e1⟩,?_⟩
  ·show RowR ((V[a]?).getD .nilSlice) ((K[a]?).getD []) m1
   rw [List.getElem?_eq_getElem ha,g1]
   exact g2
  ·refine Z19 fun x => ?_
   have i1:=Z4u g3 x
   have i2:=Z4u e2 x
   simp only [Z0w,Z1x] at i1 i2 ⊢
   omega
theorem Z0x.nils:∀ {K:List (List Int)} {V:List AVal} {m:Lets} (k:Nat),Z0x K V m→Z0x (K ++ List.replicate k []) (V ++ List.replicate k .nilSlice) m
 | K,V,m,0,h => by simpa using h
 | K,V,m,k + 1,h => by
  have:=(Z0x.nils k h).snoc (mk:=[]) (ks:=[]) (kv:=.nilSlice) (.inl ⟨rfl,rfl,rfl⟩)
  rw [List.replicate_succ',List.replicate_succ',← List.append_assoc,← List.append_assoc]
  simpa using this
theorem Zq4 (cs:List CV) (v:List Nat):(Z1s cs v).map CV.kids = pick (cs.map CV.kids) [] v ++ List.replicate (cs.length - v.length) []:=by
 unfold Z1s pick
 rw [List.map_append,List.map_map,List.map_replicate]
 congr 1
 refine List.map_congr_left fun a _ => ?_
 simp only [Function.comp,List.getElem?_map]
 cases cs[a]? <;> rfl
theorem Zud (l:List RC) (i:Nat) (c:RC) (h:i < l.length):lay (encs l) (i * 4) [.bool c.taken,.str c.name,c.kv,.int .i64 c.held] = encs (l.set i c):=Zdy l i c h
theorem Zuz {s0 s:St} {W:Pos→Prop} {cs:List CV} {V:List AVal} {vs:AVal} {a:Nat} {v:List Nat} {B7 B4 Bo B6 pn B1 hb p:Pos} {pre r:Lets} {Q:AVal→St→Prop} (hV:V.length = cs.length) (hmax:cs.length ≤ 400)
  (hc:Ctx s0 W (pre ++ ((B7,C [.int .i64 v.length]) :: (B4,C [.slice Bo 0 cs.length (.lim cs.length)]) :: (Bo,C (ints (outL cs.length v))) :: (B6,C [.slice pn 0 cs.length (.lim cs.length)]) :: (pn,C (encs (rcs (Z1s cs v) (Z2g cs.length V v)))) :: (B1,C [.ptr hb 0]) :: (hb,C [.slice p 0 cs.length (.lim cs.length),vs]) :: (p,C (encs (rcs cs V))) :: r)) s)
  (ha:a < cs.length) (hav:a ∉ v) (hvn:v.Nodup) (hvlt:∀ y ∈ v,y < cs.length)
  (hkv:∀ (i:Nat) kv,V[i]? = some kv→kv.cells = [kv]∧∀ t,¬ kv = .tup t)
  (q:∀ s',Ctx s0 W (pre ++ ((B7,C [.int .i64 (v ++ [a]).length]) :: (B4,C [.slice Bo 0 cs.length (.lim cs.length)]) :: (Bo,C (ints (outL cs.length (v ++ [a])))) :: (B6,C [.slice pn 0 cs.length (.lim cs.length)]) :: (pn,C (encs (rcs (Z1s cs (v ++ [a])) (Z2g cs.length V (v ++ [a]))))) :: (B1,C [.ptr hb 0]) :: (hb,C [.slice p 0 cs.length (.lim cs.length),vs]) :: (p,C (encs (rcs cs V))) :: r)) s'→Q (.tup []) s') :
  Z0b Tryd.prog 81 [.int .i64 a,.ptr B7 0,.ptr B4 0,.ptr B1 0,.ptr B6 0] s Q:=by
 have hvl:v.length < cs.length:=by
  have:=Z2l (n:=cs.length) (v:=v ++ [a]) (by rw [List.nodup_append]; exact ⟨hvn,by simp,by rintro x hx y hy rfl; simp at hy; exact hav (hy ▸ hx)⟩) (by intro y hy; rcases List.mem_append.1 hy with hy | hy; exact hvlt y hy; simp at hy; omega)
  simp at this
  omega
 have hc0:Ctx s0 W ((B7,C [.int .i64 v.length]) :: (B4,C [.slice Bo 0 cs.length (.lim cs.length)]) :: (Bo,C (ints (outL cs.length v))) :: (B6,C [.slice pn 0 cs.length (.lim cs.length)]) :: (pn,C (encs (rcs (Z1s cs v) (Z2g cs.length V v)))) :: (B1,C [.ptr hb 0]) :: (hb,C [.slice p 0 cs.length (.lim cs.length),vs]) :: (p,C (encs (rcs cs V))) :: (pre ++ r)) s:=hc.perm (Z19 fun x => by
  simp only [Z0o,Z0w]
  omega)
 have hcd:cs[a]? = some cs[a]:=List.getElem?_eq_getElem ha
 obtain ⟨kv,hkv0⟩:∃ kv,V[a]? = some kv:=⟨_,List.getElem?_eq_getElem (by omega)⟩
 obtain ⟨hkc,hkt⟩:=hkv a kv hkv0
 have hseg:=Z8f _ a _ (Z18 hcd hkv0)
 simp only [RC.enc] at hseg
 have hle:a * 4 + 4 ≤ (encs (rcs cs V)).length:=by rw [Z2c,Z17 hV]; omega
 have hrl:(rcs (Z1s cs v) (Z2g cs.length V v)).length = cs.length:=by rw [Z17 (by rw [Zcr (by omega),Zti (by omega)]),Zcr (by omega)]
 have hle2:v.length * 4 + 4 ≤ (encs (rcs (Z1s cs v) (Z2g cs.length V v))).length:=by rw [Z2c,hrl]; omega
 have hlay:=Zud (rcs (Z1s cs v) (Z2g cs.length V v)) v.length ⟨cs[a].taken,cs[a].name,kv,cs[a].held⟩ (by omega)
 rw [Z9f (d:=cs[a]),Zqw hvl hcd,Zqq hvl hkv0] at hlay
 have hlay2:=Z68 (outL cs.length v) a (v.length:Int) (by rw [Z71]; exact ha)
 rw [Zuv ha hav] at hlay2
 have hol:(outL cs.length v).length = cs.length:=Z71 _ _
 have hwr:IntKind.wrap .i64 ((v.length:Int) + 1) = (((v ++ [a]).length:Nat):Int):=by rw [List.length_append,List.length_singleton,IntWalk.i64_in _ (by omega)]; omega
 generalize outL cs.length v = ov at hc0 hlay2 hol
 generalize hov':outL cs.length (v ++ [a]) = ov' at hlay2 q
 refine Z07 (Z0e (by decide)) fi81 rfl (by decide) rfl ?_
 refine Z00 ?_
 have hle3:a + 1 ≤ ov.length:=by omega
 simp [lay] at hlay2
 simp [hc0.c 0 rfl,hc0.c 1 rfl,hc0.o 2 rfl,ha,hle3]
 rw [hlay2]
 have c1:=hc0.put 2 rfl (C (ints ov'))
 simp only [List.set_cons_succ,List.set_cons_zero] at c1
 generalize s.put Bo (.cells (List.map (fun k => .int .i64 k) ov') false) = s1 at c1 ⊢
 refine Z00 ?_
 generalize hpc:encs (rcs (Z1s cs v) (Z2g cs.length V v)) = pcs at c1 hle2 hlay
 have hvl':(v.length:Int) < (cs.length:Int):=by omega
 simp [lay] at hlay
 simp [c1.c 0 rfl,c1.c 3 rfl,c1.c 5 rfl,c1.c 6 rfl,c1.c 7 rfl,c1.o 4 rfl,ha,hvl,hvl',hle,hseg,hle2,hkc,hkt]
 rw [hlay]
 have c2:=c1.put 4 rfl (C (encs (rcs (Z1s cs (v ++ [a])) (Z2g cs.length V (v ++ [a])))))
 simp only [List.set_cons_succ,List.set_cons_zero] at c2
 generalize s1.put pn (.cells (encs (rcs (Z1s cs (v ++ [a])) (Z2g cs.length V (v ++ [a])))) false) = s2 at c2 ⊢
 refine AM.wp_region ?_
 simp [c2.c 0 rfl,c2.o 0 rfl,hwr,-List.length_append]
 have c3:=c2.put 0 rfl (C [.int .i64 ((v ++ [a]).length:Nat)])
 simp only [List.set_cons_zero] at c3
 refine q _ (c3.perm (Z19 fun x => by
  simp only [Z0o,Z0w]
  omega))
end Go.Proofs
end
section
/- alike.merged: the walk. -/
open Go Go.AM
namespace Go.Proofs
set_option maxRecDepth 100000
theorem Zu8 {s:St} {nds:List ND} {Nv Lv Cv:AVal} {L:List Nat} {cls:List Int} {M:Nat} {Q:AVal→St→Prop} (hw:s.Wf) (hN:Z1c s Nv nds) (hL:Z0c s Lv (nats L)) (hC:Z0c s Cv cls)
  (hn:nds.length ≤ 1000) (hLl:L.length ≤ 1000) (hcl:cls.length = nds.length) (hlt:∀ a ∈ L,a < nds.length)
  (hk:∀ (a:Nat) nd,nds[a]? = some nd→nd.2.length ≤ 4∧∀ k ∈ nd.2,0 ≤ k∧k < nds.length) (hnm:∀ (a:Nat) nd,a ∈ L→nds[a]? = some nd→nd.1 ≠ [])
  (hord:∀ (j a:Nat),L[j]? = some a→∃ c:Nat,cls[a]? = some (c:Int)∧c ≤ (outF cls nds (L.take j)).length) (hM:(outF cls nds L).length = M)
  (q:∀ Bn mn s',Zde Bn (outF cls nds L) mn→Ctx s (fun _ => False) mn s'→Q (.agg [.slice Bn 0 M (.lim M),.int .i64 0]) s'):Z0b Tryd.prog 71 [Nv,Lv,Cv,.int .i64 M] s Q:=by
 have hML:M ≤ L.length:=by rw [← hM]; exact Znk _ _ _
 have hz1:M ≤ Z0h:=by unfold Z0h; omega
 have hz2:M * 40 ≤ Z0h:=by unfold Z0h; omega
 have hNt:=hN.ntup
 have hLt:=hL.ntup
 have hCt:=hC.ntup
 refine Z07 (Z0e (by decide)) fi71 rfl (by decide) rfl ?_
 refine Z00 ?_
 simp
 have d0:=(Ctx.start (fun _ => False) hw).alloc (C [.nilSlice,.int .i64 0])
 generalize s.alloc (.cells [.nilSlice,.int .i64 0] false) = s1 at d0 ⊢
 generalize s.next = B8 at d0 ⊢
 refine Z00 ?_
 simp [hz1,hz2]
 have hz0:(List.replicate M [AVal.str [],.nilSlice]).flatten = Z0p (padF M []) (List.replicate M .nilSlice):=by
  simp [padF,Z0p,penc,List.zipWith_replicate,List.flatMap]
 rw [hz0]
 have d1:=d0.alloc (C (Z0p (padF M []) (List.replicate M .nilSlice)))
 generalize s1.alloc (.cells (Z0p (padF M []) (List.replicate M .nilSlice)) false) = s2 at d1 ⊢
 generalize s1.next = Bn at d1 ⊢
 have d2:=(d1.alloc (C [.nilSlice,.int .i64 0])).put 0 rfl (C [.slice Bn 0 M (.lim M),.int .i64 0])
 simp only [List.set_cons_zero] at d2
 generalize (s2.alloc (.cells [.nilSlice,.int .i64 0] false)).put s2.next (.cells [.slice Bn 0 M (.lim M),.int .i64 0] false) = s3 at d2 ⊢
 generalize s2.next = B9 at d2 ⊢
 have hR0:Z0x ((padF M []).map Prod.snd) (List.replicate M .nilSlice) []:=by
  have:=Z0x.nils (K:=[]) (V:=[]) (m:=[]) M rfl
  simpa [padF] using this
 have d3:Ctx s (fun _ => False) ((B9,C [.slice Bn 0 M (.lim M),.int .i64 0]) :: (B8,C [.nilSlice,.int .i64 0]) :: (Bn,C (Z0p (padF M []) (List.replicate M .nilSlice))) :: []) s3:=d2.perm (Z19 fun x => by
  simp only [Z0o,Z1x]
  omega)
 refine AM.wp_seq ?_
 refine Z00 ?_
 simp [hLt,hL.len]
 refine AM.wp_block ?_
 refine AM.wp_loop (fun k t s' => ∃ (j:Nat) (V:List AVal) (mr:Lets),j ≤ L.length∧k = L.length - j∧PT.get (posOf 0) t = some Nv∧PT.get (posOf 2) t = some Cv∧PT.get (posOf 8) t = some (.ptr B8 0)∧PT.get (posOf 9) t = some (.ptr B9 0) ∧
   PT.get (posOf 18) t = some Lv∧PT.get (posOf 19) t = some (.int .i64 L.length)∧PT.get (posOf 20) t = some (.int .i64 j)∧Z0x ((padF M (outF cls nds (L.take j))).map Prod.snd) V mr ∧
   Ctx s (fun _ => False) ((B9,C [.slice Bn 0 M (.lim M),.int .i64 0]) :: (B8,C [.nilSlice,.int .i64 0]) :: (Bn,C (Z0p (padF M (outF cls nds (L.take j))) V)) :: mr) s') L.length
  ⟨0,List.replicate M .nilSlice,[],by simp,by simp,by simp,by simp,by simp,by simp,by simp,by simp,by simp,by simpa [outF] using hR0,by simpa [outF] using d3⟩ ?_
 rintro k t s' ⟨j,V,mr,hj,rfl,t0,t2,t8,t9,t18,t19,t20,hR,d⟩
 refine Z00 ?_
 simp [t19,t20]
 refine AM.wp_seq ?_
 refine AM.Z04 ?_
 by_cases hlt':j < L.length
 ·have hwr:IntKind.wrap .i64 ((j:Int) + 1) = ((j + 1:Nat):Int):=by rw [IntWalk.i64_in _ (by omega)]; omega
  obtain ⟨a,ha⟩:∃ a,L[j]? = some a:=⟨_,List.getElem?_eq_getElem hlt'⟩
  have haL:=List.mem_of_getElem? ha
  have han:=hlt a haL
  obtain ⟨nd,hnd⟩:∃ nd,nds[a]? = some nd:=⟨_,List.getElem?_eq_getElem han⟩
  obtain ⟨c,hc,hcle⟩:=hord j a ha
  have hnx:=Zc4 (cls:=cls) (nds:=nds) ha
  have hst:Z27 cls nds (outF cls nds (L.take j)) a = if (c:Int) < (outF cls nds (L.take j)).length then outF cls nds (L.take j) else outF cls nds (L.take j) ++ [Z41 cls nd]:=by
   unfold Z27
   rw [hc,hnd]
  rw [hst] at hnx
  have hmono:=Zfj cls nds L (j + 1)
  have hmono0:=Zfj cls nds L j
  obtain ⟨hk4,hkin⟩:=hk a nd hnd
  have hndn:=hnm a nd haL hnd
  have hnames:∀ x ∈ outF cls nds (L.take j),x.1 ≠ []:=fun x hx => by
   obtain ⟨b,nd',h1,h2,rfl⟩:=Zlw hx
   exact hnm b nd' (List.mem_of_mem_take h1) h2
  have hpl:(padF M (outF cls nds (L.take j))).length = M:=Zvo (by omega)
  have hVl:V.length = M:=by have:=hR.len; simpa [hpl] using this
  have hcM:c < M:=by
   by_cases h:(c:Int) < (outF cls nds (L.take j)).length
   ·omega
   ·rw [if_neg h] at hnx
    rw [hnx] at hmono
    simp at hmono
    omega
  have hel:=Z5z (ns:=padF M (outF cls nds (L.take j))) (V:=V) (by omega)
  rcases hL with ⟨_,e0⟩ | ⟨bl,ol,cl,cellsl,rfl,hbl,hcsl,hlel,hell⟩
  ·have:L = []:=by simpa using e0
   rw [this] at hlt'
   simp at hlt'
  rw [List.length_map] at t18
  have hgl:=hell j (a:Int) (by rw [List.getElem?_map,ha]; rfl)
  rcases hC with ⟨_,e0⟩ | ⟨bx,ox,cx,cellsx,rfl,hbx,hcsx,hlex,helx⟩
  ·rw [e0] at hc
   simp at hc
  have hgx:=helx a (c:Int) hc
  have hax:a < cls.length:=by omega
  rcases hN with ⟨_,e0⟩ | ⟨bn,on,cn,cellsn,rfl,hbn,hcsn,hlen,heln⟩
  ·rw [e0] at hnd
   simp at hnd
  obtain ⟨hgn,kv,hgk,hkv⟩:=heln a _ hnd
  have rl:∀ {m:Lets} {s'':St},Ctx s (fun _ => False) m s''→s''.cells bl = some cellsl:=fun d => (d.Z0f.cells hbl).trans hcsl
  have rx:∀ {m:Lets} {s'':St},Ctx s (fun _ => False) m s''→s''.cells bx = some cellsx:=fun d => (d.Z0f.cells hbx).trans hcsx
  have rn:∀ {m:Lets} {s'':St},Ctx s (fun _ => False) m s''→s''.cells bn = some cellsn:=fun d => (d.Z0f.cells hbn).trans hcsn
  simp [hlt']
  refine AM.wp_skip ?_
  simp
  refine AM.wp_seq ?_
  refine AM.wp_block ?_
  refine Z00 ?_
  simp [t18,t20,hlt',rl d,hgl]
  refine Z00 ?_
  simp [t2,t9,hax,rx d,hgx,d.c 0 rfl,hcM]
  refine AM.wp_seq ?_
  by_cases hx:(c:Int) < (outF cls nds (L.take j)).length
  ·rw [if_pos hx] at hnx
   obtain ⟨x,hxx⟩:∃ x,(outF cls nds (L.take j))[c]? = some x:=⟨_,List.getElem?_eq_getElem (by omega)⟩
   have hxn:=hnames x (List.mem_of_getElem? hxx)
   obtain ⟨kv',g1,_⟩:=hR.each (i:=c) (ks:=x.2) (by rw [List.getElem?_map,Zn7 hxx]; rfl)
   obtain ⟨e1,_⟩:=Z8i (Zn7 (M:=M) hxx) g1
   refine Z00 ?_
   simp [d.c 2 rfl,e1]
   refine AM.Z04 ?_
   simp [hxn]
   refine AM.wp_exit ?_
   simp
   refine AM.wp_region ?_
   simp [t20,hwr]
   refine ⟨L.length - (j + 1),by omega,j + 1,by omega,by omega,by simp [t0],by simp [t2],by simp [t8],by simp [t9],by simp [t18],by simp [t19],by simp,V,mr,by rw [hnx]; exact hR,by rw [hnx]; exact d⟩
  ·rw [if_neg hx] at hnx
   have hce:c = (outF cls nds (L.take j)).length:=by omega
   generalize hout:outF cls nds (L.take j) = out at *
   subst hce
   have hnew:=Zv6 (l:=out) hcM
   obtain ⟨kv0,m1,m2,g1,g2,g3,g4⟩:=hR.at (i:=out.length) (ks:=[]) (by rw [List.getElem?_map,hnew]; rfl)
   obtain rfl:m1 = []:=by
    rcases g2 with ⟨_,_,h⟩ | ⟨_,_,h,_⟩
    ·exact h
    ·exact (h rfl).elim
   obtain ⟨e1,e2⟩:=Z8i hnew g1
   refine Z00 ?_
   simp [d.c 2 rfl,e1]
   refine AM.Z04 ?_
   simp
   refine AM.wp_skip ?_
   simp
   have hl1:=Zqo nd.1 nd.2 hnew g1
   have hb1:out.length * 2 + 1 ≤ (Z0p (padF M out) V).length:=by omega
   refine Z00 ?_
   simp [t0,han,rn d,hgn,d.o 2 rfl,hb1]
   simp [lay] at hl1
   rw [hl1]
   have d1:=d.put 2 rfl (C (Z0p ((padF M out).set out.length nd) V))
   simp only [List.set_cons_succ,List.set_cons_zero] at d1
   generalize s'.put Bn (.cells (Z0p ((padF M out).set out.length nd) V) false) = s4 at d1 ⊢
   have hn1:((padF M out).set out.length nd)[out.length]? = some nd:=by rw [List.getElem?_set_self (by omega)]
   have hset:=Zn9 nd hcM
   generalize hn2:(padF M out).set out.length nd = ns1 at d1 hn1 ⊢
   have hkt:=hkv.ntup
   have hz3:nd.2.length ≤ Z0h:=by unfold Z0h; omega
   have hz4:nd.2.length * 8 ≤ Z0h:=by unfold Z0h; omega
   have hl2:=Zq6 (.slice s4.next 0 nd.2.length (.lim nd.2.length)) hn1 g1
   have hel1:(Z0p ns1 V).length = 2 * M:=by
    have e:ns1.length = M:=by rw [← hn2]; simp [hpl]
    rw [Z5z (by omega),e]
   have hb2:out.length * 2 + 1 + 1 ≤ (Z0p ns1 V).length:=by omega
   have d2:=(d1.alloc (C (List.replicate nd.2.length (.int .i64 0))))
   refine Z00 ?_
   simp [t0,han,rn d1,hgk,hkt,hkv.len,hz3,hz4,d2.o 3 rfl,hb2]
   simp [lay] at hl2
   rw [hl2]
   have d3:=d2.put 3 rfl (C (Z0p ns1 (V.set out.length (.slice s4.next 0 nd.2.length (.lim nd.2.length)))))
   simp only [List.set_cons_succ,List.set_cons_zero] at d3
   generalize (s4.alloc (.cells (List.replicate nd.2.length (.int .i64 0)) false)).put Bn (.cells (Z0p ns1 (V.set out.length (.slice s4.next 0 nd.2.length (.lim nd.2.length)))) false) = s5 at d3 ⊢
   generalize s4.next = Bk at d3 ⊢
   have hV2:(V.set out.length (AVal.slice Bk 0 nd.2.length (.lim nd.2.length)))[out.length]? = some (.slice Bk 0 nd.2.length (.lim nd.2.length)):=by rw [List.getElem?_set_self (by omega)]
   have hel2:(Z0p ns1 (V.set out.length (.slice Bk 0 nd.2.length (.lim nd.2.length)))).length = 2 * M:=by
    have e:ns1.length = M:=by rw [← hn2]; simp [hpl]
    rw [Z5z (by simp; omega),e]
   obtain ⟨_,e3⟩:=Z8i hn1 hV2
   have d4:Ctx s (fun _ => False) ((B9,C [.slice Bn 0 M (.lim M),.int .i64 0]) :: (B8,C [.nilSlice,.int .i64 0]) :: (Bn,C (Z0p ns1 (V.set out.length (.slice Bk 0 nd.2.length (.lim nd.2.length))))) :: (Bk,C (List.replicate nd.2.length (.int .i64 0))) :: mr) s5:=d3.perm (Z19 fun x => by
    simp only [Z0o]
    omega)
   generalize hV2e:V.set out.length (AVal.slice Bk 0 nd.2.length (.lim nd.2.length)) = V2 at hV2 hel2 e3 d4 ⊢
   refine AM.wp_seq ?_
   refine AM.wp_region ?_
   simp [t0,han,rn d4,hgk,hkt,d4.c 2 rfl,e3]
   refine Zrp (pre:=[(B9,C [.slice Bn 0 M (.lim M),.int .i64 0]),(B8,C [.nilSlice,.int .i64 0]),(Bn,C (Z0p ns1 V2))]) (r:=mr) (ks:=nd.2) (kv:=kv) (c:=.lim nd.2.length) (by simpa using d4) (by simp) (by simp) (hkv.keep d4.Z0f) fun _ s6 d5 => ?_
   simp only [List.cons_append,List.nil_append] at d5
   refine Z00 ?_
   simp [d5.c 2 rfl,e3]
   refine AM.wp_block ?_
   refine AM.wp_loop (fun k t s' => ∃ i:Nat,i ≤ nd.2.length∧k = nd.2.length - i∧PT.get (posOf 0) t = some (.slice bn on nds.length cn)∧PT.get (posOf 2) t = some (.slice bx ox cls.length cx)∧PT.get (posOf 8) t = some (.ptr B8 0)∧PT.get (posOf 9) t = some (.ptr B9 0) ∧
     PT.get (posOf 18) t = some (.slice bl ol L.length cl)∧PT.get (posOf 19) t = some (.int .i64 L.length)∧PT.get (posOf 20) t = some (.int .i64 j)∧PT.get (posOf 12) t = some (.ptr Bn (out.length * 2)) ∧
     PT.get (posOf 67) t = some (.slice Bk 0 nd.2.length (.lim nd.2.length))∧PT.get (posOf 68) t = some (.int .i64 nd.2.length)∧PT.get (posOf 69) t = some (.int .i64 i) ∧
     Ctx s (fun _ => False) ((B9,C [.slice Bn 0 M (.lim M),.int .i64 0]) :: (B8,C [.nilSlice,.int .i64 0]) :: (Bn,C (Z0p ns1 V2)) :: (Bk,C (ints (Z4c (clOf cls) nd.2 i))) :: mr) s') nd.2.length
    ⟨0,by simp,by simp,by simp [t0],by simp [t2],by simp [t8],by simp [t9],by simp [t18],by simp [t19],by simp [t20],by simp,by simp,by simp,by simp,by rw [Zq1]; exact d5⟩ ?_
   rintro k t s' ⟨i,hi,rfl,t0,t2,t8,t9,t18,t19,t20,t12,t67,t68,t69,d⟩
   refine Z00 ?_
   simp [t68,t69]
   refine AM.wp_seq ?_
   refine AM.Z04 ?_
   by_cases hilt:i < nd.2.length
   ·have hwi:IntKind.wrap .i64 ((i:Int) + 1) = ((i + 1:Nat):Int):=by rw [IntWalk.i64_in _ (by omega)]; omega
    obtain ⟨kk,hkk⟩:∃ kk,nd.2[i]? = some kk:=⟨_,List.getElem?_eq_getElem hilt⟩
    obtain ⟨hk0,hk1⟩:=hkin kk (List.mem_of_getElem? hkk)
    obtain ⟨kc,rfl⟩:∃ n:Nat,kk = (n:Int):=⟨kk.toNat,by omega⟩
    have hkc:kc < cls.length:=by omega
    obtain ⟨cc,hcc⟩:∃ cc,cls[kc]? = some cc:=⟨_,List.getElem?_eq_getElem hkc⟩
    have hto:clOf cls (kc:Int) = cc:=by unfold clOf; rw [Int.toNat_natCast,hcc]; rfl
    have hgxx:=helx kc cc hcc
    have hgm:(ints (Z4c (clOf cls) nd.2 i))[i]? = some (.int .i64 kc):=by rw [List.getElem?_map,Zug hkk]; rfl
    have hlay:lay (ints (Z4c (clOf cls) nd.2 i)) i [.int .i64 cc] = ints (Z4c (clOf cls) nd.2 (i + 1)):=by
     have:=Z68 (Z4c (clOf cls) nd.2 i) i (clOf cls kc) (by rw [Zke]; omega)
     rw [Zpx hkk,hto] at this
     exact this
    have hml:(ints (Z4c (clOf cls) nd.2 i)).length = nd.2.length:=by simp [Zke]
    simp [hilt]
    refine AM.wp_skip ?_
    simp
    refine AM.wp_seq ?_
    refine AM.wp_block ?_
    refine Z00 ?_
    have hown:=d.c 3 rfl
    have hown':=d.o 3 rfl
    have dd:=d.put 3 rfl (C (ints (Z4c (clOf cls) nd.2 (i + 1))))
    simp only [List.set_cons_succ,List.set_cons_zero] at dd
    generalize hmv:ints (Z4c (clOf cls) nd.2 i) = mv at hgm hlay hml hown hown' d
    have hlei:i + 1 ≤ mv.length:=by omega
    simp [t67,t69,hilt,hown,hgm]
    refine AM.wp_region ?_
    simp [t12,t67,t69,t2,hilt,d.c 2 rfl,e3,hkc,rx d,hgxx,hown',hlei]
    simp [lay] at hlay
    rw [hlay]
    refine AM.wp_region ?_
    simp [t69,hwi]
    exact ⟨nd.2.length - (i + 1),by omega,i + 1,by omega,by omega,by simp [t0],by simp [t2],by simp [t8],by simp [t9],by simp [t18],by simp [t19],by simp [t20],by simp [t12],by simp [t67],by simp [t68],by simp,dd⟩
   ·simp [hilt]
    refine AM.wp_exit ?_
    simp
    have hie:i = nd.2.length:=by omega
    subst hie
    rw [Zul] at d
    have hcm:nd.2.map (clOf cls) = (Z41 cls nd).2:=rfl
    rw [hcm] at d
    have hset':=Zn9 (Z41 cls nd) hcM
    have hname:Z0p ns1 V2 = Z0p (padF M (out ++ [Z41 cls nd])) V2:=by
     refine Zoo V2 ?_
     rw [← hn2,← hset',List.map_set,List.map_set]
     rfl
    rw [hname] at d
    have hfin:∃ mr',Z0x ((padF M (out ++ [Z41 cls nd])).map Prod.snd) V2 mr'∧Ctx s (fun _ => False) ((B9,C [.slice Bn 0 M (.lim M),.int .i64 0]) :: (B8,C [.nilSlice,.int .i64 0]) :: (Bn,C (Z0p (padF M (out ++ [Z41 cls nd])) V2)) :: mr') s':=by
     have g5:∀ (ks':List Int) (kv':AVal) (m1':Lets),RowR kv' ks' m1'→Z0x (((padF M out).map Prod.snd).set out.length ks') (V.set out.length kv') (m1' ++ m2):=g4
     have hms:(padF M (out ++ [Z41 cls nd])).map Prod.snd = ((padF M out).map Prod.snd).set out.length (Z41 cls nd).2:=by rw [← hset',List.map_set]
     rw [hms,← hV2e]
     rw [← hV2e] at d
     by_cases h0:nd.2 = []
     ·refine ⟨[] ++ m2,g5 _ _ [] (.inl ⟨by simp [Z41,h0],by simp [h0],rfl⟩),(d.sub (.cons_cons _ (.cons_cons _ (.cons_cons _ (List.sublist_cons_self _ _))))).perm ?_⟩
      exact List.Perm.cons _ (List.Perm.cons _ (List.Perm.cons _ g3))
     ·refine ⟨[(Bk,C (ints (Z41 cls nd).2))] ++ m2,g5 _ _ _ (.inr ⟨Bk,.lim nd.2.length,by simpa [Z41] using h0,by simp [Z41],rfl⟩),d.perm ?_⟩
      exact List.Perm.cons _ (List.Perm.cons _ (List.Perm.cons _ (List.Perm.cons _ g3)))
    obtain ⟨mr',hR',d'⟩:=hfin
    refine AM.wp_region ?_
    simp [t20,hwr]
    refine ⟨L.length - (j + 1),by omega,j + 1,by omega,by omega,by simp [t0],by simp [t2],by simp [t8],by simp [t9],by simp [t18],by simp [t19],by simp,V2,mr',by rw [hnx]; exact hR',by rw [hnx]; exact d'⟩
 ·simp [hlt']
  refine AM.wp_exit ?_
  simp
  have hje:j = L.length:=by omega
  subst hje
  rw [List.take_length] at hR d
  have hpad:padF M (outF cls nds L) = outF cls nds L:=by unfold padF; rw [hM,Nat.sub_self]; simp
  rw [hpad] at hR d
  refine Z00 ?_
  simp [t8,t9,d.c 0 rfl,d.o 1 rfl]
  have e:=d.put 1 rfl (C [.slice Bn 0 M (.lim M),.int .i64 0])
  simp only [List.set_cons_succ,List.set_cons_zero] at e
  generalize s'.put B8 (.cells [.slice Bn 0 M (.lim M),.int .i64 0] false) = s4 at e ⊢
  refine AM.wp_ret ?_
  simp [t8,e.c 1 rfl]
  exact q Bn _ s4 ⟨V,mr,List.Perm.refl _,hR⟩ e.tail.tail
end Go.Proofs
end
section
/- alike.Least: the contract. -/
open Go Go.AM
namespace Go.Proofs
set_option maxRecDepth 100000
theorem Zfq {ns:List ND} (h:GrOk ns) {roots:List Nat} (hr:∀ r ∈ roots,r < ns.length):Closed ns (bfsF (kidG ns) ns.length roots)∧(bfsF (kidG ns) ns.length roots).Nodup∧(∀ a ∈ bfsF (kidG ns) ns.length roots,a < ns.length)∧∀ r ∈ roots,r ∈ bfsF (kidG ns) ns.length roots:=by
 obtain ⟨h1,h2,h3,h4,_⟩:=Zej (n:=ns.length) h.Zjg roots hr
 refine ⟨⟨h2,fun a ha x hx => ?_⟩,h1,h2,h4⟩
 refine ⟨(h x (List.mem_of_getElem? hx)).1,fun k hk => h3 a ha _ ?_⟩
 rw [Zdu hx]
 exact List.mem_map.2 ⟨k,hk,rfl⟩
theorem Zkh {ns:List ND} {root:Int} (h:Z1k ns root = 0):1 ≤ ns.length∧ns.length ≤ 60∧GrOk ns∧(∀ nd ∈ ns,Z3j nd.1 = true)∧0 ≤ root∧root < ns.length:=by
 unfold Z1k at h
 split at h
 ·cases h
 ·rename_i h1
  split at h
  ·cases h
  ·rename_i h2
   split at h
   ·cases h
   ·rename_i h3
    simp only [not_or,Bool.not_eq_false,List.all_eq_true,decide_eq_true_eq,Bool.and_eq_true] at h1 h2 h3
    exact ⟨by omega,by omega,fun nd hnd => ⟨h1.2.2 nd hnd,fun k hk => h3.2 nd hnd k hk⟩,h2,h3.1⟩
theorem Zt8 {nm:List UInt8} (h:Z3j nm = true):nm ≠ []:=by
 rintro rfl
 simp [Z3j] at h
noncomputable def Z5x (ns:List ND) (r:Nat):List ND:=outF (clsF ns (bfsF (kidG ns) ns.length [r])) ns (bfsF (kidG ns) ns.length [r])
def Z7y (s:St) (nv:AVal) (ns:List ND):Prop:=(Z1b nv = some 0∧ns = []) ∨ ∃ p c,nv = .slice p 0 ns.length c∧NodesG s p ns
theorem Z7y.keep {s s':St} {nv:AVal} {ns:List ND} (h:Z7y s nv ns) (k:Keeps s s'):Z7y s' nv ns:=by
 rcases h with h | ⟨p,c,h1,h2⟩
 ·exact .inl h
 ·exact .inr ⟨p,c,h1,h2.keep k⟩
theorem Z7y.at {s:St} {nv:AVal} {ns:List ND} (h:Z7y s nv ns):Z1c s nv ns:=by
 rcases h with h | ⟨p,c,rfl,h2⟩
 ·exact .inl h
 ·exact h2.of c
theorem Zkq {s:St} {p:Pos} {ns:List ND} {c:Cap} (hne:ns ≠ []) (h:Z1c s (.slice p 0 ns.length c) ns):NodesG s p ns:=by
 rcases h with ⟨_,h⟩ | ⟨b,o,c',cs,e,h1,h2,h3,h4⟩
 ·exact (hne h).elim
 ·cases e
  refine ⟨h1,cs,h2,by omega,fun i nd hi => ?_⟩
  have:=h4 i nd hi
  rwa [Nat.zero_add] at this
theorem Z2q.at0 {s0 s:St} {W:Pos→Prop} {nv:AVal} {ns:List ND} {m:Lets} (h:Z2q nv ns m) (hc:Ctx s0 W m s):Z7y s nv ns:=by
 have h':=h.at hc
 rcases h with ⟨rfl,rfl,_⟩ | ⟨q,V,mr,hne,rfl,hp,hR⟩
 ·exact .inl ⟨rfl,rfl⟩
 ·exact .inr ⟨q,_,rfl,Zkq hne h'⟩
theorem Zde.at0 {s0 s:St} {W:Pos→Prop} {Bn:Pos} {ns:List ND} {m:Lets} (h:Zde Bn ns m) (c:Cap) (hc:Ctx s0 W m s) (hne:ns ≠ []):Z7y s (.slice Bn 0 ns.length c) ns :=
 .inr ⟨Bn,c,rfl,Zkq hne (h.at c hc)⟩
theorem Zvj {s:St} {nv:AVal} {ns:List ND} {root:Int} {Q:AVal→St→Prop} (hw:s.Wf) (hN:Z7y s nv ns) (hsm:Zdh ns) (hmax:ns.length ≤ 2 ^ 62)
  (q0:∀ s',Keeps s s'→Z1k ns root ≠ 0→Q (.tup [.agg [.nilSlice,.int .i64 0],.int .i64 (Z1k ns root)]) s')
  (q:∀ Bn mn s',Z1k ns root = 0→Zde Bn (Z5x ns root.toNat) mn→Ctx s (fun _ => False) mn s'→Q (.tup [.agg [.slice Bn 0 (Z5x ns root.toNat).length (.lim (Z5x ns root.toNat).length),.int .i64 0],.int .i64 0]) s') :
  Z0b Tryd.prog 23 [.agg [nv,.int .i64 root]] s Q:=by
 have hNt:=hN.at.ntup
 have hNc:=hN.at.Z8b
 refine Z07 (Z0e (by decide)) fi23 rfl (by decide) rfl ?_
 refine Z00 ?_
 simp [hNt,hNc]
 have d1:=(Ctx.start (fun _ => False) hw).alloc (C [nv,.int .i64 root])
 generalize s.alloc (.cells [nv,.int .i64 root] false) = s1 at d1 ⊢
 generalize s.next = B1 at d1 ⊢
 have d2:=d1.alloc (C [.nilSlice,.int .i64 0])
 generalize s1.alloc (.cells [.nilSlice,.int .i64 0] false) = s2 at d2 ⊢
 generalize s1.next = B2 at d2 ⊢
 refine AM.wp_seq ?_
 refine Z00 ?_
 simp [d2.c 1 rfl,hNt,hNc]
 have d3:=d2.alloc (C [nv,.int .i64 root])
 generalize s2.alloc (.cells [nv,.int .i64 root] false) = s3 at d3 ⊢
 generalize s2.next = T at d3 ⊢
 have hT:Z6k s3 (.slice T 0 1 (.lim 1)) [(ns,root)]:=by
  refine .inr ⟨T,0,.lim 1,_,rfl,d3.oi 0 rfl,d3.c 0 rfl,by simp,fun i t hi => ?_⟩
  cases i with
  | succ i => simp at hi
  | zero =>
   simp at hi
   subst hi
   exact ⟨nv,rfl,rfl,hN.at.keep d3.Z0f⟩
 refine Z02 ?_
 refine Zq3 d3.wf hT (by
  intro t ht
  simp at ht
  subst ht
  exact ⟨hmax,hsm⟩) (by simp) fun s4 k4 => ?_
 have d4:=d3.keeps k4
 have hcf:Z8d [(ns,root)] = Z1k ns root:=by
  unfold Z8d
  simp only [List.find?_cons,List.find?_nil]
  by_cases h:Z1k ns root = 0
  ·simp [h]
  ·simp [h]
 rw [hcf]
 simp
 refine Z00 ?_
 simp
 refine AM.Z04 ?_
 by_cases hz:Z1k ns root = 0
 ·simp [hz]
  refine AM.wp_skip ?_
  simp
  obtain ⟨o1,o2,hO,hnm,r0,r1⟩:=Zkh hz
  obtain ⟨rt,rfl⟩:∃ n:Nat,root = (n:Int):=⟨root.toNat,by omega⟩
  rw [Int.toNat_natCast] at q
  refine Z00 ?_
  simp [d4.c 2 rfl,hNt,hNc]
  have d5:=d4.alloc (C [.int .i64 rt])
  generalize s4.alloc (.cells [.int .i64 rt] false) = s5 at d5 ⊢
  generalize s4.next = T2 at d5 ⊢
  have hr:∀ a ∈ [rt],a < ns.length:=by simp; omega
  refine Z02 ?_
  refine Zmg (roots:=[rt]) d5.wf (hN.at.keep d5.Z0f) hO (by omega) ?_ (by simp) hr fun lv mg s6 hg hx => ?_
  ·have e:=Z37 (ks:=[(rt:Int)]) d5.wf (d5.o 0 rfl) (.lim 1)
   exact e
  obtain ⟨hC,hnd,hlt,hroot⟩:=Zfq hO hr
  have hLl:=Z2l hnd hlt
  unfold Z5x at q
  generalize bfsF (kidG ns) ns.length [rt] = L at hg hC hnd hlt hroot hLl q
  have d6:=d5.keeps hx.Z0f
  have hLv:Z0c s6 lv (nats L):=(hg.row.kid fun y hy => hx.own y hy).ints hx.wf
  rcases (hN.keep d6.Z0f) with ⟨_,e0⟩ | ⟨p,c0,rfl,hG⟩
  ·rw [e0] at o1
   simp at o1
  have hks:∀ (a:Nat) nd,ns[a]? = some nd→nd.2.length ≤ 4∧∀ k ∈ nd.2,0 ≤ k∧k < ns.length:=fun a nd h => hO nd (List.mem_of_getElem? h)
  have hLne:L ≠ []:=by
   rintro rfl
   simpa using hroot rt (by simp)
  obtain ⟨R,g1,g2,g3⟩:=Zot hC hLne
  simp
  refine Z00 ?_
  simp [d6.c 3 rfl,hg.ntup]
  refine Z02 ?_
  refine Zon d6.wf hG (by omega) hLv hC.lt (by omega) hks g1 g2 fun Bx s7 k7 _ hox => ?_
  have d7:=d6.keeps k7
  rw [Zp9 hC g3,← Zmp hC]
  rw [g3] at hox
  simp
  refine Z00 ?_
  simp [d7.c 3 rfl,hg.ntup]
  refine Z02 ?_
  have hcl:=Z74 hC
  have hCx:Z0c s7 (.slice Bx 0 ns.length (.lim ns.length)) (clsF ns L):=by
   have:=Z37 d7.wf hox (.lim ns.length)
   rwa [hcl] at this
  refine Zu8 (nds:=ns) d7.wf (hN.at.keep d7.Z0f) (hLv.keep k7) hCx (by omega) (by omega) hcl hC.lt hks (fun a nd _ h => Zt8 (hnm nd (List.mem_of_getElem? h))) (fun j a hj => ?_) rfl fun Bn mn s8 hM hc8 => ?_
  ·have hj':=(List.getElem?_eq_some_iff.1 hj).1
   have hsp:L = L.take j ++ a :: L.drop (j + 1):=by
    have h1:=List.take_append_drop j L
    rw [List.drop_eq_getElem_cons hj'] at h1
    have h2:L[j] = a:=(List.getElem?_eq_some_iff.1 hj).2
    rw [h2] at h1
    exact h1.symm
   obtain ⟨c,e1,e2,_⟩:=Ze3 hC hsp
   exact ⟨c,e1,e2⟩
  have d8:Ctx s (fun _ => False) (mn ++ [(T2,C [.int .i64 rt]),(T,C [.slice p 0 ns.length c0,.int .i64 rt]),(B2,C [.nilSlice,.int .i64 0]),(B1,C [.slice p 0 ns.length c0,.int .i64 rt])]) s8:=Ctx.on (m:=[]) (by simpa using d7) (by simpa using hc8)
  have d9:=d8.perm (m':=(B2,C [.nilSlice,.int .i64 0]) :: (mn ++ [(T2,C [.int .i64 rt]),(T,C [.slice p 0 ns.length c0,.int .i64 rt]),(B1,C [.slice p 0 ns.length c0,.int .i64 rt])])) (Z19 fun x => by
   simp only [Z0o,Z0w,Z1x]
   omega)
  simp [d9.o 0 rfl]
  have d10:=d9.put 0 rfl (C [.slice Bn 0 (outF (clsF ns L) ns L).length (.lim (outF (clsF ns L) ns L).length),.int .i64 0])
  simp only [List.set_cons_zero] at d10
  refine AM.wp_ret ?_
  simp
  exact q Bn mn _ hz hM (d10.tail.sub (List.sublist_append_left mn _))
 ·simp [hz]
  refine Z00 ?_
  simp [d4.o 1 rfl]
  have d5:=d4.put 1 rfl (C [.nilSlice,.int .i64 0])
  simp only [List.set_cons_succ,List.set_cons_zero] at d5
  refine AM.wp_ret ?_
  simp
  exact q0 _ d5.Z0f hz
end Go.Proofs
end
section
/- found: in plain; the kids of a node that is moved up. -/
open Go Go.AM
namespace Go.Proofs
set_option maxRecDepth 100000
/-! ### In plain -/
def Z6x (n:Nat) (nd:ND):ND:=(nd.1,nd.2.map fun k => (n:Int) + k)
def bigG (cs:List CV) (ts:List ND):List ND:=Z0d cs ++ ts.map (Z6x cs.length)
def bigL (cs:List CV) (ts:List ND):List Nat:=Z0k cs cs.length ++ (List.range ts.length).map fun i => cs.length + i
noncomputable def Z6c (cs:List CV) (ts:List ND):List Int:=(List.range ts.length).map fun i => Z32 (fun d => decide (((clsF (bigG cs ts) (bigL cs ts))[cs.length + i]?).getD 0 = d)) ((clsF (bigG cs ts) (bigL cs ts)).take cs.length)
theorem Ze8 (cs:List CV) (ts:List ND):(bigG cs ts).length = cs.length + ts.length:=by simp [bigG,Z0t]
theorem Zc6 {cs:List CV} {ts:List ND} {a:Nat} (h:a < cs.length):(bigG cs ts)[a]? = (Z0d cs)[a]?:=by
 unfold bigG
 rw [List.getElem?_append_left (by rw [Z0t]; exact h)]
theorem Zfd {cs:List CV} {ts:List ND} (i:Nat):(bigG cs ts)[cs.length + i]? = (ts[i]?).map (Z6x cs.length):=by
 unfold bigG
 rw [List.getElem?_append_right (by rw [Z0t]; omega),Z0t,List.getElem?_map]
 congr 2
 omega
theorem Zdt {cs:List CV} {ts:List ND} {a:Nat}:a ∈ bigL cs ts ↔ (a < cs.length∧Z11 cs (a:Int) = true) ∨ (cs.length ≤ a∧a < cs.length + ts.length):=by
 unfold bigL
 rw [List.mem_append,Z3v]
 refine or_congr Iff.rfl ?_
 simp only [List.mem_map,List.mem_range]
 constructor
 ·rintro ⟨i,hi,rfl⟩
  omega
 ·rintro ⟨h1,h2⟩
  exact ⟨a - cs.length,by omega,by omega⟩
theorem Zu3 {cs:List CV} {ts:List ND} (hO:HOk cs) (hT:GrOk ts):Closed (bigG cs ts) (bigL cs ts)∧∀ (a:Nat) nd,(bigG cs ts)[a]? = some nd→nd.2.length ≤ 4∧∀ k ∈ nd.2,0 ≤ k∧k < (bigG cs ts).length:=by
 have hg:∀ (a:Nat) nd,(bigG cs ts)[a]? = some nd→(a < cs.length∧(Z0d cs)[a]? = some nd) ∨ (cs.length ≤ a∧∃ x,ts[a - cs.length]? = some x∧nd = Z6x cs.length x):=by
  intro a nd h
  by_cases ha:a < cs.length
  ·rw [Zc6 ha] at h
   exact .inl ⟨ha,h⟩
  ·obtain ⟨i,rfl⟩:∃ i,a = cs.length + i:=⟨a - cs.length,by omega⟩
   rw [Zfd] at h
   cases hx:ts[i]? with
   | none => rw [hx] at h; cases h
   | some x =>
    rw [hx] at h
    refine .inr ⟨by omega,x,by rw [Nat.add_sub_cancel_left]; exact hx,?_⟩
    simpa using h.symm
 refine ⟨⟨fun a ha => ?_,fun a ha x hx => ?_⟩,fun a nd h => ?_⟩
 ·rw [Ze8]
  rcases Zdt.1 ha with h | h <;> omega
 ·rcases hg a x hx with ⟨h1,h2⟩ | ⟨h1,y,h2,rfl⟩
  ·have hcl:=hO.closed
   have ham:a ∈ Z0k cs cs.length:=by
    rcases Zdt.1 ha with h | h
    ·exact Z3v.2 h
    ·omega
   obtain ⟨h4,hk⟩:=hcl.kids a ham x h2
   refine ⟨h4,fun k hkm => ?_⟩
   exact List.mem_append_left _ (hk k hkm)
  ·obtain ⟨h4,hk⟩:=hT y (List.mem_of_getElem? h2)
   refine ⟨by simpa [Z6x] using h4,fun k hkm => ?_⟩
   obtain ⟨k',hk',rfl⟩:=List.mem_map.1 hkm
   obtain ⟨k0,k1⟩:=hk k' hk'
   exact Zdt.2 (.inr (by omega))
 ·rw [Ze8]
  rcases hg a nd h with ⟨h1,h2⟩ | ⟨h1,y,h2,rfl⟩
  ·obtain ⟨g1,g2⟩:=hO.Zb6 a nd h2
   refine ⟨g1,fun k hk => ?_⟩
   obtain ⟨k0,k1⟩:=g2 k hk
   rw [Z0t] at k1
   omega
  ·obtain ⟨h4,hk⟩:=hT y (List.mem_of_getElem? h2)
   refine ⟨by simpa [Z6x] using h4,fun k hkm => ?_⟩
   obtain ⟨k',hk',rfl⟩:=List.mem_map.1 hkm
   obtain ⟨k0,k1⟩:=hk k' hk'
   omega
/-! ### The walk -/
section
variable {sc s:St} {fr:FI} {t0:PT AVal} {n:Nat} {r:Lets} {Q:Ex→PT AVal→St→Prop}
theorem Zrs {B9 B10:Pos} {nm:List UInt8} {kv0:AVal} {ks:List Int} (hk:Z0c sc kv0 ks) (h4:ks.length ≤ 4) (hn:n ≤ 400) (hin:∀ k ∈ ks,0 ≤ k∧k < 1000)
  (hc:Ctx sc (fun _ => False) ((B10,C [.str nm,.nilSlice]) :: (B9,C [.str nm,kv0]) :: r) s) (t7:PT.get (posOf 7) t0 = some (.int .i64 n)) (t9:PT.get (posOf 9) t0 = some (.ptr B9 0)) (t10:PT.get (posOf 10) t0 = some (.ptr B10 0))
  (q:∀ t s' kv mg,Fr [12,35,36,37,38] t0 t→Z1w kv (ks.map fun k => (n:Int) + k) mg→Ctx sc (fun _ => False) ((B10,C [.str nm,kv]) :: (B9,C [.str nm,kv0]) :: (mg ++ r)) s'→Q .normal t s'):wp Tryd.prog Zsq fr t0 s Q:=by
 have hkt:=hk.ntup
 refine Z00 ?_
 simp [t9,hc.c 1 rfl,hkt,hk.len]
 refine AM.wp_block ?_
 refine AM.wp_loop (fun m t s' => ∃ (j:Nat) (kv:AVal) (mg:Lets),j ≤ ks.length∧m = ks.length - j∧Fr [12,35,36,37,38] t0 t∧PT.get (posOf 35) t = some kv0∧PT.get (posOf 36) t = some (.int .i64 ks.length)∧PT.get (posOf 37) t = some (.int .i64 j) ∧
   Z1w kv ((ks.take j).map fun k => (n:Int) + k) mg∧Ctx sc (fun _ => False) ((B10,C [.str nm,kv]) :: (B9,C [.str nm,kv0]) :: (mg ++ r)) s') ks.length ⟨0,.nilSlice,[],by simp,by simp,?_,by simp,by simp,by simp,.inl ⟨by simp,rfl,rfl⟩,hc⟩ ?_
 ·intro y hy
  simp at hy
  simp [hy]
 rintro m t s' ⟨j,kv,mg,hj,rfl,hF,t35,t36,t37,hg,hc'⟩
 refine Z00 ?_
 simp [t36,t37]
 refine AM.wp_seq ?_
 refine AM.Z04 ?_
 by_cases hlt:j < ks.length
 ·have hwr:IntKind.wrap .i64 ((j:Int) + 1) = ((j + 1:Nat):Int):=by rw [IntWalk.i64_in _ (by omega)]; omega
  obtain ⟨k,hkk⟩:∃ k,ks[j]? = some k:=⟨_,List.getElem?_eq_getElem hlt⟩
  obtain ⟨k0,k1⟩:=hin k (List.mem_of_getElem? hkk)
  have hwk:IntKind.wrap .i64 ((n:Int) + k) = (n:Int) + k:=IntWalk.i64_in _ (by omega)
  have u7:=(hF 7 (by simp)).trans t7
  have u10:=(hF 10 (by simp)).trans t10
  rcases hk.keep hc'.Z0f with ⟨_,h0⟩ | ⟨b5,o5,c5,cells5,rfl,hb5,hcs5,hle5,hel5⟩
  ·rw [h0] at hlt
   simp at hlt
  have hgk:=hel5 _ _ hkk
  simp [hlt]
  refine AM.wp_skip ?_
  simp
  refine AM.wp_seq ?_
  refine AM.wp_block ?_
  refine Z00 ?_
  simp [t35,t37,hlt,hcs5,hgk]
  refine AM.wp_region ?_
  have hns:s'.obj s'.next = none:=hc'.wf _ (Z0a _)
  simp [u7,u10,hc'.c 0 rfl,hg.ntup,hg.cells,hns,hwk,Z1p,srcP]
  have d2:=hc'.alloc (C [.int .i64 (n + k)])
  generalize s'.alloc (.cells [.int .i64 (n + k)] false) = sB at d2 ⊢
  generalize s'.next = T at d2 ⊢
  refine Z7i (pre:=[(T,C [.int .i64 (n + k)]),(B10,C [.str nm,kv]),(B9,C [.str nm,.slice b5 o5 ks.length c5])]) d2 hg (by simp; omega) fun kv' mg' sC hg' d3 => ?_
  simp only [List.cons_append,List.nil_append] at d3
  simp [hg'.ntup,hg'.cells,d3.o 1 rfl]
  have d4:=(d3.put 1 rfl (C [.str nm,kv'])).tail
  simp only [List.set_cons_zero,List.set_cons_succ] at d4
  have hnx:((ks.take j).map fun k => (n:Int) + k) ++ [(n:Int) + k] = (ks.take (j + 1)).map fun k => (n:Int) + k:=by
   rw [List.take_add_one,hkk,List.map_append]
   simp
  rw [hnx] at hg'
  refine AM.wp_region ?_
  simp [t37,hwr]
  refine ⟨ks.length - (j + 1),by omega,j + 1,by omega,by omega,?_,by simp [t35],by simp [t36],by simp,kv',mg',by simpa using hg',d4⟩
  intro y hy
  simp at hy
  simp [hy]
  exact hF y (by simp [hy])
 ·simp [hlt]
  refine AM.wp_exit ?_
  simp
  have hje:j = ks.length:=by omega
  subst hje
  rw [List.take_length] at hg
  refine q _ s' kv mg ?_ hg hc'
  intro y hy
  simp at hy
  simp [hy]
  exact hF y (by simp [hy])
theorem Zz5 {s0:St} {W:Pos→Prop} {q:Pos} {cells:List AVal} {m:Nat} {cp:Cap} {a b:AVal} {Q:AVal→St→Prop} (h:Ctx s0 W ((q,C cells) :: r) s) (hl:cells.length = 2 * m) (h1:1 ≤ m) (hm:m ≤ 1000) (hcp:cp = .lim m ∨ cp = .opn 2)
  (qq:∀ q' s',Ctx s0 W ((q',C (cells ++ [a,b])) :: r) s'→Q (.slice q' 0 (m + 1) (.opn 2)) s'):appP (2,40) (.slice q 0 m cp) [a,b] 1 s Q:=by
 have ht:List.take (m * 2) (List.drop 0 cells) = cells:=by rw [List.drop_zero]; exact List.take_of_length_le (by omega)
 rcases hcp with rfl | rfl
 ·simp only [appP,Z3t]
  rw [if_neg (by decide),if_neg (by omega),if_neg (by omega),h.c 0 rfl]
  refine ⟨by omega,by unfold Z0h; omega,?_⟩
  rw [ht]
  exact qq _ _ ((h.alloc (C (cells ++ [a,b]))).sub (.cons_cons _ (.cons _ (List.Sublist.refl _))))
 ·simp only [appP,Z3t]
  rw [if_neg (by decide)]
  refine ⟨trivial,?_⟩
  rw [h.o 0 rfl]
  simp only [Z0u]
  rw [if_neg (by omega),if_neg (by omega)]
  refine ⟨by omega,by unfold Z0h; omega,?_⟩
  rw [ht]
  exact qq _ _ ((h.put0 .dead).tail.alloc (C (cells ++ [a,b])))
end
end Go.Proofs
end
section
/- found: the walk. -/
open Go Go.AM
namespace Go.Proofs
set_option maxRecDepth 100000
def Z3r (n:Nat) (ts:List ND) (i:Nat):List ND:=(ts.take i).map (Z6x n)
theorem Ziq {n i:Nat} {ts:List ND} {nd:ND} (h:ts[i]? = some nd):Z3r n ts (i + 1) = Z3r n ts i ++ [Z6x n nd]:=by
 unfold Z3r
 rw [List.take_add_one,h]
 simp
theorem Zyt {s0 s:St} {p:Pos} {cs:List CV} {V:List AVal} {m:Lets} {Q:AVal→St→Prop} (hc:Ctx s0 (fun _ => False) m s) (hp:s0.Old p) (hpc:s0.cells p = some (encs (rcs cs V))) (hV:V.length = cs.length) (h4:cs.length ≤ 400)
  (hK:∀ j c,(rcs cs V)[j]? = some c→Z0c s0 c.kv (Z0j cs j))
  (q:∀ pn lv mg Vg s',Z1w lv (nats (Z0k cs cs.length)) mg→Vg.length = cs.length→(∀ (i:Nat) nd kv,(Z0d cs)[i]? = some nd→Vg[i]? = some kv→Z0c s0 kv nd.2)→Ctx s0 (fun _ => False) ((pn,C (Z0p (Z0d cs) Vg)) :: (mg ++ m)) s'→Q (.tup [.slice pn 0 cs.length (.lim cs.length),lv]) s') :
  Z0b Tryd.prog 50 [.agg [.slice p 0 cs.length (.lim cs.length)]] s Q:=by
 have hl:=Z17 hV
 have htk:=Zk5 hV cs.length
 have hget:∀ (i:Nat) (c:CV),cs[i]? = some c→∃ kv,V[i]? = some kv∧(rcs cs V)[i]? = some ⟨c.taken,c.name,kv,c.held⟩:=fun i c hi => by
  have hlt:=(List.getElem?_eq_some_iff.1 hi).1
  have hv:V[i]? = some (V[i]'(by omega)):=List.getElem?_eq_getElem _
  exact ⟨_,hv,Z18 hi hv⟩
 generalize rcs cs V = l at hpc hK hl htk hget
 rw [← hl]
 refine Zl3 hc.wf (hc.Z0f.old hp) ((hc.Z0f.cells hp).trans hpc) (by omega) (fun j c hj => (hK j c hj).keep hc.Z0f) fun pn lv s3 k3 hpn hox hlv _ _ => ?_
 rw [hl] at hox hlv ⊢
 rw [htk] at hlv
 have hel:∀ (i:Nat) (c:CV),cs[i]? = some c→∃ kv,(nlI l cs.length)[i]? = some (if c.taken = true then (c.name,kv) else ([],.nilSlice))∧Z0c s0 kv c.kids:=by
  intro i c hi
  obtain ⟨kv,g1,g2⟩:=hget i c hi
  refine ⟨kv,?_,?_⟩
  ·rw [Z8q g2]
   have hlt:=(List.getElem?_eq_some_iff.1 hi).1
   simp [hlt]
  ·have:=hK i _ g2
   rwa [Z13 hi] at this
 have hPl:(nlI l cs.length).length = cs.length:=by rw [Z6n,hl]
 generalize nlI l cs.length = P at hox hel hPl
 have hP:penc P = Z0p (Z0d cs) (P.map Prod.snd):=by
  unfold Z0p
  congr 1
  refine List.ext_getElem? fun i => ?_
  by_cases hi:i < cs.length
  ·obtain ⟨kv,g1,_⟩:=hel i _ (List.getElem?_eq_getElem hi)
   rw [List.getElem?_zipWith,Z36 (List.getElem?_eq_getElem hi),List.getElem?_map,g1]
   split <;> rfl
  ·rw [List.getElem?_eq_none (by omega),List.getElem?_eq_none (by simp [Z0t]; omega)]
 rw [hP] at hox
 have hVg:∀ (i:Nat) nd kv,(Z0d cs)[i]? = some nd→(P.map Prod.snd)[i]? = some kv→Z0c s0 kv nd.2:=by
  intro i nd kv hnd hkv
  have hi:i < cs.length:=by have:=(List.getElem?_eq_some_iff.1 hnd).1; rwa [Z0t] at this
  obtain ⟨kv',g1,g2⟩:=hel i _ (List.getElem?_eq_getElem hi)
  rw [Z36 (List.getElem?_eq_getElem hi)] at hnd
  rw [List.getElem?_map,g1] at hkv
  by_cases ht:cs[i].taken = true
  ·simp [ht] at hnd hkv
   subst hnd hkv
   exact g2
  ·simp [ht] at hnd hkv
   subst hnd hkv
   exact .inl ⟨rfl,rfl⟩
 have c1:=hc.made k3 hpn (St.Z28 hox)
 rcases hlv with ⟨rfl,h0⟩ | ⟨q',rfl,h0,h5,h6,h7⟩
 ·exact q pn .nilSlice [] _ s3 (.inl ⟨by rw [h0]; rfl,rfl,rfl⟩) (by simp [hPl]) hVg (by simpa using c1)
 ·have hq:(q',C (ints (nats (Z0k cs cs.length)))).1 ∉ (((pn,C (Z0p (Z0d cs) (P.map Prod.snd))) :: m).map (·.1)):=by
   rw [List.map_cons,List.mem_cons]
   rintro (h | h)
   ·exact h7 h
   ·exact hc.Zty h6 h
  have hobj:s3.obj q' = some (C (ints (nats (Z0k cs cs.length)))):=by
   have:=St.Z28 h5
   rw [this]
   simp [ints]
  have c2:=c1.add (b:=q') (x:=C (ints (nats (Z0k cs cs.length)))) hobj (fun ho => h6 (hc.Z0f.old ho)) hq
  refine q pn _ [(q',C (ints (nats (Z0k cs cs.length))))] _ s3 (.inr ⟨q',by simpa using h0,by simp,rfl⟩) (by simp [hPl]) hVg (c2.perm (List.Perm.swap _ _ _))
def capI (n:Nat):Nat→Cap
 | 0 => .lim n
 | _ + 1 => .opn 2
theorem Zxg (n i:Nat):capI n i = .lim (n + i) ∨ capI n i = .opn 2:=by
 cases i with
 | zero => exact .inl rfl
 | succ i => exact .inr rfl
theorem seg2 {cs:List AVal} {o:Nat} {a b:AVal} (h1:cs[o]? = some a) (h2:cs[o + 1]? = some b):(cs.drop o).take 2 = [a,b]∧o + 2 ≤ cs.length:=by
 obtain ⟨g1,e1⟩:=List.getElem?_eq_some_iff.1 h1
 obtain ⟨g2,e2⟩:=List.getElem?_eq_some_iff.1 h2
 refine ⟨?_,by omega⟩
 rw [List.drop_eq_getElem_cons g1,List.drop_eq_getElem_cons g2,e1,e2]
 rfl
theorem Zv5 {s:St} {p:Pos} {cs:List CV} {V:List AVal} {nv:AVal} {ts:List ND} {root:Int} {Q:AVal→St→Prop} (hw:s.Wf) (hp:s.Old p) (hpc:s.cells p = some (encs (rcs cs V))) (hV:V.length = cs.length) (h1:1 ≤ cs.length) (h4:cs.length ≤ 400)
  (hK:∀ j c,(rcs cs V)[j]? = some c→Z0c s c.kv (Z0j cs j)) (hO:HOk cs) (hN:Z1c s nv ts) (hT:GrOk ts) (hl1:1 ≤ ts.length) (hl2:ts.length ≤ 60)
  (q:∀ Bo s',Keeps s s'→¬ s.Old Bo→s'.own Bo = some (ints (Z6c cs ts))→Q (.slice Bo 0 ts.length (.lim ts.length)) s'):Z0b Tryd.prog 62 [.agg [.slice p 0 cs.length (.lim cs.length)],.agg [nv,.int .i64 root]] s Q:=by
 have hNt:=hN.ntup
 have hNc:=hN.Z8b
 have hl:=Z17 hV
 refine Z07 (Z0e (by decide)) fi62 rfl (by decide) rfl ?_
 refine Z00 ?_
 simp [hNt,hNc]
 have d1:=(Ctx.start (fun _ => False) hw).alloc (C [.slice p 0 cs.length (.lim cs.length)])
 generalize s.alloc (.cells [.slice p 0 cs.length (.lim cs.length)] false) = s1 at d1 ⊢
 generalize s.next = B2 at d1 ⊢
 have d2:=d1.alloc (C [nv,.int .i64 root])
 generalize s1.alloc (.cells [nv,.int .i64 root] false) = s2 at d2 ⊢
 generalize s1.next = B3 at d2 ⊢
 refine Z00 ?_
 simp [d2.c 1 rfl]
 refine Z02 ?_
 refine Zyt d2 hp hpc hV h4 hK fun pn lv mg Vg s3 hg hVg hVk d3 => ?_
 simp
 refine Z00 ?_
 simp
 have d4:Ctx s (fun _ => False) ((pn,C (Z0p (Z0d cs ++ Z3r cs.length ts 0) (Vg ++ []))) :: (B3,C [nv,.int .i64 root]) :: ([] ++ (mg ++ []))) s3:=by
  have:=d3.perm (m':=(B2,C [.slice p 0 cs.length (.lim cs.length)]) :: (pn,C (Z0p (Z0d cs) Vg)) :: (B3,C [nv,.int .i64 root]) :: mg) (Z19 fun x => by
   simp only [Z0o,Z0w,Z1x]
   omega)
  simpa [Z3r] using this.tail
 refine AM.wp_seq ?_
 refine Z00 ?_
 simp [d4.c 1 rfl,hNt,hN.len]
 refine AM.wp_block ?_
 refine AM.wp_loop (fun k t s' => ∃ (i:Nat) (qn:Pos) (lv:AVal) (Vk:List AVal) (mk mg:Lets),i ≤ ts.length∧k = ts.length - i∧PT.get (posOf 3) t = some (.ptr B3 0)∧PT.get (posOf 5) t = some (.slice qn 0 (cs.length + i) (capI cs.length i))∧PT.get (posOf 6) t = some lv∧PT.get (posOf 7) t = some (.int .i64 cs.length) ∧
   PT.get (posOf 24) t = some nv∧PT.get (posOf 25) t = some (.int .i64 ts.length)∧PT.get (posOf 26) t = some (.int .i64 i)∧Z1w lv (nats (Z0k cs cs.length ++ (List.range i).map fun x => cs.length + x)) mg∧Z0x ((Z3r cs.length ts i).map Prod.snd) Vk mk ∧
   Ctx s (fun _ => False) ((qn,C (Z0p (Z0d cs ++ Z3r cs.length ts i) (Vg ++ Vk))) :: (B3,C [nv,.int .i64 root]) :: (mk ++ (mg ++ []))) s') ts.length
  ⟨0,pn,lv,[],[],mg,by simp,by simp,by simp,by simp [capI],by simp,by simp,by simp,by simp,by simp,by simpa using hg,by simp [Z3r,Z0x],d4⟩ ?_
 rintro k t s' ⟨i,qn,lv,Vk,mk,mg,hi,rfl,t3,t5,t6,t7,t24,t25,t26,hg,hR,d⟩
 refine Z00 ?_
 simp [t25,t26]
 refine AM.wp_seq ?_
 refine AM.Z04 ?_
 by_cases hlt:i < ts.length
 ·have hwr:IntKind.wrap .i64 ((i:Int) + 1) = ((i + 1:Nat):Int):=by rw [IntWalk.i64_in _ (by omega)]; omega
  have hwn:IntKind.wrap .i64 ((cs.length:Int) + i) = ((cs.length + i:Nat):Int):=by rw [IntWalk.i64_in _ (by omega)]; omega
  obtain ⟨nd,hnd⟩:∃ nd,ts[i]? = some nd:=⟨_,List.getElem?_eq_getElem hlt⟩
  obtain ⟨hk4,hkin⟩:=hT nd (List.mem_of_getElem? hnd)
  rcases hN with ⟨_,e0⟩ | ⟨bn,on,cn,cellsn,rfl,hbn,hcsn,hlen,heln⟩
  ·rw [e0] at hnd
   simp at hnd
  have rn:∀ {m:Lets} {s'':St},Ctx s (fun _ => False) m s''→s''.cells bn = some cellsn:=fun d => (d.Z0f.cells hbn).trans hcsn
  obtain ⟨hgn,kv,hgk,hkv⟩:=heln i nd hnd
  have hkt:=hkv.ntup
  have hkc:=hkv.Z8b
  obtain ⟨hsg,hsl⟩:=seg2 hgn hgk
  have hmin:min 2 (cellsn.length - (on + i * 2)) = 2:=by omega
  simp [hlt]
  refine AM.wp_skip ?_
  simp
  refine AM.wp_seq ?_
  refine AM.wp_block ?_
  refine Z00 ?_
  simp [t24,t26,hlt,rn d,hsl,hmin,hsg]
  have e1:=(d.alloc (C [.str [],.nilSlice])).put 0 rfl (C [.str nd.1,kv])
  simp only [List.set_cons_zero] at e1
  generalize (s'.alloc (.cells [.str [],.nilSlice] false)).put s'.next (.cells [.str nd.1,kv] false) = s4 at e1 ⊢
  generalize s'.next = B9 at e1 ⊢
  refine Z00 ?_
  simp [e1.c 0 rfl]
  have e2:=(e1.alloc (C [.str [],.nilSlice])).put 0 rfl (C [.str nd.1,.nilSlice])
  simp only [List.set_cons_zero] at e2
  generalize (s4.alloc (.cells [.str [],.nilSlice] false)).put s4.next (.cells [.str nd.1,.nilSlice] false) = s5 at e2 ⊢
  generalize s4.next = B10 at e2 ⊢
  refine AM.wp_seq ?_
  refine Zrs (n:=cs.length) hkv hk4 h4 (fun k hk => by have:=hkin k hk; omega) e2 (by simp [t7]) (by simp) (by simp) fun t2 s6 kv2 mk2 hF2 hg2 e3 => ?_
  have u3:PT.get (posOf 3) t2 = some (.ptr B3 0):=(hF2 3 (by simp)).trans (by simp [t3])
  have u5:PT.get (posOf 5) t2 = some (.slice qn 0 (cs.length + i) (capI cs.length i)):=(hF2 5 (by simp)).trans (by simp [t5])
  have u6:PT.get (posOf 6) t2 = some lv:=(hF2 6 (by simp)).trans (by simp [t6])
  have u7:PT.get (posOf 7) t2 = some (.int .i64 cs.length):=(hF2 7 (by simp)).trans (by simp [t7])
  have u8:PT.get (posOf 8) t2 = some (.int .i64 i):=(hF2 8 (by simp)).trans (by simp)
  have u10:PT.get (posOf 10) t2 = some (.ptr B10 0):=(hF2 10 (by simp)).trans (by simp)
  have u24:PT.get (posOf 24) t2 = some (.slice bn on ts.length cn):=(hF2 24 (by simp)).trans (by simp [t24])
  have u25:PT.get (posOf 25) t2 = some (.int .i64 ts.length):=(hF2 25 (by simp)).trans (by simp [t25])
  have u26:PT.get (posOf 26) t2 = some (.int .i64 i):=(hF2 26 (by simp)).trans (by simp [t26])
  simp
  refine AM.wp_region ?_
  simp [u5,u6,u7,u8,u10,e3.c 0 rfl,hg2.ntup,hg2.cells,Z1p,srcP]
  have e4:=e3.alloc (C [.str nd.1,kv2])
  generalize s6.alloc (.cells [.str nd.1,kv2] false) = s7 at e4 ⊢
  generalize s6.next = T at e4 ⊢
  have hVk':Vk.length = i:=by
   have:=hR.len
   simpa [Z3r,Nat.min_eq_left hi] using this
  have hVV:(Vg ++ Vk).length = (Z0d cs ++ Z3r cs.length ts i).length:=by simp [hVg,hVk',Z0t,Z3r,Nat.min_eq_left hi]
  have hcl:(Z0p (Z0d cs ++ Z3r cs.length ts i) (Vg ++ Vk)).length = 2 * (cs.length + i):=by
   rw [Z5z hVV]
   simp [Z0t,Z3r,Nat.min_eq_left hi]
  have e5:=e4.perm (m':=(qn,C (Z0p (Z0d cs ++ Z3r cs.length ts i) (Vg ++ Vk))) :: (B3,C [.slice bn on ts.length cn,.int .i64 root]) :: (mk2 ++ (mk ++ mg)) ++ [(T,C [.str nd.1,kv2]),(B10,C [.str nd.1,kv2]),(B9,C [.str nd.1,kv])]) (Z19 fun x => by
   simp only [Z0o,Z0w,Z1x]
   omega)
  have e6:=e5.sub (m':=(qn,C (Z0p (Z0d cs ++ Z3r cs.length ts i) (Vg ++ Vk))) :: (B3,C [.slice bn on ts.length cn,.int .i64 root]) :: (mk2 ++ (mk ++ mg))) (List.sublist_append_left _ _)
  refine Zz5 e6 hcl (by omega) (by omega) (Zxg _ _) fun qn' s8 e7 => ?_
  have hsn:Z0p (Z0d cs ++ Z3r cs.length ts i) (Vg ++ Vk) ++ [.str nd.1,kv2] = Z0p (Z0d cs ++ Z3r cs.length ts (i + 1)) (Vg ++ (Vk ++ [kv2])):=by
   have:=Zjc hVV (Z6x cs.length nd) kv2
   rw [List.append_assoc,← Ziq hnd,List.append_assoc] at this
   exact this.symm
  rw [hsn] at e7
  have e8:=e7.alloc (C [.int .i64 (cs.length + i:Nat)])
  rw [hwn]
  generalize s8.alloc (.cells [.int .i64 (cs.length + i:Nat)] false) = s9 at e8 ⊢
  generalize s8.next = T2 at e8 ⊢
  have e9:=e8.tail.perm (m':=[(qn',C (Z0p (Z0d cs ++ Z3r cs.length ts (i + 1)) (Vg ++ (Vk ++ [kv2])))),(B3,C [.slice bn on ts.length cn,.int .i64 root])] ++ (mg ++ (mk ++ mk2))) (Z19 fun x => by
   simp only [Z0o,Z0w,Z1x]
   omega)
  have hll:(Z0k cs cs.length).length ≤ cs.length:=Nat.le_trans (List.length_filter_le _ _) (by simp)
  refine Z7i e9 hg (by simp; omega) fun lv' mg' s10 hg' e10 => ?_
  have hg'':Z1w lv' (nats (Z0k cs cs.length ++ (List.range (i + 1)).map fun x => cs.length + x)) mg':=by
   have:nats (Z0k cs cs.length ++ (List.range (i + 1)).map fun x => cs.length + x) = nats (Z0k cs cs.length ++ (List.range i).map fun x => cs.length + x) ++ [((cs.length + i:Nat):Int)]:=by
    rw [List.range_succ]
    simp
   rw [this]
   exact hg'
  have hR':Z0x ((Z3r cs.length ts (i + 1)).map Prod.snd) (Vk ++ [kv2]) (mk ++ mk2):=by
   rw [Ziq hnd,List.map_append]
   exact hR.snoc hg2.row
  refine AM.wp_region ?_
  simp [u26,hwr]
  refine ⟨ts.length - (i + 1),by omega,i + 1,by omega,by omega,u3,qn',⟨rfl,by omega,rfl⟩,u7,u24,u25,by omega,Vk ++ [kv2],mk ++ mk2,mg',by simpa using hg'',hR',?_⟩
  refine e10.perm (Z19 fun x => ?_)
  simp only [Z0o,Z0w,Z1x]
  omega
 ·simp [hlt]
  refine AM.wp_exit ?_
  simp
  have hie:i = ts.length:=by omega
  subst hie
  have htl:Z3r cs.length ts ts.length = ts.map (Z6x cs.length):=by simp [Z3r]
  rw [htl] at hR d
  have hVk':Vk.length = ts.length:=by
   have:=hR.len
   simpa using this
  have hVV:(Vg ++ Vk).length = (Z0d cs ++ ts.map (Z6x cs.length)).length:=by simp [hVg,hVk',Z0t]
  have hbl:=Ze8 cs ts
  have hNG:NodesG s' qn (bigG cs ts):=by
   refine ⟨d.oi 0 rfl,_,d.c 0 rfl,by rw [Z5z hVV]; simp [bigG],fun j nd hnd => ?_⟩
   have hj:j < cs.length + ts.length:=by have:=(List.getElem?_eq_some_iff.1 hnd).1; omega
   have hv:(Vg ++ Vk)[j]? = some ((Vg ++ Vk)[j]'(by simp; omega)):=List.getElem?_eq_getElem _
   obtain ⟨g1,g2⟩:=Z8i hnd hv
   refine ⟨g1,_,g2,?_⟩
   generalize (Vg ++ Vk)[j]'(by simp; omega) = kv at hv
   by_cases hjn:j < cs.length
   ·rw [Zc6 hjn] at hnd
    rw [List.getElem?_append_left (by omega)] at hv
    exact (hVk j nd kv hnd hv).keep d.Z0f
   ·obtain ⟨x,rfl⟩:∃ x,j = cs.length + x:=⟨j - cs.length,by omega⟩
    rw [Zfd] at hnd
    rw [List.getElem?_append_right (by omega),hVg,Nat.add_sub_cancel_left] at hv
    obtain ⟨kv',r1,r2⟩:=hR.each (i:=x) (ks:=nd.2) (by rw [List.map_map,List.getElem?_map]; rw [← Option.map_map,hnd]; rfl)
    rw [hv] at r1
    cases r1
    rcases r2 with ⟨r3,r4⟩ | ⟨q',c',r3,r4,r5⟩
    ·exact .inl ⟨r4,r3⟩
    ·rw [r4]
     exact Z37 d.wf (Z0n (d.own (q',C (ints nd.2)) (by simp [r5]))) c'
  obtain ⟨hC,hks⟩:=Zu3 hO hT
  have hLi:Z0c s' lv (nats (bigL cs ts)):=(hg.row.kid fun y hy => d.own y (by simp [hy])).ints d.wf
  have hll:(Z0k cs cs.length).length ≤ cs.length:=Nat.le_trans (List.length_filter_le _ _) (by simp)
  have hbL:(bigL cs ts).length ≤ 1000:=by simp [bigL]; omega
  have hlt':=hg.ntup
  refine Z00 ?_
  simp [t5,t6]
  refine Z02 ?_
  refine Zcs hbl d.wf hNG (by omega) hLi hbL hC hks fun Bx s4 k4 hBx hox => ?_
  have hcl:=Z74 hC
  simp only [Z6c] at q
  generalize clsF (bigG cs ts) (bigL cs ts) = cls at hox hcl q
  have e1:=d.made k4 hBx (St.Z28 hox)
  rw [hbl] at hcl
  simp
  have hz3:ts.length ≤ Z0h:=by unfold Z0h; omega
  have hz4:ts.length * 8 ≤ Z0h:=by unfold Z0h; omega
  refine Z00 ?_
  simp [t3,e1.c 2 rfl,hNt,hN.len,hz3,hz4]
  have e2:=e1.alloc (C (List.replicate ts.length (.int .i64 0)))
  have hBo:¬ s.Old s4.next:=fun ho => Z0a s4 (e1.Z0f.old ho)
  generalize s4.alloc (.cells (List.replicate ts.length (.int .i64 0)) false) = s5 at e2 ⊢
  generalize s4.next = Bo at e2 hBo ⊢
  refine AM.wp_seq ?_
  refine Z00 ?_
  simp
  have e3:=e2.sub (m':=(Bo,C (List.replicate ts.length (.int .i64 0))) :: (Bx,C (ints cls)) :: []) (.cons_cons _ (.cons_cons _ (List.nil_sublist _)))
  have hz0:List.replicate ts.length (AVal.int .i64 0) = ints (((List.range ts.length).map fun i => Z32 (fun d => decide ((cls[cs.length + i]?).getD 0 = d)) (cls.take cs.length)).take 0 ++ List.replicate (ts.length - 0) 0):=by simp [ints]
  generalize hres:((List.range ts.length).map fun i => Z32 (fun d => decide ((cls[cs.length + i]?).getD 0 = d)) (cls.take cs.length)) = res at hz0 q
  have hresl:res.length = ts.length:=by rw [← hres]; simp
  rw [hz0] at e3
  refine AM.wp_block ?_
  refine AM.wp_loop (fun k t s' => ∃ i:Nat,i ≤ ts.length∧k = ts.length - i∧PT.get (posOf 7) t = some (.int .i64 cs.length)∧PT.get (posOf 13) t = some (.slice Bx 0 (cs.length + ts.length) (.lim (cs.length + ts.length)))∧PT.get (posOf 14) t = some (.slice Bo 0 ts.length (.lim ts.length)) ∧
    PT.get (posOf 69) t = some (.int .i64 ts.length)∧PT.get (posOf 70) t = some (.int .i64 i)∧Ctx s (fun _ => False) ((Bo,C (ints (res.take i ++ List.replicate (ts.length - i) 0))) :: (Bx,C (ints cls)) :: []) s') ts.length
   ⟨0,by simp,by simp,by simp [t7],by simp,by simp,by simp,by simp,e3⟩ ?_
  rintro k t s' ⟨i,hi,rfl,t7,t13,t14,t69,t70,d⟩
  refine Z00 ?_
  simp [t69,t70]
  refine AM.wp_seq ?_
  refine AM.Z04 ?_
  by_cases hlt:i < ts.length
  ·have hwr:IntKind.wrap .i64 ((i:Int) + 1) = ((i + 1:Nat):Int):=by rw [IntWalk.i64_in _ (by omega)]; omega
   have hwn:IntKind.wrap .i64 ((cs.length:Int) + i) = ((cs.length + i:Nat):Int):=by rw [IntWalk.i64_in _ (by omega)]; omega
   obtain ⟨cc,hcc⟩:∃ cc,cls[cs.length + i]? = some cc:=⟨_,List.getElem?_eq_getElem (by omega)⟩
   have hgc:(ints cls)[cs.length + i]? = some (.int .i64 cc):=by rw [List.getElem?_map,hcc]; rfl
   simp [hlt]
   refine AM.wp_skip ?_
   simp
   refine AM.wp_seq ?_
   refine AM.wp_block ?_
   refine Z00 ?_
   simp [t70]
   refine AM.wp_region ?_
   simp [t7,t13,t14]
   refine Zmk (a:=0) (b:=cs.length) (off:=0) (n:=cs.length + ts.length) (c:=cs.length + ts.length) (p:=Bx) (by simp) rfl ⟨.i64,by simp⟩ (by omega) (by omega) ?_
   rw [if_neg (by omega),hwn]
   have hlt2:((cs.length + i:Nat):Int) < (cs.length:Int) + ts.length:=by omega
   have hlt3:(0:Int) ≤ ((cs.length + i:Nat):Int):=by omega
   simp only [Nat.zero_mul,Nat.add_zero,Nat.zero_add,Nat.sub_zero,Int.toNat_natCast,Nat.mul_one]
   refine ⟨hlt3,hlt2,?_⟩
   rw [d.c 1 rfl]
   simp only [Z0u,hgc]
   have hIx:Z0c s' (.slice Bx 0 cs.length (.lim (cs.length + ts.length))) (cls.take cs.length):=by
    refine .inr ⟨Bx,0,.lim (cs.length + ts.length),ints cls,?_,d.oi 1 rfl,d.c 1 rfl,?_,fun j k hk => ?_⟩
    ·rw [List.length_take,hcl,Nat.min_eq_left (by omega)]
    ·simp
     omega
    ·rw [List.getElem?_take] at hk
     split at hk
     ·rw [Nat.zero_add,List.getElem?_map,hk]
      rfl
     ·cases hk
   refine Z02 ?_
   refine Ze1 hIx (by rw [List.length_take]; omega) ?_
   have hri:res[i]? = some (Z32 (fun d => decide (cc = d)) (cls.take cs.length)):=by
    rw [← hres,List.getElem?_map,List.getElem?_range hlt]
    simp [hcc]
   generalize Z32 (fun d => decide (cc = d)) (cls.take cs.length) = vv at hri ⊢
   have hnx:(res.take i ++ List.replicate (ts.length - i) 0).set i vv = res.take (i + 1) ++ List.replicate (ts.length - (i + 1)) 0:=by
    have hln:(res.take i).length = i:=by rw [List.length_take]; omega
    rw [List.set_append_right _ _ (by omega),hln,Nat.sub_self]
    have e:ts.length - i = (ts.length - (i + 1)) + 1:=by omega
    rw [e,List.replicate_succ,List.set_cons_zero,List.take_add_one,hri]
    simp
   have hln:(res.take i ++ List.replicate (ts.length - i) 0).length = ts.length:=by
    rw [List.length_append,List.length_take,List.length_replicate]
    omega
   have hlay:lay (ints (res.take i ++ List.replicate (ts.length - i) 0)) i [.int .i64 vv] = ints (res.take (i + 1) ++ List.replicate (ts.length - (i + 1)) 0):=by
    have:=Z68 (res.take i ++ List.replicate (ts.length - i) 0) i vv (by omega)
    rw [hnx] at this
    exact this
   have hown:=d.o 0 rfl
   have dd:=d.put 0 rfl (C (ints (res.take (i + 1) ++ List.replicate (ts.length - (i + 1)) 0)))
   simp only [List.set_cons_zero] at dd
   have hlen:i + 1 ≤ (ints (res.take i ++ List.replicate (ts.length - i) 0)).length:=by rw [List.length_map]; omega
   generalize ints (res.take i ++ List.replicate (ts.length - i) 0) = mv at hlay hown hlen
   generalize hY:ints (res.take (i + 1) ++ List.replicate (ts.length - (i + 1)) 0) = Y at hlay dd
   simp [lay] at hlay
   simp [hlt,hown,hlen]
   rw [hlay]
   refine AM.wp_region ?_
   simp [t70,hwr]
   exact ⟨ts.length - (i + 1),by omega,i + 1,by omega,by omega,by simp [t7],by simp [t13],by simp [t14],by simp [t69],by simp,by rw [← hY] at dd ⊢; simpa [ints] using dd⟩
  ·simp [hlt]
   refine AM.wp_exit ?_
   simp
   have hie:i = ts.length:=by omega
   subst hie
   have hrt:res.take ts.length ++ List.replicate (ts.length - ts.length) 0 = res:=by
    rw [Nat.sub_self,← hresl,List.take_length]
    simp
   rw [hrt] at d
   refine Z00 ?_
   simp [t14]
   refine AM.wp_ret ?_
   simp
   exact q Bo s' d.Z0f hBo (d.o 0 rfl)
end Go.Proofs
end
section
/- Find: the contract. -/
open Go Go.AM
namespace Go.Proofs
set_option maxRecDepth 100000
noncomputable def findF (cs:List CV) (ns:List ND) (root:Int):Int × Int :=
 if Z1k ns root ≠ 0 then (0,Z1k ns root) else
 if ((Z6c cs (Z5x ns root.toNat))[0]?).getD 0 < 0 then (0,1) else (((Z6c cs (Z5x ns root.toNat))[0]?).getD 0,0)
theorem Zub {ns:List ND} {r:Nat} (hO:GrOk ns) (hr:r < ns.length):GrOk (Z5x ns r)∧1 ≤ (Z5x ns r).length∧(Z5x ns r).length ≤ ns.length:=by
 have hr':∀ a ∈ [r],a < ns.length:=by simpa using hr
 obtain ⟨hC,hnd,hlt,hroot⟩:=Zfq hO hr'
 unfold Z5x
 generalize bfsF (kidG ns) ns.length [r] = L at hC hnd hlt hroot
 have hm:(outF (clsF ns L) ns L).length = Zi8 ns L:=Zmp hC
 refine ⟨fun x hx => ?_,?_,?_⟩
 ·obtain ⟨a,nd,h1,h2,rfl⟩:=Zlw hx
  refine ⟨by simpa [Z41] using (hO nd (List.mem_of_getElem? h2)).1,fun k hk => ?_⟩
  obtain ⟨k',hk',rfl⟩:=List.mem_map.1 hk
  obtain ⟨_,hkin⟩:=hC.kids a h1 nd h2
  obtain ⟨c,e1,e2⟩:=Zfe hC (hkin k' hk')
  rw [e1]
  simp only [Option.getD_some]
  omega
 ·rcases hroot r (by simp) with h
  obtain ⟨c,e1,e2⟩:=Zfe hC h
  omega
 ·have:=Znk (clsF ns L) ns L
  have:=Z2l hnd hlt
  omega
theorem Zpv (cs:List CV) (ts:List ND):(Z6c cs ts).length = ts.length:=by simp [Z6c]
theorem find_c {s0 s:St} {W:Pos→Prop} {hb:Pos} {vs:AVal} {cs:List CV} {m r:Lets} {nv:AVal} {ns:List ND} {root:Int} {Q:AVal→St→Prop} (hH:Z1m hb vs cs m) (h:Ctx s0 W (m ++ r) s) (hO:HOk cs) (hN:Z7y s nv ns) (hsm:Zdh ns) (hmax:ns.length ≤ 2 ^ 62)
  (q:∀ s',Keeps s s'→Q (.tup [.int .i64 (findF cs ns root).1,.int .i64 (findF cs ns root).2]) s'):Z0b Tryd.prog 20 [.ptr hb 0,.agg [nv,.int .i64 root]] s Q:=by
 obtain ⟨p,V,mr,hc,hR,hV,h1,h4,hP⟩:=Z5a hH h
 have hNt:=hN.at.ntup
 have hNc:=hN.at.Z8b
 have hno:cs.length ≠ 0:=by omega
 have d0:=Ctx.start (fun _ => False) hc.wf
 refine Z07 (Z0e (by decide)) fi20 rfl (by decide) rfl ?_
 refine Z00 ?_
 simp [hNt,hNc]
 have d1:=d0.alloc (C [nv,.int .i64 root])
 generalize s.alloc (.cells [nv,.int .i64 root] false) = s1 at d1 ⊢
 generalize s.next = B3 at d1 ⊢
 refine AM.wp_seq ?_
 refine Z00 ?_
 simp
 refine Z02 ?_
 refine Z3o ((d1.Z0f.cells (hc.oi 0 rfl)).trans (hc.c 0 rfl)) rfl hno ?_
 simp
 refine AM.Z04 ?_
 simp
 refine AM.wp_skip ?_
 simp
 refine AM.wp_seq ?_
 refine Z00 ?_
 simp [d1.c 0 rfl]
 refine Z02 ?_
 refine Zhb d1.wf (hN.at.keep d1.Z0f) hmax hsm fun s2 k2 => ?_
 have d2:=d1.keeps k2
 unfold findF at q
 simp
 refine Z00 ?_
 simp
 refine AM.Z04 ?_
 by_cases hz:Z1k ns root = 0
 ·rw [if_neg (by simp [hz])] at q
  simp [hz]
  refine AM.wp_skip ?_
  simp
  refine Z00 ?_
  simp [d2.c 0 rfl]
  refine Z02 ?_
  refine Zvj d2.wf (hN.keep d2.Z0f) hsm hmax (fun _ _ hne => (hne hz).elim) fun Bn mn s3 _ hM hx => ?_
  obtain ⟨o1,o2,hGO,hnm,r0,r1⟩:=Zkh hz
  obtain ⟨hGL,hL1,hL2⟩:=Zub (r:=root.toNat) hGO (by omega)
  generalize hLG:Z5x ns root.toNat = LG at hM hGL hL1 hL2 q
  have d3:Ctx s (fun _ => False) (mn ++ [(B3,C [nv,.int .i64 root])]) s3:=Ctx.on (m:=[]) (by simpa using d2) (by simpa using hx)
  have d4:=d3.perm (m':=(B3,C [nv,.int .i64 root]) :: mn) (Z19 fun x => by
   simp only [Z0o,Z0w,Z1x]
   omega)
  simp [d4.o 0 rfl]
  have d5:=d4.put 0 rfl (C [.slice Bn 0 LG.length (.lim LG.length),.int .i64 0])
  simp only [List.set_cons_zero] at d5
  generalize s3.put B3 (.cells [.slice Bn 0 LG.length (.lim LG.length),.int .i64 0] false) = s4 at d5 ⊢
  have hMA:=hM.at (.lim LG.length) d5.tail
  have hb4:s4.cells hb = some [.slice p 0 cs.length (.lim cs.length),vs]:=(d5.Z0f.cells (hc.oi 0 rfl)).trans (hc.c 0 rfl)
  have c4:=hc.keeps d5.Z0f
  refine Z00 ?_
  simp [hb4,d5.c 0 rfl]
  refine Z02 ?_
  have hobs:∀ j c,(rcs cs V)[j]? = some c→Z0c s4 c.kv (Z0j cs j):=by
   intro j c hj
   obtain ⟨_,_,r3⟩:=Z5e (p:=p) (cs:=cs) (V:=V) c4 (by simp) hR (fun y hy => by simp [hy])
   have hjl:j < cs.length:=by have:=(List.getElem?_eq_some_iff.1 hj).1; rwa [Z17 hV] at this
   obtain ⟨kv,e1,e2⟩:=r3 j _ (List.getElem?_eq_getElem hjl)
   rw [Z18 (List.getElem?_eq_getElem hjl) e1] at hj
   cases hj
   rw [Z13 (List.getElem?_eq_getElem hjl)]
   exact e2
  refine Zv5 (V:=V) d5.wf (c4.oi 1 rfl) (c4.c 1 rfl) hV h1 h4 hobs hO hMA hGL hL1 (by omega) fun Bo s5 k5 hBo hox => ?_
  have hfl:=Zpv cs LG
  obtain ⟨x,hx0⟩:∃ x,(Z6c cs LG)[0]? = some x:=⟨_,List.getElem?_eq_getElem (by omega)⟩
  rw [hx0] at q
  simp only [Option.getD_some] at q
  have hg0:(ints (Z6c cs LG))[0]? = some (.int .i64 x):=by rw [List.getElem?_map,hx0]; rfl
  have hL1':0 < LG.length:=by omega
  have hcBo:s5.cells Bo = some (ints (Z6c cs LG)):=Z08 hox
  generalize ints (Z6c cs LG) = fl at hg0 hcBo
  simp [hL1',hcBo,hg0]
  have k6:=d5.Z0f.trans k5
  refine AM.wp_seq ?_
  refine Z00 ?_
  simp
  refine AM.Z04 ?_
  by_cases hx1:x < 0
  ·rw [if_pos hx1] at q
   simp [hx1]
   refine Z00 ?_
   simp
   refine AM.wp_ret ?_
   simp
   exact q _ k6
  ·rw [if_neg hx1] at q
   simp [hx1]
   refine AM.wp_skip ?_
   simp
   refine Z00 ?_
   simp
   refine AM.wp_ret ?_
   simp
   exact q _ k6
 ·rw [if_pos (by simpa using hz)] at q
  simp [hz]
  refine Z00 ?_
  simp
  refine AM.wp_ret ?_
  simp
  exact q _ d2.Z0f
end Go.Proofs
end
section
/- Large rings,in plain: a ring in any graph. -/
open Go Go.AM
namespace Go.Proofs
set_option maxRecDepth 100000
def Z86 (G:List ND) (bs:List Bool) (a:Nat→Nat):Prop:=∀ i,i < bs.length→G[a i]? = some (nmOf (rowF bs i),[((a ((i + 1) % bs.length):Nat):Int)])
theorem Zcd (n i t:Nat):((i + 1) % n + t) % n = (i + (t + 1)) % n:=by
 rw [Nat.mod_add_mod]
 congr 1
 omega
theorem Zdm {G:List ND} {bs:List Bool} {a b:Nat→Nat} (ha:Z86 G bs a) (hb:Z86 G bs b):∀ (r i j:Nat),i < bs.length→j < bs.length→(sim G r (a i) (b j) ↔ ∀ t,t < r→rowF bs ((i + t) % bs.length) = rowF bs ((j + t) % bs.length))
 | 0,i,j,_,_ => by simp [sim]
 | r + 1,i,j,hi,hj => by
  have hn:0 < bs.length:=by omega
  have mi:(i + 1) % bs.length < bs.length:=Nat.mod_lt _ hn
  have mj:(j + 1) % bs.length < bs.length:=Nat.mod_lt _ hn
  have ih:=Zdm ha hb r _ _ mi mj
  constructor
  ·rintro ⟨x,y,hx,hy,e1,e2,e3⟩
   rw [ha i hi] at hx
   rw [hb j hj] at hy
   cases hx
   cases hy
   have h1:=e3 0 _ _ rfl rfl
   simp only [Int.toNat_natCast] at h1
   have h2:=ih.1 h1
   intro t ht
   cases t with
   | zero =>
    rw [Nat.add_zero,Nat.add_zero,Nat.mod_eq_of_lt hi,Nat.mod_eq_of_lt hj]
    exact nm_inj e1
   | succ t =>
    have:=h2 t (by omega)
    rw [Zcd,Zcd] at this
    exact this
  ·intro h
   refine ⟨_,_,ha i hi,hb j hj,?_,rfl,?_⟩
   ·have:=h 0 (by omega)
    rw [Nat.add_zero,Nat.add_zero,Nat.mod_eq_of_lt hi,Nat.mod_eq_of_lt hj] at this
    show nmOf _ = nmOf _
    rw [this]
   ·intro x k m hk hm
    have hx:x = 0:=by
     have:=(List.getElem?_eq_some_iff.1 hk).1
     simp at this
     omega
    subst hx
    have hk:((a ((i + 1) % bs.length):Nat):Int) = k:=by simpa using hk
    have hm:((b ((j + 1) % bs.length):Nat):Int) = m:=by simpa using hm
    rw [← hk,← hm,Int.toNat_natCast,Int.toNat_natCast]
    refine ih.2 fun t ht => ?_
    rw [Zcd,Zcd]
    exact h (t + 1) (by omega)
theorem Z70 {G:List ND} {bs:List Bool} {a b:Nat→Nat} {p:Nat} (ha:Z86 G bs a) (hb:Z86 G bs b) (hp:Least bs.length (rowF bs) p) {i j:Nat} (hij:i ≤ j) (hj:j < bs.length):(∀ r,sim G r (a i) (b j)) ↔ (j - i) % p = 0:=by
 rw [← Zvg hp hj hij]
 constructor
 ·intro h t
  exact (Zdm ha hb (t + 1) i j (by omega) hj).1 (h (t + 1)) t (by omega)
 ·intro h r
  exact (Zdm ha hb r i j (by omega) hj).2 fun t _ => h t
def Z10 (bs:List Bool):List ND:=(List.range bs.length).map fun i => (nmOf (rowF bs i),[(((i + 1) % bs.length:Nat):Int)])
theorem Z31 (bs:List Bool):(Z10 bs).length = bs.length:=by simp [Z10]
theorem Zc1 (bs:List Bool):Z86 (Z10 bs) bs id:=by
 intro i hi
 unfold Z10
 rw [List.getElem?_map,id,List.getElem?_range hi]
 rfl
theorem Zhl {K:Nat→List Nat} {n N:Nat} {a:Nat→Nat} (hn:1 ≤ n) (hN:n ≤ N) (inj:∀ i j,i < n→j < n→a i = a j→i = j) (hK:∀ i,i < n→K (a i) = [a ((i + 1) % n)]):bfsF K N [a 0] = (List.range n).map a:=by
 have key:∀ (d i:Nat),i + d = n→runB K (N + 1 - i) ((List.range (min (i + 1) n)).map a) i = (List.range n).map a:=by
  intro d
  induction d with
  | zero =>
   intro i hi
   rw [Zfn (by simp; omega)]
   congr 2
   omega
  | succ d ih =>
   intro i hi
   have hv:((List.range (min (i + 1) n)).map a)[i]? = some (a i):=by
    rw [List.getElem?_map,List.getElem?_range (by omega)]
    rfl
   rw [Zet (by omega) hv,hK i (by omega)]
   have hstep:Z0g ((List.range (min (i + 1) n)).map a) [a ((i + 1) % n)] = (List.range (min (i + 1 + 1) n)).map a:=by
    show addN _ _ = _
    unfold addN
    by_cases hl:i + 1 < n
    ·rw [Nat.mod_eq_of_lt hl,if_neg]
     ·have e1:min (i + 1) n = i + 1:=by omega
      have e2:min (i + 1 + 1) n = (i + 1) + 1:=by omega
      rw [e1,e2,List.range_succ (n:=i + 1),List.map_append]
      rfl
     ·intro hm
      obtain ⟨x,hx,e⟩:=List.mem_map.1 hm
      have hx:x < min (i + 1) n:=by simpa using hx
      have:=inj x (i + 1) (by omega) hl e
      omega
    ·have hl:i + 1 = n:=by omega
     rw [hl,Nat.mod_self,if_pos]
     ·congr 2
      omega
     ·exact List.mem_map.2 ⟨0,by simp; omega,rfl⟩
   rw [hstep]
   exact ih (i + 1) (by omega)
 have h0:bfsF K N [a 0] = runB K (N + 1 - 0) ((List.range (min (0 + 1) n)).map a) 0:=by
  have e:min (0 + 1) n = 1:=by omega
  rw [e]
  rfl
 rw [h0]
 exact key n 0 (by omega)
section
variable {G:List ND} {bs:List Bool} {a:Nat→Nat} (hA:Z86 G bs a) (hp:Least bs.length (rowF bs) bs.length)
include hA hp
theorem Zrt:∀ i j,i < bs.length→j < bs.length→a i = a j→i = j:=by
 have key:∀ i j,i ≤ j→j < bs.length→a i = a j→i = j:=by
  intro i j hij hj e
  have h1:=(Z70 hA hA hp hij hj).1 (fun r => by
   rw [e]
   have:∀ r,sim G r (a j) (a j):=(Z70 hA hA hp (Nat.le_refl j) hj).2 (by simp)
   exact this r)
  rw [Nat.mod_eq_of_lt (by omega)] at h1
  omega
 intro i j hi hj e
 rcases Nat.le_total i j with h | h
 ·exact key i j h hj e
 ·exact (key j i h hi e.symm).symm
theorem Zm7 (hC:Closed G ((List.range bs.length).map a)):outF (clsF G ((List.range bs.length).map a)) G ((List.range bs.length).map a) = Z10 bs:=by
 have hpos:=hp.pos
 have hLi:∀ i,i < bs.length→((List.range bs.length).map a)[i]? = some (a i):=fun i hi => by rw [List.getElem?_map,List.getElem?_range hi]; rfl
 have hcl:∀ i,i < bs.length→(outF (clsF G ((List.range bs.length).map a)) G (((List.range bs.length).map a).take i)).length = i∧(clsF G ((List.range bs.length).map a))[a i]? = some (i:Int):=by
  intro i
  induction i with
  | zero =>
   intro h0
   obtain ⟨c,e1,e2,_⟩:=Ze3 (P:=[]) (a:=a 0) (S:=((List.range bs.length).map a).drop 1) hC (by
    have:=List.drop_eq_getElem_cons (l:=(List.range bs.length).map a) (i:=0) (by simpa using h0)
    rw [List.drop_zero] at this
    rw [List.nil_append]
    refine this.trans ?_
    congr 1
    simp)
   have hc:c = 0:=by simpa [outF] using e2
   subst hc
   exact ⟨by simp [outF],e1⟩
  | succ i ih =>
   intro hi
   obtain ⟨h1,h2⟩:=ih (by omega)
   have hlen:(outF (clsF G ((List.range bs.length).map a)) G (((List.range bs.length).map a).take (i + 1))).length = i + 1:=by
    rw [Zc4 (hLi i (by omega))]
    unfold Z27
    rw [h2,hA i (by omega)]
    simp only
    rw [if_neg (by rw [h1]; omega),List.length_append,h1]
    rfl
   refine ⟨hlen,?_⟩
   have hsp:(List.range bs.length).map a = ((List.range bs.length).map a).take (i + 1) ++ a (i + 1) :: ((List.range bs.length).map a).drop (i + 1 + 1):=by
    have h3:=List.take_append_drop (i + 1) ((List.range bs.length).map a)
    rw [List.drop_eq_getElem_cons (by simpa using hi)] at h3
    have h4:((List.range bs.length).map a)[i + 1]'(by simpa using hi) = a (i + 1):=by simp
    rw [h4] at h3
    exact h3.symm
   obtain ⟨c,e1,e2,e3⟩:=Ze3 hC hsp
   rw [hlen] at e2 e3
   have hcn:¬ c < i + 1:=by
    intro hc
    obtain ⟨e,he,hs⟩:=e3.1 hc
    have he':e ∈ (List.range bs.length).map a∧∃ x,x < i + 1∧e = a x:=by
     obtain ⟨x,hx⟩:=List.getElem?_of_mem he
     rw [List.getElem?_take] at hx
     split at hx
     ·rename_i hxi
      rw [hLi x (by omega)] at hx
      exact ⟨List.mem_map.2 ⟨x,by simp; omega,by simpa using hx⟩,x,hxi,by simpa using hx.symm⟩
     ·cases hx
    obtain ⟨_,x,hx,rfl⟩:=he'
    have:=(Z70 hA hA hp (by omega) hi).1 hs
    rw [Nat.mod_eq_of_lt (by omega)] at this
    omega
   have:c = i + 1:=by omega
   subst this
   exact e1
 have hout:∀ i,i ≤ bs.length→outF (clsF G ((List.range bs.length).map a)) G (((List.range bs.length).map a).take i) = (Z10 bs).take i:=by
  intro i
  induction i with
  | zero => intro _; simp [outF]
  | succ i ih =>
   intro hi
   obtain ⟨h1,h2⟩:=hcl i (by omega)
   obtain ⟨_,h3⟩:=hcl ((i + 1) % bs.length) (Nat.mod_lt _ (by omega))
   rw [Zc4 (hLi i (by omega))]
   unfold Z27
   rw [h2,hA i (by omega)]
   simp only
   rw [if_neg (by rw [h1]; omega),ih (by omega),List.take_add_one]
   congr 1
   have:=Zc1 bs i (by omega)
   rw [id] at this
   rw [this]
   simp [Z41,h3]
 have:=hout bs.length (Nat.le_refl _)
 rw [List.take_of_length_le (by simp),List.take_of_length_le (by rw [Z31]; omega)] at this
 exact this
end
theorem Zhk (bs:List Bool) (h:1 ≤ bs.length):GrOk (Z10 bs):=by
 intro nd hnd
 unfold Z10 at hnd
 obtain ⟨i,hi,rfl⟩:=List.mem_map.1 hnd
 refine ⟨by simp,fun k hk => ?_⟩
 have hk:k = (((i + 1) % bs.length:Nat):Int):=by simpa using hk
 have:=Nat.mod_lt (i + 1) (show bs.length > 0 by omega)
 have:=Z31 bs
 omega
theorem Zr7 {bs:List Bool} {i:Nat} (h:i < bs.length):kidG (Z10 bs) i = [(i + 1) % bs.length]:=by
 have:=Zc1 bs i h
 rw [id,id] at this
 rw [Zdu this]
 rfl
theorem Zod {bs:List Bool} (hp:Least bs.length (rowF bs) bs.length):Z5x (Z10 bs) 0 = Z10 bs:=by
 have hpos:=hp.pos
 have hb:bfsF (kidG (Z10 bs)) (Z10 bs).length [0] = (List.range bs.length).map id:=by
  have:=Zhl (K:=kidG (Z10 bs)) (n:=bs.length) (N:=(Z10 bs).length) (a:=id) hpos (by rw [Z31]; omega) (fun i j _ _ h => h) (fun i hi => Zr7 hi)
  exact this
 have hC:=(Zfq (Zhk bs hpos) (roots:=[0]) (by simp [Z31]; omega)).1
 unfold Z5x
 rw [hb] at hC ⊢
 exact Zm7 (Zc1 bs) hp hC
theorem Znw {bs:List Bool} (h1:1 ≤ bs.length) (h2:bs.length ≤ 60):Z1k (Z10 bs) 0 = 0:=by
 have hO:=Zhk bs h1
 have hl:=Z31 bs
 have hn:∀ nd ∈ Z10 bs,Z3j nd.1 = true:=by
  intro nd hnd
  unfold Z10 at hnd
  obtain ⟨i,hi,rfl⟩:=List.mem_map.1 hnd
  cases h:rowF bs i <;> simp [nmOf,h] <;> decide
 unfold Z1k
 rw [if_neg,if_neg,if_neg]
 ·simp only [not_or,Bool.not_eq_false,List.all_eq_true,decide_eq_true_eq,Bool.and_eq_true]
  exact ⟨⟨by omega,by omega⟩,fun nd hnd k hk => (hO nd hnd).2 k hk⟩
 ·simp only [Bool.not_eq_false,List.all_eq_true]
  exact hn
 ·simp only [not_or,Bool.not_eq_false,List.all_eq_true,decide_eq_true_eq]
  exact ⟨by omega,by omega,fun nd hnd => (hO nd hnd).1⟩
end Go.Proofs
end
section
/- A range over the cells that are taken,that may be left early; Tight. -/
open Go Go.AM
namespace Go.Proofs
set_option maxRecDepth 100000
theorem Zo5 {s:St} {p B:Pos} {l:List RC} {yv:AVal} {I:Nat→St→Prop} {S:St→Prop} {Q:AVal→St→Prop} (hl:l.length ≤ 400) (hyt:∀ t,¬ yv = .tup t)
  (hI:∀ i s',I i s'→s'.Wf∧s'.Old p∧s'.Old B∧s'.cells p = some (encs l)∧s'.cells B = some [.slice p 0 l.length (.lim l.length)])
  (hst:∀ i s' s'',I i s'→Keeps s' s''→I i s'') (hskip:∀ i c s',l[i]? = some c→c.taken = false→I i s'→I (i + 1) s')
  (hy:∀ (i:Nat) c s' (R:AVal→St→Prop),l[i]? = some c→c.taken = true→I i s'→(∀ s'',I (i + 1) s''→R (.bool true) s'')→(∀ s'',S s''→R (.bool false) s'')→Z2u Tryd.prog yv [.int .i64 i] s' R)
  (h0:I 0 s) (q:∀ s',I l.length s'→Q (.tup []) s') (q2:∀ s',S s'→Q (.tup []) s'):Z0b Tryd.prog 87 [yv,.ptr B 0] s Q:=by
 obtain ⟨_,_,_,_,hB⟩:=hI 0 s h0
 refine Z07 (Z0e (by decide)) fi87 rfl (by decide) rfl ?_
 refine Z00 ?_
 simp [hB]
 refine AM.wp_block ?_
 refine AM.wp_loop (fun m t s' => ∃ i:Nat,i ≤ l.length∧m = l.length - i∧PT.get (posOf 0) t = some yv∧PT.get (posOf 6) t = some (.slice p 0 l.length (.lim l.length))∧PT.get (posOf 7) t = some (.int .i64 l.length)∧PT.get (posOf 8) t = some (.int .i64 i)∧I i s') l.length ⟨0,by simp,by simp,by simp,by simp,by simp,by simp,h0⟩ ?_
 rintro m t s' ⟨i,hi,rfl,t0,t6,t7,t8,hIi⟩
 obtain ⟨hw,hp,hBo,hc,hB'⟩:=hI i s' hIi
 refine Z00 ?_
 simp [t7,t8]
 refine AM.wp_seq ?_
 refine AM.Z04 ?_
 by_cases hlt:i < l.length
 ·obtain ⟨c,hci⟩:∃ c,l[i]? = some c:=⟨_,List.getElem?_eq_getElem hlt⟩
  have hseg:=Z8f l i c hci
  have hle:i * 4 + 4 ≤ (encs l).length:=by rw [Z2c]; omega
  have hwr:IntKind.wrap .i64 ((i:Int) + 1) = ((i + 1:Nat):Int):=by rw [IntWalk.i64_in _ (by omega)]; omega
  simp [hlt]
  refine AM.wp_skip ?_
  simp
  refine AM.wp_seq ?_
  refine AM.wp_block ?_
  refine Z00 ?_
  simp [t6,t8,hlt,hc,hle,hseg,RC.enc]
  have hK:Keeps s' ((s'.alloc (.cells [.bool false,.str [],.nilSlice,.int .i64 0] false)).put s'.next (.cells c.enc false)):=(Keeps.alloc _ _).put _ (Z0a _) (Z16 _ _)
  have hO:((s'.alloc (.cells [.bool false,.str [],.nilSlice,.int .i64 0] false)).put s'.next (.cells c.enc false)).cells s'.next = some c.enc:=Zf1 _ _ _ _
  simp only [RC.enc] at hK hO
  generalize (s'.alloc (.cells [.bool false,.str [],.nilSlice,.int .i64 0] false)).put s'.next (.cells [.bool c.taken,.str c.name,c.kv,.int .i64 c.held] false) = s1 at hK hO ⊢
  generalize s'.next = V at hO ⊢
  have hI1:=hst i s' s1 hIi hK
  refine Z00 ?_
  cases hct:c.taken with
  | false =>
   rw [hct] at hO
   simp [hO]
   refine AM.Z04 ?_
   simp
   refine AM.wp_skip ?_
   simp
   refine AM.wp_region ?_
   simp [t8,hwr]
   exact ⟨l.length - (i + 1),by omega,i + 1,by omega,by omega,by simp [t0],by simp [t6],by simp [t7],by simp,hskip i c s1 hci hct hI1⟩
  | true =>
   rw [hct] at hO
   simp [hO,t0,hyt]
   refine hy i c s1 _ hci hct hI1 (fun s2 hI2 => ?_) (fun s2 hS2 => ?_)
   rotate_left
   ·simp
    refine AM.Z04 ?_
    simp
    refine AM.wp_ret ?_
    simp
    exact q2 s2 hS2
   simp
   refine AM.Z04 ?_
   simp
   refine AM.wp_skip ?_
   simp
   refine AM.wp_region ?_
   simp [t8,hwr]
   exact ⟨l.length - (i + 1),by omega,i + 1,by omega,by omega,by simp [t0],by simp [t6],by simp [t7],by simp,hI2⟩
 ·simp [hlt]
  refine AM.wp_exit ?_
  simp
  have hie:i = l.length:=by omega
  subst hie
  exact q s' hIi
section
variable {s0 s:St} {W:Pos→Prop} {m r:Lets}
theorem Zjv {fr:FI} {t:PT AVal} {Q:Ex→PT AVal→St→Prop} {f:RO} {k k':Nat} {b:MCode} {fi:FInfo} {p B:Pos} {l:List RC} {n:Nat} {m0:Lets} (J:Nat→Lets→Prop) (E:Lets→Prop) (hn:l.length = n) (hl:n ≤ 400)
  (hx:getO t [] f = some (.fn 87 [] [.ptr B 0])) (hr:fr.round = none) (hfi:funInfo Tryd.prog fr.fn = some fi) (hpl:Z5y fi.ps fi.ntmps [k] = some [some (posOf k)])
  (hp:∀ i m s',J i m→Ctx s0 W m s'→s'.Old p∧s'.cells p = some (encs l))
  (hskip:∀ i c m,l[i]? = some c→c.taken = false→J i m→J (i + 1) m)
  (hbody:∀ (i:Nat) c s1 m Lb X (Wx:Ex→PT AVal→St→Prop),l[i]? = some c→c.taken = true→J i m→Ctx s0 W ((Lb,X) :: (B,C [.slice p 0 n (.lim n)]) :: m) s1 →
   (∀ t s2 m',J (i + 1) m'→Ctx s0 W ((Lb,X) :: (B,C [.slice p 0 n (.lim n)]) :: m') s2→Wx .normal t s2)→(∀ t s2 m',E m'→Ctx s0 W ((Lb,X) :: (B,C [.slice p 0 n (.lim n)]) :: m') s2→Wx .ret t s2) →
   wp Tryd.prog b { fn:=fr.fn,ntmps:=fi.ntmps,ps:=fi.ps,round:=some Lb } (PT.set (posOf k') (.int .i64 i) (PT.set (posOf k) (.int .i64 i) t)) s1 Wx)
  (h0:J 0 m0) (hc:Ctx s0 W ((B,C [.slice p 0 n (.lim n)]) :: m0) s) (q:∀ s' m,J n m→Ctx s0 W m s'→Q .normal t s') (q2:∀ s' m,E m→Ctx s0 W m s'→Q .ret t s') :
  wp Tryd.prog (.range f [k] (.region [.run none (.move (.per (posOf k)))] [some (posOf k')]) b) fr t s Q:=by
 subst hn
 refine AM.Zhr hx (fun l0 e => by rw [hr] at e; cases e) ?_
 have c0:=hc.alloc (.loop { state:=.ready,pending:=none,fn:=fr.fn,tm:=t,params:=[k],assign:=.region [.run none (.move (.per (posOf k)))] [some (posOf k')],body:=b })
 generalize s.alloc (.loop { state:=.ready,pending:=none,fn:=fr.fn,tm:=t,params:=[k],assign:=.region [.run none (.move (.per (posOf k)))] [some (posOf k')],body:=b }) = sA at c0 ⊢
 generalize s.next = Lb at c0 ⊢
 refine Zo5 (p:=p) (I:=fun i s' => ∃ m,J i m∧Ctx s0 W ((Lb,.loop { state:=.ready,pending:=none,fn:=fr.fn,tm:=t,params:=[k],assign:=.region [.run none (.move (.per (posOf k)))] [some (posOf k')],body:=b }) :: (B,C [.slice p 0 l.length (.lim l.length)]) :: m) s') (S:=fun s' => ∃ m,E m∧Ctx s0 W ((Lb,.loop { state:=.done,pending:=some .ret,fn:=fr.fn,tm:=t,params:=[k],assign:=.region [.run none (.move (.per (posOf k)))] [some (posOf k')],body:=b }) :: (B,C [.slice p 0 l.length (.lim l.length)]) :: m) s') hl (by simp) ?_ ?_ ?_ ?_ ⟨m0,h0,c0⟩ ?_ ?_
 ·rintro i s' ⟨m,hj,hc⟩
  obtain ⟨a,b⟩:=hp i m s' hj hc.tail.tail
  exact ⟨hc.wf,a,hc.oi 1 rfl,b,hc.c 1 rfl⟩
 ·rintro i s' s'' ⟨m,hj,hc⟩ hk
  exact ⟨m,hj,hc.keeps hk⟩
 ·rintro i c s' hci hct ⟨m,hj,hc⟩
  exact ⟨m,hskip i c m hci hct hj,hc⟩
 ·rintro i c s' R hci hct ⟨m,hj,hc⟩ hR hR2
  refine Zcw (pl:=[some (posOf k)]) (tree:=PT.set (posOf k) (.int .i64 i) t) (hc.x 0 rfl) hfi hpl rfl rfl ?_
  refine AM.wp_region ?_
  simp
  refine ⟨_,hc.x 0 rfl,rfl,?_⟩
  refine hbody i c _ m Lb _ _ hci hct hj (hc.put 0 rfl _) (fun t2 s2 m' hj' hc' => ?_) (fun t2 s2 m' he hc' => ?_)
  ·refine ⟨_,hc'.x 0 rfl,?_⟩
   exact hR _ ⟨m',hj',hc'.put 0 rfl _⟩
  ·refine ⟨_,hc'.x 0 rfl,?_⟩
   exact hR2 _ ⟨m',he,hc'.put 0 rfl _⟩
 ·rintro s2 ⟨m,hj,hc⟩
  refine ⟨_,hc.x 0 rfl,rfl,?_⟩
  exact q _ m hj (hc.put 0 rfl _).tail.tail
 ·rintro s2 ⟨m,hj,hc⟩
  refine ⟨_,hc.x 0 rfl,rfl,?_⟩
  exact q2 _ m hj (hc.put 0 rfl _).tail.tail
end
noncomputable def Zi9 (cs:List CV):Bool:=(Z0k cs cs.length).all fun (j:Nat) => decide (toC (clsF (Z0d cs) (Z0k cs cs.length)) (j:Int) = (j:Int))
theorem Zph {s0 s:St} {W:Pos→Prop} {hb:Pos} {vs:AVal} {cs:List CV} {m r:Lets} {Q:AVal→St→Prop} (hH:Z1m hb vs cs m) (h:Ctx s0 W (m ++ r) s) (hO:HOk cs)
  (q:∀ s',Ctx s0 W (m ++ r) s'→Q (.tup [.bool (Zi9 cs),.int .i64 0]) s'):Z0b Tryd.prog 25 [.ptr hb 0] s Q:=by
 obtain ⟨p,V,mr,hc,hR,hV,h1,h4,hP⟩:=Z5a hH h
 have hl:=Z17 hV
 have hno:cs.length ≠ 0:=by omega
 refine Z07 (Z0e (by decide)) fi25 rfl (by decide) rfl ?_
 refine Z00 ?_
 simp
 have c1:=hc.alloc (C [.bool false])
 generalize s.alloc (.cells [.bool false] false) = s1 at c1 ⊢
 generalize s.next = B2 at c1 ⊢
 have c2:=c1.alloc (C [.int .i64 0])
 generalize s1.alloc (.cells [.int .i64 0] false) = s2 at c2 ⊢
 generalize s1.next = B3 at c2 ⊢
 refine AM.wp_seq ?_
 refine Z00 ?_
 simp
 refine Z02 ?_
 refine Z3o (c2.c 2 rfl) rfl hno ?_
 simp
 refine AM.Z04 ?_
 simp
 refine AM.wp_skip ?_
 simp
 refine Z00 ?_
 simp [c2.c 2 rfl]
 refine Z02 ?_
 have hobs:∀ {L:Lets} {s':St},Ctx s0 W L s'→(p,C (encs (rcs cs V))) ∈ L→(∀ y ∈ mr,y ∈ L)→∀ j c,(rcs cs V)[j]? = some c→Z0c s' c.kv (Z0j cs j):=by
  intro L s' hc' hp hm j c hj
  obtain ⟨_,_,r3⟩:=Z5e (p:=p) (cs:=cs) (V:=V) hc' hp hR hm
  have hjl:j < cs.length:=by have:=(List.getElem?_eq_some_iff.1 hj).1; rwa [hl] at this
  obtain ⟨kv,e1,e2⟩:=r3 j _ (List.getElem?_eq_getElem hjl)
  rw [Z18 (List.getElem?_eq_getElem hjl) e1] at hj
  cases hj
  rw [Z13 (List.getElem?_eq_getElem hjl)]
  exact e2
 refine Zk0 (K:=Z0j cs) hl c2.wf (c2.oi 3 rfl) (c2.c 3 rfl) h4 (hobs c2 (by simp) (fun y hy => by simp [hy])) fun pn lv s3 k3 hN hLv => ?_
 rw [Zjk hV] at hN
 rw [Zk5 hV] at hLv
 have c3:=c2.keeps k3
 simp
 refine Z02 ?_
 refine Zcs (Z0t cs) c3.wf hN (by omega) hLv (by have:(Z0k cs cs.length).length ≤ cs.length:=Nat.le_trans (List.length_filter_le _ _) (by simp); omega) hO.closed hO.Zb6 fun Bx s4 k4 hBx hox => ?_
 have hcl:=Z74 hO.closed
 rw [Z0t] at hcl
 simp only [Zi9] at q
 generalize clsF (Z0d cs) (Z0k cs cs.length) = cls at hox hcl q ⊢
 have c4:=c3.made k4 hBx (St.Z28 hox)
 simp
 have c5:=(c4.alloc (C [.nilSlice])).put 0 rfl (C [.slice Bx 0 cs.length (.lim cs.length)])
 simp only [List.set_cons_zero] at c5
 generalize (s4.alloc (.cells [.nilSlice] false)).put s4.next (.cells [.slice Bx 0 cs.length (.lim cs.length)] false) = s5 at c5 ⊢
 generalize s4.next = B4 at c5 ⊢
 refine AM.wp_seq ?_
 refine Z00 ?_
 simp [c5.c 4 rfl]
 refine Z02 ?_
 refine Z78 fun BB hBB => ?_
 have c6:=c5.alloc (C [.slice p 0 cs.length (.lim cs.length)])
 rw [← hBB] at c6
 generalize s5.alloc (.cells [.slice p 0 cs.length (.lim cs.length)] false) = s6 at c6 ⊢
 simp
 have hback:∀ {x:Lets} {s':St},Ctx s0 W (x ++ ((hb,C [.slice p 0 cs.length (.lim cs.length),vs]) :: (p,C (encs (rcs cs V))) :: (mr ++ r))) s'→Ctx s0 W (m ++ r) s':=by
  intro x s' hx
  refine (hx.sub (List.sublist_append_right _ _)).perm ?_
  refine Z19 fun a => ?_
  have:=Z4u hP a
  simp only [Z0o,Z0w] at this ⊢
  omega
 refine AM.wp_block ?_
 refine Zjv (B:=BB) (p:=p) (l:=rcs cs V)
  (J:=fun i m => ((Z0k cs i).all fun (j:Nat) => decide (toC cls (j:Int) = (j:Int))) = true∧m = (B4,C [.slice Bx 0 cs.length (.lim cs.length)]) :: (Bx,C (ints cls)) :: (B3,C [.int .i64 0]) :: (B2,C [.bool false]) :: (hb,C [.slice p 0 cs.length (.lim cs.length),vs]) :: (p,C (encs (rcs cs V))) :: (mr ++ r))
  (E:=fun m => ((Z0k cs cs.length).all fun (j:Nat) => decide (toC cls (j:Int) = (j:Int))) = false∧m = (B4,C [.slice Bx 0 cs.length (.lim cs.length)]) :: (Bx,C (ints cls)) :: (B3,C [.int .i64 0]) :: (B2,C [.bool false]) :: (hb,C [.slice p 0 cs.length (.lim cs.length),vs]) :: (p,C (encs (rcs cs V))) :: (mr ++ r))
  hl h4 (by simp) rfl fi25 rfl ?_ ?_ ?_ ⟨by simp [Z0k],rfl⟩ c6 ?_ ?_
 ·rintro i m s' ⟨_,rfl⟩ hc'
  exact ⟨hc'.oi 5 rfl,hc'.c 5 rfl⟩
 ·rintro i c m hci hct ⟨hall,rfl⟩
  have hi:i < cs.length:=by have:=(List.getElem?_eq_some_iff.1 hci).1; rwa [hl] at this
  rw [Z18 (List.getElem?_eq_getElem hi) (List.getElem?_eq_getElem (show i < V.length by omega))] at hci
  cases hci
  exact ⟨by rw [Z9w (List.getElem?_eq_getElem hi) hct]; exact hall,rfl⟩
 ·rintro i c s' m Lb X Wx hci hct ⟨hall,rfl⟩ hc' hW hW2
  have hi:i < cs.length:=by have:=(List.getElem?_eq_some_iff.1 hci).1; rwa [hl] at this
  rw [Z18 (List.getElem?_eq_getElem hi) (List.getElem?_eq_getElem (show i < V.length by omega))] at hci
  have htk:cs[i].taken = true:=by cases hci; exact hct
  have hnx:=Z80 (List.getElem?_eq_getElem hi) htk
  obtain ⟨cc,hcc⟩:∃ cc,cls[i]? = some cc:=⟨_,List.getElem?_eq_getElem (by omega)⟩
  have e:Z32 (fun d => decide (cc = d)) cls = toC cls (i:Int):=by unfold toC; simp [hcc]
  have hgx:(ints cls)[i]? = some (.int .i64 cc):=by unfold ints; rw [List.getElem?_map,hcc]; rfl
  obtain ⟨icl,hicl⟩:∃ x,x = ints cls:=⟨_,rfl⟩
  have hbx:=hc'.c 3 rfl
  rw [← hicl] at hgx hbx
  refine AM.wp_block ?_
  refine Z00 ?_
  simp [hc'.c 2 rfl,hi,hbx,hgx]
  refine Z02 ?_
  refine Ze1 (ks:=cls) (by have:=Z37 hc'.wf (hc'.o 3 rfl) (.lim cs.length); rw [hcl] at this; exact this) (by omega) ?_
  rw [e]
  simp
  refine AM.Z04 ?_
  by_cases hto:toC cls (i:Int) = (i:Int)
  ·simp [hto]
   refine AM.wp_skip ?_
   refine hW _ _ _ ⟨?_,rfl⟩ hc'
   rw [hnx,List.all_append,hall]
   simp [hto]
  ·simp [hto]
   refine Z00 ?_
   simp [hc'.o 4 rfl,hc'.o 5 rfl]
   have d1:=hc'.put 5 rfl (C [.bool false])
   simp only [List.set_cons_succ,List.set_cons_zero] at d1
   generalize s'.put B2 (.cells [.bool false] false) = s7 at d1 ⊢
   simp [d1.o 4 rfl]
   have d2:=d1.put 4 rfl (C [.int .i64 0])
   simp only [List.set_cons_succ,List.set_cons_zero] at d2
   generalize s7.put B3 (.cells [.int .i64 0] false) = s8 at d2 ⊢
   refine AM.wp_ret ?_
   refine hW2 _ _ _ ⟨?_,rfl⟩ d2
   rw [List.all_eq_false]
   refine ⟨i,?_,by simpa using hto⟩
   rw [Z3v,Z22 (List.getElem?_eq_getElem hi)]
   exact ⟨hi,htk⟩
 ·rintro s' m ⟨hall,rfl⟩ hc'
  rw [hall] at q
  simp
  refine Z00 ?_
  simp [hc'.o 3 rfl]
  have d1:=hc'.put 3 rfl (C [.bool true])
  simp only [List.set_cons_succ,List.set_cons_zero] at d1
  generalize s'.put B2 (.cells [.bool true] false) = s7 at d1 ⊢
  simp [d1.o 2 rfl]
  have d2:=d1.put 2 rfl (C [.int .i64 0])
  simp only [List.set_cons_succ,List.set_cons_zero] at d2
  generalize s7.put B3 (.cells [.int .i64 0] false) = s8 at d2 ⊢
  refine AM.wp_ret ?_
  simp [d2.c 2 rfl,d2.c 3 rfl]
  exact q s8 (hback (x:=[(B4,C [.slice Bx 0 cs.length (.lim cs.length)]),(Bx,C (ints cls)),(B3,C [.int .i64 0]),(B2,C [.bool true])]) d2)
 ·rintro s' m ⟨hall,rfl⟩ hc'
  rw [hall] at q
  simp [hc'.c 2 rfl,hc'.c 3 rfl]
  exact q s' (hback (x:=[(B4,C [.slice Bx 0 cs.length (.lim cs.length)]),(Bx,C (ints cls)),(B3,C [.int .i64 0]),(B2,C [.bool false])]) hc')
end Go.Proofs
end
section
/- Pack: the contract. -/
open Go Go.AM
namespace Go.Proofs
set_option maxRecDepth 100000
theorem HOk2.packed {cs:List CV} (h:HOk2 cs) (v:List Nat):(∀ c ∈ Z1s cs v,c.kids.length ≤ 4)∧∀ c ∈ Z1s cs v,c.taken = true→∀ k ∈ c.kids,0 ≤ k∧k < cs.length:=by
 have key:∀ c ∈ Z1s cs v,c = Z0v ∨ c ∈ cs:=by
  intro c hc
  unfold Z1s pick at hc
  rcases List.mem_append.1 hc with hc | hc
  ·obtain ⟨a,_,rfl⟩:=List.mem_map.1 hc
   cases ha:cs[a]? with
   | none => exact .inl rfl
   | some d => exact .inr (List.mem_of_getElem? ha)
  ·exact .inl (List.eq_of_mem_replicate hc)
 refine ⟨fun c hc => ?_,fun c hc ht k hk => ?_⟩
 ·rcases key c hc with rfl | hm
  ·simp [Z0v]
  ·exact h.kids4 c hm
 ·rcases key c hc with rfl | hm
  ·simp [Z0v] at hk
  ·obtain ⟨k0,_,_,_,k1⟩:=Z2m (h.kids c hm ht k hk)
   exact ⟨k0,by omega⟩
theorem Zvv {s0 s:St} {W:Pos→Prop} {pn B4 Bx:Pos} {cs:List CV} {n:Nat} {V:List AVal} {cls:List Int} {mk r:Lets} {cp:Cap} {Q:AVal→St→Prop} (hn:cs.length = n) (h:Ctx s0 W (mk ++ r) s) (hR:Z0x (cs.map CV.kids) V mk) (hO4:∀ c ∈ cs,c.kids.length ≤ 4) (hOk:∀ c ∈ cs,c.taken = true→∀ k ∈ c.kids,0 ≤ k∧k < n) (hcl:cls.length = n) (h4:n ≤ 400)
  (hpn:(pn,C (encs (rcs cs V))) ∈ r) (hB4:(B4,C [.slice Bx 0 n cp]) ∈ r) (hBx:(Bx,C (ints cls)) ∈ r)
  (q:∀ mk' s',Z0x ((Z6h cls cs).map CV.kids) V mk'→Ctx s0 W (mk' ++ r) s'→Q (.tup []) s') :
  Z0b Tryd.prog 54 [.agg [.fn 82 [] [.ptr B4 0]],.agg [.slice pn 0 n (.lim n)]] s Q:=by
 subst hn
 exact Zw1 h hR hO4 hOk hcl h4 hpn hB4 hBx q
theorem pack_c {s0 s:St} {W:Pos→Prop} {hb:Pos} {vs:AVal} {cs:List CV} {m r:Lets} {Q:AVal→St→Prop} (hH:Z1m hb vs cs m) (h:Ctx s0 W (m ++ r) s) (hO:HOk2 cs)
  (q:∀ Bo m' s',Z1m hb vs (Z97 cs).2 m'→Ctx s0 W ((Bo,C (ints (Z97 cs).1)) :: (m' ++ r)) s'→Q (.tup [.slice Bo 0 cs.length (.lim cs.length),.int .i64 0]) s'):Z0b Tryd.prog 37 [.ptr hb 0] s Q:=by
 obtain ⟨p,V,mr,hc,hR,hV,h1,h4,hP⟩:=Z5a hH h
 have hl:=Z17 hV
 have hno:cs.length ≠ 0:=by omega
 have hz1:cs.length ≤ Z0h:=by unfold Z0h; omega
 have hz2:cs.length * 8 ≤ Z0h:=by unfold Z0h; omega
 have hz3:cs.length * 56 ≤ Z0h:=by unfold Z0h; omega
 have hkvs:∀ (i:Nat) kv,V[i]? = some kv→kv.cells = [kv]∧∀ t,¬ kv = .tup t:=by
  intro i kv hi
  have hil:i < cs.length:=by have:=(List.getElem?_eq_some_iff.1 hi).1; omega
  obtain ⟨kv',e1,e2⟩:=hR.each (i:=i) (Z5v hil)
  rw [hi] at e1
  cases e1
  have hsl:Z1b kv = some (Z0j cs i).length:=by
   rcases e2 with ⟨e3,e4⟩ | ⟨q',c',_,e4,_⟩
   ·rw [e3]; exact e4
   ·rw [e4]; rfl
  cases kv <;> first | (cases hsl; done) | exact ⟨rfl,fun t e => by cases e⟩
 refine Z07 (Z0e (by decide)) fi37 rfl (by decide) rfl ?_
 refine Z00 ?_
 simp
 have c1:=hc.alloc (C [.ptr hb 0])
 generalize s.alloc (.cells [.ptr hb 0] false) = s1 at c1 ⊢
 generalize s.next = B1 at c1 ⊢
 refine AM.wp_seq ?_
 refine Z00 ?_
 simp [c1.c 0 rfl]
 refine Z02 ?_
 refine Z3o (c1.c 1 rfl) rfl hno ?_
 simp
 refine AM.Z04 ?_
 simp
 refine AM.wp_skip ?_
 simp
 refine Z00 ?_
 simp [c1.c 0 rfl,c1.c 1 rfl,hz1,hz2]
 have c2:=c1.alloc (C (List.replicate cs.length (.int .i64 0)))
 generalize s1.alloc (.cells (List.replicate cs.length (.int .i64 0)) false) = s2 at c2 ⊢
 generalize s1.next = Bo at c2 ⊢
 have c3:=(c2.alloc (C [.nilSlice])).put 0 rfl (C [.slice Bo 0 cs.length (.lim cs.length)])
 simp only [List.set_cons_zero] at c3
 generalize (s2.alloc (.cells [.nilSlice] false)).put s2.next (.cells [.slice Bo 0 cs.length (.lim cs.length)] false) = s3 at c3 ⊢
 generalize s2.next = B4 at c3 ⊢
 refine AM.wp_seq ?_
 refine Z00 ?_
 simp [c3.c 0 rfl]
 refine AM.wp_block ?_
 refine AM.wp_loop (fun k t s' => ∃ j:Nat,j ≤ cs.length∧k = cs.length - j∧PT.get (posOf 1) t = some (.ptr B1 0)∧PT.get (posOf 4) t = some (.ptr B4 0)∧PT.get (posOf 18) t = some (.int .i64 cs.length)∧PT.get (posOf 19) t = some (.int .i64 j) ∧
   Ctx s0 W ((B4,C [.slice Bo 0 cs.length (.lim cs.length)]) :: (Bo,C (List.replicate j (.int .i64 (-1)) ++ List.replicate (cs.length - j) (.int .i64 0))) :: (B1,C [.ptr hb 0]) :: (hb,C [.slice p 0 cs.length (.lim cs.length),vs]) :: (p,C (encs (rcs cs V))) :: (mr ++ r)) s') cs.length
  ⟨0,by simp,by simp,by simp,by simp,by simp,by simp,by simpa using c3⟩ ?_
 rintro k t s' ⟨j,hj,rfl,t1,t4,t18,t19,d⟩
 refine Z00 ?_
 simp [t18,t19]
 refine AM.wp_seq ?_
 refine AM.Z04 ?_
 by_cases hlt:j < cs.length
 ·have hwr:IntKind.wrap .i64 ((j:Int) + 1) = ((j + 1:Nat):Int):=by rw [IntWalk.i64_in _ (by omega)]; omega
  have hle:j + 1 ≤ j + (cs.length - j):=by omega
  simp [hlt]
  refine AM.wp_skip ?_
  simp
  refine AM.wp_seq ?_
  refine AM.wp_block ?_
  refine Z00 ?_
  simp [t19]
  refine AM.wp_region ?_
  simp [t4,d.c 0 rfl,d.o 1 rfl,hlt,hle,Zhz]
  rw [Zhd]
  have d1:=d.put 1 rfl (C (List.replicate (j + 1) (.int .i64 (-1)) ++ List.replicate (cs.length - (j + 1)) (.int .i64 0)))
  simp only [List.set_cons_succ,List.set_cons_zero] at d1
  refine AM.wp_region ?_
  simp [t19,hwr]
  exact ⟨cs.length - (j + 1),by omega,j + 1,by omega,by omega,by simp [t1],by simp [t4],by simp [t18],by simp,d1⟩
 ·simp [hlt]
  refine AM.wp_exit ?_
  simp
  have hje:j = cs.length:=by omega
  subst hje
  have hz:List.replicate cs.length (AVal.int .i64 (-1)) ++ List.replicate (cs.length - cs.length) (.int .i64 0) = ints (outL cs.length []):=by
   rw [Nat.sub_self,List.replicate_zero,List.append_nil]
   refine List.ext_getElem? fun x => ?_
   unfold ints
   by_cases hx:x < cs.length
   ·rw [List.getElem?_map,Z9n _ hx,List.getElem?_replicate,if_pos hx]
    rfl
   ·rw [List.getElem?_eq_none (by simp; omega),List.getElem?_eq_none (by simp [Z71]; omega)]
  rw [hz] at d
  refine Z00 ?_
  simp [t1,d.c 2 rfl,d.c 3 rfl,hz1,hz3]
  have hV0:(List.replicate cs.length [AVal.bool false,.str [],.nilSlice,.int .i64 0]).flatten = encs (rcs (Z1s cs []) (Z2g cs.length V [])):=by
   simp [encs,rcs,RC.enc,Z0v,Z1s,Z2g,pick,List.zipWith_replicate,List.flatMap]
  rw [hV0]
  have d1:=d.alloc (C (encs (rcs (Z1s cs []) (Z2g cs.length V []))))
  generalize s'.alloc (.cells (encs (rcs (Z1s cs []) (Z2g cs.length V []))) false) = s4 at d1 ⊢
  generalize s'.next = pn at d1 ⊢
  have d2:=(d1.alloc (C [.nilSlice])).put 0 rfl (C [.slice pn 0 cs.length (.lim cs.length)])
  simp only [List.set_cons_zero] at d2
  generalize (s4.alloc (.cells [.nilSlice] false)).put s4.next (.cells [.slice pn 0 cs.length (.lim cs.length)] false) = s5 at d2 ⊢
  generalize s4.next = B6 at d2 ⊢
  refine Z00 ?_
  simp
  have d3:=(d2.alloc (C [.int .i64 0])).put 0 rfl (C [.int .i64 0])
  simp only [List.set_cons_zero] at d3
  generalize (s5.alloc (.cells [.int .i64 0] false)).put s5.next (.cells [.int .i64 0] false) = s6 at d3 ⊢
  generalize s5.next = B7 at d3 ⊢
  refine Z00 ?_
  simp [t1,t4,d3.c 5 rfl,d3.c 6 rfl]
  refine Z02 ?_
  refine Zjj (p:=p) (V:=V) (cs:=cs) d3 hV h4 (fun x s' hx => ?_) fun lv mg x s7 hg d4 => ?_
  ·have hx':(p,C (encs (rcs cs V))) ∈ x ++ ((B7,C [.int .i64 0]) :: (B6,C [.slice pn 0 cs.length (.lim cs.length)]) :: (pn,C (encs (rcs (Z1s cs []) (Z2g cs.length V [])))) :: (B4,C [.slice Bo 0 cs.length (.lim cs.length)]) :: (Bo,C (ints (outL cs.length []))) :: (B1,C [.ptr hb 0]) :: (hb,C [.slice p 0 cs.length (.lim cs.length),vs]) :: (p,C (encs (rcs cs V))) :: (mr ++ r)):=by simp
   exact ⟨hx.ob hx',Z08 (Z0n (hx.own _ hx'))⟩
  have d4:=(d4.sub (List.sublist_append_right x _))
  have d5:Ctx s0 W ([(B7,C [.int .i64 ([]:List Nat).length]),(B4,C [.slice Bo 0 cs.length (.lim cs.length)]),(Bo,C (ints (outL cs.length []))),(B6,C [.slice pn 0 cs.length (.lim cs.length)]),(pn,C (encs (rcs (Z1s cs []) (Z2g cs.length V []))))] ++
    ((B1,C [.ptr hb 0]) :: (hb,C [.slice p 0 cs.length (.lim cs.length),vs]) :: (p,C (encs (rcs cs V))) :: (mg ++ (mr ++ r)))) s7:=d4.perm (Z19 fun x => by
   simp only [Z0o,Z0w,Z1x,List.length_nil]
   have:(((0:Nat):Int)) = 0:=rfl
   rw [this]
   omega)
  have hlv:∀ t,¬ lv = .tup t:=hg.ntup
  simp [t1,hlv,d5.c 5 rfl,d5.c 6 rfl]
  refine ⟨by simp [Z2y],Zes _ _ _ _,?_⟩
  refine Z02 ?_
  have hrn:nats ((Z1v cs cs.length).map Int.toNat) = Z1v cs cs.length:=Zje fun k hk => (Zcq hk).1
  have hrl:=Zf8 cs cs.length
  have hroots:∀ a ∈ (Z1v cs cs.length).map Int.toNat,Z11 cs (a:Int) = true:=by
   intro a ha
   obtain ⟨k,hk,rfl⟩:=List.mem_map.1 ha
   obtain ⟨k0,_,kt⟩:=Zcq hk
   rw [Int.toNat_of_nonneg k0]
   exact kt
  refine Zfo (V:=V) (J:=fun v m => m = [(B7,C [.int .i64 (v.length:Nat)]),(B4,C [.slice Bo 0 cs.length (.lim cs.length)]),(Bo,C (ints (outL cs.length v))),(B6,C [.slice pn 0 cs.length (.lim cs.length)]),(pn,C (encs (rcs (Z1s cs v) (Z2g cs.length V v))))])
   (roots:=(Z1v cs cs.length).map Int.toNat) (rv:=lv) (f:=81) (fx:=[]) (fy:=[.ptr B7 0,.ptr B4 0,.ptr B1 0,.ptr B6 0])
   ⟨hV,h4,?_,fun a ha => Z6w (hroots a ha),by simp; omega,Zmu hO,?_⟩ d5 rfl hlv ?_
  ·rintro x m' s' hx ⟨v,rfl⟩
   obtain ⟨r1,r2,r3⟩:=Z5e (p:=p) (cs:=cs) (V:=V) hx (by simp) hR (fun y hy => by simp [hy])
   refine ⟨r1,r2,?_,r3⟩
   rw [hrn]
   exact (hg.row.kid fun y hy => hx.own y (by simp [hy])).ints hx.wf
  ·rintro a v x m' s' R rfl hav han hvn hvlt hx hq
   refine Z02 ?_
   exact Zuz (pre:=x) (r:=mg ++ (mr ++ r)) hV h4 (by simpa using hx) han hav hvn hvlt hkvs fun s'' hx' => hq _ _ _ rfl (by simpa using hx')
  ·rintro x m' s8 rfl hx
   have d6:=hx.sub (List.sublist_append_right x _)
   simp only [List.cons_append,List.nil_append] at d6
   obtain ⟨f1,f2,f3,f4,f5⟩:=Zej (n:=cs.length) hO.Zpj ((Z1v cs cs.length).map Int.toNat) (fun a ha => Z6w (hroots a ha))
   have hrd:bfsF (kidN cs) cs.length ((Z1v cs cs.length).map Int.toNat) = Z44 cs:=rfl
   rw [hrd] at d6 f1 f2
   simp only [Z97] at q
   generalize Z44 cs = v at d6 f1 f2 q
   have hvl:=Z2l f1 f2
   obtain ⟨m1,dd,g1,g2⟩:=hR.pick f1 (fun a ha => by simpa using f2 a ha)
   have g3:=g1.nils (cs.length - v.length)
   rw [← Zq4] at g3
   have g3:Z0x ((Z1s cs v).map CV.kids) (Z2g cs.length V v) m1:=g3
   have hpl:=Zcr (cs:=cs) hvl
   obtain ⟨p4,pin⟩:=hO.packed v
   have d7:=d6.perm (m':=m1 ++ ((B4,C [.slice Bo 0 cs.length (.lim cs.length)]) :: (Bo,C (ints (outL cs.length v))) :: (B6,C [.slice pn 0 cs.length (.lim cs.length)]) :: (pn,C (encs (rcs (Z1s cs v) (Z2g cs.length V v)))) :: (B1,C [.ptr hb 0]) :: (hb,C [.slice p 0 cs.length (.lim cs.length),vs]) :: (B7,C [.int .i64 (v.length:Nat)]) :: (p,C (encs (rcs cs V))) :: (mg ++ (dd ++ r)))) (Z19 fun x => by
    have i1:=Z4u g2 x
    simp only [Z0o,Z0w,Z1x] at i1 ⊢
    omega)
   simp
   have b6:s8.cells B6 = some [.slice pn 0 cs.length (.lim cs.length)]:=Z08 (Z0n (d7.own (B6,C [.slice pn 0 cs.length (.lim cs.length)]) (by simp)))
   refine Z00 ?_
   simp [t4,b6]
   refine Z02 ?_
   refine Zvv (Bx:=Bo) (cls:=outL cs.length v) (cp:=.lim cs.length) hpl d7 g3 p4 pin (Z71 _ _) h4 (by simp) (by simp) (by simp) fun mk' s9 e1 e2 => ?_
   have e3:=e2.perm (m':=(B4,C [.slice Bo 0 cs.length (.lim cs.length)]) :: (Bo,C (ints (outL cs.length v))) :: (B6,C [.slice pn 0 cs.length (.lim cs.length)]) :: (pn,C (encs (rcs (Z1s cs v) (Z2g cs.length V v)))) :: (B1,C [.ptr hb 0]) :: (hb,C [.slice p 0 cs.length (.lim cs.length),vs]) :: (mk' ++ ((B7,C [.int .i64 (v.length:Nat)]) :: (p,C (encs (rcs cs V))) :: (mg ++ (dd ++ r))))) (Z19 fun x => by
    simp only [Z0o,Z0w,Z1x]
    omega)
   simp
   refine Z00 ?_
   simp [t1,e3.c 4 rfl,e3.c 2 rfl,e3.o 5 rfl]
   have e4:=e3.put 5 rfl (C [.slice pn 0 cs.length (.lim cs.length),vs])
   simp only [List.set_cons_succ,List.set_cons_zero] at e4
   generalize s9.put hb (.cells [.slice pn 0 cs.length (.lim cs.length),vs] false) = s10 at e4 ⊢
   refine Z00 ?_
   simp [t4,e4.c 0 rfl]
   refine AM.wp_ret ?_
   simp
   have hml:(Z6h (outL cs.length v) (Z1s cs v)).length = cs.length:=by rw [Z90,hpl]
   have hrm:rcs (Z6h (outL cs.length v) (Z1s cs v)) (Z2g cs.length V v) = rcs (Z1s cs v) (Z2g cs.length V v):=by
    unfold rcs Z6h
    rw [List.zipWith_map_left]
    congr 1
    funext d kv
    split <;> rfl
   refine q Bo _ s10 (Z21 (p:=pn) (V:=Z2g cs.length V v) (mr:=mk') e1 (by omega) (by omega)) ?_
   rw [hml,hrm]
   have e5:=e4.sub (m':=(Bo,C (ints (outL cs.length v))) :: (pn,C (encs (rcs (Z1s cs v) (Z2g cs.length V v)))) :: (hb,C [.slice pn 0 cs.length (.lim cs.length),vs]) :: (mk' ++ r)) (.cons _ (.cons_cons _ (.cons _ (.cons_cons _ (.cons _ (.cons_cons _ ((List.Sublist.refl mk').append (.cons _ (.cons _ ((List.sublist_append_right dd r).trans (List.sublist_append_right mg _)))))))))))
   refine e5.perm (Z19 fun x => ?_)
   simp only [Z0o,Z0w,Z1x]
   omega
end Go.Proofs
end
section
/- Large rings,in plain: the heap. -/
open Go Go.AM
namespace Go.Proofs
set_option maxRecDepth 100000
def bigH (h:Int) (z:Bool) (bs:List Bool):List CV:=(List.range 400).map fun j => if j = 0 then (if z = true then ⟨true,[97],[],0⟩ else Z0v) else
 if j ≤ bs.length then ⟨true,nmOf (rowF bs (j - 1)),[((j % bs.length + 1:Nat):Int)],if j = 1 then h else 0⟩ else Z0v
section
variable {h:Int} {z:Bool} {bs:List Bool}
theorem Z1e:(bigH h z bs).length = 400:=by simp [bigH]
theorem Z8m {j:Nat} (hj:j < 400):(bigH h z bs)[j]? = some (if j = 0 then (if z = true then ⟨true,[97],[],0⟩ else Z0v) else
 if j ≤ bs.length then ⟨true,nmOf (rowF bs (j - 1)),[((j % bs.length + 1:Nat):Int)],if j = 1 then h else 0⟩ else Z0v):=by
 unfold bigH
 rw [List.getElem?_map,List.getElem?_range hj]
 rfl
attribute [irreducible] bigH
theorem Z8n:(bigH h z bs)[0]? = some (if z = true then ⟨true,[97],[],0⟩ else Z0v):=by rw [Z8m (by omega),if_pos rfl]
theorem Z4h {i:Nat} (hi:i < bs.length) (hn:bs.length ≤ 399):(bigH h z bs)[i + 1]? = some ⟨true,nmOf (rowF bs i),[(((i + 1) % bs.length + 1:Nat):Int)],if i = 0 then h else 0⟩:=by
 rw [Z8m (by omega),if_neg (by omega),if_pos (by omega)]
 simp
theorem Z79 {j:Nat} (hj:bs.length < j) (hn:j < 400):(bigH h z bs)[j]? = some Z0v:=by
 rw [Z8m hn,if_neg (by omega),if_neg (by omega)]
theorem Zeh {c:CV} (hn:bs.length ≤ 399) (hc:c ∈ bigH h z bs):(∃ i,i < bs.length∧c = ⟨true,nmOf (rowF bs i),[(((i + 1) % bs.length + 1:Nat):Int)],if i = 0 then h else 0⟩) ∨ (c = ⟨true,[97],[],0⟩∧z = true) ∨ c = Z0v:=by
 obtain ⟨j,hj⟩:=List.getElem?_of_mem hc
 have hlt:=(List.getElem?_eq_some_iff.1 hj).1
 rw [Z1e] at hlt
 cases j with
 | zero =>
  rw [Z8n] at hj
  cases z
  ·right; right
   simpa using hj.symm
  ·right; left
   exact ⟨by simpa using hj.symm,rfl⟩
 | succ i =>
  by_cases hi:i < bs.length
  ·rw [Z4h hi hn] at hj
   exact .inl ⟨i,hi,by simpa using hj.symm⟩
  ·rw [Z79 (by omega) hlt] at hj
   right; right
   simpa using hj.symm
theorem Z49 {i:Nat} (hn:bs.length ≤ 399):Z11 (bigH h z bs) (i:Int) = true ↔ (i = 0∧z = true) ∨ (1 ≤ i∧i ≤ bs.length):=by
 cases i with
 | zero =>
  rw [Z22 Z8n]
  cases z <;> simp [Z0v]
 | succ i =>
  by_cases hi:i < bs.length
  ·rw [Z22 (Z4h hi hn)]
   simp
   omega
  ·by_cases h4:i + 1 < 400
   ·rw [Z22 (Z79 (by omega) h4)]
    simp [Z0v]
    omega
   ·have:Z11 (bigH h z bs) ((i + 1:Nat):Int) = false:=by
     unfold Z11
     rw [Int.toNat_natCast,List.getElem?_eq_none (by rw [Z1e]; omega)]
     simp
    rw [this]
    simp
    omega
theorem Z3n (hn:bs.length ≤ 399):HOk2 (bigH h z bs):=by
 refine ⟨⟨fun c hc => ?_,fun c hc ht k hk => ?_⟩,fun c hc ht => ?_⟩
 ·rcases Zeh hn hc with ⟨i,hi,rfl⟩ | ⟨rfl,_⟩ | rfl <;> simp [Z0v]
 ·rcases Zeh hn hc with ⟨i,hi,rfl⟩ | ⟨rfl,_⟩ | rfl
  ·have hk:k = (((i + 1) % bs.length + 1:Nat):Int):=by simpa using hk
   subst hk
   have:=Nat.mod_lt (i + 1) (show bs.length > 0 by omega)
   exact (Z49 hn).2 (.inr ⟨by omega,by omega⟩)
  ·simp at hk
  ·simp [Z0v] at hk
 ·rcases Zeh hn hc with ⟨i,hi,rfl⟩ | ⟨rfl,_⟩ | rfl
  ·simp at ht
  ·simp at ht
  ·rfl
theorem Zco {j:Nat} (hn:bs.length ≤ 399):j ∈ Z0k (bigH h z bs) (bigH h z bs).length ↔ (j = 0∧z = true) ∨ (1 ≤ j∧j ≤ bs.length):=by
 rw [Z3v,Z49 hn,Z1e]
 constructor
 ·exact fun h => h.2
 ·intro h
  refine ⟨?_,h⟩
  rcases h with ⟨h1,_⟩ | h1 <;> omega
theorem Z83 (hn:bs.length ≤ 399):Z86 (Z0d (bigH h z bs)) bs (fun i => i + 1):=by
 intro i hi
 rw [Z36 (Z4h hi hn)]
 rfl
theorem Zj4:(Z0d (bigH h true bs))[0]? = some ([97],[]):=by
 rw [Z36 Z8n]
 rfl
theorem Zqc (hn:bs.length ≤ 399) {i:Nat} (hi:i < bs.length):¬ sim (Z0d (bigH h true bs)) 1 0 (i + 1):=by
 rintro ⟨x,y,hx,hy,e1,e2,_⟩
 rw [Zj4] at hx
 rw [Z83 hn i hi] at hy
 cases hx
 cases hy
 simp at e2
end
section
variable {h:Int} {bs:List Bool} {p:Nat} (hn:bs.length ≤ 399) (hp:Least bs.length (rowF bs) p)
include hn hp
theorem Zp0 {i:Nat} (hi:i < bs.length):toC (clsF (Z0d (bigH h true bs)) (Z0k (bigH h true bs) (bigH h true bs).length)) ((i + 1:Nat):Int) = ((i % p + 1:Nat):Int):=by
 have hC:=(Z3n (h:=h) (z:=true) hn).toHOk.closed
 have hlen:(clsF (Z0d (bigH h true bs)) (Z0k (bigH h true bs) (bigH h true bs).length)).length = 400:=(Z74 hC).trans (by rw [Z0t,Z1e])
 have hpp:=hp.pos
 have hle:=hp.le
 have hal:=fun {a b:Nat} (ha:a ≤ bs.length) (hb:b ≤ bs.length) => Zb7 hC ((Zco (h:=h) (z:=true) (j:=a) hn).2 (by simp; omega)) ((Zco (h:=h) (z:=true) (j:=b) hn).2 (by simp; omega))
 generalize clsF (Z0d (bigH h true bs)) (Z0k (bigH h true bs) (bigH h true bs).length) = cls at hlen hal ⊢
 obtain ⟨c,hc⟩:∃ c,cls[i + 1]? = some c:=⟨_,List.getElem?_eq_getElem (by omega)⟩
 obtain ⟨j,hj,hji,hcj,hmin⟩:=Zhx hc
 rw [hj]
 have hij:∀ (i j:Nat),i ≤ j→j < bs.length→(cls[i + 1]? = cls[j + 1]? ↔ (j - i) % p = 0):=by
  intro i j hij hj
  rw [hal (by omega) (by omega)]
  exact Z70 (Z83 hn) (Z83 hn) hp hij hj
 have hm:=Nat.mod_le i p
 have hml:=Nat.mod_lt i hpp
 have h1:cls[i % p + 1]? = some c:=by
  rw [← hc]
  refine (hij (i % p) i hm hi).2 ?_
  have:=Nat.div_add_mod i p
  rw [show i - i % p = p * (i / p) by omega]
  exact Nat.mul_mod_right p _
 have hle1:j ≤ i % p + 1:=by
  refine Classical.byContradiction fun hgt => ?_
  exact hmin (i % p + 1) c (by omega) h1 rfl
 cases j with
 | zero =>
  have h2:cls[0]? = cls[i + 1]?:=hcj.trans hc.symm
  exact (Zqc hn hi ((hal (by omega) (by omega)).1 h2 1)).elim
 | succ j =>
  have h2:=(hij j i (by omega) hi).1 (hcj.trans hc.symm)
  have h3:j % p = i % p:=by
   have:=Nat.sub_mod_eq_zero_of_mod_eq (m:=i) (n:=j) (k:=p)
   have h4:=Nat.div_add_mod (i - j) p
   rw [h2] at h4
   have h5:i = j + p * ((i - j) / p):=by omega
   rw [h5,Nat.add_mul_mod_self_left]
  rw [Nat.mod_eq_of_lt (show j < p by omega)] at h3
  rw [h3]
theorem Zn3:toC (clsF (Z0d (bigH h true bs)) (Z0k (bigH h true bs) (bigH h true bs).length)) 0 = 0:=by
 have hC:=(Z3n (h:=h) (z:=true) hn).toHOk.closed
 have hlen:(clsF (Z0d (bigH h true bs)) (Z0k (bigH h true bs) (bigH h true bs).length)).length = 400:=(Z74 hC).trans (by rw [Z0t,Z1e])
 obtain ⟨c,hc⟩:∃ c,(clsF (Z0d (bigH h true bs)) (Z0k (bigH h true bs) (bigH h true bs).length))[0]? = some c:=⟨_,List.getElem?_eq_getElem (by omega)⟩
 obtain ⟨j,hj,hji,_⟩:=Zhx hc
 have:j = 0:=by omega
 subst this
 exact hj
theorem Zj5:Zi9 (bigH h true bs) = decide (bs.length = p):=by
 have hto:=fun (i:Nat) (hi:i < bs.length) => Zp0 (h:=h) hn hp hi
 have hto0:=Zn3 (h:=h) hn hp
 have hpp:=hp.pos
 have hle:=hp.le
 unfold Zi9
 have hl:=fun (j:Nat) => Zco (h:=h) (z:=true) (bs:=bs) (j:=j) hn
 generalize clsF (Z0d (bigH h true bs)) (Z0k (bigH h true bs) (bigH h true bs).length) = cls at hto hto0
 by_cases he:bs.length = p
 ·rw [decide_eq_true he,List.all_eq_true]
  intro j hj
  rw [decide_eq_true_eq]
  rcases (hl j).1 hj with ⟨rfl,_⟩ | ⟨h1,h2⟩
  ·exact hto0
  ·obtain ⟨i,rfl⟩:∃ i,j = i + 1:=⟨j - 1,by omega⟩
   rw [hto i (by omega),Nat.mod_eq_of_lt (by omega)]
 ·rw [decide_eq_false he,List.all_eq_false]
  refine ⟨p + 1,(hl (p + 1)).2 (.inr ⟨by omega,by omega⟩),?_⟩
  rw [decide_eq_true_eq,hto p (by omega),Nat.mod_self]
  omega
end
end Go.Proofs
end
