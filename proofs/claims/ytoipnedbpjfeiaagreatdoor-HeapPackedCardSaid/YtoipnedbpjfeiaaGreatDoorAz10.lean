/- Parts of the proof: Pck2, CodesP, Pk1, Pk2, Pk3. -/
import Derived.Test.YtoipnedbpjfeiaaGreatDoorAz09
set_option linter.all false
set_option linter.unusedSectionVars false
set_option linter.unusedSimpArgs false
set_option linter.unusedVariables false
section
open Go Go.AM
namespace Go.Proofs
set_option maxRecDepth 100000
theorem HOk2.packed {cs:List CV} (h:HOk2 cs) (v:List Nat):(∀ c ∈ Z1p cs v,c.kids.length ≤ 4)∧∀ c ∈ Z1p cs v,c.taken = true→∀ k ∈ c.kids,0 ≤ k∧k < cs.length:=by
 have key:∀ c ∈ Z1p cs v,c = Z27 ∨ c ∈ cs:=by
  intro c hc
  unfold Z1p pick at hc
  rcases List.mem_append.1 hc with hc | hc
  ·obtain ⟨a,_,rfl⟩:=List.mem_map.1 hc
   cases ha:cs[a]? with
   | none => exact .inl rfl
   | some d => exact .inr (List.mem_of_getElem? ha)
  ·exact .inl (List.eq_of_mem_replicate hc)
 refine ⟨fun c hc => ?_,fun c hc ht k hk => ?_⟩
 ·rcases key c hc with rfl | hm
  ·simp [Z27]
  ·exact h.kids4 c hm
 ·rcases key c hc with rfl | hm
  ·simp [Z27] at hk
  ·obtain ⟨k0,_,_,_,k1⟩:=Z1z (h.kids c hm ht k hk)
   exact ⟨k0,by omega⟩
theorem Zvi {s0 s:St} {W:Pos→Prop} {pn B4 Bx:Pos} {cs:List CV} {n:Nat} {V:List AVal} {cls:List Int} {mk r:Lets} {cp:Cap} {Q:AVal→St→Prop} (hn:cs.length = n) (h:Ctx s0 W (mk ++ r) s) (hR:Z0v (cs.map CV.kids) V mk) (hO4:∀ c ∈ cs,c.kids.length ≤ 4) (hOk:∀ c ∈ cs,c.taken = true→∀ k ∈ c.kids,0 ≤ k∧k < n) (hcl:cls.length = n) (h4:n ≤ 400)
  (hpn:(pn,C (encs (rcs cs V))) ∈ r) (hB4:(B4,C [.slice Bx 0 n cp]) ∈ r) (hBx:(Bx,C (ints cls)) ∈ r)
  (q:∀ mk' s',Z0v ((Z42 cls cs).map CV.kids) V mk'→Ctx s0 W (mk' ++ r) s'→Q (.tup []) s') :
  Z0d Tryz.prog 57 [.agg [.fn 66 [] [.ptr B4 0]],.agg [.slice pn 0 n (.lim n)]] s Q:=by
 subst hn
 exact Zvh h hR hO4 hOk hcl h4 hpn hB4 hBx q
theorem Zur {s0 s:St} {W:Pos→Prop} {hb:Pos} {vs:AVal} {cs:List CV} {m r:Lets} {Q:AVal→St→Prop} (hH:Z2j hb vs cs m) (h:Ctx s0 W (m ++ r) s) (hO:HOk2 cs)
  (q:∀ Bo m' s',Z2j hb vs (Zb6 cs).2 m'→Ctx s0 W ((Bo,C (ints (Zb6 cs).1)) :: (m' ++ r)) s'→Q (.tup [.slice Bo 0 cs.length (.lim cs.length),.int .i64 0]) s'):Z0d Tryz.prog 20 [.ptr hb 0] s Q:=by
 obtain ⟨p,V,mr,hc,hR,hV,h1,h4,hP⟩:=Z96 hH h
 have hl:=Z29 hV
 have hno:cs.length ≠ 0:=by omega
 have hz1:cs.length ≤ Z0k:=by unfold Z0k; omega
 have hz2:cs.length * 8 ≤ Z0k:=by unfold Z0k; omega
 have hz3:cs.length * 56 ≤ Z0k:=by unfold Z0k; omega
 have hkvs:∀ (i:Nat) kv,V[i]? = some kv→kv.cells = [kv]∧∀ t,¬ kv = .tup t:=by
  intro i kv hi
  have hil:i < cs.length:=by have:=(List.getElem?_eq_some_iff.1 hi).1; omega
  obtain ⟨kv',e1,e2⟩:=hR.each (i:=i) (Zbh hil)
  rw [hi] at e1
  cases e1
  have hsl:Z1n kv = some (Z12 cs i).length:=by
   rcases e2 with ⟨e3,e4⟩ | ⟨q',c',_,e4,_⟩
   ·rw [e3]; exact e4
   ·rw [e4]; rfl
  cases kv <;> first | (cases hsl; done) | exact ⟨rfl,fun t e => by cases e⟩
 refine Z07 (Z0g (by decide)) fi20 rfl (by decide) rfl ?_
 refine Z00 ?_
 simp
 have c1:=hc.alloc (C [.ptr hb 0])
 generalize s.alloc (.cells [.ptr hb 0] false) = s1 at c1 ⊢
 generalize s.next = B1 at c1 ⊢
 refine AM.wp_seq ?_
 refine Z00 ?_
 simp [c1.c 0 rfl]
 refine Z03 ?_
 refine Z6y (c1.c 1 rfl) rfl hno ?_
 simp
 refine AM.Z04 ?_
 simp
 refine AM.wp_skip ?_
 simp
 refine Z00 ?_
 simp [c1.c 0 rfl,c1.c 1 rfl,hz1,hz2]
 have c2:=c1.alloc (C (List.replicate cs.length (.int .i64 0)))
 generalize s1.alloc (.cells (List.replicate cs.length (.int .i64 0)) false) = s2 at c2 ⊢
 generalize s1.next = Bo at c2 ⊢
 have c3:=(c2.alloc (C [.nilSlice])).put 0 rfl (C [.slice Bo 0 cs.length (.lim cs.length)])
 simp only [List.set_cons_zero] at c3
 generalize (s2.alloc (.cells [.nilSlice] false)).put s2.next (.cells [.slice Bo 0 cs.length (.lim cs.length)] false) = s3 at c3 ⊢
 generalize s2.next = B4 at c3 ⊢
 refine AM.wp_seq ?_
 refine Z00 ?_
 simp [c3.c 0 rfl]
 refine AM.wp_block ?_
 refine AM.wp_loop (fun k t s' => ∃ j:Nat,j ≤ cs.length∧k = cs.length - j∧PT.get (posOf 1) t = some (.ptr B1 0)∧PT.get (posOf 4) t = some (.ptr B4 0)∧PT.get (posOf 18) t = some (.int .i64 cs.length)∧PT.get (posOf 19) t = some (.int .i64 j) ∧
   Ctx s0 W ((B4,C [.slice Bo 0 cs.length (.lim cs.length)]) :: (Bo,C (List.replicate j (.int .i64 (-1)) ++ List.replicate (cs.length - j) (.int .i64 0))) :: (B1,C [.ptr hb 0]) :: (hb,C [.slice p 0 cs.length (.lim cs.length),vs]) :: (p,C (encs (rcs cs V))) :: (mr ++ r)) s') cs.length
  ⟨0,by simp,by simp,by simp,by simp,by simp,by simp,by simpa using c3⟩ ?_
 rintro k t s' ⟨j,hj,rfl,t1,t4,t18,t19,d⟩
 refine Z00 ?_
 simp [t18,t19]
 refine AM.wp_seq ?_
 refine AM.Z04 ?_
 by_cases hlt:j < cs.length
 ·have hwr:IntKind.wrap .i64 ((j:Int) + 1) = ((j + 1:Nat):Int):=by rw [IntWalk.i64_in _ (by omega)]; omega
  have hle:j + 1 ≤ j + (cs.length - j):=by omega
  simp [hlt]
  refine AM.wp_skip ?_
  simp
  refine AM.wp_seq ?_
  refine AM.wp_block ?_
  refine Z00 ?_
  simp [t19]
  refine AM.wp_region ?_
  simp [t4,d.c 0 rfl,d.o 1 rfl,hlt,hle,Zhy]
  rw [Zhz]
  have d1:=d.put 1 rfl (C (List.replicate (j + 1) (.int .i64 (-1)) ++ List.replicate (cs.length - (j + 1)) (.int .i64 0)))
  simp only [List.set_cons_succ,List.set_cons_zero] at d1
  refine AM.wp_region ?_
  simp [t19,hwr]
  exact ⟨cs.length - (j + 1),by omega,j + 1,by omega,by omega,by simp [t1],by simp [t4],by simp [t18],by simp,d1⟩
 ·simp [hlt]
  refine AM.wp_exit ?_
  simp
  have hje:j = cs.length:=by omega
  subst hje
  have hz:List.replicate cs.length (AVal.int .i64 (-1)) ++ List.replicate (cs.length - cs.length) (.int .i64 0) = ints (outL cs.length []):=by
   rw [Nat.sub_self,List.replicate_zero,List.append_nil]
   refine List.ext_getElem? fun x => ?_
   unfold ints
   by_cases hx:x < cs.length
   ·rw [List.getElem?_map,Z7g _ hx,List.getElem?_replicate,if_pos hx]
    rfl
   ·rw [List.getElem?_eq_none (by simp; omega),List.getElem?_eq_none (by simp [Z6i]; omega)]
  rw [hz] at d
  refine Z00 ?_
  simp [t1,d.c 2 rfl,d.c 3 rfl,hz1,hz3]
  have hV0:(List.replicate cs.length [AVal.bool false,.str [],.nilSlice,.int .i64 0]).flatten = encs (rcs (Z1p cs []) (Z2q cs.length V [])):=by
   simp [encs,rcs,RC.enc,Z27,Z1p,Z2q,pick,List.zipWith_replicate,List.flatMap]
  rw [hV0]
  have d1:=d.alloc (C (encs (rcs (Z1p cs []) (Z2q cs.length V []))))
  generalize s'.alloc (.cells (encs (rcs (Z1p cs []) (Z2q cs.length V []))) false) = s4 at d1 ⊢
  generalize s'.next = pn at d1 ⊢
  have d2:=(d1.alloc (C [.nilSlice])).put 0 rfl (C [.slice pn 0 cs.length (.lim cs.length)])
  simp only [List.set_cons_zero] at d2
  generalize (s4.alloc (.cells [.nilSlice] false)).put s4.next (.cells [.slice pn 0 cs.length (.lim cs.length)] false) = s5 at d2 ⊢
  generalize s4.next = B6 at d2 ⊢
  refine Z00 ?_
  simp
  have d3:=(d2.alloc (C [.int .i64 0])).put 0 rfl (C [.int .i64 0])
  simp only [List.set_cons_zero] at d3
  generalize (s5.alloc (.cells [.int .i64 0] false)).put s5.next (.cells [.int .i64 0] false) = s6 at d3 ⊢
  generalize s5.next = B7 at d3 ⊢
  refine Z00 ?_
  simp [t1,t4,d3.c 5 rfl,d3.c 6 rfl]
  refine Z03 ?_
  refine Zju (p:=p) (V:=V) (cs:=cs) d3 hV h4 (fun x s' hx => ?_) fun lv mg x s7 hg d4 => ?_
  ·have hx':(p,C (encs (rcs cs V))) ∈ x ++ ((B7,C [.int .i64 0]) :: (B6,C [.slice pn 0 cs.length (.lim cs.length)]) :: (pn,C (encs (rcs (Z1p cs []) (Z2q cs.length V [])))) :: (B4,C [.slice Bo 0 cs.length (.lim cs.length)]) :: (Bo,C (ints (outL cs.length []))) :: (B1,C [.ptr hb 0]) :: (hb,C [.slice p 0 cs.length (.lim cs.length),vs]) :: (p,C (encs (rcs cs V))) :: (mr ++ r)):=by simp
   exact ⟨hx.ob hx',Z0b (Z14 (hx.own _ hx'))⟩
  have d4:=(d4.sub (List.sublist_append_right x _))
  have d5:Ctx s0 W ([(B7,C [.int .i64 ([]:List Nat).length]),(B4,C [.slice Bo 0 cs.length (.lim cs.length)]),(Bo,C (ints (outL cs.length []))),(B6,C [.slice pn 0 cs.length (.lim cs.length)]),(pn,C (encs (rcs (Z1p cs []) (Z2q cs.length V []))))] ++
    ((B1,C [.ptr hb 0]) :: (hb,C [.slice p 0 cs.length (.lim cs.length),vs]) :: (p,C (encs (rcs cs V))) :: (mg ++ (mr ++ r)))) s7:=d4.perm (Z0m fun x => by
   simp only [Z0h,Z0e,Z0w,List.length_nil]
   have:(((0:Nat):Int)) = 0:=rfl
   rw [this]
   omega)
  have hlv:∀ t,¬ lv = .tup t:=hg.ntup
  simp [t1,hlv,d5.c 5 rfl,d5.c 6 rfl]
  refine ⟨by simp [Z2p],Zks _ _ _ _,?_⟩
  refine Z03 ?_
  have hrn:nats ((Z0p cs cs.length).map Int.toNat) = Z0p cs cs.length:=Zj5 fun k hk => (Z4o hk).1
  have hrl:=Zac cs cs.length
  have hroots:∀ a ∈ (Z0p cs cs.length).map Int.toNat,Z08 cs (a:Int) = true:=by
   intro a ha
   obtain ⟨k,hk,rfl⟩:=List.mem_map.1 ha
   obtain ⟨k0,_,kt⟩:=Z4o hk
   rw [Int.toNat_of_nonneg k0]
   exact kt
  refine Zez (V:=V) (J:=fun v m => m = [(B7,C [.int .i64 (v.length:Nat)]),(B4,C [.slice Bo 0 cs.length (.lim cs.length)]),(Bo,C (ints (outL cs.length v))),(B6,C [.slice pn 0 cs.length (.lim cs.length)]),(pn,C (encs (rcs (Z1p cs v) (Z2q cs.length V v))))])
   (roots:=(Z0p cs cs.length).map Int.toNat) (rv:=lv) (f:=65) (fx:=[]) (fy:=[.ptr B7 0,.ptr B4 0,.ptr B1 0,.ptr B6 0])
   ⟨hV,h4,?_,fun a ha => Z1g (hroots a ha),by simp; omega,Znu hO,?_⟩ d5 rfl hlv ?_
  ·rintro x m' s' hx ⟨v,rfl⟩
   obtain ⟨r1,r2,r3⟩:=Z7x (p:=p) (cs:=cs) (V:=V) hx (by simp) hR (fun y hy => by simp [hy])
   refine ⟨r1,r2,?_,r3⟩
   rw [hrn]
   exact (hg.row.kid fun y hy => hx.own y (by simp [hy])).ints hx.wf
  ·rintro a v x m' s' R rfl hav han hvn hvlt hx hq
   refine Z03 ?_
   exact Zwo (pre:=x) (r:=mg ++ (mr ++ r)) hV h4 (by simpa using hx) han hav hvn hvlt hkvs fun s'' hx' => hq _ _ _ rfl (by simpa using hx')
  ·rintro x m' s8 rfl hx
   have d6:=hx.sub (List.sublist_append_right x _)
   simp only [List.cons_append,List.nil_append] at d6
   obtain ⟨f1,f2,f3,f4,f5⟩:=Zbo (n:=cs.length) hO.Zgf ((Z0p cs cs.length).map Int.toNat) (fun a ha => Z1g (hroots a ha))
   have hrd:bfsF (kidN cs) cs.length ((Z0p cs cs.length).map Int.toNat) = Z0o cs:=rfl
   rw [hrd] at d6 f1 f2
   simp only [Zb6] at q
   generalize Z0o cs = v at d6 f1 f2 q
   have hvl:=Z22 f1 f2
   obtain ⟨m1,dd,g1,g2⟩:=hR.pick f1 (fun a ha => by simpa using f2 a ha)
   have g3:=g1.nils (cs.length - v.length)
   rw [← Zs2] at g3
   have g3:Z0v ((Z1p cs v).map CV.kids) (Z2q cs.length V v) m1:=g3
   have hpl:=Zcl (cs:=cs) hvl
   obtain ⟨p4,pin⟩:=hO.packed v
   have d7:=d6.perm (m':=m1 ++ ((B4,C [.slice Bo 0 cs.length (.lim cs.length)]) :: (Bo,C (ints (outL cs.length v))) :: (B6,C [.slice pn 0 cs.length (.lim cs.length)]) :: (pn,C (encs (rcs (Z1p cs v) (Z2q cs.length V v)))) :: (B1,C [.ptr hb 0]) :: (hb,C [.slice p 0 cs.length (.lim cs.length),vs]) :: (B7,C [.int .i64 (v.length:Nat)]) :: (p,C (encs (rcs cs V))) :: (mg ++ (dd ++ r)))) (Z0m fun x => by
    have i1:=Z4b g2 x
    simp only [Z0h,Z0e,Z0w] at i1 ⊢
    omega)
   simp
   have b6:s8.cells B6 = some [.slice pn 0 cs.length (.lim cs.length)]:=Z0b (Z14 (d7.own (B6,C [.slice pn 0 cs.length (.lim cs.length)]) (by simp)))
   refine Z00 ?_
   simp [t4,b6]
   refine Z03 ?_
   refine Zvi (Bx:=Bo) (cls:=outL cs.length v) (cp:=.lim cs.length) hpl d7 g3 p4 pin (Z6i _ _) h4 (by simp) (by simp) (by simp) fun mk' s9 e1 e2 => ?_
   have e3:=e2.perm (m':=(B4,C [.slice Bo 0 cs.length (.lim cs.length)]) :: (Bo,C (ints (outL cs.length v))) :: (B6,C [.slice pn 0 cs.length (.lim cs.length)]) :: (pn,C (encs (rcs (Z1p cs v) (Z2q cs.length V v)))) :: (B1,C [.ptr hb 0]) :: (hb,C [.slice p 0 cs.length (.lim cs.length),vs]) :: (mk' ++ ((B7,C [.int .i64 (v.length:Nat)]) :: (p,C (encs (rcs cs V))) :: (mg ++ (dd ++ r))))) (Z0m fun x => by
    simp only [Z0h,Z0e,Z0w]
    omega)
   simp
   refine Z00 ?_
   simp [t1,e3.c 4 rfl,e3.c 2 rfl,e3.o 5 rfl]
   have e4:=e3.put 5 rfl (C [.slice pn 0 cs.length (.lim cs.length),vs])
   simp only [List.set_cons_succ,List.set_cons_zero] at e4
   generalize s9.put hb (.cells [.slice pn 0 cs.length (.lim cs.length),vs] false) = s10 at e4 ⊢
   refine Z00 ?_
   simp [t4,e4.c 0 rfl]
   refine AM.wp_ret ?_
   simp
   have hml:(Z42 (outL cs.length v) (Z1p cs v)).length = cs.length:=by rw [Z8s,hpl]
   have hrm:rcs (Z42 (outL cs.length v) (Z1p cs v)) (Z2q cs.length V v) = rcs (Z1p cs v) (Z2q cs.length V v):=by
    unfold rcs Z42
    rw [List.zipWith_map_left]
    congr 1
    funext d kv
    split <;> rfl
   refine q Bo _ s10 (Z2u (p:=pn) (V:=Z2q cs.length V v) (mr:=mk') e1 (by omega) (by omega)) ?_
   rw [hml,hrm]
   have e5:=e4.sub (m':=(Bo,C (ints (outL cs.length v))) :: (pn,C (encs (rcs (Z1p cs v) (Z2q cs.length V v)))) :: (hb,C [.slice pn 0 cs.length (.lim cs.length),vs]) :: (mk' ++ r)) (.cons _ (.cons_cons _ (.cons _ (.cons_cons _ (.cons _ (.cons_cons _ ((List.Sublist.refl mk').append (.cons _ (.cons _ ((List.sublist_append_right dd r).trans (List.sublist_append_right mg _)))))))))))
   refine e5.perm (Z0m fun x => ?_)
   simp only [Z0h,Z0e,Z0w]
   omega
end Go.Proofs
end
section
open Go Go.AM
namespace Go.Proofs
def c4_1:MCode:=.region [Yo (.bool false)] [Cs 2]
def c4_3:MCode:=.region [Cm 0,Ym 12 [(Yq 0)],Ym 11 [(Yq 0),(Ck 20)],C0,Yg 0 0,Yg 1 1,Yn 1,Yn 1] [Cs 4,Cs 3,none,none,none,none,none,none]
def c4_6:MCode:=.region [Cm 4,Cr (.un .not (Yq 0))] [Cs 29,none]
def c4_9:MCode:=.region [Yo (.bool false)] [Cs 2]
def c4_8:MCode:=.seq c4_9 .ret
def c4_7:MCode:=.cond (Cp 29) c4_8 .skip
def c4_5:MCode:=.seq c4_6 c4_7
def c4_11:MCode:=.region [Cm 3,Ym 24 [(Yq 0)],C0,Yg 0 0,Yg 1 1,Yg 2 2,Yn 2,Yn 2,Yn 2] [Cs 4,Cs 6,Cs 5,none,none,none,none,none,none]
def c4_13:MCode:=.region [Cm 3,Ym 25 [(Yq 0)],Cm 3,Ym 26 [(Yq 0)],Yh .add (Yq 2) (Yq 0),C0] [Cs 7,none,none,none,none,none]
def c4_15:MCode:=.region [Cm 3,Ym 20 [(Yq 0)],C0,Yg 0 0,Yg 1 1,Yn 1,Yn 1] [Cs 9,Cs 8,none,none,none,none,none]
def c4_18:MCode:=.region [Cm 4,Cr (.un .not (Yq 0)),C0,Yi 0 (.move (Cp 9)),Yi 1 (.bin .neq .other none (Yq 0) (Ck 0)),Cr (.pick (Yq 2) (.cst (.bool true)) (Yq 0)),C0,Yi 0 (.move (Cp 8)),Yi 1 (.len (some (.slc,0)) (Yq 0)),Yi 2 (.move (Cp 7)),Yi 3 (.bin .neq .other none (Yq 1) (Yq 0)),Cr (.pick (Yq 4) (.cst (.bool true)) (Yq 0)),C0,Yi 0 (.move (Cp 3)),Yi 1 (.call (.cst (.fn 25 [] [])) [(Yq 0)]),Yi 2 (.move (Cp 3)),Yi 3 (.call (.cst (.fn 26 [] [])) [(Yq 0)]),Yi 4 (.bin .add .other none (Yq 2) (Yq 0)),Yi 5 (.move (Cp 7)),Yi 6 (.bin .neq .other none (Yq 1) (Yq 0)),Cr (.pick (Yq 7) (.cst (.bool true)) (Yq 0))] [Cs 66,none,none,none,none,none,none,none,none,none,none,none,none,none,none,none,none,none,none,none,none]
def c4_21:MCode:=.region [Yo (.bool false)] [Cs 2]
def c4_20:MCode:=.seq c4_21 .ret
def c4_19:MCode:=.cond (Cp 66) c4_20 .skip
def c4_17:MCode:=.seq c4_18 c4_19
def c4_24:MCode:=.region [Cm 5,Yl (Yq 0),Yp 0] [Cs 69,Cs 68,Cs 67]
def c4_28:MCode:=.region [Yh .lss (Cp 69) (Cp 68)] [Cs 70]
def c4_30:MCode:=.cond (Cp 70) .skip (.exit 0)
def c4_34:MCode:=.region [Cm 69,Ye 1 8 (Cp 67) (Cp 69),Ya 0,Yn 2,Yn 1] [Cs 11,Cs 10,none,none,none]
def c4_37:MCode:=.region [Cm 11,Yh .lss (Yq 0) (Ck 0),C0,Yi 0 (.move (Cp 11)),Yi 1 (.move (Cp 8)),Yi 2 (.len (some (.slc,0)) (Yq 0)),Yi 3 (.bin .geq .other none (Yq 2) (Yq 0)),Cr (.pick (Yq 4) (.cst (.bool true)) (Yq 0))] [Cs 81,none,none,none,none,none,none,none]
def c4_40:MCode:=.region [Yo (.bool false)] [Cs 2]
def c4_39:MCode:=.seq c4_40 .ret
def c4_38:MCode:=.cond (Cp 81) c4_39 .skip
def c4_36:MCode:=.seq c4_37 c4_38
def c4_42:MCode:=.region [Cm 3,Cm 8,Cm 11,Ye 1 8 (Yq 1) (Yq 0),Ya 0,Ym 27 [(Yq 4),(Yq 0)],C0,Yg 0 0,Yg 1 1,Cr (.alloc (some [.nilSlice,(.int .i64 0)])),Yk 2 (Yq 0) (Yq 2),Yn 2] [Cs 13,none,Cs 12,none,none,none,none,none,none,none,none,none]
def c4_44:MCode:=.region [Cm 13,Yh .neq (Yq 0) (Ck 0),C0,Yi 0 (.load (some (some 2)) (Cp 12)),Yi 1 (.move (Cp 6)),Yi 2 (.move (Cp 10)),Yi 3 (.indexAddr .slc (some (2,32)) none (Yq 1) (Yq 0)),Yi 4 (.load (some (some 2)) (Yq 0)),Yi 5 (.call (.cst (.fn 28 [] [])) [(Yq 4),(Yq 0)]),Yi 6 (.un .not (Yq 0)),Cr (.pick (Yq 7) (.cst (.bool true)) (Yq 0)),C0,Yi 0 (.move (Cp 10)),Yi 1 (.bin .gtr .other none (Yq 0) (Ck 0)),Yi 2 (.move (Yq 0)),Yj 0 (.move (Cp 8)),Yj 1 (.move (Cp 11)),Yj 2 (.indexAddr .slc (some (1,8)) none (Yq 1) (Yq 0)),Yj 3 (.load (some none) (Yq 0)),Yj 4 (.move (Cp 8)),Yj 5 (.move (Cp 5)),Yj 6 (.move (Cp 10)),Yj 7 (.bin .sub .other none (Yq 0) (Ck 1)),Yj 8 (.indexAddr .slc (some (1,8)) none (Yq 2) (Yq 0)),Yj 9 (.load (some none) (Yq 0)),Yj 10 (.indexAddr .slc (some (1,8)) none (Yq 5) (Yq 0)),Yj 11 (.load (some none) (Yq 0)),Yj 12 (.bin .eql .other none (Yq 8) (Yq 0)),Yi 16 (.pick (Yq 13) (Yq 0) (.cst (.bool false))),Cr (.pick (Yq 17) (.cst (.bool true)) (Yq 0))] [Cs 120,Cs 119,Cs 118,Cs 117,Cs 116,Cs 115,Cs 114,Cs 113,Cs 112,Cs 111,Cs 110,Cs 109,Cs 108,Cs 107,Cs 106,Cs 105,Cs 104,Cs 103,Cs 102,Cs 101,Cs 100,Cs 99,Cs 98,Cs 97,Cs 96,Cs 95,Cs 94,Cs 93,Cs 92,Cs 91]
def c4_47:MCode:=.region [Yo (.bool false)] [Cs 2]
def c4_46:MCode:=.seq c4_47 .ret
def c4_45:MCode:=.cond (Cp 120) c4_46 .skip
def c4_43:MCode:=.seq c4_44 c4_45
def c4_41:MCode:=.seq c4_42 c4_43
def c4_35:MCode:=.seq c4_36 c4_41
def c4_33:MCode:=.seq c4_34 c4_35
def c4_32:MCode:=.block 1 c4_33
def c4_48:MCode:=.region [Yh .add (Cp 69) (Ck 1),C0] [Cs 69,none]
def c4_31:MCode:=.seq c4_32 c4_48
def c4_29:MCode:=.seq c4_30 c4_31
def c4_27:MCode:=.seq c4_28 c4_29
def c4_26:MCode:=.loop c4_27
def c4_25:MCode:=.block 0 c4_26
def c4_23:MCode:=.seq c4_24 c4_25
def c4_50:MCode:=.region [Yp 0] [Cs 14]
def c4_53:MCode:=.region [Cm 8,Yl (Yq 0),Yp 0] [Cs 124,Cs 123,Cs 122]
def c4_57:MCode:=.region [Yh .lss (Cp 124) (Cp 123)] [Cs 125]
def c4_59:MCode:=.cond (Cp 125) .skip (.exit 2)
def c4_63:MCode:=.region [Ye 1 8 (Cp 122) (Cp 124),Ya 0,C0] [Cs 16,none,none]
def c4_66:MCode:=.region [Cm 16,Cr (.bin .lss .other none (Yq 0) (.cst (.int .i64 (-1)))),C0,Yi 0 (.move (Cp 16)),Yi 1 (.move (Cp 3)),Yi 2 (.call (.cst (.fn 25 [] [])) [(Yq 0)]),Yi 3 (.bin .geq .other none (Yq 2) (Yq 0)),Cr (.pick (Yq 4) (.cst (.bool true)) (Yq 0))] [Cs 135,none,none,none,none,none,none,none]
def c4_69:MCode:=.region [Yo (.bool false)] [Cs 2]
def c4_68:MCode:=.seq c4_69 .ret
def c4_67:MCode:=.cond (Cp 135) c4_68 .skip
def c4_65:MCode:=.seq c4_66 c4_67
def c4_71:MCode:=.region [Cm 16,Yh .geq (Yq 0) (Ck 0)] [Cs 137,none]
def c4_73:MCode:=.region [Cm 14,Yh .add (Yq 0) (Ck 1),C0] [Cs 14,none,none]
def c4_72:MCode:=.cond (Cp 137) c4_73 .skip
def c4_70:MCode:=.seq c4_71 c4_72
def c4_64:MCode:=.seq c4_65 c4_70
def c4_62:MCode:=.seq c4_63 c4_64
def c4_61:MCode:=.block 3 c4_62
def c4_74:MCode:=.region [Yh .add (Cp 124) (Ck 1),C0] [Cs 124,none]
def c4_60:MCode:=.seq c4_61 c4_74
def c4_58:MCode:=.seq c4_59 c4_60
def c4_56:MCode:=.seq c4_57 c4_58
def c4_55:MCode:=.loop c4_56
def c4_54:MCode:=.block 2 c4_55
def c4_52:MCode:=.seq c4_53 c4_54
def c4_76:MCode:=.region [Cm 3,Ym 20 [(Yq 0)],C0,Yg 0 0,Yg 1 1,Yn 1,Yn 1] [Cs 9,Cs 17,none,none,none,none,none]
def c4_78:MCode:=.region [Cm 3,Ym 19 [(Yq 0)],C0,Yg 0 0,Yg 1 1,Yn 1,Yn 1] [Cs 19,Cs 18,none,none,none,none,none]
def c4_81:MCode:=.region [Cm 9,Yh .neq (Yq 0) (Ck 0),C0,Yi 0 (.move (Cp 19)),Yi 1 (.bin .neq .other none (Yq 0) (Ck 0)),Cr (.pick (Yq 2) (.cst (.bool true)) (Yq 0)),C0,Yi 0 (.move (Cp 18)),Yi 1 (.bin .neq .other none (Yq 0) (Ck 0)),Cr (.pick (Yq 2) (.cst (.bool true)) (Yq 0)),C0,Yi 0 (.move (Cp 14)),Yi 1 (.move (Cp 3)),Yi 2 (.call (.cst (.fn 25 [] [])) [(Yq 0)]),Yi 3 (.bin .neq .other none (Yq 2) (Yq 0)),Cr (.pick (Yq 4) (.cst (.bool true)) (Yq 0)),C0,Yi 0 (.move (Cp 5)),Yi 1 (.len (some (.slc,0)) (Yq 0)),Yi 2 (.bin .gtr .other none (Yq 0) (Ck 0)),Yi 3 (.move (Yq 0)),Yj 0 (.move (Cp 8)),Yj 1 (.move (Cp 5)),Yj 2 (.indexAddr .slc (some (1,8)) none (Yq 0) (Ck 0)),Yj 3 (.load (some none) (Yq 0)),Yj 4 (.indexAddr .slc (some (1,8)) none (Yq 3) (Yq 0)),Yj 5 (.load (some none) (Yq 0)),Yj 6 (.bin .neq .other none (Yq 0) (Ck 0)),Yi 11 (.pick (Yq 7) (Yq 0) (.cst (.bool false))),Cr (.pick (Yq 12) (.cst (.bool true)) (Yq 0))] [Cs 180,none,none,none,none,none,none,none,none,none,none,none,none,none,none,none,none,none,none,none,none,none,none,none,none,none,none,none,none,none]
def c4_84:MCode:=.region [Yo (.bool false)] [Cs 2]
def c4_83:MCode:=.seq c4_84 .ret
def c4_82:MCode:=.cond (Cp 180) c4_83 .skip
def c4_80:MCode:=.seq c4_81 c4_82
def c4_87:MCode:=.region [Cm 17,Yl (Yq 0),Yp 0] [Cs 183,Cs 182,Cs 181]
def c4_91:MCode:=.region [Yh .lss (Cp 183) (Cp 182)] [Cs 184]
def c4_93:MCode:=.cond (Cp 184) .skip (.exit 4)
def c4_97:MCode:=.region [Cm 183,Ye 1 8 (Cp 181) (Cp 183),Ya 0,Yn 2,Yn 1] [Cs 21,Cs 20,none,none,none]
def c4_99:MCode:=.region [Cm 21,Cm 20,Yh .neq (Yq 1) (Yq 0),C0,Yj 0 (.move (Cp 21)),Yj 1 (.bin .neq .other none (Yq 0) (.cst (.int .i64 (-1)))),Cr (.pick (Yq 2) (Yq 0) (.cst (.bool false))),C0,Yi 0 (.move (Cp 21)),Yi 1 (.bin .eql .other none (Yq 0) (.cst (.int .i64 (-1)))),Yi 2 (.move (Cp 20)),Yi 3 (.move (Cp 3)),Yi 4 (.call (.cst (.fn 25 [] [])) [(Yq 0)]),Yi 5 (.bin .geq .other none (Yq 2) (Yq 0)),Yi 6 (.bin .neq .bool none (Yq 4) (Yq 0)),Cr (.pick (Yq 7) (.cst (.bool true)) (Yq 0))] [Cs 203,none,none,none,none,none,none,none,none,none,none,none,none,none,none,none]
def c4_102:MCode:=.region [Yo (.bool false)] [Cs 2]
def c4_101:MCode:=.seq c4_102 .ret
def c4_100:MCode:=.cond (Cp 203) c4_101 .skip
def c4_98:MCode:=.seq c4_99 c4_100
def c4_96:MCode:=.seq c4_97 c4_98
def c4_95:MCode:=.block 5 c4_96
def c4_103:MCode:=.region [Yh .add (Cp 183) (Ck 1),C0] [Cs 183,none]
def c4_94:MCode:=.seq c4_95 c4_103
def c4_92:MCode:=.seq c4_93 c4_94
def c4_90:MCode:=.seq c4_91 c4_92
def c4_89:MCode:=.loop c4_90
def c4_88:MCode:=.block 4 c4_89
def c4_86:MCode:=.seq c4_87 c4_88
def c4_105:MCode:=.region [Ym 10 [],C0] [Cs 2,none]
def c4_104:MCode:=.seq c4_105 .ret
def Zqq:MCode:=.seq c4_86 c4_104
def c4_79:MCode:=.seq c4_80 Zqq
def c4_77:MCode:=.seq c4_78 c4_79
def c4_75:MCode:=.seq c4_76 c4_77
def c4_51:MCode:=.seq c4_52 c4_75
def c4_49:MCode:=.seq c4_50 c4_51
def c4_22:MCode:=.seq c4_23 c4_49
def c4_16:MCode:=.seq c4_17 c4_22
def c4_14:MCode:=.seq c4_15 c4_16
def c4_12:MCode:=.seq c4_13 c4_14
def c4_10:MCode:=.seq c4_11 c4_12
def c4_4:MCode:=.seq c4_5 c4_10
def c4_2:MCode:=.seq c4_3 c4_4
def c4_0:MCode:=.seq c4_1 c4_2
theorem fi4:funInfo Tryz.prog 4 = some { code:=c4_0,ntmps:=206,nargs:=1,ps:=[203,20,21,181,184,182,183,17,180,18,19,14,137,135,16,122,125,123,124,120,13,91,92,12,6,96,95,97,98,94,99,100,93,101,103,104,107,106,108,10,112,113,111,114,115,110,116,117,109,118,105,119,102,81,11,67,70,68,69,5,66,7,8,9,3,29,4,0,2],res:=[.tmp 2] }:=by kernel_rfl
end Go.Proofs
end
section
open Go Go.AM
namespace Go.Proofs
set_option maxRecDepth 100000
def Zsb:List MItem:=[.run none (.pick (.loc 17) (.cst (.bool true)) (.loc 0))]
def Zsa:List MItem:=(.run (some (some ((.loc 16),false))) (.pick (.loc 13) (.loc 0) (.cst (.bool false)))) :: Zsb
def Zs9:List MItem:=(.run (some (some ((.loc 12),true))) (.bin .eql .other none (.loc 8) (.loc 0))) :: Zsa
def Zs8:List MItem:=(.run (some (some ((.loc 6),true))) (.move (.per (posOf 10)))) :: (.run (some (some ((.loc 7),true))) (.bin .sub .other none (.loc 0) (.cst (.int .i64 1)))) :: (.run (some (some ((.loc 8),true))) (.indexAddr .slc (some (1,8)) none (.loc 2) (.loc 0))) :: (.run (some (some ((.loc 9),true))) (.load (some none) (.loc 0))) :: (.run (some (some ((.loc 10),true))) (.indexAddr .slc (some (1,8)) none (.loc 5) (.loc 0))) :: (.run (some (some ((.loc 11),true))) (.load (some none) (.loc 0))) :: Zs9
def Zs7:List MItem:=(.run (some (some ((.loc 0),true))) (.move (.per (posOf 8)))) :: (.run (some (some ((.loc 1),true))) (.move (.per (posOf 11)))) :: (.run (some (some ((.loc 2),true))) (.indexAddr .slc (some (1,8)) none (.loc 1) (.loc 0))) :: (.run (some (some ((.loc 3),true))) (.load (some none) (.loc 0))) :: (.run (some (some ((.loc 4),true))) (.move (.per (posOf 8)))) :: (.run (some (some ((.loc 5),true))) (.move (.per (posOf 5)))) :: Zs8
def Zs6:List MItem:=(.run (some (some ((.loc 1),false))) (.bin .gtr .other none (.loc 0) (.cst (.int .i64 0)))) :: (.run (some (some ((.loc 2),false))) (.move (.loc 0))) :: Zs7
def Zs5:List MItem:=(.run none (.move (.loc 0))) :: (.run (some (some ((.loc 0),false))) (.move (.per (posOf 10)))) :: Zs6
def Zm1:List MItem:=(.run none (.pick (.loc 7) (.cst (.bool true)) (.loc 0))) :: Zs5
section
variable {s0 s:St} {W:Pos→Prop} {hb Bo:Pos} {vs:AVal} {r:Lets} {fr:FI} {t0:PT AVal} {Q:Ex→PT AVal→St→Prop}
theorem pk_look {cs c:List CV} {v:List Nat} {m mg mt:Lets} {ls:List Int} {NS:List (List ND)} {lv tv:AVal} {n:Nat} (hG:HG cs) (hl:cs.length ≤ 60) (hn:cs.length = n) (hP:PackIs cs c v) (hH:Z2j hb vs c m) (hg:Z1s lv ls mg) (hT:Zql tv NS mt)
  (hlen:ls.length = NS.length) (hl4:ls.length ≤ 400) (hin:∀ x ∈ ls,0 ≤ x∧x.toNat ∈ v) (hNS:∀ (i:Nat) x,ls[i]? = some x→NS[i]? = some (Z1w cs x.toNat)) (hdis:∀ (i:Nat) x y,ls[i]? = some x→ls[i + 1]? = some y→x ≠ y)
  (hc:Ctx s0 W ((Bo,C (ints (outL n v))) :: (mg ++ (mt ++ (m ++ r)))) s)
  (u3:PT.get (posOf 3) t0 = some (.ptr hb 0)) (u5:PT.get (posOf 5) t0 = some lv) (u6:PT.get (posOf 6) t0 = some tv) (u8:PT.get (posOf 8) t0 = some (.slice Bo 0 n (.lim n)))
  (q:∀ t s',PT.get (posOf 3) t = some (.ptr hb 0)→PT.get (posOf 5) t = some lv→PT.get (posOf 8) t = some (.slice Bo 0 n (.lim n))→Ctx s0 W ((Bo,C (ints (outL n v))) :: (mg ++ (mt ++ (m ++ r)))) s'→Q .normal t s'):wp Tryz.prog c4_23 fr t0 s Q:=by
 have hcl:c.length ≤ 60:=by rw [hP.len]; exact hl
 refine Z00 ?_
 simp [u5,hg.len,hg.ntup]
 refine AM.wp_block ?_
 refine AM.wp_loop (fun x t s' => ∃ i:Nat,i ≤ ls.length∧x = ls.length - i∧PT.get (posOf 3) t = some (.ptr hb 0)∧PT.get (posOf 5) t = some lv∧PT.get (posOf 6) t = some tv∧PT.get (posOf 8) t = some (.slice Bo 0 n (.lim n))∧PT.get (posOf 67) t = some lv∧PT.get (posOf 68) t = some (.int .i64 ls.length)∧PT.get (posOf 69) t = some (.int .i64 i) ∧
   Ctx s0 W ((Bo,C (ints (outL n v))) :: (mg ++ (mt ++ (m ++ r)))) s') ls.length ⟨0,by simp,by simp,by simp [u3],by simp [u5],by simp [u6],by simp [u8],by simp,by simp,by simp,hc⟩ ?_
 rintro x t s' ⟨i,hi,rfl,t3,t5,t6,t8,t67,t68,t69,d⟩
 refine Z00 ?_
 simp [t68,t69]
 refine AM.wp_seq ?_
 refine AM.Z04 ?_
 by_cases hlt:i < ls.length
 ·have hwr:IntKind.wrap .i64 ((i:Int) + 1) = ((i + 1:Nat):Int):=by rw [IntWalk.i64_in _ (by omega)]; omega
  obtain ⟨z,hz⟩:∃ z,ls[i]? = some z:=⟨_,List.getElem?_eq_getElem hlt⟩
  obtain ⟨z0,zv⟩:=hin z (List.mem_of_getElem? hz)
  have hns:=hNS i z hz
  have hzn:z.toNat < n:=by rw [← hn]; exact Z1g (hP.mem _ zv)
  have hzn':z < n:=by omega
  have hz1:¬ z < 0:=by omega
  have hidx:=List.idxOf_lt_length_of_mem zv
  obtain ⟨j,hj⟩:∃ j,j = v.idxOf z.toNat:=⟨_,rfl⟩
  have hvj:v[j]? = some z.toNat:=by rw [hj,List.getElem?_eq_getElem hidx,List.getElem_idxOf hidx]
  have hgo:(ints (outL n v))[z.toNat]? = some (.int .i64 j):=by rw [List.getElem?_map,Z7g v hzn,if_pos zv,hj]; rfl
  have hjt:=(hP.take j).2 (by rw [hj]; exact hidx)
  have hget:getF c (j:Int) = (0,Z1w cs z.toNat):=by
   rw [Zpt hP.good hcl hjt,Zu9 hP.good.ok hG.ok hjt (hP.mem _ zv) (hP.lab hG hvj)]
  have hll:(Z1w cs z.toNat).length ≤ 60:=(Z94 hG hl (hP.mem _ zv)).2.2.1
  have hl44:∀ x ∈ Z1w cs z.toNat,x.2.length ≤ 1000:=fun x hx => by have:=((Z94 hG hl (hP.mem _ zv)).1 x hx).1; omega
  obtain ⟨NV,mq,ml,hgc,hTL,hp⟩:=id hT
  obtain ⟨nvk,mk1,mk2,hnv,hNk,hpk⟩:=hTL.at hns
  obtain ⟨te1,te2⟩:=Zo7 hnv
  obtain ⟨tsg,tsl⟩:=seg2 te1 te2
  rcases hg with ⟨h0,_⟩ | ⟨qb,hne,rfl,rfl⟩
  ·rw [h0] at hz
   simp at hz
  obtain ⟨_,hgq⟩:=hgc
  rcases hgq with ⟨hk0,_⟩ | ⟨tq,hk0,rfl,rfl⟩
  ·omega
  have hltN:i < NS.length:=by omega
  have htl:(tenc NV).length = 2 * NS.length:=by
   have e1:=hTL.len
   have:∀ l:List AVal,(tenc l).length = 2 * l.length:=by
    intro l
    induction l with
    | nil => rfl
    | cons a l ih =>
     have:tenc (a :: l) = a :: .int .i64 0 :: tenc l:=rfl
     rw [this]
     simp [ih]
     omega
   rw [this,e1]
  have hmin2:min 2 ((tenc NV).length - i * 2) = 2:=by omega
  have hgz:(ints ls)[i]? = some (.int .i64 z):=by rw [List.getElem?_map,hz]; rfl
  have rX:∀ {s'':St},Ctx s0 W ((Bo,C (ints (outL n v))) :: ([(qb,C (ints ls))] ++ (mt ++ (m ++ r)))) s''→s''.cells qb = some (ints ls):=fun d => d.c 1 rfl
  have rO:∀ {s'':St},Ctx s0 W ((Bo,C (ints (outL n v))) :: ([(qb,C (ints ls))] ++ (mt ++ (m ++ r)))) s''→s''.cells Bo = some (ints (outL n v)):=fun d => d.c 0 rfl
  have hprev:i = 0 ∨ ∃ i' y b:Nat,i = i' + 1∧(ints ls)[i']? = some (.int .i64 y)∧y < n∧(ints (outL n v))[y]? = some (.int .i64 b)∧b ≠ j:=by
   cases i with
   | zero => exact .inl rfl
   | succ i' =>
    right
    obtain ⟨y,hy⟩:∃ y,ls[i']? = some y:=⟨_,List.getElem?_eq_getElem (by omega)⟩
    obtain ⟨y0,yv⟩:=hin y (List.mem_of_getElem? hy)
    have hyz:=hdis i' y z hy hz
    have hyn:y.toNat < n:=by rw [← hn]; exact Z1g (hP.mem _ yv)
    refine ⟨i',y.toNat,v.idxOf y.toNat,rfl,by rw [List.getElem?_map,hy]; simp; omega,hyn,by rw [List.getElem?_map,Z7g v hyn,if_pos yv]; rfl,?_⟩
    rw [hj]
    intro e
    have h1:=List.getElem_idxOf (List.idxOf_lt_length_of_mem yv)
    have h2:=List.getElem_idxOf hidx
    have h3:y.toNat = z.toNat:=by
     rw [← h1,← h2]
     simp only [e]
    omega
  generalize hX:ints ls = X at rX hgz hprev
  generalize hO:ints (outL n v) = O at rX rO hgo hprev d
  simp only [hX] at rX rO d
  have hXl:i < ls.length:=hlt
  simp [hlt]
  refine AM.wp_skip ?_
  simp
  refine AM.wp_seq ?_
  refine AM.wp_block ?_
  refine Z00 ?_
  simp [t67,t69,hlt,rX d,hgz]
  refine AM.wp_seq ?_
  refine Z00 ?_
  simp [t8,hz1,hzn']
  refine AM.Z04 ?_
  simp
  refine AM.wp_skip ?_
  simp
  refine Z00 ?_
  simp [t3,t8,z0,hzn',rO d,hgo]
  refine Z03 ?_
  have d1:=d.perm (m':=m ++ ((Bo,C O) :: ([(qb,C X)] ++ (mt ++ r)))) (Z0m fun y => by
   simp only [Z0h,Z0e,Z0w]
   omega)
  refine get_c hH d1 hP.good.ok fun nv mn s2 hN d2 => ?_
  rw [hget] at hN ⊢
  simp only at hN
  simp [hN.ntup,hN.cells]
  have d3:=(d2.alloc (C [.nilSlice,.int .i64 0])).put 0 rfl (C [nv,.int .i64 0])
  simp only [List.set_cons_zero] at d3
  generalize (s2.alloc (.cells [.nilSlice,.int .i64 0] false)).put s2.next (.cells [nv,.int .i64 0] false) = s3 at d3 ⊢
  generalize s2.next = B12 at d3 ⊢
  have htq:s3.cells tq = some (tenc NV):=by
   refine Z0b (Z14 (d3.own (tq,C (tenc NV)) ?_))
   have:(tq,C (tenc NV)) ∈ mt:=hp.mem_iff.2 (by simp)
   simp [this]
  have cN:=d3.sub (m':=mn) ((List.sublist_append_left mn _).trans (List.sublist_cons_self _ _))
  have cK:=(d3.perm (m':=(mk1 ++ mk2) ++ ([(tq,C (tenc NV))] ++ ((B12,C [nv,.int .i64 0]) :: (mn ++ (m ++ ((Bo,C O) :: ([(qb,C X)] ++ r))))))) (Z0m fun y => by
   have i1:=Z4b hp y
   have i2:=Z4b hpk y
   simp only [Z0h,Z0e,Z0w] at i1 i2 ⊢
   omega)).sub (m':=mk1) ((List.sublist_append_left mk1 mk2).trans (List.sublist_append_left _ _))
  have hB12:s3.cells B12 = some [nv,.int .i64 0]:=d3.c 0 rfl
  refine Z00 ?_
  generalize hE:tenc NV = E at htq tsg tsl htl hmin2
  simp [t6,htq,hltN,tsl,hmin2,tsg,hB12]
  refine Z03 ?_
  refine Zv0 d3.wf (hN.at cN) (hNk.at cK) (by omega) (by omega) hl44 fun s5 b k5 hbb => ?_
  have hbt:b = true:=hbb.2 ⟨rfl,rfl⟩
  subst hbt
  have d5:=d3.keeps k5
  have d6:=((d5.perm (m':=((Bo,C O) :: ([(qb,C X)] ++ (mt ++ (m ++ r)))) ++ ((B12,C [nv,.int .i64 0]) :: mn)) (Z0m fun y => by
   simp only [Z0h,Z0e,Z0w]
   omega)).sub (List.sublist_append_left _ _))
  have hfin:∀ t':PT AVal,PT.get (posOf 3) t' = some (.ptr hb 0)→PT.get (posOf 5) t' = some (.slice qb 0 ls.length (.opn 1))→PT.get (posOf 6) t' = some (.slice tq 0 NS.length (.opn 2))→PT.get (posOf 8) t' = some (.slice Bo 0 n (.lim n))→PT.get (posOf 67) t' = some (.slice qb 0 ls.length (.opn 1))→PT.get (posOf 68) t' = some (.int .i64 ls.length)→PT.get (posOf 69) t' = some (.int .i64 i) →
    wp Tryz.prog c4_48 fr t' s5 (andThen (fun t' s' => ∃ m_1,m_1 < ls.length - i∧∃ i:Nat,i ≤ ls.length∧m_1 = ls.length - i∧PT.get (posOf 3) t' = some (.ptr hb 0)∧PT.get (posOf 5) t' = some (.slice qb 0 ls.length (.opn 1))∧PT.get (posOf 6) t' = some (.slice tq 0 NS.length (.opn 2))∧PT.get (posOf 8) t' = some (.slice Bo 0 n (.lim n))∧PT.get (posOf 67) t' = some (.slice qb 0 ls.length (.opn 1))∧PT.get (posOf 68) t' = some (.int .i64 ls.length)∧PT.get (posOf 69) t' = some (.int .i64 i) ∧
     Ctx s0 W ((Bo,C O) :: ([(qb,C X)] ++ (mt ++ (m ++ r)))) s') (Z8f 0 Q)):=by
   intro t' w3 w5 w6 w8 w67 w68 w69
   refine AM.wp_region ?_
   simp [w69,hwr]
   exact ⟨ls.length - (i + 1),by omega,i + 1,by omega,by omega,by simp [w3],by simp [w5],by simp [w6],by simp [w8],by simp [w67],by simp [w68],by simp,d6⟩
  rcases hprev with hi0 | ⟨i',y,b,hi',hy1,hy2,hy3,hbj⟩
  ·have hi00:¬ (0:Int) < (i:Int):=by omega
   have hi01:¬ 0 < i:=by omega
   show Z3j Tryz.prog _ (_ :: Zm1) _ _ _ _
   simp
   unfold Zm1
   simp [hi00,hi01]
   unfold Zs5
   simp [hi00,hi01]
   unfold Zs6
   simp [hi00,hi01]
   unfold Zs7
   simp [hi00,hi01]
   unfold Zs8
   simp [hi00,hi01]
   unfold Zs9
   simp [hi00,hi01]
   unfold Zsa
   simp [hi00,hi01]
   unfold Zsb
   simp [hi00,hi01]
   refine AM.Z04 ?_
   simp
   refine AM.wp_skip ?_
   simp
   exact hfin _ (by simp [t3]) (by simp [t5]) (by simp [t6]) (by simp [t8]) (by simp [t67]) (by simp [t68]) (by simp [t69])
  ·have hi00:(0:Int) < (i:Int):=by omega
   have hi01:0 < i:=by omega
   have hw1:IntKind.wrap .i64 ((i:Int) - 1) = (i':Int):=by rw [IntWalk.i64_in _ (by omega)]; omega
   have hi'l:i' < ls.length:=by omega
   have hjb:¬ (j:Int) = (b:Int):=by omega
   have hjb':¬ j = b:=fun e => hbj e.symm
   have rx6:s5.cells qb = some X:=d6.c 1 rfl
   have ro6:s5.cells Bo = some O:=d6.c 0 rfl
   show Z3j Tryz.prog _ (_ :: Zm1) _ _ _ _
   simp
   unfold Zm1
   simp [hi00,hi01,t8,t5,z0,hzn',rx6,ro6,hgo,hw1,hi'l,hy1,hy2,hy3,hjb,hjb']
   unfold Zs5
   simp [hi00,hi01,t8,t5,z0,hzn',rx6,ro6,hgo,hw1,hi'l,hy1,hy2,hy3,hjb,hjb']
   unfold Zs6
   simp [hi00,hi01,t8,t5,z0,hzn',rx6,ro6,hgo,hw1,hi'l,hy1,hy2,hy3,hjb,hjb']
   unfold Zs7
   simp [hi00,hi01,t8,t5,z0,hzn',rx6,ro6,hgo,hw1,hi'l,hy1,hy2,hy3,hjb,hjb']
   unfold Zs8
   simp [hi00,hi01,t8,t5,z0,hzn',rx6,ro6,hgo,hw1,hi'l,hy1,hy2,hy3,hjb,hjb']
   unfold Zs9
   simp [hi00,hi01,t8,t5,z0,hzn',rx6,ro6,hgo,hw1,hi'l,hy1,hy2,hy3,hjb,hjb']
   unfold Zsa
   simp [hi00,hi01,t8,t5,z0,hzn',rx6,ro6,hgo,hw1,hi'l,hy1,hy2,hy3,hjb,hjb']
   unfold Zsb
   simp [hi00,hi01,t8,t5,z0,hzn',rx6,ro6,hgo,hw1,hi'l,hy1,hy2,hy3,hjb,hjb']
   refine AM.Z04 ?_
   simp
   refine AM.wp_skip ?_
   simp
   exact hfin _ (by simp [t3]) (by simp [t5]) (by simp [t6]) (by simp [t8]) (by simp [t67]) (by simp [t68]) (by simp [t69])
 ·simp [hlt]
  refine AM.wp_exit ?_
  simp
  exact q _ s' (by simp [t3]) (by simp [t5]) (by simp [t8]) d
end
section
variable {s0 s:St} {W:Pos→Prop} {hb Bo:Pos} {vs:AVal} {m r:Lets} {fr:FI} {t0:PT AVal} {Q:Ex→PT AVal→St→Prop}
def cntO (O:List Int) (i:Nat):Nat:=(O.take i).countP (fun k => decide (0 ≤ k))
theorem Zto {O:List Int} {i:Nat} {x:Int} (h:O[i]? = some x):cntO O (i + 1) = cntO O i + (if 0 ≤ x then 1 else 0):=by
 unfold cntO
 rw [List.take_succ,h]
 simp [List.countP_append,List.countP_cons]
theorem cntO_le (O:List Int) (i:Nat):cntO O i ≤ i:=by
 unfold cntO
 have h1:=List.countP_le_length (p:=fun k:Int => decide (0 ≤ k)) (l:=O.take i)
 have h2:=List.length_take_le i O
 omega
theorem pk_used {c:List CV} {O:List Int} {n:Nat} {lv:AVal} (hH:Z2j hb vs c m) (hl:O.length = n) (hn:n ≤ 60) (hcl:c.length ≤ 60) (hO:∀ x ∈ O,-1 ≤ x∧x < Z1k c)
  (hc:Ctx s0 W (m ++ ((Bo,C (ints O)) :: r)) s)
  (u3:PT.get (posOf 3) t0 = some (.ptr hb 0)) (u5:PT.get (posOf 5) t0 = some lv) (u8:PT.get (posOf 8) t0 = some (.slice Bo 0 n (.lim n))) (u14:PT.get (posOf 14) t0 = some (.int .i64 0))
  (q:∀ t s',PT.get (posOf 3) t = some (.ptr hb 0)→PT.get (posOf 5) t = some lv→PT.get (posOf 8) t = some (.slice Bo 0 n (.lim n))→PT.get (posOf 14) t = some (.int .i64 (cntO O n))→Ctx s0 W (m ++ ((Bo,C (ints O)) :: r)) s'→Q .normal t s'):wp Tryz.prog c4_52 fr t0 s Q:=by
 refine Z00 ?_
 simp [u8]
 refine AM.wp_block ?_
 refine AM.wp_loop (fun x t s' => ∃ i:Nat,i ≤ n∧x = n - i∧PT.get (posOf 3) t = some (.ptr hb 0)∧PT.get (posOf 5) t = some lv∧PT.get (posOf 8) t = some (.slice Bo 0 n (.lim n))∧PT.get (posOf 14) t = some (.int .i64 (cntO O i))∧PT.get (posOf 122) t = some (.slice Bo 0 n (.lim n))∧PT.get (posOf 123) t = some (.int .i64 n)∧PT.get (posOf 124) t = some (.int .i64 i) ∧
   Ctx s0 W (m ++ ((Bo,C (ints O)) :: r)) s') n ⟨0,by simp,by simp,by simp [u3],by simp [u5],by simp [u8],by simp [u14,cntO],by simp,by simp,by simp,hc⟩ ?_
 rintro x t s' ⟨i,hi,rfl,t3,t5,t8,t14,t122,t123,t124,d⟩
 refine Z00 ?_
 simp [t123,t124]
 refine AM.wp_seq ?_
 refine AM.Z04 ?_
 by_cases hlt:i < n
 ·have hwr:IntKind.wrap .i64 ((i:Int) + 1) = ((i + 1:Nat):Int):=by rw [IntWalk.i64_in _ (by omega)]; omega
  have hcw:=cntO_le O i
  have hwc:IntKind.wrap .i64 ((cntO O i:Int) + 1) = ((cntO O i + 1:Nat):Int):=by rw [IntWalk.i64_in _ (by omega)]; omega
  obtain ⟨z,hz⟩:∃ z,O[i]? = some z:=⟨_,List.getElem?_eq_getElem (by omega)⟩
  obtain ⟨z1,z2⟩:=hO z (List.mem_of_getElem? hz)
  have hsz:Z1k c ≤ c.length:=List.countP_le_length
  have z3:¬ z < -1:=by omega
  have z4:¬ (Z1k c:Int) ≤ z:=by omega
  have z5:z < (Z1k c:Int):=by omega
  have hgz:(ints O)[i]? = some (.int .i64 z):=by rw [List.getElem?_map,hz]; rfl
  have rO:s'.cells Bo = some (ints O):=(d.perm (m':=(Bo,C (ints O)) :: (m ++ r)) (Z0m fun y => by
   simp only [Z0h,Z0e]
   omega)).c 0 rfl
  have hcs:=Zto hz
  generalize hX:ints O = X at rO hgz d q
  simp [hlt]
  refine AM.wp_skip ?_
  simp
  refine AM.wp_seq ?_
  refine AM.wp_block ?_
  refine Z00 ?_
  simp [t122,t124,hlt,rO,hgz]
  refine AM.wp_seq ?_
  refine Z00 ?_
  simp [t3,z3]
  refine Z03 ?_
  refine Zc0 hH d fun s1 d1 => ?_
  simp [z4,z5]
  refine AM.Z04 ?_
  simp
  refine AM.wp_skip ?_
  simp
  refine Z00 ?_
  simp
  refine AM.Z04 ?_
  by_cases hz0:0 ≤ z
  ·simp [hz0]
   refine AM.wp_region ?_
   simp [t14,hwc]
   refine AM.wp_region ?_
   simp [t124,hwr]
   rw [if_pos hz0] at hcs
   exact ⟨n - (i + 1),by omega,i + 1,by omega,by omega,by simp [t3],by simp [t5],by simp [t8],by simp [hcs],by simp [t122],by simp [t123],by simp,d1⟩
  ·simp [hz0]
   refine AM.wp_skip ?_
   simp
   refine AM.wp_region ?_
   simp [t124,hwr]
   rw [if_neg hz0] at hcs
   exact ⟨n - (i + 1),by omega,i + 1,by omega,by omega,by simp [t3],by simp [t5],by simp [t8],by simp [hcs,t14],by simp [t122],by simp [t123],by simp,d1⟩
 ·simp [hlt]
  refine AM.wp_exit ?_
  simp
  have:i = n:=by omega
  subst this
  exact q _ s' (by simp [t3]) (by simp [t5]) (by simp [t8]) (by simp [t14]) d
theorem Zws {c:List CV} {n mm:Nat} (hH:Z2j hb vs c m) (hn:n ≤ 60) (hmm:Z1k c = mm) (hmn:mm ≤ n)
  (hc:Ctx s0 W (m ++ ((Bo,C (ints (outL n (List.range mm)))) :: r)) s)
  (u3:PT.get (posOf 3) t0 = some (.ptr hb 0)) (u17:PT.get (posOf 17) t0 = some (.slice Bo 0 n (.lim n)))
  (q:∀ t s',Ctx s0 W (m ++ ((Bo,C (ints (outL n (List.range mm)))) :: r)) s'→Q .normal t s'):wp Tryz.prog c4_86 fr t0 s Q:=by
 have hO:∀ i,i < n→(outL n (List.range mm))[i]? = some (if i < mm then (i:Int) else -1):=by
  intro i hi
  rw [Z7g _ hi]
  by_cases h:i < mm
  ·rw [if_pos (List.mem_range.2 h),if_pos h]
   congr 1
   have h2:(List.range mm)[i]? = some i:=List.getElem?_range h
   have h3:=List.nodup_range.idxOf_getElem i (by simpa using h:i < (List.range mm).length)
   rw [List.getElem_range] at h3
   rw [h3]
  ·rw [if_neg (fun e => h (List.mem_range.1 e)),if_neg h]
 generalize outL n (List.range mm) = O at hc hO q
 refine Z00 ?_
 simp [u17]
 refine AM.wp_block ?_
 refine AM.wp_loop (fun x t s' => ∃ i:Nat,i ≤ n∧x = n - i∧PT.get (posOf 3) t = some (.ptr hb 0)∧PT.get (posOf 181) t = some (.slice Bo 0 n (.lim n))∧PT.get (posOf 182) t = some (.int .i64 n)∧PT.get (posOf 183) t = some (.int .i64 i) ∧
   Ctx s0 W (m ++ ((Bo,C (ints O)) :: r)) s') n ⟨0,by simp,by simp,by simp [u3],by simp,by simp,by simp,hc⟩ ?_
 rintro x t s' ⟨i,hi,rfl,t3,t181,t182,t183,d⟩
 refine Z00 ?_
 simp [t182,t183]
 refine AM.wp_seq ?_
 refine AM.Z04 ?_
 by_cases hlt:i < n
 ·have hwr:IntKind.wrap .i64 ((i:Int) + 1) = ((i + 1:Nat):Int):=by rw [IntWalk.i64_in _ (by omega)]; omega
  have hz:=hO i hlt
  have rO:s'.cells Bo = some (ints O):=(d.perm (m':=(Bo,C (ints O)) :: (m ++ r)) (Z0m fun y => by
   simp only [Z0h,Z0e]
   omega)).c 0 rfl
  generalize hX:ints O = X at rO d q
  by_cases him:i < mm
  ·rw [if_pos him] at hz
   have hgz:X[i]? = some (.int .i64 i):=by rw [← hX,List.getElem?_map,hz]; rfl
   have e1:¬ (i:Int) = -1:=by omega
   have e2:¬ (mm:Int) ≤ i:=by omega
   have e3:¬ mm ≤ i:=by omega
   simp [hlt]
   refine AM.wp_skip ?_
   simp
   refine AM.wp_seq ?_
   refine AM.wp_block ?_
   refine Z00 ?_
   simp [t181,t183,hlt,rO,hgz]
   refine Z00 ?_
   simp [t3,e1]
   refine Z03 ?_
   refine Zc0 hH d fun s1 d1 => ?_
   rw [hmm]
   simp [e2,e3,him]
   refine AM.Z04 ?_
   simp
   refine AM.wp_skip ?_
   simp
   refine AM.wp_region ?_
   simp [t183,hwr]
   exact ⟨n - (i + 1),by omega,i + 1,by omega,by omega,by simp [t3],by simp [t181],by simp [t182],by simp,d1⟩
  ·rw [if_neg him] at hz
   have hgz:X[i]? = some (.int .i64 (-1)):=by rw [← hX,List.getElem?_map,hz]; rfl
   have e1:¬ (-1:Int) = (i:Int):=by omega
   have e2:(mm:Int) ≤ i:=by omega
   have e3:mm ≤ i:=by omega
   simp [hlt]
   refine AM.wp_skip ?_
   simp
   refine AM.wp_seq ?_
   refine AM.wp_block ?_
   refine Z00 ?_
   simp [t181,t183,hlt,rO,hgz]
   refine Z00 ?_
   simp [t3,e1]
   refine Z03 ?_
   refine Zc0 hH d fun s1 d1 => ?_
   rw [hmm]
   simp [e2,e3,him]
   refine AM.Z04 ?_
   simp
   refine AM.wp_skip ?_
   simp
   refine AM.wp_region ?_
   simp [t183,hwr]
   exact ⟨n - (i + 1),by omega,i + 1,by omega,by omega,by simp [t3],by simp [t181],by simp [t182],by simp,d1⟩
 ·simp [hlt]
  refine AM.wp_exit ?_
  simp
  exact q _ s' d
end
theorem Zx0 (bs:List Int):(Zee bs).nx = 0:=by
 unfold Zee
 rfl
theorem Zsz (K:Nat→List Nat) (n r:Nat) (rs:List Nat):∃ w,bfsF K n (r :: rs) = r :: w:=by
 have h:∀ (l:List Nat) (v:List Nat),(∃ w,v = r :: w)→∃ w,l.foldl (fun v r => runB K (n + 1 - v.length) (addN v r) v.length) v = r :: w:=by
  intro l
  induction l with
  | nil => exact fun v h => h
  | cons a l ih =>
   rintro v ⟨w,rfl⟩
   refine ih _ ?_
   obtain ⟨w1,e1⟩:=Zdn (r :: w) a
   obtain ⟨w2,e2⟩:=Z7i K (n + 1 - (r :: w).length) (addN (r :: w) a) (r :: w).length
   exact ⟨w ++ w1 ++ w2,by show runB K (n + 1 - (r :: w).length) (addN (r :: w) a) (r :: w).length = _; rw [e2,e1]; simp⟩
 refine h rs _ ?_
 obtain ⟨w2,e2⟩:=Z7i K (n + 1 - ([]:List Nat).length) (addN [] r) ([]:List Nat).length
 exact ⟨w2,by show runB K (n + 1 - ([]:List Nat).length) (addN [] r) ([]:List Nat).length = _; rw [e2]; simp [addN]⟩
theorem PackIs.stays {cs c:List CV} (hG:HG cs) (h:PackIs cs c (Go.Proofs.Z0o cs)):(Zc1 c).2.2 = c:=by
 have h0:=h.swept hG
 have h1:((Z3t c (Go.Proofs.Z0o c) c.length).length:Int) = 0:=h0
 have h2:Z3t c (Go.Proofs.Z0o c) c.length = []:=List.length_eq_zero_iff.1 (by omega)
 show relC c (Z3t c (Go.Proofs.Z0o c) c.length) = c
 rw [h2]
 rfl
theorem held_in {cs:List CV} (hG:HG cs) {x:Int} (hx:x ∈ Z0p cs cs.length):0 ≤ x∧x.toNat ∈ Z0o cs:=by
 obtain ⟨e1,_,e3⟩:=Z4o hx
 refine ⟨e1,(Zbx hG.ok).2.2.2 _ (by rwa [Int.toNat_of_nonneg e1]) ?_⟩
 unfold Z0p at hx
 obtain ⟨y,hy,rfl⟩:=List.mem_map.1 hx
 obtain ⟨_,hy2⟩:=List.mem_filter.1 hy
 rw [Int.toNat_natCast]
 unfold Zcc
 cases hc:cs[y]? with
 | none => rw [hc] at hy2; cases hy2
 | some c => rw [hc] at hy2; simpa using hy2
theorem Zw5 {cs:List CV} (i:Nat) (x y:Int) (h1:(Z0p cs cs.length)[i]? = some x) (h2:(Z0p cs cs.length)[i + 1]? = some y):x ≠ y:=by
 have h:=List.pairwise_iff_getElem.1 (Zgy cs)
 obtain ⟨a1,b1⟩:=List.getElem?_eq_some_iff.1 h1
 obtain ⟨a2,b2⟩:=List.getElem?_eq_some_iff.1 h2
 have h3:=h i (i + 1) (by simpa using a1) (by simpa using a2) (by omega)
 simp only [List.getElem_map,b1,b2] at h3
 intro e
 rw [e] at h3
 omega
section
variable {s:St} {Q:AVal→St→Prop}
theorem Zp2 {bv1:AVal} {bs1:List Int} (hw:s.Wf) (hB1:Z33 s (fun _ => False) bv1 bs1) (q:∀ s',Q (.bool true) s'):Z0d Tryz.prog 4 [bv1] s Q:=by
 have hbt1:=hB1.ntup
 have c0:=Ctx.start (fun _ => False) hw
 refine Z07 (Z0g (by decide)) fi4 rfl (by decide) rfl ?_
 refine Z00 ?_
 simp
 refine Z00 ?_
 simp
 refine Z03 ?_
 refine fill_c hB1 c0 fun B1 s1 c1 => ?_
 simp
 refine Z03 ?_
 refine Zw0 hB1 c1 (by rw [Zx0]; decide) (by decide) (by decide) fun hb m s2 hH c2 => ?_
 obtain ⟨hG,hl4,hl20⟩:=Zr7 bs1 (cells:=20) (by decide) (Zee bs1)
 generalize Z9g bs1 20 (Zee bs1) = F at hH c2 hG hl4 hl20
 obtain ⟨cs,kk⟩:=F
 simp only at hH hG hl4 hl20
 have hl:cs.length ≤ 20:=by omega
 have c3:=c2.sub (m':=m ++ []) (List.sublist_cons_self _ _)
 simp
 refine AM.wp_seq ?_
 refine Z00 ?_
 simp
 refine AM.Z04 ?_
 simp
 refine AM.wp_skip ?_
 simp
 refine Z00 ?_
 simp
 refine Z03 ?_
 refine seen_c hH c3 hG (by omega) fun lv mg tv mt s3 hg hT c4 => ?_
 have hlen:=Zac cs cs.length
 have hin:∀ x ∈ Z0p cs cs.length,0 ≤ x∧x.toNat ∈ Z0o cs:=fun x hx => held_in hG hx
 have hdis:=@Zw5 cs
 have hfst:∀ x,(Z0p cs cs.length)[0]? = some x→(Z0o cs).idxOf x.toNat = 0:=by
  intro x hx
  unfold Z0o
  cases hh:Z0p cs cs.length with
  | nil => rw [hh] at hx; cases hx
  | cons a l =>
   rw [hh] at hx
   cases hx
   obtain ⟨w,e⟩:=Zsz (kidN cs) cs.length x.toNat (l.map Int.toNat)
   rw [List.map_cons,e]
   simp
 have hNS:∀ (i:Nat) x,(Z0p cs cs.length)[i]? = some x→((Z0p cs cs.length).map fun i => Z1w cs i.toNat)[i]? = some (Z1w cs x.toNat):=by
  intro i x hx
  rw [List.getElem?_map,hx]
  rfl
 have hlNS:(Z0p cs cs.length).length = ((Z0p cs cs.length).map fun i => Z1w cs i.toNat).length:=by simp
 generalize ((Z0p cs cs.length).map fun i => Z1w cs i.toNat) = NS at hT hNS hlNS
 generalize Z0p cs cs.length = ls at hg hT hlen hin hdis hfst hNS hlNS
 have hP:=Zjb hG
 have hA:=hP.again hG
 have hS1:=hP.swept hG
 have hS2:=hP.stays hG
 have hsz:=hP.size
 have hle:=hP.le
 have hus:=hP.used
 have hp1:(Zb6 cs).1 = outL cs.length (Z0o cs):=rfl
 have hsc:Z1k cs ≤ cs.length:=List.countP_le_length
 have hsum1:((Z1k cs:Nat):Int) + ((cs.length - Z1k cs:Nat):Int) = (cs.length:Int):=by omega
 have hw1:IntKind.wrap .i64 (((Z1k cs:Nat):Int) + ((cs.length - Z1k cs:Nat):Int)) = (cs.length:Int):=by rw [hsum1,IntWalk.i64_in _ (by omega)]
 simp
 refine Z00 ?_
 simp
 refine Z03 ?_
 have c5:=c4.perm (m':=m ++ (mg ++ mt)) (Z0m fun y => by
  simp only [Z0e,Z0w]
  omega)
 refine Zc0 hH c5 fun s4 c6 => ?_
 simp
 refine Z03 ?_
 refine Ztx hH c6 fun s5 c7 => ?_
 simp [hw1]
 refine Z00 ?_
 simp
 refine Z03 ?_
 refine Zur hH c7 hG.ok fun Bo m1 s6 hH1 c8 => ?_
 rw [hp1] at c8
 generalize hv:Z0o cs = v at hP hin hfst hA hS1 hS2 hsz hle hus c8
 generalize hc:(Zb6 cs).2 = c at hP hH1 hA hS1 hS2 hsz
 generalize hn:cs.length = n at *
 have hcl:c.length = n:=hP.len.trans hn
 simp
 have hw2:IntKind.wrap .i64 (((Z1k c:Nat):Int) + ((c.length - Z1k c:Nat):Int)) = (n:Int):=by rw [hsz,hcl,IntWalk.i64_in _ (by omega)]; omega
 refine AM.wp_seq ?_
 refine Z00 ?_
 simp
 refine Z03 ?_
 have c9:=c8.perm (m':=m1 ++ ((Bo,C (ints (outL n v))) :: (mg ++ mt))) (Z0m fun y => by
  simp only [Z0h,Z0e]
  omega)
 refine Zc0 hH1 c9 fun s7 c10 => ?_
 simp
 refine Z03 ?_
 refine Ztx hH1 c10 fun s8 c11 => ?_
 simp [hw2]
 refine AM.Z04 ?_
 simp
 refine AM.wp_skip ?_
 simp
 have c12:=c11.perm (m':=(Bo,C (ints (outL n v))) :: (mg ++ (mt ++ (m1 ++ [])))) (Z0m fun y => by
  simp only [Z0h,Z0e,Z0w]
  omega)
 refine AM.wp_seq ?_
 refine pk_look hG (by omega) hn hP hH1 hg hT hlNS (by omega) hin hNS hdis c12 (by simp) (by simp) (by simp) (by simp) fun t1 s9 w3 w5 w8 c13 => ?_
 simp only [andThen]
 refine Z00 ?_
 simp
 have c14:=c13.perm (m':=m1 ++ ((Bo,C (ints (outL n v))) :: (mg ++ mt))) (Z0m fun y => by
  simp only [Z0h,Z0e,Z0w]
  omega)
 have hmemO:∀ x ∈ outL n v,-1 ≤ x∧x < Z1k c:=by
  intro x hx
  unfold outL at hx
  obtain ⟨a,_,rfl⟩:=List.mem_map.1 hx
  by_cases ha:a ∈ v
  ·rw [if_pos ha]
   have:=List.idxOf_lt_length_of_mem ha
   omega
  ·rw [if_neg ha]
   omega
 refine AM.wp_seq ?_
 refine pk_used (lv:=lv) hH1 (Z6i n v) (by omega) (by omega) hmemO c14 (by simp [w3]) (by simp [w5]) (by simp [w8]) (by simp) fun t2 s10 x3 x5 x8 x14 c15 => ?_
 have hcnt:cntO (outL n v) n = v.length:=by
  unfold cntO
  rw [List.take_of_length_le (by rw [Z6i]; omega)]
  exact hus
 rw [hcnt] at x14
 simp only [andThen]
 refine Z00 ?_
 simp [x3]
 refine Z03 ?_
 refine Zur hH1 c15 hP.good.ok fun Bo2 m2 s11 hH2 c16 => ?_
 rw [hA] at hH2 c16
 simp only at hH2 c16
 rw [hcl]
 simp
 have c17:=c16.perm (m':=m2 ++ ((Bo2,C (ints (outL n (List.range v.length)))) :: ((Bo,C (ints (outL n v))) :: (mg ++ mt)))) (Z0m fun y => by
  simp only [Z0h,Z0e]
  omega)
 refine Z00 ?_
 simp [x3]
 refine Z03 ?_
 refine sweep_c hH2 c17 hP.good.ok fun m3 s12 hH3 c18 => ?_
 rw [hS2] at hH3
 rw [hS1]
 have hS3:(Zc1 c).2.1 = 0:=rfl
 rw [hS3]
 simp
 have hO0:∀ z:Int,ls[0]? = some z→(ints (outL n v))[z.toNat]? = some (.int .i64 0)∧0 ≤ z∧z < n:=by
  intro z hz
  obtain ⟨z0,zv⟩:=hin z (List.mem_of_getElem? hz)
  have hzn:z.toNat < n:=by rw [← hn]; exact Z1g (hP.mem _ zv)
  rw [List.getElem?_map,Z7g v hzn,if_pos zv,hfst z hz]
  exact ⟨rfl,z0,by omega⟩
 have hgl:=hg.len
 have hgt:=hg.ntup
 have hfin:∀ (fr:FI) (t':PT AVal) s',PT.get (posOf 3) t' = some (.ptr hb 0)→PT.get (posOf 17) t' = some (.slice Bo2 0 n (.lim n))→Ctx s (fun _ => False) (m3 ++ ((Bo2,C (ints (outL n (List.range v.length)))) :: ((Bo,C (ints (outL n v))) :: (mg ++ mt)))) s' →
   wp Tryz.prog Zqq fr t' s' (fun e t s' => match e with | .exit id => False | x => Z1d (PT.get (posOf 2) t) fun v => Q v s'):=by
  intro fr t' s' y3 y17 cc
  refine AM.wp_seq ?_
  refine Zws hH3 (by omega) hsz hle cc y3 y17 fun t3 s14 c20 => ?_
  simp only [andThen]
  refine Z00 ?_
  simp
  refine Z03 ?_
  refine Zjn Zuo ?_
  simp
  refine AM.wp_ret ?_
  simp
  exact q s14
 refine AM.wp_seq ?_
 refine Z00 ?_
 simp [x3,x14]
 refine Z03 ?_
 refine Zc0 hH3 c18 fun s13 c19 => ?_
 rw [hsz]
 simp [x5,hgl,hgt]
 have hcond:∀ (fr:FI) (t':PT AVal),PT.get (posOf 3) t' = some (.ptr hb 0)→PT.get (posOf 17) t' = some (.slice Bo2 0 n (.lim n))→PT.get (posOf 180) t' = some (.bool false) →
   wp Tryz.prog c4_82 fr t' s13 (andThen (fun t s' => wp Tryz.prog Zqq fr t s' (fun e t s' => match e with | .exit id => False | x => Z1d (PT.get (posOf 2) t) fun v => Q v s')) (fun e t s' => match e with | .exit id => False | x => Z1d (PT.get (posOf 2) t) fun v => Q v s')):=by
  intro fr t' y3 y17 y180
  refine AM.Z04 ?_
  simp [y180]
  refine AM.wp_skip ?_
  simp
  exact hfin _ _ _ (by simp [y3]) (by simp [y17]) c19
 by_cases hls:0 < ls.length
 ·obtain ⟨z,hz⟩:∃ z,ls[0]? = some z:=⟨_,List.getElem?_eq_getElem hls⟩
  obtain ⟨z1,z2,z3⟩:=hO0 z hz
  rcases hg with ⟨h0,_⟩ | ⟨qb,hne,rfl,rfl⟩
  ·rw [h0] at hz
   simp at hz
  have hgz:(ints ls)[0]? = some (.int .i64 z):=by rw [List.getElem?_map,hz]; rfl
  have c20:=c19.perm (m':=(Bo,C (ints (outL n v))) :: ((qb,C (ints ls)) :: (mt ++ (m3 ++ [(Bo2,C (ints (outL n (List.range v.length))))])))) (Z0m fun y => by
   simp only [Z0h,Z0e,Z0w]
   omega)
  have rO:=c20.c 0 rfl
  have rX:=c20.c 1 rfl
  generalize ints ls = X at hgz rX
  generalize ints (outL n v) = O at z1 rO
  simp [hls,x8,rX,hgz,z2,z3,rO,z1]
  exact hcond _ _ (by simp [x3]) (by simp) (by simp)
 ·simp [hls]
  exact hcond _ _ (by simp [x3]) (by simp) (by simp)
end
end Go.Proofs
end
