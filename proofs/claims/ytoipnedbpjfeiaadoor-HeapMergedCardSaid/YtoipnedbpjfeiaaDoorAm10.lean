/- Parts of the proof: Hm3, Hm4, Hm5. -/
import Derived.Test.YtoipnedbpjfeiaaDoorAm09
set_option linter.all false
set_option linter.unusedSectionVars false
set_option linter.unusedSimpArgs false
set_option linter.unusedVariables false
section
open Go Go.AM
namespace Go.Proofs
set_option maxRecDepth 100000
theorem Zuy {ns:List ND} (h:GrOk ns) (hn:∀ nd ∈ ns,Z1s nd.1 = true):Zbm ns:=fun nd hnd => by
 have h1:=(h nd hnd).1
 have h2:=hn nd hnd
 unfold Z1s at h2
 simp only [Bool.and_eq_true,decide_eq_true_eq] at h2
 exact ⟨by omega,by omega⟩
section
variable {s0 s:St} {W:Pos→Prop} {Bs hb:Pos} {bv vs:AVal} {k:SK} {r:Lets} {fr:FI} {t0:PT AVal} {Q:Ex→PT AVal→St→Prop}
theorem mg_look {cs c:List CV} {m mg mt:Lets} {ls:List Int} {NS:List (List ND)} {lv tv:AVal} (hG:HG cs) (hl:cs.length ≤ 60) (hS:StepIs cs c) (hH:Z26 hb vs c m) (hg:Z1d lv ls mg) (hT:Zrg tv NS mt) (hln:ls.length = NS.length) (hl4:ls.length ≤ 400)
  (hgood:∀ (j:Nat) x ns,ls[j]? = some x→NS[j]? = some ns→GoodK cs x ns)
  (hc:Ctx s0 W (mg ++ (mt ++ (m ++ r))) s)
  (u5:PT.get (posOf 5) t0 = some (.ptr hb 0)) (u7:PT.get (posOf 7) t0 = some lv) (u8:PT.get (posOf 8) t0 = some tv)
  (q:∀ t s' ls' mg',Fr [13,14,15,16,17,18,91,92,93,94,105,127,132,133,134,135,136,137,138,139,140,141,142] t0 t→Z1d lv ls' mg'→ls'.length = ls.length→(∀ (j:Nat) x ns,ls'[j]? = some x→NS[j]? = some ns→GoodK c x ns) →
   Ctx s0 W (mg' ++ (mt ++ (m ++ r))) s'→Q .normal t s'):wp Tryd.prog Zrl fr t0 s Q:=by
 have hcl:c.length ≤ 60:=by rw [hS.len]; exact hl
 refine Z00 ?_
 simp [u7,hg.len,hg.ntup]
 refine AM.wp_block ?_
 refine AM.wp_loop (fun x t s' => ∃ (i:Nat) (ls':List Int) (mg':Lets),i ≤ ls.length∧x = ls.length - i∧Fr [13,14,15,16,17,18,91,92,93,94,105,127,132,133,134,135,136,137,138,139,140,141,142] t0 t∧PT.get (posOf 91) t = some lv∧PT.get (posOf 92) t = some (.int .i64 ls.length)∧PT.get (posOf 93) t = some (.int .i64 i) ∧
   ls'.length = ls.length∧(∀ (j:Nat) x ns,ls'[j]? = some x→NS[j]? = some ns→if j < i then GoodK c x ns else GoodK cs x ns)∧Z1d lv ls' mg'∧Ctx s0 W (mg' ++ (mt ++ (m ++ r))) s') ls.length
   ⟨0,ls,mg,by simp,by simp,?_,by simp,by simp,by simp,rfl,fun j x ns h1 h2 => by rw [if_neg (by omega)]; exact hgood j x ns h1 h2,hg,hc⟩ ?_
 ·intro y hy
  simp at hy
  simp [hy]
 rintro x t s' ⟨i,ls',mg',hi,rfl,hF,t91,t92,t93,hll,hgd,hg',d⟩
 have v5:=(hF 5 (by simp)).trans u5
 have v7:=(hF 7 (by simp)).trans u7
 have v8:=(hF 8 (by simp)).trans u8
 refine Z00 ?_
 simp [t92,t93]
 refine AM.wp_seq ?_
 refine AM.Z03 ?_
 by_cases hlt:i < ls.length
 ·have hwr:IntKind.wrap .i64 ((i:Int) + 1) = ((i + 1:Nat):Int):=by rw [IntWalk.i64_in _ (by omega)]; omega
  obtain ⟨n,hn⟩:∃ n,ls'[i]? = some n:=⟨_,List.getElem?_eq_getElem (by omega)⟩
  obtain ⟨ns,hns⟩:∃ ns,NS[i]? = some ns:=⟨_,List.getElem?_eq_getElem (by omega)⟩
  have hgk:=hgd i n ns hn hns
  rw [if_neg (by omega)] at hgk
  obtain ⟨p1,p2,p3,p4,p5,p6⟩:=hgk.right hG hl
  have hnx:=Zun hG hl hS hgk
  obtain ⟨NV,mq,ml,hgc,hTL,hp⟩:=id hT
  obtain ⟨nvk,mk1,mk2,hnv,hNk,hpk⟩:=hTL.at hns
  obtain ⟨te1,te2⟩:=Zoz hnv
  obtain ⟨tsg,tsl⟩:=seg2 te1 te2
  rcases hg' with ⟨h0,_⟩ | ⟨qb,hne,rfl,rfl⟩
  ·rw [h0] at hn
   simp at hn
  obtain ⟨_,hgq⟩:=hgc
  rcases hgq with ⟨hk0,_⟩ | ⟨tq,hk0,rfl,rfl⟩
  ·omega
  have hqc:s'.cells qb = some (ints ls'):=Z0a (Z17 (d.own (qb,C (ints ls')) (by simp)))
  have hgn:(ints ls')[i]? = some (.int .i64 n):=by rw [List.getElem?_map,hn]; rfl
  have hlt1:i < ls'.length:=by omega
  have htl:(tenc NV).length = 2 * NS.length:=by
   have e1:=hTL.len
   have:∀ l:List AVal,(tenc l).length = 2 * l.length:=by
    intro l
    induction l with
    | nil => rfl
    | cons a l ih =>
     have:tenc (a :: l) = a :: .int .i64 0 :: tenc l:=rfl
     rw [this]
     simp [ih]
     omega
   rw [this,e1]
  have hmin2:min 2 ((tenc NV).length - i * 2) = 2:=by omega
  have hltN:i < NS.length:=by omega
  have hkt:∀ t,¬ nvk = .tup t:=hNk.ntup
  simp [hlt]
  refine AM.wp_skip ?_
  simp
  refine AM.wp_seq ?_
  refine AM.wp_block ?_
  refine Z00 ?_
  generalize hX:ints ls' = X at hqc hgn
  simp [t91,t93,hlt1,hqc,hgn]
  refine Z00 ?_
  simp [v5]
  refine Z02 ?_
  have d1:=d.perm (m':=m ++ ([(qb,C (ints ls'))] ++ (mt ++ r))) (Z0k fun y => by
   simp only [Z0e]
   omega)
  have main:∀ (t:PT AVal) (s:St) (nv:AVal) (mn rest:Lets) (B15:Pos) (n':Int) ,GoodK c n' ns→Z3a nv ns mn→PT.get (posOf 5) t = some (.ptr hb 0)→PT.get (posOf 8) t = some (.slice tq 0 NS.length (.opn 2))→PT.get (posOf 13) t = some (.int .i64 i)→PT.get (posOf 15) t = some (.ptr B15 0)→PT.get (posOf 16) t = some (.int .i64 0) →
    Ctx s0 W ((B15,C [nv,.int .i64 0]) :: (mn ++ (mt ++ rest))) s→∀ Q:Ex→PT AVal→St→Prop,(∀ t' s',Fr [132,133,134,135,136,137,138,139,140,141,142] t t'→Ctx s0 W (mt ++ rest) s'→Q .normal t' s')→wp Tryd.prog c6_96 fr t s Q:=by
   intro t s nv mn rest B15 n' hgk' hNn w5 w8 w13 w15 w16 c1 Q hQ
   have hB15:s.cells B15 = some [nv,.int .i64 0]:=c1.c 0 rfl
   have htq:s.cells tq = some (tenc NV):=by
    refine Z0a (Z17 (c1.own (tq,C (tenc NV)) ?_))
    have:(tq,C (tenc NV)) ∈ mt:=hp.mem_iff.2 (by simp)
    simp [this]
   have hltN':(i:Int) < NS.length:=by omega
   have cN:=c1.sub (m':=mn) ((List.sublist_append_left mn _).trans (List.sublist_cons_self _ _))
   have hcm:mk1.Sublist ((mk1 ++ mk2) ++ ([(tq,C (tenc NV))] ++ ((B15,C [nv,.int .i64 0]) :: (mn ++ rest)))):=(List.sublist_append_left mk1 mk2).trans (List.sublist_append_left _ _)
   have cK:=(c1.perm (m':=(mk1 ++ mk2) ++ ([(tq,C (tenc NV))] ++ ((B15,C [nv,.int .i64 0]) :: (mn ++ rest)))) (Z0k fun y => by
    have i1:=Z4j hp y
    have i2:=Z4j hpk y
    simp only [Z0j,Z0e,Z0q] at i1 i2 ⊢
    omega)).sub hcm
   refine Z00 ?_
   generalize hE:tenc NV = E at htq tsg tsl htl hmin2
   simp [w8,w13,w15,w16,hB15,htq,hltN,tsl,hmin2,tsg]
   refine Z02 ?_
   refine Zvq c1.wf (hNn.at cN) (hNk.at cK) (by omega) (by omega) (fun x hx => by have:=(p1 x hx).1; omega) fun s5 b k5 hb => ?_
   have hbt:b = true:=hb.2 ⟨rfl,rfl⟩
   subst hbt
   have c2:=c1.keeps k5
   simp
   refine AM.Z03 ?_
   simp
   refine AM.wp_skip ?_
   refine hQ _ s5 ?_ (c2.sub ((List.sublist_append_right mn _).trans (List.sublist_cons_self _ _)))
   intro y hy
   simp at hy
   simp [hy]
  rcases hnx with ⟨hnt,hgk2⟩ | ⟨hnt,j,hf,hjn,hgk2⟩
  ·have hget:getF c n = (0,ns):=by
    obtain ⟨n0,rfl⟩:∃ n0:Nat,n = n0:=⟨n.toNat,by have:=hgk.nat; omega⟩
    have h1:=Zk6 hS.good hcl hnt
    have h2:=hgk2.tree
    rw [Int.toNat_natCast] at h2
    rwa [h2] at h1
   refine Zmj hH d1 hS.good.ok fun nv mn s2 hN d2 => ?_
   rw [hget] at hN ⊢
   simp only at hN
   simp [hN.ntup,hN.cells]
   have d3:=(d2.alloc (C [.nilSlice,.int .i64 0])).put 0 rfl (C [nv,.int .i64 0])
   simp only [List.set_cons_zero] at d3
   generalize (s2.alloc (.cells [.nilSlice,.int .i64 0] false)).put s2.next (.cells [nv,.int .i64 0] false) = s3 at d3 ⊢
   generalize s2.next = B15 at d3 ⊢
   refine AM.wp_seq ?_
   refine Z00 ?_
   simp
   refine AM.Z03 ?_
   simp
   refine AM.wp_skip ?_
   simp
   refine main _ s3 nv mn ([(qb,C (ints ls'))] ++ (m ++ r)) B15 n hgk2 hN (by simp [v5]) (by simp [v8]) (by simp) (by simp) (by simp) (d3.perm (Z0k fun y => by
    simp only [Z0j,Z0e,Z0q]
    omega)) _ fun t' s4 hF2 d4 => ?_
   have w93:PT.get (posOf 93) t' = some (.int .i64 i):=(hF2 93 (by simp)).trans (by simp [t93])
   have w91:PT.get (posOf 91) t' = some (.slice qb 0 ls'.length (.opn 1)):=(hF2 91 (by simp)).trans (by simp [t91])
   have w92:PT.get (posOf 92) t' = some (.int .i64 ls.length):=(hF2 92 (by simp)).trans (by simp [t92])
   simp only [Z4k,andThen]
   refine AM.wp_region ?_
   simp [w93,hwr]
   refine ⟨ls.length - (i + 1),by omega,i + 1,by omega,by omega,?_,by simp [w91],by simp [w92],by simp,ls',hll,?_,[(qb,C (ints ls'))],.inr ⟨qb,hne,rfl,rfl⟩,d4.perm (Z0k fun y => by
    simp only [Z0j,Z0e,Z0q]
    omega)⟩
   ·intro y hy
    have h2:=hF2 y (by simp at hy ⊢; omega)
    have h1:=hF y hy
    simp at hy
    simp [hy] at h2 ⊢
    rw [h2,h1]
   ·intro j' x' ns' h1 h2
    have h3:=hgd j' x' ns' h1 h2
    by_cases e:j' = i
    ·subst e
     rw [hn] at h1
     rw [hns] at h2
     cases h1
     cases h2
     rw [if_pos (by omega)]
     exact hgk2
    ·by_cases e2:j' < i
     ·rw [if_pos (by omega)]
      rwa [if_pos e2] at h3
     ·rw [if_neg (by omega)]
      rwa [if_neg e2] at h3
  ·have hget:getF c n = (1,[]):=Zzx hnt
   have hget2:getF c (j:Int) = (0,ns):=by
    have h1:=Zk6 hS.good hcl hgk2.take
    have h2:=hgk2.tree
    rw [Int.toNat_natCast] at h2
    rwa [h2] at h1
   refine Zmj hH d1 hS.good.ok fun nv mn s2 hN d2 => ?_
   rw [hget] at hN ⊢
   simp only at hN
   simp [hN.ntup,hN.cells]
   have d3:=(d2.alloc (C [.nilSlice,.int .i64 0])).put 0 rfl (C [nv,.int .i64 0])
   simp only [List.set_cons_zero] at d3
   generalize (s2.alloc (.cells [.nilSlice,.int .i64 0] false)).put s2.next (.cells [nv,.int .i64 0] false) = s3 at d3 ⊢
   generalize s2.next = B15 at d3 ⊢
   refine AM.wp_seq ?_
   refine Z00 ?_
   simp
   refine AM.Z03 ?_
   simp
   have htq:s3.cells tq = some (tenc NV):=by
    refine Z0a (Z17 (d3.own (tq,C (tenc NV)) ?_))
    have:(tq,C (tenc NV)) ∈ mt:=hp.mem_iff.2 (by simp)
    simp [this]
   have cK:=(d3.perm (m':=(mk1 ++ mk2) ++ ([(tq,C (tenc NV))] ++ ((B15,C [nv,.int .i64 0]) :: (mn ++ (m ++ ([(qb,C (ints ls'))] ++ r)))))) (Z0k fun y => by
    have i1:=Z4j hp y
    have i2:=Z4j hpk y
    simp only [Z0j,Z0e,Z0q] at i1 i2 ⊢
    omega)).sub (m':=mk1) ((List.sublist_append_left mk1 mk2).trans (List.sublist_append_left _ _))
   have d3':=d3.perm (m':=m ++ ((B15,C [nv,.int .i64 0]) :: (mn ++ ([(qb,C (ints ls'))] ++ (mt ++ r))))) (Z0k fun y => by
    simp only [Z0j,Z0e,Z0q]
    omega)
   refine Z00 ?_
   generalize hE:tenc NV = E at htq tsg tsl htl hmin2
   simp [v5,v8,htq,hltN,tsl,hmin2,tsg]
   refine Z02 ?_
   refine find_c hH d3' hS.good.ok.toHOk (hNk.at0 cK) (Zuy p1 p4) (by omega) fun s4 k4 => ?_
   rw [hf]
   have d4:=d3'.keeps k4
   simp
   refine AM.wp_seq ?_
   refine Z00 ?_
   simp [v5]
   refine Z02 ?_
   refine Zmj hH d4 hS.good.ok fun nv2 mn2 s5 hN2 d5 => ?_
   rw [hget2] at hN2 ⊢
   simp only at hN2
   have d5':=d5.perm (m':=(B15,C [nv,.int .i64 0]) :: ((qb,C (ints ls')) :: (mn2 ++ (m ++ (mn ++ (mt ++ r)))))) (Z0k fun y => by
    simp only [Z0j,Z0e,Z0q]
    omega)
   simp [hN2.ntup,hN2.cells,d5'.o 0 rfl]
   have d6:=d5'.put 0 rfl (C [nv2,.int .i64 0])
   simp only [List.set_cons_zero] at d6
   generalize s5.put B15 (.cells [nv2,.int .i64 0] false) = s6 at d6 ⊢
   refine Z00 ?_
   have hjn':(j:Int) < n:=hjn
   simp [hjn']
   refine AM.Z03 ?_
   simp
   refine AM.wp_skip ?_
   simp
   have hnl:i + 1 ≤ (ints ls').length:=by simp; omega
   have hlay2:lay (ints ls') i [.int .i64 j] = ints (ls'.set i j):=Z6k ls' i j (by omega)
   have hqo:s6.own qb = some (ints ls'):=d6.o 1 rfl
   generalize hY:ints (ls'.set i j) = Y at hlay2
   have hXl:X.length = ls'.length:=by rw [← hX]; simp
   rw [hX] at hnl hlay2 hqo
   simp [lay] at hlay2
   refine AM.wp_region ?_
   simp [v7,hlt1,hqo,hnl]
   rw [hlay2]
   have d7:=d6.put 1 rfl (C Y)
   simp only [List.set_cons_zero,List.set_cons_succ] at d7
   generalize s6.put qb (.cells Y false) = s7 at d7 ⊢
   rw [← hY] at d7
   refine main _ s7 nv2 mn2 ([(qb,C (ints (ls'.set i j)))] ++ (m ++ (mn ++ r))) B15 j hgk2 hN2 (by simp [v5]) (by simp [v8]) (by simp) (by simp) (by simp) (d7.perm (Z0k fun y => by
    simp only [Z0j,Z0e,Z0q]
    omega)) _ fun t' s8 hF2 d8 => ?_
   have w93:PT.get (posOf 93) t' = some (.int .i64 i):=(hF2 93 (by simp)).trans (by simp [t93])
   have w91:PT.get (posOf 91) t' = some (.slice qb 0 ls'.length (.opn 1)):=(hF2 91 (by simp)).trans (by simp [t91])
   have w92:PT.get (posOf 92) t' = some (.int .i64 ls.length):=(hF2 92 (by simp)).trans (by simp [t92])
   simp only [Z4k,andThen]
   refine AM.wp_region ?_
   simp [w93,hwr]
   refine ⟨ls.length - (i + 1),by omega,i + 1,by omega,by omega,?_,by simp [w91],by simp [w92],by simp,ls'.set i j,by simp [hll],?_,[(qb,C (ints (ls'.set i j)))],.inr ⟨qb,by rw [Ne,List.set_eq_nil_iff]; exact hne,by simp,rfl⟩,(d8.perm (m':=([(qb,C (ints (ls'.set i j)))] ++ (mt ++ (m ++ r))) ++ mn) (Z0k fun y => by
    simp only [Z0j,Z0e,Z0q]
    omega)).sub (List.sublist_append_left _ _)⟩
   ·intro y hy
    have h2:=hF2 y (by simp at hy ⊢; omega)
    have h1:=hF y hy
    simp at hy
    simp [hy] at h2 ⊢
    rw [h2,h1]
   ·intro j' x' ns' h1 h2
    by_cases e:j' = i
    ·subst e
     rw [List.getElem?_set_self (by omega)] at h1
     rw [hns] at h2
     cases h1
     cases h2
     rw [if_pos (by omega)]
     exact hgk2
    ·rw [List.getElem?_set_ne (by omega)] at h1
     have h3:=hgd j' x' ns' h1 h2
     by_cases e2:j' < i
     ·rw [if_pos (by omega)]
      rwa [if_pos e2] at h3
     ·rw [if_neg (by omega)]
      rwa [if_neg e2] at h3
 ·simp [hlt]
  refine AM.wp_exit ?_
  simp
  have hie:i = ls.length:=by omega
  subst hie
  refine q _ s' ls' mg' ?_ hg' hll ?_ d
  ·intro y hy
   have h1:=hF y hy
   simp at hy
   simp [hy]
   exact h1
  ·intro j x ns h1 h2
   have:=hgd j x ns h1 h2
   rwa [if_pos (by have:=(List.getElem?_eq_some_iff.1 h1).1; omega)] at this
end
section
variable {s0 s:St} {W:Pos→Prop} {Bs hb:Pos} {bv vs:AVal} {bs:List Int} {k:SK} {r:Lets} {fr:FI} {t0:PT AVal} {Q:Ex→PT AVal→St→Prop}
theorem mg_act {cs:List CV} {m:Lets} (hB:Z2s s0 W bv bs) (hn:k.nx + 2000 < 2 ^ 62) (hG:HG cs) (hl:cs.length ≤ 60) (ht:tot cs ≤ 1000) (hH:Z26 hb vs cs m) (hc:Ctx s0 W ((Bs,Z0v bv k) :: (m ++ r)) s)
  (u5:PT.get (posOf 5) t0 = some (.ptr hb 0)) (u9:PT.get (posOf 9) t0 = some (.ptr Bs 0))
  (q:∀ t s' c k' e m',StepIs cs c→k'.nx ≤ k.nx + 300→(e = 0 ∨ e = 12)→PT.get (posOf 10) t = some (.int .i64 e)→Fr [10,11,12,40,46,68,69,76] t0 t→Z26 hb vs c m'→Ctx s0 W ((Bs,Z0v bv k') :: (m' ++ r)) s'→Q .normal t s'):wp Tryd.prog c6_34 fr t0 s Q:=by
 have a1:=Z3g bs 5 k
 have a2:=Z2d bs 5 k
 refine Z00 ?_
 simp [u9]
 refine Z02 ?_
 refine Z4f hB hc (by omega) (by decide) fun s1 c1 => ?_
 generalize Z0p bs 5 k = a at a1 a2 c1 ⊢
 have c2:=c1.perm (m':=m ++ ((Bs,Z0v bv a.2) :: r)) (Z0k fun y => by
  simp only [Z0j,Z0e,Z0q]
  omega)
 simp
 refine AM.wp_block ?_
 refine AM.wp_seq ?_
 refine Z00 ?_
 simp
 have hFr:∀ (t:PT AVal) (x y z u:AVal),Fr [10,11,12,40,46,68,69,76] t0 t→True:=fun _ _ _ _ _ _ => trivial
 have hmerge:∀ (t:PT AVal) (Q2:Ex→PT AVal→St→Prop),PT.get (posOf 5) t = some (.ptr hb 0)→(∀ t' s' c m',StepIs cs c→PT.get (posOf 10) t' = some (.int .i64 0)→Fr [10,11,12,68] t t'→Z26 hb vs c m'→Ctx s0 W (m' ++ ((Bs,Z0v bv a.2) :: r)) s'→Q2 .normal t' s')→wp Tryd.prog c6_43 fr t s1 Q2:=by
  intro t Q2 w5 hQ
  refine Z00 ?_
  simp [w5]
  refine Z02 ?_
  refine merge_c hH c2 hG.ok.toHOk fun m' s2 hH2 d2 => ?_
  obtain ⟨many,c,e,hM⟩:=Zpr hG (by omega) ht
  rw [e] at hH2 ⊢
  simp only at hH2
  have hS:=Zt3 hG ht hM
  simp
  refine Z00 ?_
  simp [w5]
  refine Z02 ?_
  refine tight_c hH2 d2 hS.good.ok.toHOk fun s3 d3 => ?_
  rw [Zxw hS.good.ok.toHOk (hM.tight hG.ok.toHOk)]
  simp
  refine Z00 ?_
  simp
  refine AM.Z03 ?_
  simp
  refine AM.wp_skip ?_
  refine hQ _ s3 c m' hS (by simp) ?_ hH2 d3
  intro y hy
  simp at hy
  simp [hy]
 have hfin:∀ (t t':PT AVal) (s':St) c m',StepIs cs c→PT.get (posOf 10) t' = some (.int .i64 0)→Fr [40,46] t0 t→Fr [10,11,12,68] t t'→Z26 hb vs c m'→Ctx s0 W (m' ++ ((Bs,Z0v bv a.2) :: r)) s'→Q .normal t' s':=by
  intro t t' s' c m' hS h10 hF1 hF2 hH' d
  refine q t' s' c a.2 0 m' hS (by omega) (.inl rfl) h10 ?_ hH' (d.perm (Z0k fun y => ?_))
  ·intro y hy
   simp at hy
   rw [hF2 y (by simp [hy]),hF1 y (by simp [hy])]
  ·simp only [Z0j,Z0e,Z0q]
   omega
 refine AM.Z03 ?_
 by_cases h0:a.1 = 0
 ·simp [h0]
  refine AM.wp_skip ?_
  simp
  refine AM.Z03 ?_
  simp
  refine hmerge _ _ (by simp [u5]) fun t' s' c m' hS h10 hF hH' d => ?_
  simp only [Z4k]
  refine hfin _ t' s' c m' hS h10 ?_ hF hH' d
  intro y hy
  simp at hy
  simp [hy]
 ·by_cases h1:a.1 = 1
  ·simp [h1]
   refine AM.wp_region ?_
   simp [h1]
   refine AM.Z03 ?_
   simp
   refine hmerge _ _ (by simp [u5]) fun t' s' c m' hS h10 hF hH' d => ?_
   simp only [Z4k]
   refine hfin _ t' s' c m' hS h10 ?_ hF hH' d
   intro y hy
   simp at hy
   simp [hy]
  ·simp [h0]
   refine AM.wp_region ?_
   simp [h1]
   refine AM.Z03 ?_
   simp
   refine Z00 ?_
   simp
   refine AM.Z03 ?_
   by_cases h2:a.1 = 2
   ·simp [h2]
    refine AM.wp_region ?_
    simp [u5]
    refine Z02 ?_
    refine sweep_c hH c2 hG.ok fun m' s2 hH2 d2 => ?_
    have hS:=Zt4 hG ht (Zq8 hG)
    have he:(Zdt cs).2.1 = 0:=rfl
    rw [he]
    simp
    refine q _ s2 _ a.2 0 m' hS (by omega) (.inl rfl) (by simp) ?_ hH2 (d2.perm (Z0k fun y => ?_))
    ·intro y hy
     simp at hy
     simp [hy]
    ·simp only [Z0j,Z0e,Z0q]
     omega
   ·simp [h2]
    refine Z00 ?_
    simp
    refine AM.Z03 ?_
    by_cases h3:a.1 = 3
    ·simp [h3]
     refine AM.wp_region ?_
     simp [u5,u9]
     refine Z02 ?_
     have g1:=Zp3 bs (nodes:=3) a.2
     obtain ⟨o1,o2,o3,o4,o5,o6⟩:=Zp4 bs (nodes:=3) (by decide) a.2
     refine Zw6 hB c1 (by omega) (by decide) (by decide) fun nv mn s2 hN d2 => ?_
     generalize Z5v bs 3 a.2 = t at hN d2 g1 o1 o2 o3 o4 o5 o6 ⊢
     simp
     refine Z02 ?_
     have d3:=d2.perm (m':=m ++ ((Bs,Z0v bv t.2) :: (mn ++ r))) (Z0k fun y => by
      simp only [Z0j,Z0e,Z0q]
      omega)
     have d4:=d2.sub (m':=mn) ((List.sublist_append_left mn _).trans (List.sublist_cons_self _ _))
     have hz:Z15 t.1.1 t.1.2 = 0:=Zfd o1 o3 (by omega) (fun nd hnd => (o2 nd hnd).1) o5 o6
     refine put_c hH d3 hG.ok.toHOk (hN.at0 d4) (fun nd hnd => ⟨by have:=(o2 nd hnd).2; omega,by have:=(o1 nd hnd).1; omega⟩) (by omega) fun m' s3 hH' d5 => ?_
     have hS:=Zjs hG ht (Zkk hG t.1.1 t.1.2)
     have he:(putF cs t.1.1 t.1.2).2.1 = 0 ∨ (putF cs t.1.1 t.1.2).2.1 = 12:=by
      rcases Zlw hG hz with ⟨h,_,_⟩ | ⟨a,h,_,_,_⟩ | ⟨a,f,c,h,_,_,_,_,_,_⟩
      ·rw [h]; exact .inr rfl
      ·rw [h]; exact .inl rfl
      ·rw [h]; exact .inl rfl
     generalize putF cs t.1.1 t.1.2 = x at hH' hS he ⊢
     simp
     refine q _ s3 _ t.2 x.2.1 m' hS (by omega) he (by simp) ?_ hH' ((d5.perm (m':=((Bs,Z0v bv t.2) :: (m' ++ r)) ++ mn) (Z0k fun y => ?_)).sub (List.sublist_append_left _ _))
     ·intro y hy
      simp at hy
      simp [hy]
     ·simp only [Z0j,Z0e,Z0q]
      omega
    ·simp [h3]
     refine AM.wp_region ?_
     simp [u5]
     refine Z02 ?_
     refine Zv1 hH c2 (by decide) (.inl ⟨rfl,rfl⟩) (by decide) fun m' s2 hH' d2 => ?_
     have hS:=Zjs hG ht (Zli hG [97] [])
     have he:=mkF_err cs hG
     generalize mkF cs [97] [] = x at hH' hS he ⊢
     simp
     refine q _ s2 _ a.2 x.2.1 m' hS (by omega) he (by simp) ?_ hH' (d2.perm (Z0k fun y => ?_))
     ·intro y hy
      simp at hy
      simp [hy]
     ·simp only [Z0j,Z0e,Z0q]
      omega
end
theorem Zvz (bs:List Int) (n:Int) {cs:List CV} (hG:HG cs) (k:SK):tot (Z81 bs n cs k).1 ≤ tot cs + 1:=by
 obtain ⟨a,ha,h⟩:=Zab bs n cs k
 rcases h with ⟨_,t,ht,e⟩ | ⟨_,_,x,y,z,hx,hy,hz,e⟩ | ⟨_,_,_,x,hx,e⟩ | ⟨_,_,_,m,kk,d,w,hm,hk,hd,hw,e⟩
 ·rw [e]
  have:=(Zkk hG t.1.1 t.1.2).tot hG
  simp only
  omega
 ·rw [e]
  have:=Zxv cs x.1 y.1 z.1
  simp only
  omega
 ·rw [e]
  exact Zup hG x.1
 ·rw [e]
  have:=(Zli hG ((nm6[(kk * 2 + w.1).toNat]?).getD []) d.1).tot hG
  simp only
  omega
theorem Zhm (bs:List Int) (n:Int) {cs:List CV} (hG:HG cs):∀ (i:Nat) (k:SK),tot (Z2t bs n i (cs,k)).1 ≤ tot cs + i
 | 0,k => by
  show tot cs ≤ _
  omega
 | i + 1,k => by
  have h1:=Zhm bs n hG i k
  have h2:=Zvz bs n (Zbh bs n hG i k).1 (Z2t bs n i (cs,k)).2
  rw [Z9d]
  omega
theorem Znb:∀ n:Nat,tot (List.replicate n Z2g) = 0
 | 0 => rfl
 | n + 1 => by
  rw [List.replicate_succ]
  simp only [tot,Znb n]
  rfl
theorem Zpl (bs:List Int) {cells:Int} (h4:4 ≤ cells) (h24:cells ≤ 24) (k:SK):tot (Z8r bs cells k).1 ≤ 1000:=by
 obtain ⟨a,b,ha,hb,e⟩:=Ze8 bs cells k
 have h1:=Z49 bs 4 cells k
 rw [← ha] at h1
 have h2:=Z3g bs (2 * a.1) a.2
 rw [← hb] at h2
 rw [e]
 have:=Zhm bs a.1 (Zk5 a.1.toNat) b.1.toNat b.2
 rw [Znb] at this
 omega
section
variable {s:St} {Q:AVal→St→Prop}
theorem Zor (bs:List Int):(Zbi bs).nx = 0:=by
 unfold Zbi
 rfl
theorem Zps {bv1 bv2:AVal} {bs1 bs2:List Int} (hw:s.Wf) (hB1:Z2s s (fun _ => False) bv1 bs1) (hB2:Z2s s (fun _ => False) bv2 bs2) (q:∀ s',Q (.bool true) s'):Z0c Tryd.prog 6 [bv1,bv2] s Q:=by
 have hbt1:=hB1.ntup
 have hbt2:=hB2.ntup
 have c0:=Ctx.start (fun _ => False) hw
 refine Z08 (Z0i (by decide)) fi6 rfl (by decide) rfl ?_
 refine Z00 ?_
 simp
 refine Z00 ?_
 simp
 refine Z02 ?_
 refine Zuk hB1 c0 fun B1 s1 c1 => ?_
 simp
 refine Z02 ?_
 refine Zwp hB1 c1 (by rw [Zor]; decide) (by decide) (by decide) fun hb m s2 hH c2 => ?_
 obtain ⟨hG,hl4,hl20⟩:=Zs1 bs1 (cells:=20) (by decide) (Zbi bs1)
 have htot:=Zpl bs1 (cells:=20) (by decide) (by decide) (Zbi bs1)
 generalize Z8r bs1 20 (Zbi bs1) = F at hH c2 hG hl4 hl20 htot
 have c3:=c2.sub (m':=m ++ []) (List.sublist_cons_self _ _)
 simp
 refine AM.wp_seq ?_
 refine Z00 ?_
 simp
 refine AM.Z03 ?_
 simp
 refine AM.wp_skip ?_
 simp
 refine Z00 ?_
 simp
 refine Z02 ?_
 refine seen_c hH c3 hG (by omega) fun lv mg tv mt s3 hg hT c4 => ?_
 have hlen:=Zck F.1 F.1.length
 have hgood:∀ (j:Nat) x ns,(Z21 F.1 F.1.length)[j]? = some x→((Z21 F.1 F.1.length).map fun i => Z27 F.1 i.toNat)[j]? = some ns→GoodK F.1 x ns:=by
  intro j x ns h1 h2
  rw [List.getElem?_map,h1] at h2
  cases h2
  have hx:=List.mem_of_getElem? h1
  obtain ⟨e1,_,e3⟩:=Z8s hx
  refine ⟨e1,e3,?_,rfl⟩
  unfold Z21 at hx
  obtain ⟨y,hy,rfl⟩:=List.mem_map.1 hx
  obtain ⟨_,hy2⟩:=List.mem_filter.1 hy
  rw [Int.toNat_natCast]
  unfold Z1z
  cases hc:F.1[y]? with
  | none => rw [hc] at hy2; cases hy2
  | some c => rw [hc] at hy2; simpa using hy2
 generalize hls:Z21 F.1 F.1.length = ls at hg hT hlen hgood
 generalize hNS:ls.map (fun i => Z27 F.1 i.toNat) = NS at hT hgood
 have hln:ls.length = NS.length:=by rw [← hNS]; simp
 simp
 refine AM.wp_seq ?_
 refine Z00 ?_
 simp
 refine AM.Z03 ?_
 simp
 refine AM.wp_skip ?_
 simp
 refine Z00 ?_
 simp
 refine Z02 ?_
 refine Zuk hB2 c4 fun Bs s4 c5 => ?_
 simp
 have hnx0:=Zor bs2
 generalize Zbi bs2 = k0 at c5 hnx0
 refine AM.wp_seq ?_
 refine Z00 ?_
 simp
 refine AM.wp_block ?_
 refine AM.wp_loop (fun x t s' => ∃ (i:Nat) (cs:List CV) (k:SK) (m:Lets) (ls':List Int) (mg:Lets),i ≤ 6∧x = 6 - i∧PT.get (posOf 5) t = some (.ptr hb 0)∧PT.get (posOf 7) t = some lv∧PT.get (posOf 8) t = some tv∧PT.get (posOf 9) t = some (.ptr Bs 0)∧PT.get (posOf 37) t = some (.int .i64 i) ∧
   k.nx ≤ 300 * i∧HG cs∧cs.length ≤ 60∧tot cs ≤ 1000∧Z26 hb .nilSlice cs m∧Z1d lv ls' mg∧ls'.length = ls.length∧(∀ (j:Nat) x ns,ls'[j]? = some x→NS[j]? = some ns→GoodK cs x ns) ∧
   Ctx s (fun _ => False) ((Bs,Z0v bv2 k) :: (mg ++ (mt ++ (m ++ [])))) s') 6
   ⟨0,F.1,k0,m,ls,mg,by simp,by simp,by simp,by simp,by simp,by simp,by simp,by omega,hG,by omega,htot,hH,hg,rfl,hgood,c5⟩ ?_
 rintro x t s' ⟨i,cs,k,m,ls',mg,hi,rfl,t5,t7,t8,t9,t37,hnx,hG,hcl,htot,hH,hg,hll,hgood,d⟩
 refine Z00 ?_
 simp [t37]
 refine AM.wp_seq ?_
 refine AM.Z03 ?_
 by_cases hlt:i < 6
 ·have hwr:IntKind.wrap .i64 ((i:Int) + 1) = ((i + 1:Nat):Int):=by rw [IntWalk.i64_in _ (by omega)]; omega
  have hlt':(i:Int) < 6:=by omega
  simp [hlt']
  refine AM.wp_skip ?_
  simp
  refine AM.wp_seq ?_
  refine AM.wp_block ?_
  refine Z00 ?_
  simp
  refine AM.wp_seq ?_
  have d1:=d.perm (m':=(Bs,Z0v bv2 k) :: (m ++ (mg ++ mt))) (Z0k fun y => by
   simp only [Z0j,Z0e,Z0q]
   omega)
  refine mg_act hB2 (by omega) hG hcl htot hH d1 (by simp [t5]) (by simp [t9]) fun t2 s5 c k2 e m2 hS hnx2 he t10 hF hH2 d2 => ?_
  have v5:PT.get (posOf 5) t2 = some (.ptr hb 0):=(hF 5 (by simp)).trans (by simp [t5])
  have v7:PT.get (posOf 7) t2 = some lv:=(hF 7 (by simp)).trans (by simp [t7])
  have v8:PT.get (posOf 8) t2 = some tv:=(hF 8 (by simp)).trans (by simp [t8])
  have v9:PT.get (posOf 9) t2 = some (.ptr Bs 0):=(hF 9 (by simp)).trans (by simp [t9])
  have v37:PT.get (posOf 37) t2 = some (.int .i64 i):=(hF 37 (by simp)).trans (by simp [t37])
  simp only [andThen]
  refine AM.wp_seq ?_
  refine Z00 ?_
  have hlook:∀ t3:PT AVal,PT.get (posOf 5) t3 = some (.ptr hb 0)→PT.get (posOf 7) t3 = some lv→PT.get (posOf 8) t3 = some tv→PT.get (posOf 9) t3 = some (.ptr Bs 0)→PT.get (posOf 37) t3 = some (.int .i64 i)→∀ Q2:Ex→PT AVal→St→Prop,
    (∀ t4 s6 ls2 mg2,PT.get (posOf 5) t4 = some (.ptr hb 0)→PT.get (posOf 7) t4 = some lv→PT.get (posOf 8) t4 = some tv→PT.get (posOf 9) t4 = some (.ptr Bs 0)→PT.get (posOf 37) t4 = some (.int .i64 i)→Z1d lv ls2 mg2→ls2.length = ls.length→(∀ (j:Nat) x ns,ls2[j]? = some x→NS[j]? = some ns→GoodK c x ns) →
     Ctx s (fun _ => False) ((Bs,Z0v bv2 k2) :: (mg2 ++ (mt ++ (m2 ++ [])))) s6→Q2 .normal t4 s6)→wp Tryd.prog Zrl { fn:=6,ntmps:=146,ps:=[142,132,133,137,136,138,139,135,140,141,134,127,18,15,17,13,8,105,16,14,91,94,92,93,7,90,76,69,68,11,12,10,46,40,9,38,37,1,34,5,26,6,0,4],round:=none } t3 s5 Q2:=by
   intro t3 w5 w7 w8 w9 w37 Q2 hQ2
   have d3:=d2.perm (m':=mg ++ (mt ++ (m2 ++ [(Bs,Z0v bv2 k2)]))) (Z0k fun y => by
    simp only [Z0j,Z0e,Z0q]
    omega)
   refine mg_look hG hcl hS hH2 hg hT (by omega) (by omega) hgood d3 w5 w7 w8 fun t4 s6 ls2 mg2 hF4 hg2 hl2 hgood2 d4 => ?_
   exact hQ2 t4 s6 ls2 mg2 ((hF4 5 (by simp)).trans w5) ((hF4 7 (by simp)).trans w7) ((hF4 8 (by simp)).trans w8) ((hF4 9 (by simp)).trans w9) ((hF4 37 (by simp)).trans w37) hg2 (by omega) hgood2 (d4.perm (Z0k fun y => by
    simp only [Z0j,Z0e,Z0q]
    omega))
  have hend:∀ (t4:PT AVal) (s6:St) (ls2:List Int) (mg2:Lets),PT.get (posOf 5) t4 = some (.ptr hb 0)→PT.get (posOf 7) t4 = some lv→PT.get (posOf 8) t4 = some tv→PT.get (posOf 9) t4 = some (.ptr Bs 0)→PT.get (posOf 37) t4 = some (.int .i64 i)→Z1d lv ls2 mg2→ls2.length = ls.length→(∀ (j:Nat) x ns,ls2[j]? = some x→NS[j]? = some ns→GoodK c x ns) →
     Ctx s (fun _ => False) ((Bs,Z0v bv2 k2) :: (mg2 ++ (mt ++ (m2 ++ [])))) s6→∃ mm,mm < 6 - i∧∃ (i':Nat) (cs:List CV) (k:SK) (m:Lets) (ls':List Int) (mg:Lets),i' ≤ 6∧mm = 6 - i'∧PT.get (posOf 5) (PT.set (posOf 37) (.int .i64 ((i:Int) + 1)) t4) = some (.ptr hb 0)∧PT.get (posOf 7) (PT.set (posOf 37) (.int .i64 ((i:Int) + 1)) t4) = some lv∧PT.get (posOf 8) (PT.set (posOf 37) (.int .i64 ((i:Int) + 1)) t4) = some tv∧PT.get (posOf 9) (PT.set (posOf 37) (.int .i64 ((i:Int) + 1)) t4) = some (.ptr Bs 0)∧PT.get (posOf 37) (PT.set (posOf 37) (.int .i64 ((i:Int) + 1)) t4) = some (.int .i64 i') ∧
   k.nx ≤ 300 * i'∧HG cs∧cs.length ≤ 60∧tot cs ≤ 1000∧Z26 hb .nilSlice cs m∧Z1d lv ls' mg∧ls'.length = ls.length∧(∀ (j:Nat) x ns,ls'[j]? = some x→NS[j]? = some ns→GoodK cs x ns) ∧
   Ctx s (fun _ => False) ((Bs,Z0v bv2 k) :: (mg ++ (mt ++ (m ++ [])))) s6:=by
   intro t4 s6 ls2 mg2 w5 w7 w8 w9 w37 hg2 hl2 hgood2 d4
   exact ⟨6 - (i + 1),by omega,i + 1,c,k2,m2,ls2,mg2,by omega,rfl,by simp [w5],by simp [w7],by simp [w8],by simp [w9],by simp,by omega,hS.good,by rw [hS.len]; exact hcl,hS.tot,hH2,hg2,hl2,hgood2,d4⟩
  rcases he with rfl | rfl
  ·simp [t10]
   refine AM.Z03 ?_
   simp
   refine AM.wp_skip ?_
   simp
   refine hlook _ (by simp [v5]) (by simp [v7]) (by simp [v8]) (by simp [v9]) (by simp [v37]) _ fun t4 s6 ls2 mg2 w5 w7 w8 w9 w37 hg2 hl2 hgood2 d4 => ?_
   simp only [Z4k,andThen]
   refine AM.wp_region ?_
   simp only [show (i:Int) + 1 = ((i + 1:Nat):Int) from by omega] at hend
   simp [w37,hwr]
   have:=hend t4 s6 ls2 mg2 w5 w7 w8 w9 w37 hg2 hl2 hgood2 d4
   simpa using this
  ·simp [t10]
   refine AM.Z03 ?_
   simp
   refine AM.wp_skip ?_
   simp
   refine hlook _ (by simp [v5]) (by simp [v7]) (by simp [v8]) (by simp [v9]) (by simp [v37]) _ fun t4 s6 ls2 mg2 w5 w7 w8 w9 w37 hg2 hl2 hgood2 d4 => ?_
   simp only [Z4k,andThen]
   refine AM.wp_region ?_
   simp only [show (i:Int) + 1 = ((i + 1:Nat):Int) from by omega] at hend
   simp [w37,hwr]
   have:=hend t4 s6 ls2 mg2 w5 w7 w8 w9 w37 hg2 hl2 hgood2 d4
   simpa using this
 ·have hlt':¬ (i:Int) < 6:=by omega
  simp [hlt']
  refine AM.wp_exit ?_
  simp
  refine Z00 ?_
  simp
  refine Z02 ?_
  refine Zjz Zvh ?_
  simp
  refine AM.wp_ret ?_
  simp
  exact q s'
end
end Go.Proofs
end
