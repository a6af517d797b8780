/- Parts of the proof: Abr2, AC1, AC2, AC3, AC4, AC5, Ord, Can1, Mgd, Swp, Grw, PermC, Sav, MovP, Pck1, Mgd2, Lst, Can2, Fnd1, Fnd2, Fin. -/
import Derived.Test.YtoipnedbpjfeiaaDoorAu06
set_option linter.all false
set_option linter.unusedSectionVars false
set_option linter.unusedSimpArgs false
set_option linter.unusedVariables false
section
open Go Go.AM
namespace Go.Proofs
set_option maxRecDepth 100000
section
variable {s0 s:St} {fr:FI} {t0:PT AVal} {ns:List ND} {nv lv rv:AVal} {n:Nat} {Bm:Pos} {v:List Nat} {mg:Lets}
theorem Zpo {i:Nat} {Q:Ex→PT AVal→St→Prop} (hN:Z1k s0 nv ns) (hO:GrOk ns) (hmax:ns.length ≤ 1000) (hg:Z1a lv (nats v) mg) (hnd:v.Nodup) (hlt:∀ x ∈ v,x < ns.length) (hi:i ≤ ns.length)
  (hc:Ctx s0 (fun _ => False) ((Bm,C (metL ns.length v)) :: mg) s)
  (t0':PT.get (posOf 0) t0 = some nv) (t5:PT.get (posOf 5) t0 = some (.slice Bm 0 ns.length (.lim ns.length))) (t6:PT.get (posOf 6) t0 = some lv) (t9:PT.get (posOf 9) t0 = some (.int .i64 i))
  (q:∀ t s' lv' mg',Fr [6,9,11,38,48,49,50,51,58] t0 t→PT.get (posOf 6) t = some lv'→Z1a lv' (nats (runB (kidG ns) (ns.length + 1 - i) v i)) mg'→Ctx s0 (fun _ => False) ((Bm,C (metL ns.length (runB (kidG ns) (ns.length + 1 - i) v i))) :: mg') s'→Q .normal t s'):wp Tryd.prog Zt4 fr t0 s Q:=by
 refine AM.wp_block ?_
 refine AM.wp_loop (fun k t s' => ∃ (j:Nat) (u:List Nat) (lv':AVal) (mg':Lets),j ≤ ns.length∧k = ns.length + 1 - j∧Fr [6,9,11,38,48,49,50,51,58] t0 t∧PT.get (posOf 6) t = some lv'∧PT.get (posOf 9) t = some (.int .i64 j)∧runB (kidG ns) (ns.length + 1 - i) v i = runB (kidG ns) (ns.length + 1 - j) u j ∧
   Z1a lv' (nats u) mg'∧u.Nodup∧(∀ x ∈ u,x < ns.length)∧Ctx s0 (fun _ => False) ((Bm,C (metL ns.length u)) :: mg') s') (ns.length + 1 - i) ⟨i,v,lv,mg,hi,rfl,fun y _ => rfl,t6,t9,rfl,hg,hnd,hlt,hc⟩ ?_
 rintro k t s' ⟨j,u,lv',mg',hj,rfl,hF,t6',t9',hrun,hg',hnd',hlt',hc'⟩
 have hul:=Z2a hnd' hlt'
 have u0:=(hF 0 (by simp)).trans t0'
 have u5:=(hF 5 (by simp)).trans t5
 refine AM.wp_seq ?_
 refine Z00 ?_
 have hgl:=hg'.len
 rw [List.length_map] at hgl
 simp [t6',t9',hg'.ntup,hgl]
 refine AM.Z03 ?_
 by_cases hjl:j < u.length
 ·obtain ⟨a,ha⟩:∃ a,u[j]? = some a:=⟨_,List.getElem?_eq_getElem hjl⟩
  have hwr:IntKind.wrap .i64 ((j:Int) + 1) = ((j + 1:Nat):Int):=by rw [IntWalk.i64_in _ (by omega)]; omega
  simp [hjl]
  refine AM.wp_skip ?_
  simp
  refine AM.wp_seq ?_
  refine AM.wp_block ?_
  refine Zuz hN hO hmax hg' hnd' hlt' ha hc' (by simp [u0]) (by simp [u5]) (by simp [t6']) (by simp [t9']) fun t2 s2 lv2 mg2 hF2 g6 hg2 hc2 => ?_
  have g9:PT.get (posOf 9) t2 = some (.int .i64 j):=(hF2 9 (by simp)).trans (by simp [t9'])
  obtain ⟨b1,b2⟩:=Zab hnd' hlt' (hO.Z9k a (hlt' a (List.mem_of_getElem? ha)))
  simp
  refine AM.wp_region ?_
  simp [g9,g6,hwr]
  refine ⟨ns.length + 1 - (j + 1),by omega,j + 1,by omega,by omega,?_,by simp,Z0a u (kidG ns a),?_,mg2,hg2,b1,b2,hc2⟩
  ·intro y hy
   simp at hy
   simp [hy]
   rw [hF2 y (by simp [hy])]
   simp [hy]
   exact hF y (by simp [hy])
  ·rw [hrun,Zm0 hj ha]
 ·simp [hjl]
  refine AM.wp_exit ?_
  simp
  rw [hrun,Zlz (by omega)] at q
  refine q _ s' lv' mg' ?_ (by simp [t6']) hg' hc'
  intro y hy
  simp at hy
  simp [hy]
  exact hF y (by simp [hy])
theorem Zer {roots:List Nat} {Q:AVal→St→Prop} (hwf:s.Wf) (hN:Z1k s nv ns) (hO:GrOk ns) (hmax:ns.length ≤ 1000) (hrv:Z0e s rv (nats roots)) (hrl:roots.length ≤ 1000) (hr:∀ a ∈ roots,a < ns.length)
  (q:∀ lv mg s',Z1a lv (nats (bfsF (kidG ns) ns.length roots)) mg→Ctx s (fun _ => False) mg s'→Q lv s'):Z0f Tryd.prog 69 [nv,rv] s Q:=by
 have hz1:ns.length ≤ Z0j:=by unfold Z0j; omega
 have hrlen:=hrv.len
 rw [List.length_map] at hrlen
 refine Z09 (Z0n (by decide)) fi69 rfl (by decide) rfl ?_
 refine Z00 ?_
 simp
 refine Z00 ?_
 simp [hN.ntup,hN.len,hz1]
 have c1:=(Ctx.start (fun _ => False) hwf).alloc (C (List.replicate ns.length (.bool false)))
 generalize s.alloc (.cells (List.replicate ns.length (.bool false)) false) = s1 at c1 ⊢
 generalize s.next = Bm at c1 ⊢
 have hm0:List.replicate ns.length (AVal.bool false) = metL ns.length []:=by
  refine List.ext_getElem? fun j => ?_
  by_cases hj:j < ns.length
  ·rw [Z5s _ hj,List.getElem?_replicate,if_pos hj]
   simp
  ·rw [List.getElem?_eq_none (by simp; omega),List.getElem?_eq_none (by rw [Z3j]; omega)]
 rw [hm0] at c1
 refine Z00 ?_
 simp
 refine AM.wp_seq ?_
 refine Z00 ?_
 simp [hrv.ntup,hrlen]
 refine AM.wp_block ?_
 refine AM.wp_loop (fun k t s' => ∃ (j:Nat) (lv:AVal) (mg:Lets),j ≤ roots.length∧k = roots.length - j∧PT.get (posOf 0) t = some nv∧PT.get (posOf 5) t = some (.slice Bm 0 ns.length (.lim ns.length))∧PT.get (posOf 6) t = some lv∧PT.get (posOf 15) t = some rv∧PT.get (posOf 16) t = some (.int .i64 roots.length)∧PT.get (posOf 17) t = some (.int .i64 j) ∧
   Z1a lv (nats (bfsF (kidG ns) ns.length (roots.take j))) mg∧Ctx s (fun _ => False) ((Bm,C (metL ns.length (bfsF (kidG ns) ns.length (roots.take j)))) :: mg) s') roots.length
  ⟨0,.nilSlice,[],by simp,by simp,by simp,by simp,by simp,by simp,by simp,by simp,.inl ⟨by simp [bfsF],rfl,rfl⟩,by simpa [bfsF] using c1⟩ ?_
 rintro k t s' ⟨j,lv,mg,hj,rfl,t0',t5,t6,t15,t16,t17,hg,hc⟩
 refine Z00 ?_
 simp [t16,t17]
 refine AM.wp_seq ?_
 refine AM.Z03 ?_
 by_cases hlt:j < roots.length
 ·have hwr:IntKind.wrap .i64 ((j:Int) + 1) = ((j + 1:Nat):Int):=by rw [IntWalk.i64_in _ (by omega)]; omega
  obtain ⟨a,ha⟩:∃ a,roots[j]? = some a:=⟨_,List.getElem?_eq_getElem hlt⟩
  have han:=hr a (List.mem_of_getElem? ha)
  rcases hrv.keep hc.Z0b with ⟨_,h0⟩ | ⟨b,o,c,cells,rfl,hb,hcs,hle,hel⟩
  ·have:roots = []:=by simpa using h0
   rw [this] at hlt
   simp at hlt
  have hgk:=hel j (a:Int) (by rw [List.getElem?_map,ha]; rfl)
  rw [List.length_map] at t15
  have hgl:=hg.len
  rw [List.length_map] at hgl
  obtain ⟨f1,f2,_⟩:=Zdm (n:=ns.length) hO.Z9k (roots.take j) (fun x hx => hr x (List.mem_of_mem_take hx))
  have hful:=Z2a f1 f2
  have hmet:=Z5s (bfsF (kidG ns) ns.length (roots.take j)) han
  have hnx:bfsF (kidG ns) ns.length (roots.take (j + 1)) = runB (kidG ns) (ns.length + 1 - (bfsF (kidG ns) ns.length (roots.take j)).length) (addN (bfsF (kidG ns) ns.length (roots.take j)) a) (bfsF (kidG ns) ns.length (roots.take j)).length:=by
   unfold bfsF
   rw [List.take_add_one,ha,List.foldl_append]
   rfl
  generalize hv:bfsF (kidG ns) ns.length (roots.take j) = v at hg hc hgl f1 f2 hful hmet hnx
  simp [hlt]
  refine AM.wp_skip ?_
  simp
  refine AM.wp_seq ?_
  refine AM.wp_block ?_
  refine Z00 ?_
  simp [t15,t17,hlt,hcs,hgk]
  refine Z00 ?_
  simp [t6,hg.ntup,hgl]
  refine AM.wp_seq ?_
  refine Z00 ?_
  simp [t5,han,hc.c 0 rfl,hmet]
  refine AM.Z03 ?_
  by_cases hm:a ∈ v
  ·have hadd:addN v a = v:=by unfold addN; rw [if_pos hm]
   rw [hadd] at hnx
   simp [hm]
   refine AM.wp_skip ?_
   simp
   refine Zpo (i:=v.length) hN hO hmax hg f1 f2 hful hc (by simp [t0']) (by simp [t5]) (by simp [t6]) (by simp) fun t2 s2 lv2 mg2 hF2 g6 hg2 hc2 => ?_
   rw [← hnx] at hg2 hc2
   have g17:PT.get (posOf 17) t2 = some (.int .i64 j):=(hF2 17 (by simp)).trans (by simp [t17])
   simp
   refine AM.wp_region ?_
   simp [g17,g6,hwr]
   refine ⟨roots.length - (j + 1),by omega,j + 1,by omega,by omega,?_,?_,?_,?_,rfl,mg2,hg2,hc2⟩
   ·rw [hF2 0 (by simp)]; simp [t0']
   ·rw [hF2 5 (by simp)]; simp [t5]
   ·rw [hF2 15 (by simp)]; simp [t15]
   ·rw [hF2 16 (by simp)]; simp [t16]
  ·have hadd:addN v a = v ++ [a]:=by unfold addN; rw [if_neg hm]
   have hset:=Ze0 han hm
   have hle5:a + 1 ≤ (metL ns.length v).length:=by rw [Z3j]; omega
   have hnd2:=Z8v (k:=a) f1
   have hlt2:=Zcx f2 han
   simp [lay] at hset
   simp [hm]
   refine AM.wp_seq ?_
   refine AM.wp_region ?_
   simp [t5,han,hc.o 0 rfl,hle5]
   rw [hset]
   have d1:=hc.put 0 rfl (C (metL ns.length (addN v a)))
   simp only [List.set_cons_zero] at d1
   generalize s'.put Bm (.cells (metL ns.length (addN v a)) false) = s2 at d1 ⊢
   refine AM.wp_region ?_
   simp [t6,hg.ntup,Z13,srcP]
   have d2:=d1.alloc (C [.int .i64 a])
   generalize s2.alloc (.cells [.int .i64 a] false) = s3 at d2 ⊢
   generalize s2.next = T at d2 ⊢
   refine Z4t (pre:=[(T,C [.int .i64 a]),(Bm,C (metL ns.length (addN v a)))]) (r:=[]) (by simpa using d2) hg (by simp; omega) fun lv2 mg2 s4 hg2 d3 => ?_
   simp only [List.cons_append,List.nil_append,List.append_nil] at d3
   have hg2':Z1a lv2 (nats (addN v a)) mg2:=by
    rw [hadd]
    simpa using hg2
   refine Zpo (i:=v.length) hN hO hmax hg2' hnd2 hlt2 hful d3.tail (by simp [t0']) (by simp [t5]) (by simp) (by simp) fun t2 s5 lv5 mg5 hF2 g6 hg5 hc5 => ?_
   rw [← hnx] at hg5 hc5
   have g17:PT.get (posOf 17) t2 = some (.int .i64 j):=(hF2 17 (by simp)).trans (by simp [t17])
   simp
   refine AM.wp_region ?_
   simp [g17,g6,hwr]
   refine ⟨roots.length - (j + 1),by omega,j + 1,by omega,by omega,?_,?_,?_,?_,rfl,mg5,hg5,hc5⟩
   ·rw [hF2 0 (by simp)]; simp [t0']
   ·rw [hF2 5 (by simp)]; simp [t5]
   ·rw [hF2 15 (by simp)]; simp [t15]
   ·rw [hF2 16 (by simp)]; simp [t16]
 ·simp [hlt]
  refine AM.wp_exit ?_
  simp
  have hje:j = roots.length:=by omega
  subst hje
  rw [List.take_length] at hg hc
  refine Z00 ?_
  simp [t6,hg.ntup]
  refine AM.wp_ret ?_
  simp
  exact q lv mg s' hg hc.tail
end
theorem Zv5 {fr:FI} {s0 s:St} {t0:PT AVal} {p Bn Bk:Pos} {nds:List (List UInt8 × List Int)} {nd:List UInt8 × List Int} {a:Nat} {now:List Int} {c0 c1:Cap} {Q:Ex→PT AVal→St→Prop}
  (hN:NodesG s0 p nds) (hk0:Keeps s0 s) (hnd:nds[a]? = some nd) (h4:nd.2.length ≤ 4) (hin:∀ k ∈ nd.2,0 ≤ k∧k < nds.length) (hlen:now.length = nds.length)
  (h0:PT.get (posOf 0) t0 = some (.slice p 0 nds.length c0)) (h11:PT.get (posOf 12) t0 = some (.int .i64 a)) (h5:PT.get (posOf 6) t0 = some (.slice Bn 0 nds.length c1)) (h12:PT.get (posOf 13) t0 = some (.ptr Bk 0))
  (hBn:s.cells Bn = some (now.map fun k => .int .i64 k)) (hob:s.Old Bn) (hne:Bn ≠ Bk) (hBk:s.own Bk = some (sgK now nd 0).cells) (hoBk:s.Old Bk) (hfr:¬ s0.Old Bk)
  (q:∀ t s',Fr [14,15,56,57,58,59] t0 t→Same [Bk] s s'→s'.own Bk = some (sgK now nd 4).cells→Q .normal t s'):wp Tryd.prog Zt9 fr t0 s Q:=by
 have hf:∀ b ∈ [Bk],¬ s0.Old b:=by simpa using hfr
 obtain ⟨cs,hcs,hle,hel⟩:=(hN.keep hk0).ex
 obtain ⟨hel0,kv,hel1,hkv⟩:=hel a nd hnd
 have ha:a < nds.length:=(List.getElem?_eq_some_iff.1 hnd).1
 have hkv0:Z0e s0 kv nd.2:=by
  obtain ⟨cs0,hcs0,_,hel00⟩:=hN.ex
  have e:cs0 = cs:=by
   have:=hk0.cells hN.old
   rw [hcs,hcs0] at this
   exact (Option.some.inj this).symm
  subst e
  obtain ⟨_,kv',h1,h2⟩:=hel00 a nd hnd
  rw [hel1] at h1
  cases h1
  exact h2
 refine Z00 ?_
 simp [h0,h11,ha,hcs,hel1,hkv.len]
 refine AM.wp_block ?_
 refine AM.wp_loop (fun m t s' => ∃ i:Nat,i ≤ nd.2.length∧m = nd.2.length - i∧Fr [14,15,56,57,58,59] t0 t∧PT.get (posOf 56) t = some kv∧PT.get (posOf 57) t = some (.int .i64 nd.2.length)∧PT.get (posOf 58) t = some (.int .i64 i)∧Same [Bk] s s'∧s'.own Bk = some (sgK now nd i).cells) nd.2.length ⟨0,by simp,by simp,?_,by simp,by simp,by simp,Same.refl _ _,hBk⟩ ?_
 ·intro x hx
  simp at hx
  simp [hx]
 rintro m t s' ⟨i,hi,rfl,hF,t55,t56,t57,hS,hO⟩
 refine Z00 ?_
 simp [t56,t57]
 refine AM.wp_seq ?_
 refine AM.Z03 ?_
 by_cases hlt:i < nd.2.length
 ·obtain ⟨k,hk⟩:∃ k,nd.2[i]? = some k:=⟨_,List.getElem?_eq_getElem hlt⟩
  obtain ⟨hk1,hk2⟩:=hin k (List.mem_of_getElem? hk)
  obtain ⟨x,hx⟩:∃ x,now[k.toNat]? = some x:=⟨_,List.getElem?_eq_getElem (by omega)⟩
  have hwr:IntKind.wrap .i64 ((i:Int) + 1) = ((i + 1:Nat):Int):=by rw [IntWalk.i64_in _ (by omega)]; omega
  have hkeep:Keeps s0 s':=Same.keeps hk0 hS hf
  have hBn':s'.cells Bn = some (now.map fun k => .int .i64 k):=(hS.cells (by simpa using hne) hob).trans hBn
  have hgx:(now.map fun k => AVal.int .i64 k)[k.toNat]? = some (.int .i64 x):=by rw [List.getElem?_map,hx]; rfl
  have hlay:lay (sgK now nd i).cells (2 + i) [.int .i64 x] = (sgK now nd (i + 1)).cells:=Zuo (nm:=nd.1) (by omega) hk hx
  have hsl:2 + i + 1 ≤ (sgK now nd i).cells.length:=by simp [sgK,Key.cells,Z9u]; omega
  have hi4:(i:Int) < 4:=by omega
  simp [lay] at hlay
  have t5:=(hF 6 (by simp)).trans h5
  have t12:=(hF 13 (by simp)).trans h12
  rcases hkv0.keep hkeep with ⟨_,e0⟩ | ⟨b,o,c,ks,rfl,hb,hks,hle2,hel2⟩
  ·rw [e0] at hlt
   simp at hlt
  have hg:=hel2 i k hk
  simp [hlt]
  refine AM.wp_skip ?_
  simp
  refine AM.wp_seq ?_
  refine AM.wp_block ?_
  refine Z00 ?_
  simp [t55,t57,hlt,hks,hg]
  refine AM.wp_region ?_
  simp [t5,t12,hk1,hk2,hBn',hgx,hO]
  refine ⟨hi4,hsl,?_⟩
  rw [hlay]
  refine AM.wp_region ?_
  simp [t57,hwr]
  refine ⟨nd.2.length - (i + 1),by omega,i + 1,by omega,by omega,?_,by simp [t55],by simp [t56],by simp,?_,by simp⟩
  ·intro y hy
   simp at hy
   simp [hy]
   exact hF y (by simp [hy])
  ·exact hS.put _ (by simp) (hS.old hoBk)
 ·simp [hlt]
  refine AM.wp_exit ?_
  simp
  have hie:i = nd.2.length:=by omega
  subst hie
  refine q _ s' ?_ hS ?_
  ·intro y hy
   simp at hy
   simp [hy]
   exact hF y (by simp [hy])
  ·rw [hO]
   unfold sgK
   rw [Zol now nd.2 (Nat.le_refl _) h4]
theorem Zv4 {fr:FI} {s:St} {t0:PT AVal} {Bx:Pos} {n:Nat} {c2:Cap} {Q:Ex→PT AVal→St→Prop} (hw:s.Wf) (hn:n ≤ 1000)
  (h7:PT.get (posOf 8) t0 = some (.slice Bx 0 n c2)) (hBx:s.own Bx = some ((List.replicate n (0:Int)).map fun k => .int .i64 k))
  (q:∀ t s',Fr [9,25,26,27] t0 t→Same [Bx] s s'→s'.own Bx = some ((List.replicate n (-1:Int)).map fun k => .int .i64 k)→Q .normal t s'):wp Tryd.prog Zt6 fr t0 s Q:=by
 have hoX:s.Old Bx:=Z0c hw hBx
 refine Z00 ?_
 simp [h7]
 refine AM.wp_block ?_
 refine AM.wp_loop (fun m t s' => ∃ i:Nat,i ≤ n∧m = n - i∧Fr [9,25,26,27] t0 t∧PT.get (posOf 25) t = some (.int .i64 n)∧PT.get (posOf 26) t = some (.int .i64 i)∧Same [Bx] s s' ∧
  s'.own Bx = some (List.replicate i (.int .i64 (-1)) ++ List.replicate (n - i) (.int .i64 0))) n ⟨0,by simp,by simp,?_,by simp,by simp,Same.refl _ _,?_⟩ ?_
 ·intro y hy
  simp at hy
  simp [hy]
 ·simpa using hBx
 rintro m t s' ⟨i,hi,rfl,hF,t24,t25,hS,hX⟩
 refine Z00 ?_
 simp [t24,t25]
 refine AM.wp_seq ?_
 refine AM.Z03 ?_
 by_cases hlt:i < n
 ·have hwr:IntKind.wrap .i64 ((i:Int) + 1) = ((i + 1:Nat):Int):=by rw [IntWalk.i64_in _ (by omega)]; omega
  have t7:=(hF 8 (by simp)).trans h7
  have hle:i + 1 ≤ i + (n - i):=by omega
  simp [hlt]
  refine AM.wp_skip ?_
  simp
  refine AM.wp_seq ?_
  refine AM.wp_block ?_
  refine Z00 ?_
  simp [t25]
  refine AM.wp_region ?_
  simp [t7,hlt,hX,hle,Zoe]
  refine AM.wp_region ?_
  simp [t25,hwr]
  refine ⟨n - (i + 1),by omega,i + 1,by omega,by omega,?_,by simp [t24],by simp,hS.put _ (by simp) (hS.old hoX),?_⟩
  ·intro y hy
   simp at hy
   simp [hy]
   exact hF y (by simp [hy])
  ·rw [Zof]
 ·simp [hlt]
  refine AM.wp_exit ?_
  simp
  have hie:i = n:=by omega
  subst hie
  refine q _ s' ?_ hS (by simpa using hX)
  intro y hy
  simp at hy
  simp [hy]
  exact hF y (by simp [hy])
theorem Zv3 {fr:FI} {s0 s:St} {t0:PT AVal} {p Bn Bx Bm:Pos} {nds:List (List UInt8 × List Int)} {nd:List UInt8 × List Int} {a:Nat} {now nxt:List Int} {c0 c1 c2:Cap} {D:List Key} {Q:Ex→PT AVal→St→Prop}
  (hN:NodesG s0 p nds) (hk0:Keeps s0 s) (hw:s.Wf) (hnd:nds[a]? = some nd) (h4:nd.2.length ≤ 4) (hin:∀ k ∈ nd.2,0 ≤ k∧k < nds.length) (hlen:now.length = nds.length) (hlx:nxt.length = nds.length)
  (h0:PT.get (posOf 0) t0 = some (.slice p 0 nds.length c0)) (h11:PT.get (posOf 12) t0 = some (.int .i64 a)) (h5:PT.get (posOf 6) t0 = some (.slice Bn 0 nds.length c1)) (h7:PT.get (posOf 8) t0 = some (.slice Bx 0 nds.length c2)) (h9:PT.get (posOf 10) t0 = some (.map Bm))
  (hBn:s.cells Bn = some (now.map fun k => .int .i64 k)) (hob:s.Old Bn) (hBx:s.own Bx = some (nxt.map fun k => .int .i64 k)) (hBm:s.obj Bm = some (.map (Z16 0 D) D.length)) (hD:∀ d ∈ D,d.2.length = 5)
  (hnx:Bn ≠ Bx) (hnm:Bn ≠ Bm) (hxm:Bx ≠ Bm) (hfx:¬ s0.Old Bx) (hfm:¬ s0.Old Bm)
  (q:∀ t s',Fr [12,13,14,15,16,17,40,41,42,43,44,45,46,47,48,49,50,51,56,57,58,59,78] t0 t→Same [Bx,Bm] s s' →
   s'.own Bx = some ((nxt.set a ((addK D (sgK now nd 4)).idxOf (sgK now nd 4):Nat)).map fun k => .int .i64 k)→s'.obj Bm = some (.map (Z16 0 (addK D (sgK now nd 4))) (addK D (sgK now nd 4)).length)→Q .normal t s'):wp Tryd.prog Zt8 fr t0 s Q:=by
 obtain ⟨cs,hcs,hle,hel⟩:=(hN.keep hk0).ex
 obtain ⟨hel0,kv,hel1,hkv⟩:=hel a nd hnd
 have ha:a < nds.length:=(List.getElem?_eq_some_iff.1 hnd).1
 have hoX:s.Old Bx:=Z0c hw hBx
 have hoM:s.Old Bm:=Z3k hw hBm
 refine Z00 ?_
 simp [h0,h11,ha,hcs,hel0,hel1,hkv.len,hw]
 have hK1:Keeps s ((s.alloc (.cells [.str [],.int .i64 0,.int .i64 0,.int .i64 0,.int .i64 0,.int .i64 0] false)).put s.next (.cells [.str nd.1,.int .i64 nd.2.length,.int .i64 0,.int .i64 0,.int .i64 0,.int .i64 0] false)) :=
  (Keeps.alloc _ _).put _ (Z08 _) (Z19 _ _)
 have hoK:((s.alloc (.cells [.str [],.int .i64 0,.int .i64 0,.int .i64 0,.int .i64 0,.int .i64 0] false)).put s.next (.cells [.str nd.1,.int .i64 nd.2.length,.int .i64 0,.int .i64 0,.int .i64 0,.int .i64 0] false)).Old s.next:=Zgi.2 (Z19 _ _)
 have hwK:((s.alloc (.cells [.str [],.int .i64 0,.int .i64 0,.int .i64 0,.int .i64 0,.int .i64 0] false)).put s.next (.cells [.str nd.1,.int .i64 nd.2.length,.int .i64 0,.int .i64 0,.int .i64 0,.int .i64 0] false)).own s.next = some (sgK now nd 0).cells:=Z7w _ _ _
 generalize (s.alloc (.cells [.str [],.int .i64 0,.int .i64 0,.int .i64 0,.int .i64 0,.int .i64 0] false)).put s.next (.cells [.str nd.1,.int .i64 nd.2.length,.int .i64 0,.int .i64 0,.int .i64 0,.int .i64 0] false) = S1 at hK1 hoK hwK ⊢
 have hfk:¬ s0.Old s.next:=fun h => Z08 s (hk0.old h)
 have hnk:Bn ≠ s.next:=ne_next hob
 have hxk:Bx ≠ s.next:=ne_next hoX
 have hmk:Bm ≠ s.next:=ne_next hoM
 have hsk:¬ s.Old s.next:=Z08 s
 generalize s.next = Bk at hoK hwK hfk hnk hxk hmk hsk ⊢
 refine AM.wp_seq ?_
 refine Zv5 (c0:=c0) (c1:=c1) (Bn:=Bn) (Bk:=Bk) hN (hk0.trans hK1) hnd h4 hin hlen (by simp [h0]) (by simp [h11]) (by simp [h5]) (by simp) ((hK1.cells hob).trans hBn) (hK1.old hob) hnk hwK hoK hfk fun t2 s2 hF2 hS2 hO2 => ?_
 have hX2:s2.own Bx = some (nxt.map fun k => .int .i64 k):=((hS2.own (by simpa using hxk) (hK1.old hoX)).trans (hK1.own hoX)).trans hBx
 have hM2:s2.obj Bm = some (.map (Z16 0 D) D.length):=((hS2.obj Bm (by simpa using hmk) (hK1.old hoM)).trans (hK1.obj Bm hoM)).trans hBm
 have g9:PT.get (posOf 10) t2 = some (.map Bm):=(hF2 10 (by simp)).trans (by simp [h9])
 have g12:PT.get (posOf 13) t2 = some (.ptr Bk 0):=(hF2 13 (by simp)).trans (by simp)
 have g7:PT.get (posOf 8) t2 = some (.slice Bx 0 nds.length c2):=(hF2 8 (by simp)).trans (by simp [h7])
 have g11:PT.get (posOf 12) t2 = some (.int .i64 a):=(hF2 12 (by simp)).trans (by simp [h11])
 have hwf2:s2.Wf:=hS2.wf (hK1.wf hw)
 have hoX2:s2.Old Bx:=hS2.old (hK1.old hoX)
 have hoM2:s2.Old Bm:=hS2.old (hK1.old hoM)
 have hl6:(sgK now nd 4).cells.length = 6:=by simp [sgK,Key.cells,Z9u]
 have ht6:(sgK now nd 4).cells.take 6 = (sgK now nd 4).cells:=List.take_of_length_le (by omega)
 have hk5:(sgK now nd 4).2.length = 5:=by simp [sgK,Z9u]
 have hSa:Same [Bx,Bm] s s2:=⟨fun b hb ho => (hS2.obj b (by intro hm; simp at hm; subst hm; exact hsk ho) (hK1.old ho)).trans (hK1.obj b ho),Nat.le_trans hK1.next hS2.next,fun h => hwf2⟩
 have hcB:=Z0i hO2
 have fin:∀ (t3:PT AVal) (s3:St),Fr [12,13,14,15,16,17,40,41,42,43,44,45,46,47,48,49,50,51,56,57,58,59,78] t0 t3→PT.get (posOf 16) t3 = some (.int .i64 ((addK D (sgK now nd 4)).idxOf (sgK now nd 4):Nat))→Same [Bx,Bm] s s3 →
   s3.own Bx = some (nxt.map fun k => .int .i64 k)→s3.obj Bm = some (.map (Z16 0 (addK D (sgK now nd 4))) (addK D (sgK now nd 4)).length)→PT.get (posOf 12) t3 = some (.int .i64 a)→wp Tryd.prog Zta fr t3 s3 Q:=by
  intro t3 s3 hF3 f16 hS3 hX3 hM3 f12
  have f8:PT.get (posOf 8) t3 = some (.slice Bx 0 nds.length c2):=(hF3 8 (by simp)).trans h7
  refine AM.wp_region ?_
  have hlay:=Z8f nxt a ((addK D (sgK now nd 4)).idxOf (sgK now nd 4):Nat) (by omega)
  have hax:a + 1 ≤ nxt.length:=by omega
  simp [lay] at hlay
  simp [f8,f12,f16,ha,hX3,hax]
  refine q t3 _ hF3 (hS3.put _ (by simp) (hS3.old hoX)) ?_ ?_
  ·rw [hlay]
   simp
  ·rw [Z3z (fun e => hxm e.symm)]
   exact hM3
 have hF2':∀ y,y ∉ [12,13,14,15,16,17,40,41,42,43,44,45,46,47,48,49,50,51,56,57,58,59,78]→PT.get (posOf y) t2 = PT.get (posOf y) t0:=by
  intro y hy
  simp at hy
  rw [hF2 y (by simp [hy])]
  simp [hy]
 simp
 refine AM.wp_seq ?_
 refine AM.wp_region ?_
 simp [g9,g12,hcB,hl6,ht6]
 refine Zdz (w:=5) hM2 hk5 hD (fun hm => ?_) (fun hm => ?_)
 ·have e:addK D (sgK now nd 4) = D:=if_pos hm
  simp
  refine AM.wp_seq ?_
  refine Z00 ?_
  simp
  refine AM.Z03 ?_
  simp
  refine AM.wp_skip ?_
  simp
  refine fin _ s2 ?_ (by rw [e]; simp) hSa hX2 (by rw [e]; exact hM2) (by simp [g11])
  intro y hy
  have h1:=hF2' y hy
  simp at hy
  simp [hy]
  exact h1
 ·have e:addK D (sgK now nd 4) = D ++ [sgK now nd 4]:=if_neg hm
  have hidx:(D ++ [sgK now nd 4]).idxOf (sgK now nd 4) = D.length:=by rw [List.idxOf_append,if_neg hm]; simp
  simp
  refine AM.wp_seq ?_
  refine Z00 ?_
  simp
  refine AM.Z03 ?_
  simp
  refine Z00 ?_
  simp [g9]
  refine Z7t hM2 ?_
  rw [entsFrom_len]
  refine AM.wp_region ?_
  simp [g9,g12,hcB,hl6,ht6]
  refine Zm4 (w:=5) hM2 hk5 hD hm ?_
  simp
  refine fin _ _ ?_ (by rw [e,hidx]; simp) (hSa.put _ (by simp) hoM2) ?_ ?_ (by simp [g11])
  ·intro y hy
   have h1:=hF2' y hy
   simp at hy
   simp [hy]
   exact h1
  ·rw [Z5j hxm]
   exact hX2
  ·rw [e]
   simp
theorem Zv6 {fr:FI} {s0 s:St} {t0:PT AVal} {p Bn Bx Bm:Pos} {nds:List (List UInt8 × List Int)} {now:List Int} {c0 c1 c2:Cap} {Lv:AVal} {L:List Nat} {Q:Ex→PT AVal→St→Prop}
  (hN:NodesG s0 p nds) (hk0:Keeps s0 s) (hw:s.Wf) (hL:Z0e s0 Lv (L.map fun (a:Nat) => (a:Int))) (hLn:∀ a ∈ L,a < nds.length) (hLl:L.length ≤ 1000)
  (hkids:∀ (a:Nat) nd,nds[a]? = some nd→nd.2.length ≤ 4∧∀ k ∈ nd.2,0 ≤ k∧k < nds.length) (hlen:now.length = nds.length)
  (h0:PT.get (posOf 0) t0 = some (.slice p 0 nds.length c0)) (h1:PT.get (posOf 1) t0 = some Lv) (h5:PT.get (posOf 6) t0 = some (.slice Bn 0 nds.length c1)) (h7:PT.get (posOf 8) t0 = some (.slice Bx 0 nds.length c2)) (h9:PT.get (posOf 10) t0 = some (.map Bm))
  (hBn:s.cells Bn = some (now.map fun k => .int .i64 k)) (hob:s.Old Bn) (hBx:s.own Bx = some ((List.replicate nds.length (-1)).map fun k => .int .i64 k)) (hBm:s.obj Bm = some (.map [] 0))
  (hnx:Bn ≠ Bx) (hnm:Bn ≠ Bm) (hxm:Bx ≠ Bm) (hfx:¬ s0.Old Bx) (hfm:¬ s0.Old Bm)
  (q:∀ t s',Fr [12,13,14,15,16,17,34,35,36,37,40,41,42,43,44,45,46,47,48,49,50,51,56,57,58,59,78] t0 t→Same [Bx,Bm] s s' →
   s'.own Bx = some ((Z0q now nds L).2.map fun k => .int .i64 k)→s'.obj Bm = some (.map (Z16 0 (Z0q now nds L).1) (Z0q now nds L).1.length)→Q .normal t s'):wp Tryd.prog Zt7 fr t0 s Q:=by
 have hoX:s.Old Bx:=Z0c hw hBx
 have hoM:s.Old Bm:=Z3k hw hBm
 have hLlen:=(hL.keep hk0).len
 have hLt:=hL.ntup
 simp at hLlen
 have hf:∀ b ∈ [Bx,Bm],¬ s0.Old b:=by
  intro b hb
  simp at hb
  rcases hb with rfl | rfl
  ·exact hfx
  ·exact hfm
 refine Z00 ?_
 simp [h1,hLlen]
 refine AM.wp_block ?_
 refine AM.wp_loop (fun m t s' => ∃ i:Nat,i ≤ L.length∧m = L.length - i∧Fr [12,13,14,15,16,17,34,35,36,37,40,41,42,43,44,45,46,47,48,49,50,51,56,57,58,59,78] t0 t∧PT.get (posOf 34) t = some Lv∧PT.get (posOf 35) t = some (.int .i64 L.length)∧PT.get (posOf 36) t = some (.int .i64 i)∧Same [Bx,Bm] s s' ∧
  s'.own Bx = some ((Z0q now nds (L.take i)).2.map fun k => .int .i64 k)∧s'.obj Bm = some (.map (Z16 0 (Z0q now nds (L.take i)).1) (Z0q now nds (L.take i)).1.length)) L.length ⟨0,by simp,by simp,?_,by simp,by simp,by simp,Same.refl _ _,?_,?_⟩ ?_
 ·intro y hy
  simp at hy
  simp [hy]
 ·simpa [Z0q] using hBx
 ·simpa [Z0q,Z16] using hBm
 rintro m t s' ⟨i,hi,rfl,hF,t33,t34,t35,hS,hX,hM⟩
 refine Z00 ?_
 simp [t34,t35]
 refine AM.wp_seq ?_
 refine AM.Z03 ?_
 by_cases hlt:i < L.length
 ·obtain ⟨a,ha⟩:∃ a,L[i]? = some a:=⟨_,List.getElem?_eq_getElem hlt⟩
  have han:a < nds.length:=hLn a (List.mem_of_getElem? ha)
  obtain ⟨nd,hnd⟩:∃ nd,nds[a]? = some nd:=⟨_,List.getElem?_eq_getElem han⟩
  obtain ⟨h4,hin⟩:=hkids a nd hnd
  have hwr:IntKind.wrap .i64 ((i:Int) + 1) = ((i + 1:Nat):Int):=by rw [IntWalk.i64_in _ (by omega)]; omega
  have hkeep:Keeps s0 s':=Same.keeps hk0 hS hf
  have hal:(L.map fun (a:Nat) => (a:Int))[i]? = some (a:Int):=by rw [List.getElem?_map,ha]; rfl
  have hkey:keyA now nds a = sgK now nd 4:=by unfold keyA; rw [hnd]
  have htk:L.take (i + 1) = L.take i ++ [a]:=by
   rw [List.take_add_one,ha]
   rfl
  have hrd:Z0q now nds (L.take (i + 1)) = Z53 now nds (Z0q now nds (L.take i)) a:=by
   unfold Z0q
   rw [htk,List.foldl_append]
   rfl
  rcases hL.keep hkeep with ⟨_,e0⟩ | ⟨b,o,c,ks,rfl,hb,hks,hle2,hel2⟩
  ·have:(L.map fun (a:Nat) => (a:Int)).length = 0:=by rw [e0]; rfl
   rw [List.length_map] at this
   omega
  have hg:=hel2 i a hal
  simp at t33
  simp [hlt]
  refine AM.wp_skip ?_
  simp
  refine AM.wp_seq ?_
  refine AM.wp_block ?_
  refine Z00 ?_
  simp [t33,t35,hlt,hks,hg]
  refine Zv3 (c0:=c0) (c1:=c1) (c2:=c2) (D:=(Z0q now nds (L.take i)).1) (nxt:=(Z0q now nds (L.take i)).2) hN hkeep (hS.wf hw) hnd h4 hin hlen ?_ ?_ ?_ ?_ ?_ ?_ ((hS.cells (by simp [hnx,hnm]) hob).trans hBn) (hS.old hob) hX hM ?_ hnx hnm hxm hfx hfm fun t2 s2 hF2 hS2 hX2 hM2 => ?_
  ·rw [Z0q,Zba]
   simp
  ·simp
   exact (hF 0 (by simp)).trans h0
  ·simp
  ·simp
   exact (hF 6 (by simp)).trans h5
  ·simp
   exact (hF 8 (by simp)).trans h7
  ·simp
   exact (hF 10 (by simp)).trans h9
  ·exact Zct _ _ (fun a ha => hLn a (List.mem_of_mem_take ha)) (by simp)
  have g33:PT.get (posOf 34) t2 = some (.slice b o L.length c):=(hF2 34 (by simp)).trans (by simp [t33])
  have g34:PT.get (posOf 35) t2 = some (.int .i64 L.length):=(hF2 35 (by simp)).trans (by simp [t34])
  have g35:PT.get (posOf 36) t2 = some (.int .i64 i):=(hF2 36 (by simp)).trans (by simp [t35])
  simp
  refine AM.wp_region ?_
  simp [g35,hwr]
  refine ⟨L.length - (i + 1),by omega,i + 1,by omega,by omega,?_,by simp [g33],by simp [g34],by simp,hS.trans hS2,?_,?_⟩
  ·intro y hy
   simp at hy
   simp [hy]
   rw [hF2 y (by simp [hy])]
   simp [hy]
   exact hF y (by simp [hy])
  ·rw [hrd,hX2,← hkey]
   rfl
  ·rw [hrd,hM2,← hkey]
   rfl
 ·simp [hlt]
  refine AM.wp_exit ?_
  simp
  have hie:i = L.length:=by omega
  subst hie
  rw [List.take_length] at hX hM
  refine q _ s' ?_ hS hX hM
  intro y hy
  simp at hy
  simp [hy]
  exact hF y (by simp [hy])
def cnA (nds:List (List UInt8 × List Int)) (L:List Nat):Nat→Nat
 | 0 => 1
 | r + 1 => cntI nds L (r + 1)
theorem Zgp {s:St} {p:Pos} {nds:List (List UInt8 × List Int)} {c0:Cap} {Lv:AVal} {L:List Nat} {R:Nat} {Q:AVal→St→Prop}
  (hw:s.Wf) (hN:NodesG s p nds) (hn:nds.length ≤ 1000) (hL:Z0e s Lv (L.map fun (a:Nat) => (a:Int))) (hLn:∀ a ∈ L,a < nds.length) (hLl:L.length ≤ 1000)
  (hkids:∀ (a:Nat) nd,nds[a]? = some nd→nd.2.length ≤ 4∧∀ k ∈ nd.2,0 ≤ k∧k < nds.length)
  (hR:∀ r,r < R→cntI nds L (r + 1) ≠ cnA nds L r) (hE:cntI nds L (R + 1) = cnA nds L R)
  (q:∀ Bx s',Keeps s s'→¬ s.Old Bx→s'.own Bx = some ((nowI nds L (R + 1)).map fun k => .int .i64 k)→Q (.tup [.slice Bx 0 nds.length (.lim nds.length),.int .i64 (cntI nds L (R + 1):Nat)]) s'):Z0f Tryd.prog 70 [.slice p 0 nds.length c0,Lv] s Q:=by
 have hLt:=hL.ntup
 refine Z09 (Z0n (by decide)) fi70 rfl (by decide) rfl ?_
 refine Z00 ?_
 simp
 refine Z00 ?_
 have hs1:nds.length * 8 ≤ Z0j:=by unfold Z0j; omega
 have hs2:nds.length ≤ Z0j:=by unfold Z0j; omega
 simp [hs1,hs2]
 have hK1:Keeps s (s.alloc (.cells (List.replicate nds.length (.int .i64 0)) false)):=Keeps.alloc _ _
 have hX1:(s.alloc (.cells (List.replicate nds.length (.int .i64 0)) false)).own s.next = some ((nowI nds L 0).map fun k => .int .i64 k):=by simp [nowI]
 have hf1:¬ s.Old s.next:=Z08 s
 have ho1:(s.alloc (.cells (List.replicate nds.length (.int .i64 0)) false)).Old s.next:=Z19 _ _
 generalize s.alloc (.cells (List.replicate nds.length (.int .i64 0)) false) = s1 at hK1 hX1 ho1 ⊢
 generalize s.next = B1 at hX1 hf1 ho1 ⊢
 refine Z00 ?_
 simp
 refine AM.wp_block ?_
 refine AM.wp_loop (fun m t s' => ∃ (r:Nat) (Bn:Pos),r ≤ R∧m = R - r∧PT.get (posOf 0) t = some (.slice p 0 nds.length c0)∧PT.get (posOf 1) t = some Lv∧PT.get (posOf 6) t = some (.slice Bn 0 nds.length (.lim nds.length))∧PT.get (posOf 7) t = some (.int .i64 (cnA nds L r:Nat))∧Keeps s s'∧¬ s.Old Bn∧s'.Old Bn ∧
  s'.own Bn = some ((nowI nds L r).map fun k => .int .i64 k)) R ⟨0,B1,by simp,by simp,by simp,by simp,by simp,by simp [cnA],hK1,hf1,ho1,hX1⟩ ?_
 rintro m t s' ⟨r,Bn,hr,rfl,t0,t1,t5,t6,hk,hfn,hon,hXn⟩
 refine AM.wp_block ?_
 refine Z00 ?_
 simp [t0,hs1,hs2]
 have hw':s'.Wf:=hk.wf hw
 have hK2:Keeps s' (s'.alloc (.cells (List.replicate nds.length (.int .i64 0)) false)):=Keeps.alloc _ _
 have hX2:(s'.alloc (.cells (List.replicate nds.length (.int .i64 0)) false)).own s'.next = some ((List.replicate nds.length (0:Int)).map fun k => .int .i64 k):=by simp
 have hfx:¬ s.Old s'.next:=fun h => Z08 s' (hk.old h)
 have hnx:Bn ≠ s'.next:=ne_next hon
 have hfx':¬ s'.Old s'.next:=Z08 s'
 generalize s'.alloc (.cells (List.replicate nds.length (.int .i64 0)) false) = s2 at hK2 hX2 ⊢
 generalize s'.next = Bx at hX2 hfx hnx hfx' ⊢
 have hw2:s2.Wf:=hK2.wf hw'
 refine AM.wp_seq ?_
 refine Zv4 (n:=nds.length) (Bx:=Bx) (c2:=.lim nds.length) hw2 hn (by simp) hX2 fun t3 s3 hF3 hS3 hX3 => ?_
 have hw3:s3.Wf:=hS3.wf hw2
 have hk3:Keeps s' s3:=Same.keeps hK2 hS3 (by simpa using hfx')
 have g0:PT.get (posOf 0) t3 = some (.slice p 0 nds.length c0):=(hF3 0 (by simp)).trans (by simp [t0])
 have g1:PT.get (posOf 1) t3 = some Lv:=(hF3 1 (by simp)).trans (by simp [t1])
 have g5:PT.get (posOf 6) t3 = some (.slice Bn 0 nds.length (.lim nds.length)):=(hF3 6 (by simp)).trans (by simp [t5])
 have g6:PT.get (posOf 7) t3 = some (.int .i64 (cnA nds L r:Nat)):=(hF3 7 (by simp)).trans (by simp [t6])
 have g7:PT.get (posOf 8) t3 = some (.slice Bx 0 nds.length (.lim nds.length)):=(hF3 8 (by simp)).trans (by simp)
 simp
 refine Z00 ?_
 simp
 have hK4:Keeps s3 (s3.alloc (.map [] 0)):=Keeps.alloc _ _
 have hM4:(s3.alloc (.map [] 0)).obj s3.next = some (.map [] 0):=Z4u _ _
 have hoX3:s3.Old Bx:=Z0c hw3 hX3
 have hfm:¬ s.Old s3.next:=fun h => Z08 s3 (hk3.old (hk.old h))
 have hnm:Bn ≠ s3.next:=ne_next (hk3.old hon)
 have hxm:Bx ≠ s3.next:=ne_next hoX3
 generalize s3.alloc (.map [] 0) = s4 at hK4 hM4 ⊢
 generalize s3.next = Bm at hM4 hfm hnm hxm ⊢
 have hw4:s4.Wf:=hK4.wf hw3
 have hk4:Keeps s s4:=(hk.trans hk3).trans hK4
 have hX4:s4.own Bx = some ((List.replicate nds.length (-1:Int)).map fun k => .int .i64 k):=(hK4.own hoX3).trans hX3
 have hN4:s4.own Bn = some ((nowI nds L r).map fun k => .int .i64 k):=(hK4.own (hk3.old hon)).trans ((hk3.own hon).trans hXn)
 refine AM.wp_seq ?_
 refine Zv6 (p:=p) (Bn:=Bn) (Bx:=Bx) (Bm:=Bm) (c0:=c0) (c1:=.lim nds.length) (c2:=.lim nds.length) (now:=nowI nds L r) (Lv:=Lv) (L:=L) hN hk4 hw4 hL hLn hLl hkids (Z6k nds L r) (by simp [g0]) (by simp [g1]) (by simp [g5]) (by simp [g7]) (by simp) (Z0i hN4) (hK4.old (hk3.old hon)) hX4 hM4 hnx hnm hxm hfx hfm fun t5' s5 hF5 hS5 hX5 hM5 => ?_
 have hk5:Keeps s s5:=Same.keeps hk4 hS5 (by
  intro b hb
  simp at hb
  rcases hb with rfl | rfl
  ·exact hfx
  ·exact hfm)
 have j0:PT.get (posOf 0) t5' = some (.slice p 0 nds.length c0):=(hF5 0 (by simp)).trans (by simp [g0])
 have j1:PT.get (posOf 1) t5' = some Lv:=(hF5 1 (by simp)).trans (by simp [g1])
 have j6:PT.get (posOf 7) t5' = some (.int .i64 (cnA nds L r:Nat)):=(hF5 7 (by simp)).trans (by simp [g6])
 have j7:PT.get (posOf 8) t5' = some (.slice Bx 0 nds.length (.lim nds.length)):=(hF5 8 (by simp)).trans (by simp [g7])
 have j9:PT.get (posOf 10) t5' = some (.map Bm):=(hF5 10 (by simp)).trans (by simp)
 have hcnt:(Z0q (nowI nds L r) nds L).1.length = cntI nds L (r + 1):=rfl
 simp
 refine AM.wp_seq ?_
 refine Z00 ?_
 simp [j9]
 refine Z7t hM5 ?_
 rw [entsFrom_len,hcnt]
 by_cases he:cntI nds L (r + 1) = cnA nds L r
 ·have hrR:r = R:=by
   rcases Nat.lt_or_ge r R with h | h
   ·exact (hR r h he).elim
   ·omega
  subst hrR
  simp [j6,he]
  refine AM.Z03 ?_
  simp
  refine Z00 ?_
  simp [j7,j6]
  refine AM.wp_ret ?_
  simp
  rw [← he]
  exact q Bx s5 hk5 hfx hX5
 ·have hrR:r < R:=by
   rcases Nat.lt_or_ge r R with h | h
   ·exact h
   ·have:r = R:=by omega
    subst this
    exact (he hE).elim
  have he':¬ ((cntI nds L (r + 1):Nat):Int) = (cnA nds L r:Nat):=by omega
  have hcn:cnA nds L (r + 1) = cntI nds L (r + 1):=rfl
  simp [j6,he,he']
  refine AM.Z03 ?_
  simp
  refine AM.wp_skip ?_
  simp
  refine AM.wp_region ?_
  simp [j7,j9]
  refine Z7t hM5 ?_
  rw [entsFrom_len,hcnt]
  simp
  refine ⟨R - (r + 1),by omega,r + 1,by omega,rfl,by simp [j0],by simp [j1],rfl,hk5,hfx,Z0c (hk5.wf hw) hX5,hX5⟩
def Z11 (f:Nat→Key) (D:List Key) (L:List Nat):List Key:=L.foldl (fun D a => addK D (f a)) D
theorem Zc6 {now:List Int} {nds:List ND}:∀ (L:List Nat) (x:List Key × List Int),(L.foldl (Z53 now nds) x).1 = Z11 (keyA now nds) x.1 L
 | [],x => rfl
 | a :: L,x => by
  rw [List.foldl_cons,Zc6 L]
  rfl
theorem Zle {f g:Nat→Key}:∀ (L E:List Nat) (D D':List Key),(∀ a ∈ E ++ L,∀ b ∈ E ++ L,(f a = f b ↔ g a = g b))→D.length = D'.length→(∀ e ∈ E,f e ∈ D∧g e ∈ D'∧D.idxOf (f e) = D'.idxOf (g e))→(∀ k ∈ D,∃ e ∈ E,f e = k)→(∀ k ∈ D',∃ e ∈ E,g e = k) →
  (Z11 f D L).length = (Z11 g D' L).length∧∀ e ∈ E ++ L,(Z11 f D L).idxOf (f e) = (Z11 g D' L).idxOf (g e)
 | [],E,D,D',_,hl,he,_,_ => ⟨hl,fun e h => (he e (by simpa using h)).2.2⟩
 | a :: L,E,D,D',hk,hl,he,hD,hD' => by
  have hmem:f a ∈ D ↔ g a ∈ D':=by
   constructor
   ·intro h
    obtain ⟨e,h1,h2⟩:=hD _ h
    have:=(hk e (by simp [h1]) a (by simp)).1 h2
    rw [← this]
    exact (he e h1).2.1
   ·intro h
    obtain ⟨e,h1,h2⟩:=hD' _ h
    have:=(hk e (by simp [h1]) a (by simp)).2 h2
    rw [← this]
    exact (he e h1).1
  have:=Zle (f:=f) (g:=g) L (E ++ [a]) (addK D (f a)) (addK D' (g a)) (by simpa using hk) (by
   unfold addK
   by_cases h:f a ∈ D
   ·rw [if_pos h,if_pos (hmem.1 h)]
    exact hl
   ·rw [if_neg h,if_neg (fun h' => h (hmem.2 h'))]
    simp [hl]) (by
   intro e h
   rcases List.mem_append.1 h with h | h
   ·obtain ⟨h1,h2,h3⟩:=he e h
    exact ⟨Zdh h1,Zdh h2,by rw [Zdg h1,Zdg h2,h3]⟩
   ·simp at h
    subst h
    refine ⟨Zbl _ _,Zbl _ _,?_⟩
    unfold addK
    by_cases h:f e ∈ D
    ·rw [if_pos h,if_pos (hmem.1 h)]
     obtain ⟨e',h1,h2⟩:=hD _ h
     have h3:=(hk e' (by simp [h1]) e (by simp)).1 h2
     rw [← h2,← h3]
     exact (he e' h1).2.2
    ·rw [if_neg h,if_neg (fun h' => h (hmem.2 h')),List.idxOf_append,if_neg h,List.idxOf_append,if_neg (fun h' => h (hmem.2 h'))]
     simp [hl]) (by
   intro k hk'
   unfold addK at hk'
   split at hk'
   ·obtain ⟨e,h1,h2⟩:=hD k hk'
    exact ⟨e,by simp [h1],h2⟩
   ·rcases List.mem_append.1 hk' with h | h
    ·obtain ⟨e,h1,h2⟩:=hD k h
     exact ⟨e,by simp [h1],h2⟩
    ·simp at h
     exact ⟨a,by simp,h.symm⟩) (by
   intro k hk'
   unfold addK at hk'
   split at hk'
   ·obtain ⟨e,h1,h2⟩:=hD' k hk'
    exact ⟨e,by simp [h1],h2⟩
   ·rcases List.mem_append.1 hk' with h | h
    ·obtain ⟨e,h1,h2⟩:=hD' k h
     exact ⟨e,by simp [h1],h2⟩
    ·simp at h
     exact ⟨a,by simp,h.symm⟩)
  simpa [Z11] using this
section
variable {nds:List ND} {L:List Nat} (hC:Closed nds L)
include hC
theorem Zvx {r1 r2:Nat} (h:∀ a ∈ L,∀ b ∈ L,(sim nds (r1 + 1) a b ↔ sim nds (r2 + 1) a b)):nowI nds L (r1 + 1) = nowI nds L (r2 + 1)∧cntI nds L (r1 + 1) = cntI nds L (r2 + 1):=by
 have hk:=Zle (f:=keyA (nowI nds L r1) nds) (g:=keyA (nowI nds L r2) nds) L [] [] [] (by
  intro a ha b hb
  simp at ha hb
  rw [Z62 hC r1 a b ha hb,Z62 hC r2 a b ha hb]
  exact h a ha b hb) rfl (by simp) (by simp) (by simp)
 have e1:(Z0q (nowI nds L r1) nds L).1 = Z11 (keyA (nowI nds L r1) nds) [] L:=Zc6 L _
 have e2:(Z0q (nowI nds L r2) nds L).1 = Z11 (keyA (nowI nds L r2) nds) [] L:=Zc6 L _
 refine ⟨List.ext_getElem? fun j => ?_,?_⟩
 ·by_cases hj:j < nds.length
  ·by_cases hm:j ∈ L
   ·show (Z0q (nowI nds L r1) nds L).2[j]? = (Z0q (nowI nds L r2) nds L).2[j]?
    rw [Z9s hm hj,Z9s hm hj,e1,e2]
    have:=hk.2 j (by simpa using hm)
    rw [this]
   ·rw [Zfj nds L r1 j hj hm,Zfj nds L r2 j hj hm]
  ·rw [List.getElem?_eq_none (by rw [Z6k]; omega),List.getElem?_eq_none (by rw [Z6k]; omega)]
 ·show (Z0q (nowI nds L r1) nds L).1.length = (Z0q (nowI nds L r2) nds L).1.length
  rw [e1,e2]
  exact hk.1
theorem Zgv (hne:L ≠ []):∃ R,(∀ r,r < R→cntI nds L (r + 1) ≠ cnA nds L r)∧cntI nds L (R + 1) = cnA nds L R∧nowI nds L (R + 1) = clsF nds L:=by
 obtain ⟨R,h1,h2,h3⟩:=Z9f hC
 have hpos:cntI nds L 1 ≠ 0:=by
  rw [Z5e]
  cases L with
  | nil => exact (hne rfl).elim
  | cons a L => simp [news]
 cases R with
 | zero => exact (hpos h2).elim
 | succ R =>
  by_cases h1':cntI nds L 1 = 1
  ·refine ⟨0,by simp,h1',?_⟩
   rw [h1]
   have hone:∀ a ∈ L,∀ b ∈ L,sim nds 1 a b:=by
    rw [Z5e] at h1'
    intro a ha b hb
    refine (Z62 hC 0 a b ha hb).1 ?_
    have:=Zfg (f:=keyA (nowI nds L 0) nds) (g:=fun _:Nat => (0:Nat)) L [] (fun _ _ _ _ _ => rfl) (by
     rw [h1']
     cases L with
     | nil => exact (hne rfl).elim
     | cons c L =>
      have key:∀ (L E:List Nat),E ≠ []→news (fun _:Nat => (0:Nat)) E L = 0:=by
       intro L
       induction L with
       | nil => intro E _; rfl
       | cons x L ih =>
        intro E hE
        have h2:=ih (E ++ [x]) (by simp)
        cases E with
        | nil => exact (hE rfl).elim
        | cons y E =>
         simp only [news]
         rw [h2]
         simp
      simp only [news]
      rw [key L ([] ++ [c]) (by simp)]
      simp) (by simp) a (by simpa using ha) b (by simpa using hb) rfl
    exact this
   refine (Zvx hC (r1:=0) (r2:=R + 1) fun a ha b hb => ?_).1
   constructor
   ·intro _
    have hall:∀ r a b,a ∈ L→b ∈ L→sim nds r a b:=by
     intro r
     induction r with
     | zero => intro a b _ _; trivial
     | succ r ih =>
      intro a b ha hb
      obtain ⟨x,y,hx,hy,e1,e2,_⟩:=hone a ha b hb
      exact ⟨x,y,hx,hy,e1,e2,fun j k m hk hm => ih _ _ ((hC.kids a ha x hx).2 k (List.mem_of_getElem? hk)) ((hC.kids b hb y hy).2 m (List.mem_of_getElem? hm))⟩
    exact hall _ a b ha hb
   ·intro _
    exact hone a ha b hb
  ·refine ⟨R + 1,?_,h2,h1.symm⟩
   intro r hr
   cases r with
   | zero => exact h1'
   | succ r => exact h3 (r + 1) hr
noncomputable def Zjf (nds:List ND) (L:List Nat):Nat:=news (fun a => (clsF nds L)[a]?) [] L
theorem Zkf {R:Nat} (h:nowI nds L (R + 1) = clsF nds L):cntI nds L (R + 1) = Zjf nds L:=by
 rw [Z5e]
 unfold Zjf
 rw [← h]
 have hiff:∀ a ∈ L,∀ b ∈ L,(keyA (nowI nds L R) nds a = keyA (nowI nds L R) nds b ↔ (nowI nds L (R + 1))[a]? = (nowI nds L (R + 1))[b]?):=fun a ha b hb => by
  rw [Z62 hC R a b ha hb,Z9p hC (R + 1) a b ha hb]
 have h1:=Zan (f:=keyA (nowI nds L R) nds) (g:=fun a => (nowI nds L (R + 1))[a]?) L [] (fun a ha b hb h => (hiff a (by simpa using ha) b (by simpa using hb)).1 h)
 have h2:=Zan (f:=fun a => (nowI nds L (R + 1))[a]?) (g:=keyA (nowI nds L R) nds) L [] (fun a ha b hb h => (hiff a (by simpa using ha) b (by simpa using hb)).2 h)
 omega
theorem Zew {a:Nat} (ha:a ∈ L):∃ c:Nat,(clsF nds L)[a]? = some (c:Int)∧c < Zjf nds L:=by
 obtain ⟨R,h1,h2,h3⟩:=Z9f hC
 have hm:=Zkf hC h1.symm
 rw [h1]
 refine ⟨_,Z9s ha (hC.lt a ha),?_⟩
 rw [← hm]
 show _ < (Z0q (nowI nds L R) nds L).1.length
 exact List.idxOf_lt_length_of_mem (Zch L _ a ha)
end
theorem Z7z {α:Type} {motive:List α→Prop} (nil:motive []) (append_singleton:∀ (l:List α) (a:α),motive l→motive (l ++ [a])) (l:List α):motive l:=by
 have:∀ r:List α,motive r.reverse:=by
  intro r
  induction r with
  | nil => exact nil
  | cons a r ih =>
   rw [List.reverse_cons]
   exact append_singleton _ a ih
 have h:=this l.reverse
 rwa [List.reverse_reverse] at h
theorem Zaw (f:Nat→Key) (D:List Key) (P S:List Nat):Z11 f D (P ++ S) = Z11 f (Z11 f D P) S:=by
 unfold Z11
 rw [List.foldl_append]
theorem Zb3 (f:Nat→Key):∀ (S:List Nat) (D:List Key),∃ T,Z11 f D S = D ++ T
 | [],D => ⟨[],by simp [Z11]⟩
 | a :: S,D => by
  obtain ⟨T,h⟩:=Zb3 f S (addK D (f a))
  have h1:Z11 f D (a :: S) = Z11 f (addK D (f a)) S:=rfl
  rw [h1,h]
  unfold addK
  split
  ·exact ⟨T,rfl⟩
  ·exact ⟨[f a] ++ T,by simp⟩
theorem Zjb (f:Nat→Key):∀ (S:List Nat) (D:List Key) (k:Key),k ∈ Z11 f D S ↔ k ∈ D ∨ ∃ a ∈ S,f a = k
 | [],D,k => by simp [Z11]
 | a :: S,D,k => by
  have h1:Z11 f D (a :: S) = Z11 f (addK D (f a)) S:=rfl
  rw [h1,Zjb f S]
  have h2:k ∈ addK D (f a) ↔ k ∈ D ∨ f a = k:=by
   unfold addK
   split
   ·rename_i h
    constructor
    ·exact .inl
    ·rintro (h' | rfl)
     ·exact h'
     ·exact h
   ·simp [eq_comm]
  rw [h2]
  constructor
  ·rintro ((h | h) | ⟨b,hb,h⟩)
   ·exact .inl h
   ·exact .inr ⟨a,by simp,h⟩
   ·exact .inr ⟨b,by simp [hb],h⟩
  ·rintro (h | ⟨b,hb,h⟩)
   ·exact .inl (.inl h)
   ·rcases List.mem_cons.1 hb with rfl | hb
    ·exact .inl (.inr h)
    ·exact .inr ⟨b,hb,h⟩
theorem Zn3 {nds:List ND} {L:List Nat} (hC:Closed nds L):∃ f:Nat→Key,(∀ a ∈ L,(clsF nds L)[a]? = some ((Z11 f [] L).idxOf (f a):Nat))∧∀ a ∈ L,∀ b ∈ L,(f a = f b ↔ ∀ r,sim nds r a b):=by
 obtain ⟨R,h1,h2,_⟩:=Z9f hC
 refine ⟨keyA (nowI nds L R) nds,fun a ha => ?_,fun a ha b hb => ?_⟩
 ·have e1:(Z0q (nowI nds L R) nds L).1 = Z11 (keyA (nowI nds L R) nds) [] L:=Zc6 L _
  rw [h1,← e1]
  exact Z9s ha (hC.lt a ha)
 ·rw [← Zgu hC h2 ha hb,Z9p hC (R + 1) a b ha hb,← Z62 hC R a b ha hb]
theorem Zhv {nds:List ND} {L P S:List Nat} {a:Nat} (hC:Closed nds L) (hL:L = P ++ a :: S) :
  ∃ c:Nat,(clsF nds L)[a]? = some (c:Int)∧c ≤ (outF (clsF nds L) nds P).length∧(c < (outF (clsF nds L) nds P).length ↔ ∃ e ∈ P,∀ r,sim nds r e a):=by
 obtain ⟨f,hf0,hs⟩:=Zn3 hC
 have hf:∀ x ∈ L,(clsF nds L)[x]? = some (((Z11 f [] L).idxOf (f x):Nat):Int):=hf0
 have ha:a ∈ L:=by rw [hL]; simp
 have hPL:∀ x ∈ P,x ∈ L:=fun x hx => by rw [hL]; simp [hx]
 have key:∀ (P' Q':List Nat),P = P' ++ Q'→(outF (clsF nds L) nds P').length = (Z11 f [] P').length:=by
  intro P'
  induction P' using Z7z with
  | nil => intro Q' _; rfl
  | append_singleton P' x ih =>
   intro Q' hQ
   have ihp:=ih (x :: Q') (by rw [hQ]; simp)
   have hx:x ∈ L:=hPL x (by rw [hQ]; simp)
   have hnd:nds[x]? = some (nds[x]'(hC.lt x hx)):=List.getElem?_eq_getElem _
   have e1:outF (clsF nds L) nds (P' ++ [x]) = Z2e (clsF nds L) nds (outF (clsF nds L) nds P') x:=by unfold outF; rw [List.foldl_append]; rfl
   have e2:Z11 f [] (P' ++ [x]) = addK (Z11 f [] P') (f x):=by rw [Zaw]; rfl
   rw [e1,e2]
   unfold Z2e
   rw [hf x hx,hnd]
   simp only
   obtain ⟨T,hT⟩:=Zb3 f (x :: (Q' ++ a :: S)) (Z11 f [] P')
   have hLx:L = P' ++ x :: (Q' ++ a :: S):=by rw [hL,hQ]; simp
   have hk:Z11 f [] L = Z11 f [] P' ++ T:=by rw [hLx,Zaw]; exact hT
   rw [hk,List.idxOf_append]
   unfold addK
   by_cases hm:f x ∈ Z11 f [] P'
   ·rw [if_pos hm,if_pos hm,if_pos (by have:=List.idxOf_lt_length_of_mem hm; omega)]
    exact ihp
   ·rw [if_neg hm,if_neg hm,if_neg (by omega)]
    simp [ihp]
 have hlen:=key P [] (by simp)
 obtain ⟨T,hT⟩:=Zb3 f (a :: S) (Z11 f [] P)
 have hk:Z11 f [] L = Z11 f [] P ++ T:=by rw [hL,Zaw]; exact hT
 refine ⟨_,hf a ha,?_⟩
 rw [hlen,hk,List.idxOf_append]
 have hmem:f a ∈ Z11 f [] P ↔ ∃ e ∈ P,∀ r,sim nds r e a:=by
  rw [Zjb]
  constructor
  ·rintro (h | ⟨e,he,h⟩)
   ·cases h
   ·exact ⟨e,he,(hs e (hPL e he) a ha).1 h⟩
  ·rintro ⟨e,he,h⟩
   exact .inr ⟨e,he,(hs e (hPL e he) a ha).2 h⟩
 by_cases hm:f a ∈ Z11 f [] P
 ·rw [if_pos hm]
  have:=List.idxOf_lt_length_of_mem hm
  exact ⟨by omega,⟨fun _ => hmem.1 hm,fun _ => this⟩⟩
 ·rw [if_neg hm]
  have hz:T.idxOf (f a) = 0:=by
   have h1:Z11 f (Z11 f [] P) (a :: S) = Z11 f (addK (Z11 f [] P) (f a)) S:=rfl
   obtain ⟨T',hT'⟩:=Zb3 f S (addK (Z11 f [] P) (f a))
   rw [h1,hT'] at hT
   unfold addK at hT
   rw [if_neg hm,List.append_assoc] at hT
   have:=List.append_cancel_left hT
   rw [← this]
   simp
  rw [hz]
  refine ⟨by omega,⟨fun h => by omega,fun h => (hm (hmem.2 h)).elim⟩⟩
theorem Zi5 {nds:List ND} {L:List Nat} (hC:Closed nds L):(outF (clsF nds L) nds L).length = Zjf nds L:=by
 have hb:∀ a ∈ L,∃ c:Nat,(clsF nds L)[a]? = some (c:Int):=fun a ha => by
  obtain ⟨c,h,_⟩:=Zew hC ha
  exact ⟨c,h⟩
 have key:∀ (P S:List Nat),L = P ++ S→(outF (clsF nds L) nds P).length = news (fun a => (clsF nds L)[a]?) [] P:=by
  intro P
  induction P using Z7z with
  | nil => intro S _; rfl
  | append_singleton P x ih =>
   intro S hS
   have ihp:=ih (x :: S) (by rw [hS]; simp)
   obtain ⟨c,hc,h1,h2⟩:=Zhv (P:=P) (a:=x) (S:=S) hC (by rw [hS]; simp)
   have hx:x ∈ L:=by rw [hS]; simp
   have e1:outF (clsF nds L) nds (P ++ [x]) = Z2e (clsF nds L) nds (outF (clsF nds L) nds P) x:=by unfold outF; rw [List.foldl_append]; rfl
   have hnd:nds[x]? = some (nds[x]'(hC.lt x hx)):=List.getElem?_eq_getElem _
   have hap:∀ (P E:List Nat) (y:Nat) (f:Nat→Option Int),news f E (P ++ [y]) = news f E P + (if (E ++ P).any (fun e => decide (f e = f y)) = true then 0 else 1):=by
    intro P
    induction P with
    | nil => intro E y f; simp [news]
    | cons z P ih =>
     intro E y f
     have:=ih (E ++ [z]) y f
     simp only [List.cons_append,news]
     rw [this]
     have e:(E ++ [z] ++ P) = E ++ z :: P:=by simp
     rw [e]
     omega
   rw [hap,e1,← ihp]
   unfold Z2e
   rw [hc,hnd]
   simp only
   have hany:([] ++ P).any (fun e => decide ((clsF nds L)[e]? = (clsF nds L)[x]?)) = true ↔ ∃ e ∈ P,∀ r,sim nds r e x:=by
    simp only [List.nil_append,List.any_eq_true,decide_eq_true_eq]
    constructor
    ·rintro ⟨e,he,h⟩
     exact ⟨e,he,(Zdn hC (by rw [hS]; simp [he]) hx).1 h⟩
    ·rintro ⟨e,he,h⟩
     exact ⟨e,he,(Zdn hC (by rw [hS]; simp [he]) hx).2 h⟩
   rw [hc] at hany
   by_cases hlt:c < (outF (clsF nds L) nds P).length
   ·rw [if_pos (hany.2 (h2.1 hlt)),if_pos (by omega)]
    omega
   ·rw [if_neg (fun h => hlt (h2.2 (hany.1 h))),if_neg (by omega)]
    simp
 exact key L [] (by simp)
inductive UT where
 | cut
 | node (nm:List UInt8) (kids:List UT)
def UT.name:UT→List UInt8
 | .cut => []
 | .node nm _ => nm
def UT.kids:UT→List UT
 | .cut => []
 | .node _ ks => ks
def unf (nds:List ND):Nat→Nat→UT
 | 0,_ => .cut
 | d + 1,a => match nds[a]? with
  | none => .cut
  | some nd => .node nd.1 (nd.2.map fun k => unf nds d k.toNat)
abbrev Lab:=Nat→UT
def lab (nds:List ND) (a:Nat):Lab:=fun d => unf nds d a
theorem Z8i {nds:List ND} {a:Nat} {nd:ND} (h:nds[a]? = some nd) (d:Nat):unf nds (d + 1) a = .node nd.1 (nd.2.map fun k => unf nds d k.toNat):=by
 simp [unf,h]
def Zgc (b:Lab):List Lab:=(List.range (b 1).kids.length).map fun j d => ((b (d + 1)).kids[j]?).getD .cut
theorem Z6a {nds:List ND} {a:Nat} {nd:ND} (h:nds[a]? = some nd):Zgc (lab nds a) = nd.2.map fun k => lab nds k.toNat:=by
 refine List.ext_getElem? fun j => ?_
 have h1:(lab nds a 1).kids.length = nd.2.length:=by
  show (unf nds 1 a).kids.length = _
  rw [Z8i h]
  simp [UT.kids]
 unfold Zgc
 rw [h1]
 by_cases hj:j < nd.2.length
 ·rw [List.getElem?_map,List.getElem?_range hj,List.getElem?_map,List.getElem?_eq_getElem hj]
  simp only [Option.map_some]
  congr 1
  funext d
  show (((unf nds (d + 1) a).kids)[j]?).getD .cut = _
  rw [Z8i h]
  simp [UT.kids,hj]
  rfl
 ·rw [List.getElem?_eq_none (by simpa using hj),List.getElem?_eq_none (by simpa using hj)]
def lname (b:Lab):List UInt8:=(b 1).name
theorem Zah {nds:List ND} {a:Nat} {nd:ND} (h:nds[a]? = some nd):lname (lab nds a) = nd.1:=by
 show (unf nds 1 a).name = _
 rw [Z8i h]
 rfl
theorem Zq0 {nds:List ND} {r:Nat}:∀ {x y:List Int},x.length = y.length→(∀ (j:Nat) (k m:Int),x[j]? = some k→y[j]? = some m→unf nds r k.toNat = unf nds r m.toNat)→x.map (fun k => unf nds r k.toNat) = y.map fun k => unf nds r k.toNat
 | [],[],_,_ => rfl
 | k :: x,m :: y,hl,h => by
  rw [List.map_cons,List.map_cons,h 0 k m rfl rfl,Zq0 (x:=x) (y:=y) (by simpa using hl) (fun j k m a b => h (j + 1) k m (by simpa using a) (by simpa using b))]
 | [],_ :: _,hl,_ => by simp at hl
 | _ :: _,[],hl,_ => by simp at hl
theorem Zgn {nds:List ND} {L:List Nat} (hC:Closed nds L):∀ (r a b:Nat),a ∈ L→b ∈ L→(sim nds r a b ↔ unf nds r a = unf nds r b)
 | 0,a,b,_,_ => by simp [sim,unf]
 | r + 1,a,b,ha,hb => by
  have hx:nds[a]? = some (nds[a]'(hC.lt a ha)):=List.getElem?_eq_getElem _
  have hy:nds[b]? = some (nds[b]'(hC.lt b hb)):=List.getElem?_eq_getElem _
  generalize nds[a]'(hC.lt a ha) = x at hx
  generalize nds[b]'(hC.lt b hb) = y at hy
  obtain ⟨_,hkx⟩:=hC.kids a ha _ hx
  obtain ⟨_,hky⟩:=hC.kids b hb _ hy
  rw [Z8i hx,Z8i hy]
  constructor
  ·rintro ⟨x',y',hx',hy',e1,e2,e3⟩
   rw [hx] at hx'
   rw [hy] at hy'
   cases hx'
   cases hy'
   rw [e1,Zq0 e2 fun j k m hk hm => (Zgn hC r _ _ (hkx k (List.mem_of_getElem? hk)) (hky m (List.mem_of_getElem? hm))).1 (e3 j k m hk hm)]
  ·intro h
   injection h with e1 e2
   have hl:x.2.length = y.2.length:=by simpa using congrArg List.length e2
   refine ⟨x,y,hx,hy,e1,hl,fun j k m hk hm => (Zgn hC r _ _ (hkx k (List.mem_of_getElem? hk)) (hky m (List.mem_of_getElem? hm))).2 ?_⟩
   have:=congrArg (fun l => l[j]?) e2
   simpa [hk,hm] using this
theorem Zkv {nds:List ND} {L:List Nat} (hC:Closed nds L) {a b:Nat} (ha:a ∈ L) (hb:b ∈ L):(∀ r,sim nds r a b) ↔ lab nds a = lab nds b:=by
 constructor
 ·intro h
  funext r
  exact (Zgn hC r a b ha hb).1 (h r)
 ·intro h r
  exact (Zgn hC r a b ha hb).2 (congrFun h r)
section
open Classical
variable {α β κ:Type}
noncomputable def addB (v:List β) (k:β):List β:=if k ∈ v then v else v ++ [k]
noncomputable def Z2o (v:List β) (ks:List β):List β:=ks.foldl addB v
noncomputable def dd (l:List β):List β:=Z2o [] l
theorem Zv0 (v:List β) (k:β):∃ w,addB v k = v ++ w:=by
 unfold addB
 split
 ·exact ⟨[],by simp⟩
 ·exact ⟨[k],rfl⟩
theorem Zc3:∀ (ks v:List β),∃ w,Z2o v ks = v ++ w
 | [],v => ⟨[],by simp [Z2o]⟩
 | k :: ks,v => by
  obtain ⟨w1,h1⟩:=Zv0 v k
  obtain ⟨w2,h2⟩:=Zc3 ks (addB v k)
  exact ⟨w1 ++ w2,by show Z2o (addB v k) ks = _; rw [h2,h1,List.append_assoc]⟩
theorem Zvq {v:List β} {k x:β}:x ∈ addB v k ↔ x ∈ v ∨ x = k:=by
 unfold addB
 split
 ·rename_i h
  constructor
  ·exact .inl
  ·rintro (h' | rfl)
   ·exact h'
   ·exact h
 ·simp
theorem Zlj {x:β}:∀ {ks v:List β},x ∈ Z2o v ks ↔ x ∈ v ∨ x ∈ ks
 | [],v => by simp [Z2o]
 | k :: ks,v => by
  show x ∈ Z2o (addB v k) ks ↔ _
  rw [Zlj (ks:=ks),Zvq,List.mem_cons,or_assoc]
theorem Zaj {x:β} {l:List β}:x ∈ dd l ↔ x ∈ l:=by
 unfold dd
 rw [Zlj]
 simp
theorem Zmo (v ks ls:List β):Z2o v (ks ++ ls) = Z2o (Z2o v ks) ls:=by
 unfold Z2o
 rw [List.foldl_append]
theorem Zez (l m:List β):dd (l ++ m) = Z2o (dd l) m:=Zmo _ _ _
theorem Zg5 (l:List β) (x:β):dd (l ++ [x]) = addB (dd l) x:=Zez l [x]
theorem Zmp:∀ {ks v:List β},(∀ k ∈ ks,k ∈ v)→Z2o v ks = v
 | [],_,_ => rfl
 | k :: ks,v,h => by
  have hk:addB v k = v:=by unfold addB; rw [if_pos (h k (by simp))]
  show Z2o (addB v k) ks = v
  rw [hk]
  exact Zmp fun x hx => h x (by simp [hx])
theorem Zqk {v:List β} {k:β} (h:v.Nodup):(addB v k).Nodup:=by
 unfold addB
 split
 ·exact h
 ·rename_i hk
  rw [List.nodup_append]
  exact ⟨h,by simp,fun a ha b hb => by simp at hb; rw [hb]; exact fun e => hk (e ▸ ha)⟩
theorem Zgr:∀ {ks v:List β},v.Nodup→(Z2o v ks).Nodup
 | [],_,h => h
 | k :: ks,v,h => Zgr (ks:=ks) (Zqk (k:=k) h)
theorem Zn6 (l:List β):(dd l).Nodup:=Zgr (by simp)
theorem Zv1 (v:List β) (k:β):(addB v k).length ≤ v.length + 1:=by
 unfold addB
 split <;> simp
theorem Zku:∀ (ks v:List β),(Z2o v ks).length ≤ v.length + ks.length
 | [],v => by simp [Z2o]
 | k :: ks,v => by
  have h1:=Zv1 v k
  have h2:=Zku ks (addB v k)
  show (Z2o (addB v k) ks).length ≤ _
  rw [List.length_cons]
  omega
theorem dd_len (l:List β):(dd l).length ≤ l.length:=by
 have:=Zku l ([]:List β)
 simpa [dd] using this
noncomputable def runL (κ:β→List β):Nat→List β→Nat→List β
 | 0,w,_ => w
 | g + 1,w,j => match w[j]? with
  | none => w
  | some b => runL κ g (Z2o w (κ b)) (j + 1)
theorem Zul {κ:β→List β} {g:Nat} {w:List β} {j:Nat} (h:w.length ≤ j):runL κ g w j = w:=by
 cases g with
 | zero => rfl
 | succ g => unfold runL; rw [List.getElem?_eq_none h]
theorem Ztg {f:Nat→β}:∀ (ks v:List Nat),dd ((Z0a v ks).map f) = Z2o (dd (v.map f)) (ks.map f)
 | [],v => rfl
 | k :: ks,v => by
  show dd ((Z0a (addN v k) ks).map f) = Z2o (addB (dd (v.map f)) (f k)) (ks.map f)
  rw [Ztg ks (addN v k)]
  congr 1
  unfold addN
  split
  ·rename_i h
   unfold addB
   rw [if_pos (Zaj.2 (List.mem_map.2 ⟨k,h,rfl⟩))]
  ·rw [List.map_append,List.map_cons,List.map_nil,Zg5]
theorem Z8u {x:Nat}:∀ {ks v:List Nat},x ∈ Z0a v ks ↔ x ∈ v ∨ x ∈ ks
 | [],v => by simp [Z0a]
 | k :: ks,v => by
  show x ∈ Z0a (addN v k) ks ↔ _
  rw [Z8u (ks:=ks)]
  have:x ∈ addN v k ↔ x ∈ v ∨ x = k:=by
   unfold addN
   split
   ·rename_i h
    constructor
    ·exact .inl
    ·rintro (h' | rfl)
     ·exact h'
     ·exact h
   ·simp
  rw [this,List.mem_cons,or_assoc]
theorem Zze {K:Nat→List Nat} {f:Nat→β} {κ:β→List β} {n:Nat} (hK:∀ a,a < n→∀ k ∈ K a,k < n) {P:Nat→Prop} (hP:∀ a,P a→∀ k ∈ K a,P k) (hκ:∀ a,P a→(K a).map f = κ (f a)):∀ (c:Nat) (v:List Nat) (i g:Nat),v.Nodup→(∀ a ∈ v,a < n)→(∀ a ∈ v,P a)→n + 1 ≤ i + c →
  n + 1 ≤ (dd ((v.take i).map f)).length + g→(∀ (x a:Nat),x < i→v[x]? = some a→∀ k ∈ K a,k ∈ v)→i ≤ v.length →
  dd ((runB K c v i).map f) = runL κ g (dd (v.map f)) (dd ((v.take i).map f)).length:=by
 intro c
 induction c with
 | zero =>
  intro v i g hnd hlt _ hc _ _ hi
  have:=Z2a hnd hlt
  omega
 | succ c ih =>
  intro v i g hnd hlt hPv hc hg hcl hi
  unfold runB
  cases hv:v[i]? with
  | none =>
   have hl:v.length ≤ i:=by simpa using hv
   rw [List.take_of_length_le hl,Zul (Nat.le_refl _)]
  | some a =>
   simp only
   have ha:a ∈ v:=List.mem_of_getElem? hv
   have hil:i < v.length:=(List.getElem?_eq_some_iff.1 hv).1
   have htk:v.take (i + 1) = v.take i ++ [a]:=by rw [List.take_add_one,hv]; rfl
   obtain ⟨w,hw⟩:∃ w,Z0a v (K a) = v ++ w:=Z6f (K a) v
   have hnd':(Z0a v (K a)).Nodup:=(Zab hnd hlt (hK a (hlt a ha))).1
   have hlt':∀ x ∈ Z0a v (K a),x < n:=fun x hx => by
    rcases Z8u.1 hx with h | h
    ·exact hlt x h
    ·exact hK a (hlt a ha) x h
   have hP':∀ x ∈ Z0a v (K a),P x:=fun x hx => by
    rcases Z8u.1 hx with h | h
    ·exact hPv x h
    ·exact hP a (hPv a ha) x h
   have htk':(Z0a v (K a)).take (i + 1) = v.take i ++ [a]:=by rw [hw,List.take_append_of_le_length (by omega),htk]
   have hcl':∀ (x b:Nat),x < i + 1→(Z0a v (K a))[x]? = some b→∀ k ∈ K b,k ∈ Z0a v (K a):=by
    intro x b hx hb k hk
    rw [hw,List.getElem?_append_left (by omega)] at hb
    by_cases e:x = i
    ·subst e
     rw [hv] at hb
     cases hb
     exact Z8u.2 (.inr hk)
    ·exact Z8u.2 (.inl (hcl x b (by omega) hb k hk))
   have hi':i + 1 ≤ (Z0a v (K a)).length:=by rw [hw,List.length_append]; omega
   have hdd:dd ((Z0a v (K a)).map f) = Z2o (dd (v.map f)) (κ (f a)):=by rw [Ztg,hκ a (hPv a ha)]
   have hm1:dd ((v.take i ++ [a]).map f) = addB (dd ((v.take i).map f)) (f a):=by rw [List.map_append,List.map_cons,List.map_nil,Zg5]
   by_cases hs:f a ∈ dd ((v.take i).map f)
   ·have e1:addB (dd ((v.take i).map f)) (f a) = dd ((v.take i).map f):=by unfold addB; rw [if_pos hs]
    have:=ih (Z0a v (K a)) (i + 1) g hnd' hlt' hP' (by omega) (by rw [htk',hm1,e1]; exact hg) hcl' hi'
    rw [this,htk',hm1,e1,hdd]
    congr 1
    refine Zmp fun k hk => ?_
    obtain ⟨a0,ha0,e0⟩:=List.mem_map.1 (Zaj.1 hs)
    obtain ⟨x,hx,hxa⟩:=List.mem_iff_getElem.1 ha0
    rw [List.length_take] at hx
    rw [List.getElem_take] at hxa
    have hxa':v[x]? = some a0:=by rw [List.getElem?_eq_getElem (by omega),hxa]
    rw [← e0,← hκ a0 (hPv a0 (List.mem_of_getElem? hxa'))] at hk
    obtain ⟨k',hk',rfl⟩:=List.mem_map.1 hk
    exact Zaj.2 (List.mem_map.2 ⟨k',hcl x a0 (by omega) hxa' k' hk',rfl⟩)
   ·have e1:addB (dd ((v.take i).map f)) (f a) = dd ((v.take i).map f) ++ [f a]:=by unfold addB; rw [if_neg hs]
    have hat:(dd (v.map f))[(dd ((v.take i).map f)).length]? = some (f a):=by
     have e2:v.map f = (v.take i ++ [a]).map f ++ (v.drop (i + 1)).map f:=by rw [← List.map_append,← htk,List.take_append_drop]
     obtain ⟨T,hT⟩:=Zc3 ((v.drop (i + 1)).map f) (dd ((v.take i ++ [a]).map f))
     rw [e2,Zez,hT,hm1,e1,List.append_assoc,List.getElem?_append_right (Nat.le_refl _)]
     simp
    have hjn:(dd ((v.take i).map f)).length < n:=by
     have h1:(dd ((v.take i).map f)).length ≤ i:=Nat.le_trans (dd_len _) (by simp; omega)
     have:=Z2a hnd hlt
     omega
    obtain ⟨g',rfl⟩:∃ g',g = g' + 1:=⟨g - 1,by omega⟩
    have:=ih (Z0a v (K a)) (i + 1) g' hnd' hlt' hP' (by omega) (by rw [htk',hm1,e1,List.length_append,List.length_singleton]; omega) hcl' hi'
    rw [this,htk',hm1,e1,hdd,List.length_append]
    conv => rhs; unfold runL
    rw [hat]
    rfl
end
end Go.Proofs
end
section
open Go Go.AM
namespace Go.AM
theorem Zu9 {P:Program} {γ:RO→Option AVal} {s:St} {Q:AVal→St→Prop} {es ox:Nat} {x y:RO} {bx:Pos} {cx:Cap} {yv:AVal}
  (hx:γ x = some (.slice bx ox 0 cx)) (hy:γ y = some yv) (hs:Z1b yv = some 0) (h:Q (.int .i64 0) s):opP P (.copy (some es) x y) γ s Q:=by
 refine ⟨_,_,fun rec K hK => ?_,h⟩
 refine Z01.2 ⟨_,hx,Z01.2 ⟨_,hy,?_⟩⟩
 cases yv <;> cases hs <;> exact hK
end Go.AM
namespace Go.Proofs
set_option maxRecDepth 100000
def clOf (cls:List Int) (k:Int):Int:=(cls[k.toNat]?).getD 0
def Z4k (f:Int→Int) (ks:List Int) (j:Nat):List Int:=(ks.take j).map f ++ ks.drop j
theorem Zqi (f:Int→Int) (ks:List Int):Z4k f ks 0 = ks:=by simp [Z4k]
theorem Zkt (f:Int→Int) (ks:List Int) (j:Nat):(Z4k f ks j).length = ks.length:=by
 simp [Z4k]
 omega
theorem Zsf (f:Int→Int) (ks:List Int):Z4k f ks ks.length = ks.map f:=by simp [Z4k]
theorem Zsg {f:Int→Int} {ks:List Int} {j:Nat} {k:Int} (h:ks[j]? = some k):(Z4k f ks j)[j]? = some k:=by
 have hj:=(List.getElem?_eq_some_iff.1 h).1
 unfold Z4k
 rw [List.getElem?_append_right (by simp; omega)]
 have e:j - ((ks.take j).map f).length = 0:=by simp; omega
 rw [e,List.getElem?_drop]
 simpa using h
theorem Zqh {f:Int→Int} {ks:List Int} {j:Nat} {k:Int} (h:ks[j]? = some k):(Z4k f ks j).set j (f k) = Z4k f ks (j + 1):=by
 have hj:=(List.getElem?_eq_some_iff.1 h).1
 unfold Z4k
 have hl:((ks.take j).map f).length = j:=by simp; omega
 rw [List.set_append_right _ _ (by omega),hl,Nat.sub_self,List.take_add_one,h]
 have hd:ks.drop j = k :: ks.drop (j + 1):=by
  rw [List.drop_eq_getElem_cons hj]
  have:ks[j] = k:=(List.getElem?_eq_some_iff.1 h).2
  rw [this]
 rw [hd]
 simp
theorem Zlu:∀ (l:List (List UInt8 × AVal)) (i:Nat) (c:List UInt8 × AVal) (nm:List UInt8),l[i]? = some c→lay (penc l) (i * 2) [.str nm] = penc (l.set i (nm,c.2))
 | [],i,c,nm,h => by simp at h
 | d :: l,0,c,nm,h => by
  simp at h
  subst h
  simp [lay,penc]
 | d :: l,i + 1,c,nm,h => by
  have ih:=Zlu l i c nm (by simpa using h)
  have e:penc (d :: l) = [.str d.1,d.2] ++ penc l:=rfl
  have e2:penc ((d :: l).set (i + 1) (nm,c.2)) = [.str d.1,d.2] ++ penc (l.set i (nm,c.2)):=rfl
  rw [e,e2,← ih]
  have e3:(i + 1) * 2 = i * 2 + 2:=by omega
  rw [e3]
  simp [lay]
theorem Zlv:∀ (l:List (List UInt8 × AVal)) (i:Nat) (c:List UInt8 × AVal) (kv:AVal),l[i]? = some c→lay (penc l) (i * 2 + 1) [kv] = penc (l.set i (c.1,kv))
 | [],i,c,nm,h => by simp at h
 | d :: l,0,c,nm,h => by
  simp at h
  subst h
  simp [lay,penc]
 | d :: l,i + 1,c,nm,h => by
  have ih:=Zlv l i c nm (by simpa using h)
  have e:penc (d :: l) = [.str d.1,d.2] ++ penc l:=rfl
  have e2:penc ((d :: l).set (i + 1) (c.1,nm)) = [.str d.1,d.2] ++ penc (l.set i (c.1,nm)):=rfl
  rw [e,e2,← ih]
  have e3:(i + 1) * 2 + 1 = i * 2 + 1 + 2:=by omega
  rw [e3]
  simp [lay]
theorem Zou:∀ (ns:List ND) (V:List AVal) (i:Nat) (nm:List UInt8) (ks:List Int) (kv:AVal),V[i]? = some kv→(List.zipWith (fun nd kv => (nd.1,kv)) ns V).set i (nm,kv) = List.zipWith (fun (nd:ND) kv => (nd.1,kv)) (ns.set i (nm,ks)) V
 | [],V,i,nm,ks,kv,h => by simp
 | n :: ns,[],i,nm,ks,kv,h => by simp at h
 | n :: ns,v :: V,0,nm,ks,kv,h => by simp at h; subst h; simp
 | n :: ns,v :: V,i + 1,nm,ks,kv,h => by
  have:=Zou ns V i nm ks kv (by simpa using h)
  simpa using this
theorem Zov:∀ (ns:List ND) (V:List AVal) (i:Nat) (nd:ND) (kv:AVal),ns[i]? = some nd→(List.zipWith (fun (nd:ND) kv => (nd.1,kv)) ns V).set i (nd.1,kv) = List.zipWith (fun (nd:ND) kv => (nd.1,kv)) ns (V.set i kv)
 | [],V,i,nm,kv,h => by simp at h
 | n :: ns,[],i,nm,kv,h => by simp
 | n :: ns,v :: V,0,nm,kv,h => by simp at h; subst h; simp
 | n :: ns,v :: V,i + 1,nm,kv,h => by
  have:=Zov ns V i nm kv (by simpa using h)
  simpa using this
theorem Zrj {ns:List ND} {V:List AVal} {i:Nat} {nd:ND} {kv:AVal} (nm:List UInt8) (ks:List Int) (h1:ns[i]? = some nd) (h2:V[i]? = some kv):lay (Z0g ns V) (i * 2) [.str nm] = Z0g (ns.set i (nm,ks)) V:=by
 unfold Z0g
 rw [Zlu _ i (nd.1,kv) nm (by simp [List.getElem?_zipWith,h1,h2]),Zou ns V i nm ks kv h2]
theorem Zrk {ns:List ND} {V:List AVal} {i:Nat} {nd:ND} {kv:AVal} (kv':AVal) (h1:ns[i]? = some nd) (h2:V[i]? = some kv):lay (Z0g ns V) (i * 2 + 1) [kv'] = Z0g ns (V.set i kv'):=by
 unfold Z0g
 rw [Zlv _ i (nd.1,kv) kv' (by simp [List.getElem?_zipWith,h1,h2]),Zov ns V i nd kv' h1]
def Zij (Bn:Pos) (ns:List ND) (m:Lets):Prop:=∃ V mr,m.Perm ((Bn,C (Z0g ns V)) :: mr)∧Z14 (ns.map Prod.snd) V mr
theorem Zij.at {s0 s:St} {W:Pos→Prop} {Bn:Pos} {ns:List ND} {m:Lets} (h:Zij Bn ns m) (c:Cap) (hc:Ctx s0 W m s):Z1k s (.slice Bn 0 ns.length c) ns:=by
 obtain ⟨V,mr,hp,hR⟩:=h
 have hc':=hc.perm hp
 have hV:V.length = ns.length:=by simpa using hR.len
 refine .inr ⟨Bn,0,c,_,rfl,hc'.oi 0 rfl,hc'.c 0 rfl,by rw [Z6b hV]; omega,fun i nd hi => ?_⟩
 obtain ⟨kv,g1,g2⟩:=hR.each (i:=i) (ks:=nd.2) (by rw [List.getElem?_map,hi]; rfl)
 obtain ⟨e1,e2⟩:=Z7g hi g1
 rw [Nat.zero_add]
 refine ⟨e1,kv,e2,?_⟩
 rcases g2 with ⟨e3,e4⟩ | ⟨q',c',e3,e4,e5⟩
 ·exact .inl ⟨e4,e3⟩
 ·rw [e4]
  exact Z5q hc'.wf (Z1l (hc'.own _ (List.mem_cons_of_mem _ e5))) c'
theorem Ze6 {cls:List Int} {nds:List ND}:∀ {l:List Nat} {x:ND},x ∈ outF cls nds l→∃ a nd,a ∈ l∧nds[a]? = some nd∧x = Z3y cls nd:=by
 have key:∀ (l:List Nat) (out:List ND) (x:ND),x ∈ l.foldl (Z2e cls nds) out→x ∈ out ∨ ∃ a nd,a ∈ l∧nds[a]? = some nd∧x = Z3y cls nd:=by
  intro l
  induction l with
  | nil => intro out x h; exact .inl h
  | cons a l ih =>
   intro out x h
   rcases ih _ x h with h | ⟨b,nd,h1,h2,h3⟩
   ·unfold Z2e at h
    split at h
    ·rename_i c nd hc hnd
     split at h
     ·exact .inl h
     ·rcases List.mem_append.1 h with h | h
      ·exact .inl h
      ·exact .inr ⟨a,nd,by simp,hnd,by simpa using h⟩
    ·exact .inl h
   ·exact .inr ⟨b,nd,by simp [h1],h2,h3⟩
 intro l x h
 rcases key l [] x h with h | h
 ·cases h
 ·exact h
def padF (M:Nat) (l:List ND):List ND:=l ++ List.replicate (M - l.length) ([],[])
theorem Zw1 {M:Nat} {l:List ND} (h:l.length ≤ M):(padF M l).length = M:=by
 simp [padF]
 omega
theorem Zw2 {M:Nat} {l:List ND} (h:l.length < M):(padF M l)[l.length]? = some ([],[]):=by
 unfold padF
 rw [List.getElem?_append_right (Nat.le_refl _),Nat.sub_self,List.getElem?_replicate,if_pos (by omega)]
theorem Zo3 {M:Nat} {l:List ND} {i:Nat} {x:ND} (h:l[i]? = some x):(padF M l)[i]? = some x:=by
 unfold padF
 rw [List.getElem?_append_left (List.getElem?_eq_some_iff.1 h).1]
 exact h
theorem Zo4 {M:Nat} {l:List ND} (x:ND) (h:l.length < M):(padF M l).set l.length x = padF M (l ++ [x]):=by
 unfold padF
 rw [List.set_append_right _ _ (Nat.le_refl _),Nat.sub_self]
 have e:M - l.length = (M - (l ++ [x]).length) + 1:=by simp; omega
 rw [e,List.replicate_succ,List.set_cons_zero]
 simp
theorem Zp6 {ns ns':List ND} (V:List AVal) (h:ns.map Prod.fst = ns'.map Prod.fst):Z0g ns V = Z0g ns' V:=by
 have key:∀ l:List ND,List.zipWith (fun (nd:ND) kv => (nd.1,kv)) l V = List.zipWith (fun (n:List UInt8) kv => (n,kv)) (l.map Prod.fst) V:=fun l => by rw [List.zipWith_map_left]
 unfold Z0g
 rw [key,key,h]
theorem Zvm {cs:List AVal} {o:Nat} {ks:List Int} (hl:o + ks.length ≤ cs.length) (h:∀ i k,ks[i]? = some k→cs[o + i]? = some (.int .i64 k)):(cs.drop o).take ks.length = ints ks:=by
 refine List.ext_getElem? fun i => ?_
 rw [List.getElem?_take,List.getElem?_drop,List.getElem?_map]
 by_cases hi:i < ks.length
 ·rw [if_pos hi,h i _ (List.getElem?_eq_getElem hi),List.getElem?_eq_getElem hi]
  rfl
 ·rw [if_neg hi,List.getElem?_eq_none (by omega)]
  rfl
theorem Zqr {P:Program} {γ:RO→Option AVal} {s0 s:St} {W:Pos→Prop} {Q:AVal→St→Prop} {pre r:Lets} {x y:RO} {Bk:Pos} {kv:AVal} {ks:List Int} {c:Cap}
  (hc:Ctx s0 W (pre ++ (Bk,C (List.replicate ks.length (.int .i64 0))) :: r) s) (hx:γ x = some (.slice Bk 0 ks.length c)) (hy:γ y = some kv) (hk:Z0e s kv ks)
  (q:∀ v s',Ctx s0 W (pre ++ (Bk,C (ints ks)) :: r) s'→Q v s'):opP P (.copy (some 1) x y) γ s Q:=by
 by_cases h0:ks = []
 ·subst h0
  exact Zu9 hx hy hk.len (q _ _ hc)
 ·have hl:ks.length ≠ 0:=by simpa using h0
  rcases hk with ⟨_,e⟩ | ⟨b,o,c',cs,rfl,hb,hcs,hle,hel⟩
  ·exact (h0 e).elim
  ·have hk0:s.own Bk = some (List.replicate ks.length (.int .i64 0)):=Z1l (hc.own (Bk,C _) (by simp))
   refine Zny (ox:=0) (o:=o) hx hy hl hk0 hcs (by omega) (by simp) ?_
   rw [Nat.mul_one,Zvm hle hel]
   have e:lay (List.replicate ks.length (AVal.int .i64 0)) 0 (ints ks) = ints ks:=by simp [lay]
   rw [e]
   have hi:(pre ++ (Bk,C (List.replicate ks.length (.int .i64 0))) :: r)[pre.length]? = some (Bk,C (List.replicate ks.length (.int .i64 0))):=by simp
   have:=hc.put pre.length hi (C (ints ks))
   rw [List.set_append_right _ _ (Nat.le_refl _),Nat.sub_self,List.set_cons_zero] at this
   exact q _ _ this
end Go.Proofs
end
section
open Go Go.AM
namespace Go.Proofs
set_option maxRecDepth 100000
theorem Ztk (p:Pos) (o n c:Nat):Z27 8 (.agg [.slice p o n (.lim c)]) (.agg [.slice p o n (.lim c)]) = true:=by
 simp [Z27,Za0]
theorem Zuv {s0 s:St} {W:Pos→Prop} {n a:Nat} {v:List Nat} {B4 Bm:Pos} {pre r:Lets} {Q:AVal→St→Prop} (hc:Ctx s0 W (pre ++ ((B4,C [.slice Bm 0 n (.lim n)]) :: (Bm,C (metL n v)) :: r)) s) (ha:a < n) (hav:a ∉ v)
  (q:∀ s',Ctx s0 W (pre ++ ((B4,C [.slice Bm 0 n (.lim n)]) :: (Bm,C (metL n (v ++ [a]))) :: r)) s'→Q (.tup []) s'):Z0f Tryd.prog 74 [.int .i64 a,.ptr B4 0] s Q:=by
 have hc0:Ctx s0 W ((B4,C [.slice Bm 0 n (.lim n)]) :: (Bm,C (metL n v)) :: (pre ++ r)) s:=hc.perm (List.perm_middle.trans (List.Perm.cons _ List.perm_middle))
 have hset:=Ze0 ha hav
 have e:addN v a = v ++ [a]:=by unfold addN; rw [if_neg hav]
 rw [e] at hset
 have hle:a + 1 ≤ (metL n v).length:=by rw [Z3j]; omega
 simp [lay] at hset
 refine Z09 (Z0n (by decide)) fi74 rfl (by decide) rfl ?_
 refine AM.wp_region ?_
 simp [hc0.c 0 rfl,hc0.o 1 rfl,ha,hle]
 rw [hset]
 have c1:=hc0.put 1 rfl (C (metL n (v ++ [a])))
 simp only [List.set_cons_succ,List.set_cons_zero] at c1
 exact q _ (c1.perm (List.perm_middle.trans (List.Perm.cons _ List.perm_middle)).symm)
def Z0m (cs:List CV):List Nat:=bfsF (kidN cs) cs.length ((Z2q cs cs.length).map Int.toNat)
def Z2p (cs:List CV) (v:List Nat) (i:Nat):List Int:=((Z17 cs i).filter fun j => decide (j ∉ v)).map fun (j:Nat) => (j:Int)
def Z3n (cs:List CV):Int × Int × List CV:=((Z2p cs (Z0m cs) cs.length).length,0,relC cs (Z2p cs (Z0m cs) cs.length))
theorem Zsb {cs:List CV} {v:List Nat} {i:Nat} {c:CV} (h:cs[i]? = some c) (ht:c.taken = true):Z2p cs v (i + 1) = Z2p cs v i ++ (if i ∈ v then [] else [(i:Int)]):=by
 unfold Z2p
 rw [Zh3 h ht,List.filter_append]
 by_cases hh:i ∈ v <;> simp [hh]
theorem Zsc {cs:List CV} {v:List Nat} {i:Nat} {c:CV} (h:cs[i]? = some c) (ht:c.taken = false):Z2p cs v (i + 1) = Z2p cs v i:=by
 unfold Z2p
 rw [Zh4 h ht]
theorem Zm9 (cs:List CV) (v:List Nat) (i:Nat):(Z2p cs v i).length ≤ i:=by
 unfold Z2p Z17
 rw [List.length_map]
 refine Nat.le_trans (List.length_filter_le _ _) (Nat.le_trans (List.length_filter_le _ _) (by simp))
theorem Zg1 {cs:List CV} {v:List Nat} {i:Nat} {k:Int}:k ∈ Z2p cs v i ↔ 0 ≤ k∧k < i∧Z06 cs k = true∧k.toNat ∉ v:=by
 unfold Z2p
 simp only [List.mem_map,List.mem_filter,Z5i,decide_eq_true_eq]
 constructor
 ·rintro ⟨j,⟨⟨h1,h2⟩,h3⟩,rfl⟩
  exact ⟨by omega,by omega,h2,by simpa using h3⟩
 ·rintro ⟨h0,h1,h2,h3⟩
  have e:((k.toNat:Nat):Int) = k:=by omega
  exact ⟨k.toNat,⟨⟨by omega,by rw [e]; exact h2⟩,h3⟩,e⟩
theorem Zc7 {cs:List CV} {i:Nat} {k:Int} (h:k ∈ Z2q cs i):0 ≤ k∧k < i∧Z06 cs k = true:=by
 unfold Z2q at h
 simp only [List.mem_map,List.mem_filter,Z5i] at h
 obtain ⟨j,⟨⟨h1,h2⟩,_⟩,rfl⟩:=h
 exact ⟨by omega,by omega,h2⟩
theorem Zri {l:List Int} (h:∀ k ∈ l,0 ≤ k):nats (l.map Int.toNat) = l:=by
 unfold nats
 rw [List.map_map]
 have:∀ k ∈ l,((fun (a:Nat) => (a:Int)) ∘ Int.toNat) k = k:=fun k hk => by
  have:=h k hk
  simp only [Function.comp]
  omega
 exact (List.map_congr_left this).trans (by simp)
theorem Zw8 {cs:List CV} (hO:HOk2 cs):∀ a,a < cs.length→(Z29 cs a).length ≤ 4∧∀ k ∈ Z29 cs a,0 ≤ k∧k < cs.length:=by
 intro a ha
 have hcd:cs[a]? = some cs[a]:=List.getElem?_eq_getElem ha
 rw [Z1z hcd]
 refine ⟨hO.kids4 _ (List.getElem_mem ha),fun k hk => ?_⟩
 cases hta:cs[a].taken with
 | true =>
  obtain ⟨k0,_,_,_,k1⟩:=Z21 (hO.kids _ (List.getElem_mem ha) hta k hk)
  exact ⟨k0,by omega⟩
 | false =>
  rw [hO.free _ (List.getElem_mem ha) hta] at hk
  cases hk
theorem Zqe {s0 s:St} {W:Pos→Prop} {hb:Pos} {vs:AVal} {cs:List CV} {m r:Lets} {Q:AVal→St→Prop} (hH:Z3s hb vs cs m) (h:Ctx s0 W (m ++ r) s) (hO:HOk2 cs)
  (q:∀ m' s',Z3s hb vs (Z3n cs).2.2 m'→Ctx s0 W (m' ++ r) s'→Q (.tup [.int .i64 (Z3n cs).1,.int .i64 (Z3n cs).2.1]) s'):Z0f Tryd.prog 29 [.ptr hb 0] s Q:=by
 obtain ⟨p,V,mr,hc,hR,hV,h1,h4,hP⟩:=Ze4 hH h
 have hl:=Z34 hV
 have hno:cs.length ≠ 0:=by omega
 have hz1:cs.length ≤ Z0j:=by unfold Z0j; omega
 refine Z09 (Z0n (by decide)) fi29 rfl (by decide) rfl ?_
 refine Z00 ?_
 simp
 refine AM.wp_seq ?_
 refine Z00 ?_
 simp
 refine Z05 ?_
 refine Z9v (hc.c 0 rfl) rfl hno ?_
 simp
 refine AM.Z03 ?_
 simp
 refine AM.wp_skip ?_
 simp
 refine Z00 ?_
 simp [hc.c 0 rfl,hz1]
 have c1:=hc.alloc (C (List.replicate cs.length (.bool false)))
 generalize s.alloc (.cells (List.replicate cs.length (.bool false)) false) = s1 at c1 ⊢
 generalize s.next = Bm at c1 ⊢
 have c2:=(c1.alloc (C [.nilSlice])).put 0 rfl (C [.slice Bm 0 cs.length (.lim cs.length)])
 simp only [List.set_cons_zero] at c2
 generalize (s1.alloc (.cells [.nilSlice] false)).put s1.next (.cells [.slice Bm 0 cs.length (.lim cs.length)] false) = s2 at c2 ⊢
 generalize s1.next = B4 at c2 ⊢
 have hm0:List.replicate cs.length (AVal.bool false) = metL cs.length []:=by
  refine List.ext_getElem? fun j => ?_
  by_cases hj:j < cs.length
  ·rw [Z5s _ hj,List.getElem?_replicate,if_pos hj]
   simp
  ·rw [List.getElem?_eq_none (by simp; omega),List.getElem?_eq_none (by rw [Z3j]; omega)]
 rw [hm0] at c2
 refine Z00 ?_
 simp [c2.c 2 rfl]
 refine Z05 ?_
 refine Zyz (p:=p) (V:=V) (cs:=cs) c2 hV h4 (fun x s' hx => ?_) fun lv mg x s3 hg c3 => ?_
 ·have hx':(p,C (encs (rcs cs V))) ∈ x ++ ((B4,C [.slice Bm 0 cs.length (.lim cs.length)]) :: (Bm,C (metL cs.length [])) :: (hb,C [.slice p 0 cs.length (.lim cs.length),vs]) :: (p,C (encs (rcs cs V))) :: (mr ++ r)):=by simp
  exact ⟨hx.ob hx',Z0i (Z1l (hx.own _ hx'))⟩
 have c3:=(c3.sub (List.sublist_append_right x _))
 have c4:Ctx s0 W ([(B4,C [.slice Bm 0 cs.length (.lim cs.length)]),(Bm,C (metL cs.length []))] ++ ((hb,C [.slice p 0 cs.length (.lim cs.length),vs]) :: (p,C (encs (rcs cs V))) :: (mg ++ (mr ++ r)))) s3:=c3.perm (by
  have:=List.perm_append_comm (l₁:=mg) (l₂:=[(B4,C [.slice Bm 0 cs.length (.lim cs.length)]),(Bm,C (metL cs.length [])),(hb,C [.slice p 0 cs.length (.lim cs.length),vs]),(p,C (encs (rcs cs V)))])
  have:=this.append (List.Perm.refl (mr ++ r))
  simpa using this)
 have hlv:∀ t,¬ lv = .tup t:=hg.ntup
 simp [hlv,c4.c 2 rfl]
 refine ⟨Ztk _ _ _ _,?_⟩
 refine Z05 ?_
 have hrn:nats ((Z2q cs cs.length).map Int.toNat) = Z2q cs cs.length:=Zri fun k hk => (Zc7 hk).1
 have hrl:=Zlb cs cs.length
 have hroots:∀ a ∈ (Z2q cs cs.length).map Int.toNat,Z06 cs (a:Int) = true:=by
  intro a ha
  obtain ⟨k,hk,rfl⟩:=List.mem_map.1 ha
  obtain ⟨k0,_,kt⟩:=Zc7 hk
  rw [Int.toNat_of_nonneg k0]
  exact kt
 refine Zkw (V:=V) (J:=fun v m => m = [(B4,C [.slice Bm 0 cs.length (.lim cs.length)]),(Bm,C (metL cs.length v))]) (roots:=(Z2q cs cs.length).map Int.toNat) (rv:=lv) (f:=74) (fx:=[]) (fy:=[.ptr B4 0])
  ⟨hV,h4,?_,fun a ha => Z2b (hroots a ha),by simp; omega,Zw8 hO,?_⟩ c4 rfl hlv ?_
 ·rintro x m' s' hx ⟨v,rfl⟩
  obtain ⟨r1,r2,r3⟩:=Z96 (p:=p) (cs:=cs) (V:=V) hx (by simp) hR (fun y hy => by simp [hy])
  refine ⟨r1,r2,?_,r3⟩
  rw [hrn]
  exact (hg.row.kid fun y hy => hx.own y (by simp [hy])).ints hx.wf
 ·rintro a v x m' s' R rfl hav han hvn hvlt hx hq
  refine Z05 ?_
  exact Zuv (pre:=x) (by simpa using hx) han hav fun s'' hx' => hq _ _ _ rfl (by simpa using hx')
 ·rintro x m' s5 rfl hx
  have c5:=hx.sub (List.sublist_append_right x _)
  simp only [List.cons_append,List.nil_append] at c5
  have hrd:bfsF (kidN cs) cs.length ((Z2q cs cs.length).map Int.toNat) = Z0m cs:=rfl
  rw [hrd] at c5
  simp only [Z3n] at q
  have hrlt:∀ a,a < cs.length→(metL cs.length (Z0m cs))[a]? = some (.bool (decide (a ∈ Z0m cs))):=fun a ha => Z5s _ ha
  generalize Z0m cs = v at c5 q hrlt
  simp
  refine Z00 ?_
  simp
  have c6:=c5.alloc (C [.nilSlice])
  generalize s5.alloc (.cells [.nilSlice] false) = s6 at c6 ⊢
  generalize s5.next = B5 at c6 ⊢
  refine AM.wp_seq ?_
  refine Z00 ?_
  simp [c6.c 3 rfl]
  refine Z05 ?_
  refine Zee fun BB hBB => ?_
  have c7:=c6.alloc (C [.slice p 0 cs.length (.lim cs.length)])
  rw [← hBB] at c7
  generalize s6.alloc (.cells [.slice p 0 cs.length (.lim cs.length)] false) = s7 at c7 ⊢
  simp
  refine AM.wp_block ?_
  refine Zek (B:=BB) (p:=p) (l:=rcs cs V) (J:=fun i m => ∃ gv mh,Z1a gv (Z2p cs v i) mh∧m = (B5,C [gv]) :: (B4,C [.slice Bm 0 cs.length (.lim cs.length)]) :: (Bm,C (metL cs.length v)) :: (hb,C [.slice p 0 cs.length (.lim cs.length),vs]) :: (p,C (encs (rcs cs V))) :: (mh ++ (mg ++ (mr ++ r))))
   hl h4 (by simp) rfl fi29 rfl ?_ ?_ ?_ ⟨.nilSlice,[],.inl ⟨rfl,rfl,rfl⟩,rfl⟩ c7 ?_
  ·rintro i m s' ⟨gv,mh,hgr,rfl⟩ hc'
   exact ⟨hc'.oi 4 rfl,hc'.c 4 rfl⟩
  ·rintro i c m hci hct ⟨gv,mh,hgr,rfl⟩
   have hi:i < cs.length:=by have:=(List.getElem?_eq_some_iff.1 hci).1; rwa [hl] at this
   rw [Z3d (List.getElem?_eq_getElem hi) (List.getElem?_eq_getElem (show i < V.length by omega))] at hci
   cases hci
   exact ⟨gv,mh,by rw [Zsc (List.getElem?_eq_getElem hi) hct]; exact hgr,rfl⟩
  ·rintro i c s' m Lb X Wx hci hct ⟨gv,mh,hgr,rfl⟩ hc' hW
   have hi:i < cs.length:=by have:=(List.getElem?_eq_some_iff.1 hci).1; rwa [hl] at this
   rw [Z3d (List.getElem?_eq_getElem hi) (List.getElem?_eq_getElem (show i < V.length by omega))] at hci
   have hnx:=Zsb (v:=v) (List.getElem?_eq_getElem hi) (by cases hci; exact hct)
   have hgm:=hrlt i hi
   refine AM.wp_block ?_
   refine Z00 ?_
   simp [hc'.c 3 rfl,hc'.c 4 rfl,hi,hgm]
   refine AM.Z03 ?_
   by_cases hh:i ∈ v
   ·rw [if_pos hh,List.append_nil] at hnx
    simp [hh]
    refine AM.wp_skip ?_
    simp
    exact hW _ _ _ ⟨gv,mh,by rw [hnx]; exact hgr,rfl⟩ hc'
   ·rw [if_neg hh] at hnx
    simp [hh]
    refine AM.wp_region ?_
    simp [hc'.c 2 rfl,hgr.ntup,hgr.cells,Z13,srcP]
    have d2:=hc'.alloc (C [.int .i64 i])
    generalize s'.alloc (.cells [.int .i64 i] false) = sB at d2 ⊢
    generalize s'.next = T at d2 ⊢
    have hgl:=Zm9 cs v i
    refine Z4t (pre:=[(T,C [.int .i64 i]),(Lb,X),(BB,C [.slice p 0 cs.length (.lim cs.length)]),(B5,C [gv]),(B4,C [.slice Bm 0 cs.length (.lim cs.length)]),(Bm,C (metL cs.length v)),(hb,C [.slice p 0 cs.length (.lim cs.length),vs]),(p,C (encs (rcs cs V)))]) d2 hgr (by omega) fun gv' mh' sC hgr' d3 => ?_
    simp at d3
    rw [← hnx] at hgr'
    simp [hgr'.ntup,hgr'.cells,d3.o 3 rfl]
    have d4:=(d3.put 3 rfl (C [gv'])).tail
    exact hW _ _ _ ⟨gv',mh',hgr',rfl⟩ d4
  ·rintro s' m ⟨gv,mh,hgr,rfl⟩ hc'
   have hglen:=Zm9 cs v cs.length
   have hgin:∀ k ∈ Z2p cs v cs.length,0 ≤ k∧k < cs.length:=fun k hk => by
    obtain ⟨a,b,_⟩:=Zg1.1 hk
    exact ⟨a,b⟩
   simp
   refine Z00 ?_
   simp [hc'.c 3 rfl,hc'.c 0 rfl,hgr.ntup]
   refine Z05 ?_
   refine Zuk hl hc'.wf (hc'.o 4 rfl) (by omega) hgin (fun s'' hS => ?_) fun s12 hS hpn2 => ?_
   ·have hmg:Ctx s0 W mh s'':=(hc'.sub (m':=mh) (by
     refine List.Sublist.trans ?_ (List.drop_sublist 5 _)
     exact List.sublist_append_left _ _)).same hS (fun b hb ho => by
      simp at hb
      subst hb
      exact hc'.free _ (List.mem_of_getElem? (i:=4) rfl) ho) (fun x hx hb => by
      simp at hb
      exact hc'.apart 4 rfl (y:=x) (by simp [hx]) hb.symm)
    exact (hgr.row.kid fun x hx => hmg.own x hx).ints hmg.wf
   ·have c12:=hc'.chg 4 rfl hS (St.Z2v hpn2)
    simp only [List.set_cons_succ,List.set_cons_zero] at c12
    obtain ⟨V3,m3,dd,e1,e2,e3⟩:=Zod (Z2p cs v cs.length) (cs:=cs) (V:=V) (m:=mr) hV hR hgin
    rw [e1] at c12
    simp
    refine Z00 ?_
    simp [c12.c 0 rfl,hgr.len,hgr.ntup]
    refine AM.wp_ret ?_
    simp
    have hlen:(relC cs (Z2p cs v cs.length)).length = cs.length:=Zia _ _
    refine q _ _ (Z6e (p:=p) e2 (by omega) (by omega)) ?_
    rw [hlen]
    have c14:=c12.sub (m':=(hb,C [.slice p 0 cs.length (.lim cs.length),vs]) :: (p,C (encs (rcs (relC cs (Z2p cs v cs.length)) V3))) :: (mr ++ r)) (.cons _ (.cons _ (.cons _ (.cons_cons _ (.cons_cons _
     (List.Sublist.trans (List.sublist_append_right mg _) (List.sublist_append_right mh _)))))))
    have c15:=c14.perm (List.Perm.cons _ (List.Perm.cons _ (e3.append (List.Perm.refl r))))
    exact c15.sub (.cons_cons _ (.cons_cons _ ((List.sublist_append_left m3 dd).append (List.Sublist.refl r))))
def Z9y (es:Nat) (v:AVal) (k:Nat) (xs:List AVal) (m:Lets):Prop:=xs.length = k * es∧((k = 0∧v = .nilSlice∧m = []) ∨ ∃ q,k ≠ 0∧v = .slice q 0 k (.opn es)∧m = [(q,C xs)])
theorem Z9y.nil (es:Nat):Z9y es .nilSlice 0 [] []:=⟨by simp,.inl ⟨rfl,rfl,rfl⟩⟩
theorem Z9y.len {es k:Nat} {v:AVal} {xs:List AVal} {m:Lets} (h:Z9y es v k xs m):Z1b v = some k:=by
 rcases h with ⟨_,⟨rfl,rfl,_⟩ | ⟨q,_,rfl,_⟩⟩ <;> rfl
theorem Z9y.ntup {es k:Nat} {v:AVal} {xs:List AVal} {m:Lets} (h:Z9y es v k xs m):∀ t,¬ v = .tup t:=by
 rintro t rfl
 have:=h.len
 cases this
theorem Ztl {s0 s:St} {W:Pos→Prop} {r pre mg:Lets} {es eb k:Nat} {v:AVal} {xs new:List AVal} {Q:AVal→St→Prop} (h:Ctx s0 W (pre ++ (mg ++ r)) s) (hg:Z9y es v k xs mg) (hn:new.length = es) (hs:(k + 1) * eb ≤ Z0j)
  (q:∀ v' mg' s',Z9y es v' (k + 1) (xs ++ new) mg'→Ctx s0 W (pre ++ (mg' ++ r)) s'→Q v' s'):appP (es,eb) v new 1 s Q:=by
 obtain ⟨hl,⟨rfl,rfl,rfl⟩ | ⟨b,hk,rfl,rfl⟩⟩:=hg
 ·have hx:xs = []:=List.length_eq_zero_iff.1 (by simpa using hl)
  subst hx
  simp only [appP,Z4a]
  rw [if_neg (by decide)]
  refine ⟨by simpa using hs,?_⟩
  have:=h.alloc (C new)
  refine q (.slice s.next 0 1 (.opn es)) [(s.next,C ([] ++ new))] _ ⟨by simp [hn],.inr ⟨_,by simp,rfl,rfl⟩⟩ (this.perm ?_)
  simp only [List.nil_append]
  exact List.perm_middle.symm
 ·have hb:s.own b = some xs:=Z1l (h.own (b,C xs) (by simp))
  have h1:Ctx s0 W ((b,C xs) :: (pre ++ r)) s:=h.perm (by simp)
  have h2:=(h1.put0 .dead).tail.alloc (C (xs ++ new))
  have hne:¬ 0 + (k + 1) * es ≤ xs.length ∨ es = 0:=by
   rcases Nat.eq_zero_or_pos es with e | e
   ·exact .inr e
   ·left
    rw [hl,Nat.zero_add,Nat.add_mul,Nat.one_mul]
    omega
  have ht:List.take (k * es) (List.drop 0 xs) = xs:=by rw [List.drop_zero]; exact List.take_of_length_le (by omega)
  have hnx:(s.put b .dead).next = s.next:=rfl
  simp only [appP,Z4a]
  rw [if_neg (by decide)]
  refine ⟨trivial,?_⟩
  rw [hb]
  simp only [Z0x]
  rw [if_neg hk]
  by_cases hes:es = 0
  ·subst hes
   have hx:xs = []:=List.length_eq_zero_iff.1 (by simpa using hl)
   have hnn:new = []:=List.length_eq_zero_iff.1 hn
   subst hx hnn
   rw [if_pos (by simp)]
   refine ⟨by simp,?_⟩
   have h3:=h1.put0 (C [])
   refine q _ [(b,C ([] ++ []))] _ ⟨by simp,.inr ⟨b,by simp,rfl,rfl⟩⟩ (h3.perm ?_)
   exact List.perm_middle.symm
  ·rw [if_neg (by rcases hne with h | h; exact h; exact (hes h).elim)]
   refine ⟨by omega,hs,?_⟩
   rw [ht]
   refine q (.slice s.next 0 (k + 1) (.opn es)) [(s.next,C (xs ++ new))] _ ⟨by simp [hl,hn,Nat.add_mul],.inr ⟨_,by simp,rfl,rfl⟩⟩ (h2.perm ?_)
   rw [hnx]
   exact List.perm_middle.symm
def StateR (p:Pos) (cs:List CV) (m:Lets):Prop:=∃ V mr,m.Perm ((p,C (encs (rcs cs V))) :: mr)∧Z14 (cs.map CV.kids) V mr
theorem own_c {s0 s:St} {W:Pos→Prop} {p:Pos} {cs:List CV} {V:List AVal} {base:Lets} {Q:AVal→St→Prop} (hc:Ctx s0 W base s) (hV:V.length = cs.length) (h1:1 ≤ cs.length) (h4:cs.length ≤ 400) (hk4:∀ c ∈ cs,c.kids.length ≤ 1000)
  (hp:(p,C (encs (rcs cs V))) ∈ base) {mr:Lets} (hR:Z14 (cs.map CV.kids) V mr) (hmr:∀ x ∈ mr,x ∈ base)
  (q:∀ pn mn s',StateR pn cs mn→Ctx s0 W (mn ++ base) s'→Q (.agg [.slice pn 0 cs.length (.lim cs.length)]) s'):Z0f Tryd.prog 51 [.agg [.slice p 0 cs.length (.lim cs.length)]] s Q:=by
 have hl:=Z34 hV
 obtain ⟨r1,r2,r3⟩:=Z96 (p:=p) (cs:=cs) (V:=V) hc hp hR hmr
 refine own_w (K:=Z29 cs) hl hc.wf r1 r2 h1 h4 (fun j c hj => ?_) fun pn kvs s5 k5 hpn hopn hOwn => ?_
 ·have hlt:j < cs.length:=by have:=(List.getElem?_eq_some_iff.1 hj).1; rwa [hl] at this
  obtain ⟨kv,g1,g2⟩:=r3 j _ (List.getElem?_eq_getElem hlt)
  rw [Z3d (List.getElem?_eq_getElem hlt) g1] at hj
  cases hj
  rw [Z1z (List.getElem?_eq_getElem hlt)]
  exact ⟨g2,hk4 _ (List.getElem_mem hlt)⟩
 rw [Zyg hV] at hopn
 obtain ⟨mk,hRk,hok,hnk,hfk⟩:=Zw0 hOwn
 generalize (List.range cs.length).map kvs = V' at hRk hopn
 have c5:=(hc.made k5 hpn (St.Z2v hopn)).addL (m:=mk) hok hnk (fun x hx ho => ((hfk x hx).1 (hc.old ho)).elim) (fun x hx => by
  rw [List.map_cons,List.mem_cons]
  rintro (e | hm)
  ·exact (hfk x hx).2 e
  ·obtain ⟨y,hy,e⟩:=List.mem_map.1 hm
   exact (hfk x hx).1 (e ▸ hc.ob hy))
 refine q pn ((pn,C (encs (rcs cs V'))) :: mk) s5 ⟨V',mk,List.Perm.refl _,hRk⟩ (c5.perm ?_)
 exact List.perm_middle
end Go.Proofs
end
section
open Go Go.AM
namespace Go.Proofs
open Classical in
noncomputable def one (x a:Pos × AObj):Nat:=if x = a then 1 else 0
noncomputable def cnt:Lets→Pos × AObj→Nat
 | [],_ => 0
 | x :: l,a => one x a + cnt l a
theorem Z2n (a:Pos × AObj):cnt [] a = 0:=rfl
theorem Z0h (x a:Pos × AObj) (l:Lets):cnt (x :: l) a = one x a + cnt l a:=rfl
theorem Z0o (a:Pos × AObj):∀ (l m:Lets),cnt (l ++ m) a = cnt l a + cnt m a
 | [],m => by simp [cnt]
 | x :: l,m => by rw [List.cons_append,Z0h,Z0h,Z0o a l m]; omega
theorem Z8d {l m:Lets} (h:l.Perm m) (a:Pos × AObj):cnt l a = cnt m a:=by
 induction h with
 | nil => rfl
 | cons x _ ih => rw [Z0h,Z0h,ih]
 | swap x y l => rw [Z0h,Z0h,Z0h,Z0h]; omega
 | trans _ _ h1 h2 => rw [h1,h2]
theorem Zps {x:Pos × AObj}:∀ {l:Lets},0 < cnt l x→x ∈ l
 | [],h => by simp [cnt] at h
 | y :: l,h => by
  rw [Z0h] at h
  by_cases e:y = x
  ·simp [e]
  ·have:one y x = 0:=by unfold one; rw [if_neg e]
   rw [this,Nat.zero_add] at h
   exact List.mem_cons_of_mem _ (Zps h)
theorem Znq (x:Pos × AObj):one x x = 1:=by unfold one; rw [if_pos rfl]
theorem Z0r:∀ {l m:Lets},(∀ a,cnt l a = cnt m a)→l.Perm m
 | [],m,h => by
  cases m with
  | nil => exact List.Perm.refl _
  | cons x m =>
   have:=h x
   rw [Z0h,Znq] at this
   simp [cnt] at this
   omega
 | x :: l,m,h => by
  have hx:x ∈ m:=Zps (by rw [← h x,Z0h,Znq]; omega)
  obtain ⟨i,hi⟩:=List.getElem?_of_mem hx
  have hp:=Z8c m i x hi
  have:l.Perm (m.eraseIdx i):=Z0r fun a => by
   have h1:=h a
   have h2:=Z8d hp a
   rw [Z0h] at h1 h2
   omega
  exact (List.Perm.cons x this).trans hp.symm
end Go.Proofs
end
section
open Go Go.AM
namespace Go.Proofs
set_option maxRecDepth 100000
theorem Z14.nils:∀ {K:List (List Int)} {V:List AVal} {m:Lets} (k:Nat),Z14 K V m→Z14 (K ++ List.replicate k []) (V ++ List.replicate k .nilSlice) m
 | K,V,m,0,h => by simpa using h
 | K,V,m,k + 1,h => by
  have:=(Z14.nils k h).snoc (mk:=[]) (ks:=[]) (kv:=.nilSlice) (.inl ⟨rfl,rfl,rfl⟩)
  rw [List.replicate_succ',List.replicate_succ',← List.append_assoc,← List.append_assoc]
  simpa using this
theorem Zlk {s:St} {nds:List ND} {Nv Lv Cv:AVal} {L:List Nat} {cls:List Int} {M:Nat} {Q:AVal→St→Prop} (hw:s.Wf) (hN:Z1k s Nv nds) (hL:Z0e s Lv (nats L)) (hC:Z0e s Cv cls)
  (hn:nds.length ≤ 1000) (hLl:L.length ≤ 1000) (hcl:cls.length = nds.length) (hlt:∀ a ∈ L,a < nds.length)
  (hk:∀ (a:Nat) nd,nds[a]? = some nd→nd.2.length ≤ 4∧∀ k ∈ nd.2,0 ≤ k∧k < nds.length) (hnm:∀ (a:Nat) nd,a ∈ L→nds[a]? = some nd→nd.1 ≠ [])
  (hord:∀ (j a:Nat),L[j]? = some a→∃ c:Nat,cls[a]? = some (c:Int)∧c ≤ (outF cls nds (L.take j)).length) (hM:(outF cls nds L).length = M)
  (q:∀ Bn mn s',Zij Bn (outF cls nds L) mn→Ctx s (fun _ => False) mn s'→Q (.agg [.slice Bn 0 M (.lim M),.int .i64 0]) s'):Z0f Tryd.prog 71 [Nv,Lv,Cv,.int .i64 M] s Q:=by
 have hML:M ≤ L.length:=by rw [← hM]; exact Zi4 _ _ _
 have hz1:M ≤ Z0j:=by unfold Z0j; omega
 have hz2:M * 40 ≤ Z0j:=by unfold Z0j; omega
 have hNt:=hN.ntup
 have hLt:=hL.ntup
 have hCt:=hC.ntup
 refine Z09 (Z0n (by decide)) fi71 rfl (by decide) rfl ?_
 refine Z00 ?_
 simp
 have d0:=(Ctx.start (fun _ => False) hw).alloc (C [.nilSlice,.int .i64 0])
 generalize s.alloc (.cells [.nilSlice,.int .i64 0] false) = s1 at d0 ⊢
 generalize s.next = B8 at d0 ⊢
 refine Z00 ?_
 simp [hz1,hz2]
 have hz0:(List.replicate M [AVal.str [],.nilSlice]).flatten = Z0g (padF M []) (List.replicate M .nilSlice):=by
  simp [padF,Z0g,penc,List.zipWith_replicate,List.flatMap]
 rw [hz0]
 have d1:=d0.alloc (C (Z0g (padF M []) (List.replicate M .nilSlice)))
 generalize s1.alloc (.cells (Z0g (padF M []) (List.replicate M .nilSlice)) false) = s2 at d1 ⊢
 generalize s1.next = Bn at d1 ⊢
 have d2:=(d1.alloc (C [.nilSlice,.int .i64 0])).put 0 rfl (C [.slice Bn 0 M (.lim M),.int .i64 0])
 simp only [List.set_cons_zero] at d2
 generalize (s2.alloc (.cells [.nilSlice,.int .i64 0] false)).put s2.next (.cells [.slice Bn 0 M (.lim M),.int .i64 0] false) = s3 at d2 ⊢
 generalize s2.next = B9 at d2 ⊢
 have hR0:Z14 ((padF M []).map Prod.snd) (List.replicate M .nilSlice) []:=by
  have:=Z14.nils (K:=[]) (V:=[]) (m:=[]) M rfl
  simpa [padF] using this
 have d3:Ctx s (fun _ => False) ((B9,C [.slice Bn 0 M (.lim M),.int .i64 0]) :: (B8,C [.nilSlice,.int .i64 0]) :: (Bn,C (Z0g (padF M []) (List.replicate M .nilSlice))) :: []) s3:=d2.perm (Z0r fun x => by
  simp only [Z0h,Z2n]
  omega)
 refine AM.wp_seq ?_
 refine Z00 ?_
 simp [hLt,hL.len]
 refine AM.wp_block ?_
 refine AM.wp_loop (fun k t s' => ∃ (j:Nat) (V:List AVal) (mr:Lets),j ≤ L.length∧k = L.length - j∧PT.get (posOf 0) t = some Nv∧PT.get (posOf 2) t = some Cv∧PT.get (posOf 8) t = some (.ptr B8 0)∧PT.get (posOf 9) t = some (.ptr B9 0) ∧
   PT.get (posOf 18) t = some Lv∧PT.get (posOf 19) t = some (.int .i64 L.length)∧PT.get (posOf 20) t = some (.int .i64 j)∧Z14 ((padF M (outF cls nds (L.take j))).map Prod.snd) V mr ∧
   Ctx s (fun _ => False) ((B9,C [.slice Bn 0 M (.lim M),.int .i64 0]) :: (B8,C [.nilSlice,.int .i64 0]) :: (Bn,C (Z0g (padF M (outF cls nds (L.take j))) V)) :: mr) s') L.length
  ⟨0,List.replicate M .nilSlice,[],by simp,by simp,by simp,by simp,by simp,by simp,by simp,by simp,by simp,by simpa [outF] using hR0,by simpa [outF] using d3⟩ ?_
 rintro k t s' ⟨j,V,mr,hj,rfl,t0,t2,t8,t9,t18,t19,t20,hR,d⟩
 refine Z00 ?_
 simp [t19,t20]
 refine AM.wp_seq ?_
 refine AM.Z03 ?_
 by_cases hlt':j < L.length
 ·have hwr:IntKind.wrap .i64 ((j:Int) + 1) = ((j + 1:Nat):Int):=by rw [IntWalk.i64_in _ (by omega)]; omega
  obtain ⟨a,ha⟩:∃ a,L[j]? = some a:=⟨_,List.getElem?_eq_getElem hlt'⟩
  have haL:=List.mem_of_getElem? ha
  have han:=hlt a haL
  obtain ⟨nd,hnd⟩:∃ nd,nds[a]? = some nd:=⟨_,List.getElem?_eq_getElem han⟩
  obtain ⟨c,hc,hcle⟩:=hord j a ha
  have hnx:=Zls (cls:=cls) (nds:=nds) ha
  have hst:Z2e cls nds (outF cls nds (L.take j)) a = if (c:Int) < (outF cls nds (L.take j)).length then outF cls nds (L.take j) else outF cls nds (L.take j) ++ [Z3y cls nd]:=by
   unfold Z2e
   rw [hc,hnd]
  rw [hst] at hnx
  have hmono:=Zft cls nds L (j + 1)
  have hmono0:=Zft cls nds L j
  obtain ⟨hk4,hkin⟩:=hk a nd hnd
  have hndn:=hnm a nd haL hnd
  have hnames:∀ x ∈ outF cls nds (L.take j),x.1 ≠ []:=fun x hx => by
   obtain ⟨b,nd',h1,h2,rfl⟩:=Ze6 hx
   exact hnm b nd' (List.mem_of_mem_take h1) h2
  have hpl:(padF M (outF cls nds (L.take j))).length = M:=Zw1 (by omega)
  have hVl:V.length = M:=by have:=hR.len; simpa [hpl] using this
  have hcM:c < M:=by
   by_cases h:(c:Int) < (outF cls nds (L.take j)).length
   ·omega
   ·rw [if_neg h] at hnx
    rw [hnx] at hmono
    simp at hmono
    omega
  have hel:=Z6b (ns:=padF M (outF cls nds (L.take j))) (V:=V) (by omega)
  rcases hL with ⟨_,e0⟩ | ⟨bl,ol,cl,cellsl,rfl,hbl,hcsl,hlel,hell⟩
  ·have:L = []:=by simpa using e0
   rw [this] at hlt'
   simp at hlt'
  rw [List.length_map] at t18
  have hgl:=hell j (a:Int) (by rw [List.getElem?_map,ha]; rfl)
  rcases hC with ⟨_,e0⟩ | ⟨bx,ox,cx,cellsx,rfl,hbx,hcsx,hlex,helx⟩
  ·rw [e0] at hc
   simp at hc
  have hgx:=helx a (c:Int) hc
  have hax:a < cls.length:=by omega
  rcases hN with ⟨_,e0⟩ | ⟨bn,on,cn,cellsn,rfl,hbn,hcsn,hlen,heln⟩
  ·rw [e0] at hnd
   simp at hnd
  obtain ⟨hgn,kv,hgk,hkv⟩:=heln a _ hnd
  have rl:∀ {m:Lets} {s'':St},Ctx s (fun _ => False) m s''→s''.cells bl = some cellsl:=fun d => (d.Z0b.cells hbl).trans hcsl
  have rx:∀ {m:Lets} {s'':St},Ctx s (fun _ => False) m s''→s''.cells bx = some cellsx:=fun d => (d.Z0b.cells hbx).trans hcsx
  have rn:∀ {m:Lets} {s'':St},Ctx s (fun _ => False) m s''→s''.cells bn = some cellsn:=fun d => (d.Z0b.cells hbn).trans hcsn
  simp [hlt']
  refine AM.wp_skip ?_
  simp
  refine AM.wp_seq ?_
  refine AM.wp_block ?_
  refine Z00 ?_
  simp [t18,t20,hlt',rl d,hgl]
  refine Z00 ?_
  simp [t2,t9,hax,rx d,hgx,d.c 0 rfl,hcM]
  refine AM.wp_seq ?_
  by_cases hx:(c:Int) < (outF cls nds (L.take j)).length
  ·rw [if_pos hx] at hnx
   obtain ⟨x,hxx⟩:∃ x,(outF cls nds (L.take j))[c]? = some x:=⟨_,List.getElem?_eq_getElem (by omega)⟩
   have hxn:=hnames x (List.mem_of_getElem? hxx)
   obtain ⟨kv',g1,_⟩:=hR.each (i:=c) (ks:=x.2) (by rw [List.getElem?_map,Zo3 hxx]; rfl)
   obtain ⟨e1,_⟩:=Z7g (Zo3 (M:=M) hxx) g1
   refine Z00 ?_
   simp [d.c 2 rfl,e1]
   refine AM.Z03 ?_
   simp [hxn]
   refine AM.wp_exit ?_
   simp
   refine AM.wp_region ?_
   simp [t20,hwr]
   refine ⟨L.length - (j + 1),by omega,j + 1,by omega,by omega,by simp [t0],by simp [t2],by simp [t8],by simp [t9],by simp [t18],by simp [t19],by simp,V,mr,by rw [hnx]; exact hR,by rw [hnx]; exact d⟩
  ·rw [if_neg hx] at hnx
   have hce:c = (outF cls nds (L.take j)).length:=by omega
   generalize hout:outF cls nds (L.take j) = out at *
   subst hce
   have hnew:=Zw2 (l:=out) hcM
   obtain ⟨kv0,m1,m2,g1,g2,g3,g4⟩:=hR.at (i:=out.length) (ks:=[]) (by rw [List.getElem?_map,hnew]; rfl)
   obtain rfl:m1 = []:=by
    rcases g2 with ⟨_,_,h⟩ | ⟨_,_,h,_⟩
    ·exact h
    ·exact (h rfl).elim
   obtain ⟨e1,e2⟩:=Z7g hnew g1
   refine Z00 ?_
   simp [d.c 2 rfl,e1]
   refine AM.Z03 ?_
   simp
   refine AM.wp_skip ?_
   simp
   have hl1:=Zrj nd.1 nd.2 hnew g1
   have hb1:out.length * 2 + 1 ≤ (Z0g (padF M out) V).length:=by omega
   refine Z00 ?_
   simp [t0,han,rn d,hgn,d.o 2 rfl,hb1]
   simp [lay] at hl1
   rw [hl1]
   have d1:=d.put 2 rfl (C (Z0g ((padF M out).set out.length nd) V))
   simp only [List.set_cons_succ,List.set_cons_zero] at d1
   generalize s'.put Bn (.cells (Z0g ((padF M out).set out.length nd) V) false) = s4 at d1 ⊢
   have hn1:((padF M out).set out.length nd)[out.length]? = some nd:=by rw [List.getElem?_set_self (by omega)]
   have hset:=Zo4 nd hcM
   generalize hn2:(padF M out).set out.length nd = ns1 at d1 hn1 ⊢
   have hkt:=hkv.ntup
   have hz3:nd.2.length ≤ Z0j:=by unfold Z0j; omega
   have hz4:nd.2.length * 8 ≤ Z0j:=by unfold Z0j; omega
   have hl2:=Zrk (.slice s4.next 0 nd.2.length (.lim nd.2.length)) hn1 g1
   have hel1:(Z0g ns1 V).length = 2 * M:=by
    have e:ns1.length = M:=by rw [← hn2]; simp [hpl]
    rw [Z6b (by omega),e]
   have hb2:out.length * 2 + 1 + 1 ≤ (Z0g ns1 V).length:=by omega
   have d2:=(d1.alloc (C (List.replicate nd.2.length (.int .i64 0))))
   refine Z00 ?_
   simp [t0,han,rn d1,hgk,hkt,hkv.len,hz3,hz4,d2.o 3 rfl,hb2]
   simp [lay] at hl2
   rw [hl2]
   have d3:=d2.put 3 rfl (C (Z0g ns1 (V.set out.length (.slice s4.next 0 nd.2.length (.lim nd.2.length)))))
   simp only [List.set_cons_succ,List.set_cons_zero] at d3
   generalize (s4.alloc (.cells (List.replicate nd.2.length (.int .i64 0)) false)).put Bn (.cells (Z0g ns1 (V.set out.length (.slice s4.next 0 nd.2.length (.lim nd.2.length)))) false) = s5 at d3 ⊢
   generalize s4.next = Bk at d3 ⊢
   have hV2:(V.set out.length (AVal.slice Bk 0 nd.2.length (.lim nd.2.length)))[out.length]? = some (.slice Bk 0 nd.2.length (.lim nd.2.length)):=by rw [List.getElem?_set_self (by omega)]
   have hel2:(Z0g ns1 (V.set out.length (.slice Bk 0 nd.2.length (.lim nd.2.length)))).length = 2 * M:=by
    have e:ns1.length = M:=by rw [← hn2]; simp [hpl]
    rw [Z6b (by simp; omega),e]
   obtain ⟨_,e3⟩:=Z7g hn1 hV2
   have d4:Ctx s (fun _ => False) ((B9,C [.slice Bn 0 M (.lim M),.int .i64 0]) :: (B8,C [.nilSlice,.int .i64 0]) :: (Bn,C (Z0g ns1 (V.set out.length (.slice Bk 0 nd.2.length (.lim nd.2.length))))) :: (Bk,C (List.replicate nd.2.length (.int .i64 0))) :: mr) s5:=d3.perm (Z0r fun x => by
    simp only [Z0h]
    omega)
   generalize hV2e:V.set out.length (AVal.slice Bk 0 nd.2.length (.lim nd.2.length)) = V2 at hV2 hel2 e3 d4 ⊢
   refine AM.wp_seq ?_
   refine AM.wp_region ?_
   simp [t0,han,rn d4,hgk,hkt,d4.c 2 rfl,e3]
   refine Zqr (pre:=[(B9,C [.slice Bn 0 M (.lim M),.int .i64 0]),(B8,C [.nilSlice,.int .i64 0]),(Bn,C (Z0g ns1 V2))]) (r:=mr) (ks:=nd.2) (kv:=kv) (c:=.lim nd.2.length) (by simpa using d4) (by simp) (by simp) (hkv.keep d4.Z0b) fun _ s6 d5 => ?_
   simp only [List.cons_append,List.nil_append] at d5
   refine Z00 ?_
   simp [d5.c 2 rfl,e3]
   refine AM.wp_block ?_
   refine AM.wp_loop (fun k t s' => ∃ i:Nat,i ≤ nd.2.length∧k = nd.2.length - i∧PT.get (posOf 0) t = some (.slice bn on nds.length cn)∧PT.get (posOf 2) t = some (.slice bx ox cls.length cx)∧PT.get (posOf 8) t = some (.ptr B8 0)∧PT.get (posOf 9) t = some (.ptr B9 0) ∧
     PT.get (posOf 18) t = some (.slice bl ol L.length cl)∧PT.get (posOf 19) t = some (.int .i64 L.length)∧PT.get (posOf 20) t = some (.int .i64 j)∧PT.get (posOf 12) t = some (.ptr Bn (out.length * 2)) ∧
     PT.get (posOf 67) t = some (.slice Bk 0 nd.2.length (.lim nd.2.length))∧PT.get (posOf 68) t = some (.int .i64 nd.2.length)∧PT.get (posOf 69) t = some (.int .i64 i) ∧
     Ctx s (fun _ => False) ((B9,C [.slice Bn 0 M (.lim M),.int .i64 0]) :: (B8,C [.nilSlice,.int .i64 0]) :: (Bn,C (Z0g ns1 V2)) :: (Bk,C (ints (Z4k (clOf cls) nd.2 i))) :: mr) s') nd.2.length
    ⟨0,by simp,by simp,by simp [t0],by simp [t2],by simp [t8],by simp [t9],by simp [t18],by simp [t19],by simp [t20],by simp,by simp,by simp,by simp,by rw [Zqi]; exact d5⟩ ?_
   rintro k t s' ⟨i,hi,rfl,t0,t2,t8,t9,t18,t19,t20,t12,t67,t68,t69,d⟩
   refine Z00 ?_
   simp [t68,t69]
   refine AM.wp_seq ?_
   refine AM.Z03 ?_
   by_cases hilt:i < nd.2.length
   ·have hwi:IntKind.wrap .i64 ((i:Int) + 1) = ((i + 1:Nat):Int):=by rw [IntWalk.i64_in _ (by omega)]; omega
    obtain ⟨kk,hkk⟩:∃ kk,nd.2[i]? = some kk:=⟨_,List.getElem?_eq_getElem hilt⟩
    obtain ⟨hk0,hk1⟩:=hkin kk (List.mem_of_getElem? hkk)
    obtain ⟨kc,rfl⟩:∃ n:Nat,kk = (n:Int):=⟨kk.toNat,by omega⟩
    have hkc:kc < cls.length:=by omega
    obtain ⟨cc,hcc⟩:∃ cc,cls[kc]? = some cc:=⟨_,List.getElem?_eq_getElem hkc⟩
    have hto:clOf cls (kc:Int) = cc:=by unfold clOf; rw [Int.toNat_natCast,hcc]; rfl
    have hgxx:=helx kc cc hcc
    have hgm:(ints (Z4k (clOf cls) nd.2 i))[i]? = some (.int .i64 kc):=by rw [List.getElem?_map,Zsg hkk]; rfl
    have hlay:lay (ints (Z4k (clOf cls) nd.2 i)) i [.int .i64 cc] = ints (Z4k (clOf cls) nd.2 (i + 1)):=by
     have:=Z8f (Z4k (clOf cls) nd.2 i) i (clOf cls kc) (by rw [Zkt]; omega)
     rw [Zqh hkk,hto] at this
     exact this
    have hml:(ints (Z4k (clOf cls) nd.2 i)).length = nd.2.length:=by simp [Zkt]
    simp [hilt]
    refine AM.wp_skip ?_
    simp
    refine AM.wp_seq ?_
    refine AM.wp_block ?_
    refine Z00 ?_
    have hown:=d.c 3 rfl
    have hown':=d.o 3 rfl
    have dd:=d.put 3 rfl (C (ints (Z4k (clOf cls) nd.2 (i + 1))))
    simp only [List.set_cons_succ,List.set_cons_zero] at dd
    generalize hmv:ints (Z4k (clOf cls) nd.2 i) = mv at hgm hlay hml hown hown' d
    have hlei:i + 1 ≤ mv.length:=by omega
    simp [t67,t69,hilt,hown,hgm]
    refine AM.wp_region ?_
    simp [t12,t67,t69,t2,hilt,d.c 2 rfl,e3,hkc,rx d,hgxx,hown',hlei]
    simp [lay] at hlay
    rw [hlay]
    refine AM.wp_region ?_
    simp [t69,hwi]
    exact ⟨nd.2.length - (i + 1),by omega,i + 1,by omega,by omega,by simp [t0],by simp [t2],by simp [t8],by simp [t9],by simp [t18],by simp [t19],by simp [t20],by simp [t12],by simp [t67],by simp [t68],by simp,dd⟩
   ·simp [hilt]
    refine AM.wp_exit ?_
    simp
    have hie:i = nd.2.length:=by omega
    subst hie
    rw [Zsf] at d
    have hcm:nd.2.map (clOf cls) = (Z3y cls nd).2:=rfl
    rw [hcm] at d
    have hset':=Zo4 (Z3y cls nd) hcM
    have hname:Z0g ns1 V2 = Z0g (padF M (out ++ [Z3y cls nd])) V2:=by
     refine Zp6 V2 ?_
     rw [← hn2,← hset',List.map_set,List.map_set]
     rfl
    rw [hname] at d
    have hfin:∃ mr',Z14 ((padF M (out ++ [Z3y cls nd])).map Prod.snd) V2 mr'∧Ctx s (fun _ => False) ((B9,C [.slice Bn 0 M (.lim M),.int .i64 0]) :: (B8,C [.nilSlice,.int .i64 0]) :: (Bn,C (Z0g (padF M (out ++ [Z3y cls nd])) V2)) :: mr') s':=by
     have g5:∀ (ks':List Int) (kv':AVal) (m1':Lets),RowR kv' ks' m1'→Z14 (((padF M out).map Prod.snd).set out.length ks') (V.set out.length kv') (m1' ++ m2):=g4
     have hms:(padF M (out ++ [Z3y cls nd])).map Prod.snd = ((padF M out).map Prod.snd).set out.length (Z3y cls nd).2:=by rw [← hset',List.map_set]
     rw [hms,← hV2e]
     rw [← hV2e] at d
     by_cases h0:nd.2 = []
     ·refine ⟨[] ++ m2,g5 _ _ [] (.inl ⟨by simp [Z3y,h0],by simp [h0],rfl⟩),(d.sub (.cons_cons _ (.cons_cons _ (.cons_cons _ (List.sublist_cons_self _ _))))).perm ?_⟩
      exact List.Perm.cons _ (List.Perm.cons _ (List.Perm.cons _ g3))
     ·refine ⟨[(Bk,C (ints (Z3y cls nd).2))] ++ m2,g5 _ _ _ (.inr ⟨Bk,.lim nd.2.length,by simpa [Z3y] using h0,by simp [Z3y],rfl⟩),d.perm ?_⟩
      exact List.Perm.cons _ (List.Perm.cons _ (List.Perm.cons _ (List.Perm.cons _ g3)))
    obtain ⟨mr',hR',d'⟩:=hfin
    refine AM.wp_region ?_
    simp [t20,hwr]
    refine ⟨L.length - (j + 1),by omega,j + 1,by omega,by omega,by simp [t0],by simp [t2],by simp [t8],by simp [t9],by simp [t18],by simp [t19],by simp,V2,mr',by rw [hnx]; exact hR',by rw [hnx]; exact d'⟩
 ·simp [hlt']
  refine AM.wp_exit ?_
  simp
  have hje:j = L.length:=by omega
  subst hje
  rw [List.take_length] at hR d
  have hpad:padF M (outF cls nds L) = outF cls nds L:=by unfold padF; rw [hM,Nat.sub_self]; simp
  rw [hpad] at hR d
  refine Z00 ?_
  simp [t8,t9,d.c 0 rfl,d.o 1 rfl]
  have e:=d.put 1 rfl (C [.slice Bn 0 M (.lim M),.int .i64 0])
  simp only [List.set_cons_succ,List.set_cons_zero] at e
  generalize s'.put B8 (.cells [.slice Bn 0 M (.lim M),.int .i64 0] false) = s4 at e ⊢
  refine AM.wp_ret ?_
  simp [t8,e.c 1 rfl]
  exact q Bn _ s4 ⟨V,mr,List.Perm.refl _,hR⟩ e.tail.tail
theorem Z7c {ns:List ND} (h:GrOk ns) {roots:List Nat} (hr:∀ r ∈ roots,r < ns.length):Closed ns (bfsF (kidG ns) ns.length roots)∧(bfsF (kidG ns) ns.length roots).Nodup∧(∀ a ∈ bfsF (kidG ns) ns.length roots,a < ns.length)∧∀ r ∈ roots,r ∈ bfsF (kidG ns) ns.length roots:=by
 obtain ⟨h1,h2,h3,h4,_⟩:=Zdm (n:=ns.length) h.Z9k roots hr
 refine ⟨⟨h2,fun a ha x hx => ?_⟩,h1,h2,h4⟩
 refine ⟨(h x (List.mem_of_getElem? hx)).1,fun k hk => h3 a ha _ ?_⟩
 rw [Zbx hx]
 exact List.mem_map.2 ⟨k,hk,rfl⟩
theorem Z77 {ns:List ND} {root:Int} (h:Z0z ns root = 0):1 ≤ ns.length∧ns.length ≤ 60∧GrOk ns∧(∀ nd ∈ ns,Z1y nd.1 = true)∧0 ≤ root∧root < ns.length:=by
 unfold Z0z at h
 split at h
 ·cases h
 ·rename_i h1
  split at h
  ·cases h
  ·rename_i h2
   split at h
   ·cases h
   ·rename_i h3
    simp only [not_or,Bool.not_eq_false,List.all_eq_true,decide_eq_true_eq,Bool.and_eq_true] at h1 h2 h3
    exact ⟨by omega,by omega,fun nd hnd => ⟨h1.2.2 nd hnd,fun k hk => h3.2 nd hnd k hk⟩,h2,h3.1⟩
theorem Zl7 {nm:List UInt8} (h:Z1y nm = true):nm ≠ []:=by
 rintro rfl
 simp [Z1y] at h
noncomputable def Z0v (ns:List ND) (r:Nat):List ND:=outF (clsF ns (bfsF (kidG ns) ns.length [r])) ns (bfsF (kidG ns) ns.length [r])
def Zaa (s:St) (nv:AVal) (ns:List ND):Prop:=(Z1b nv = some 0∧ns = []) ∨ ∃ p c,nv = .slice p 0 ns.length c∧NodesG s p ns
theorem Zaa.keep {s s':St} {nv:AVal} {ns:List ND} (h:Zaa s nv ns) (k:Keeps s s'):Zaa s' nv ns:=by
 rcases h with h | ⟨p,c,h1,h2⟩
 ·exact .inl h
 ·exact .inr ⟨p,c,h1,h2.keep k⟩
theorem Zaa.at {s:St} {nv:AVal} {ns:List ND} (h:Zaa s nv ns):Z1k s nv ns:=by
 rcases h with h | ⟨p,c,rfl,h2⟩
 ·exact .inl h
 ·exact h2.of c
theorem Zu3 {s:St} {p:Pos} {ns:List ND} {c:Cap} (hne:ns ≠ []) (h:Z1k s (.slice p 0 ns.length c) ns):NodesG s p ns:=by
 rcases h with ⟨_,h⟩ | ⟨b,o,c',cs,e,h1,h2,h3,h4⟩
 ·exact (hne h).elim
 ·cases e
  refine ⟨h1,cs,h2,by omega,fun i nd hi => ?_⟩
  have:=h4 i nd hi
  rwa [Nat.zero_add] at this
theorem Z2h.at0 {s0 s:St} {W:Pos→Prop} {nv:AVal} {ns:List ND} {m:Lets} (h:Z2h nv ns m) (hc:Ctx s0 W m s):Zaa s nv ns:=by
 have h':=h.at hc
 rcases h with ⟨rfl,rfl,_⟩ | ⟨q,V,mr,hne,rfl,hp,hR⟩
 ·exact .inl ⟨rfl,rfl⟩
 ·exact .inr ⟨q,_,rfl,Zu3 hne h'⟩
theorem Zvp {s:St} {nv:AVal} {ns:List ND} {root:Int} {Q:AVal→St→Prop} (hw:s.Wf) (hN:Zaa s nv ns) (hsm:Zcw ns) (hmax:ns.length ≤ 2 ^ 62)
  (q0:∀ s',Keeps s s'→Z0z ns root ≠ 0→Q (.tup [.agg [.nilSlice,.int .i64 0],.int .i64 (Z0z ns root)]) s')
  (q:∀ Bn mn s',Z0z ns root = 0→Zij Bn (Z0v ns root.toNat) mn→Ctx s (fun _ => False) mn s'→Q (.tup [.agg [.slice Bn 0 (Z0v ns root.toNat).length (.lim (Z0v ns root.toNat).length),.int .i64 0],.int .i64 0]) s') :
  Z0f Tryd.prog 23 [.agg [nv,.int .i64 root]] s Q:=by
 have hNt:=hN.at.ntup
 have hNc:=hN.at.Za4
 refine Z09 (Z0n (by decide)) fi23 rfl (by decide) rfl ?_
 refine Z00 ?_
 simp [hNt,hNc]
 have d1:=(Ctx.start (fun _ => False) hw).alloc (C [nv,.int .i64 root])
 generalize s.alloc (.cells [nv,.int .i64 root] false) = s1 at d1 ⊢
 generalize s.next = B1 at d1 ⊢
 have d2:=d1.alloc (C [.nilSlice,.int .i64 0])
 generalize s1.alloc (.cells [.nilSlice,.int .i64 0] false) = s2 at d2 ⊢
 generalize s1.next = B2 at d2 ⊢
 refine AM.wp_seq ?_
 refine Z00 ?_
 simp [d2.c 1 rfl,hNt,hNc]
 have d3:=d2.alloc (C [nv,.int .i64 root])
 generalize s2.alloc (.cells [nv,.int .i64 root] false) = s3 at d3 ⊢
 generalize s2.next = T at d3 ⊢
 have hT:Z4s s3 (.slice T 0 1 (.lim 1)) [(ns,root)]:=by
  refine .inr ⟨T,0,.lim 1,_,rfl,d3.oi 0 rfl,d3.c 0 rfl,by simp,fun i t hi => ?_⟩
  cases i with
  | succ i => simp at hi
  | zero =>
   simp at hi
   subst hi
   exact ⟨nv,rfl,rfl,hN.at.keep d3.Z0b⟩
 refine Z05 ?_
 refine Zio d3.wf hT (by
  intro t ht
  simp at ht
  subst ht
  exact ⟨hmax,hsm⟩) (by simp) fun s4 k4 => ?_
 have d4:=d3.keeps k4
 have hcf:Z6h [(ns,root)] = Z0z ns root:=by
  unfold Z6h
  simp only [List.find?_cons,List.find?_nil]
  by_cases h:Z0z ns root = 0
  ·simp [h]
  ·simp [h]
 rw [hcf]
 simp
 refine Z00 ?_
 simp
 refine AM.Z03 ?_
 by_cases hz:Z0z ns root = 0
 ·simp [hz]
  refine AM.wp_skip ?_
  simp
  obtain ⟨o1,o2,hO,hnm,r0,r1⟩:=Z77 hz
  obtain ⟨rt,rfl⟩:∃ n:Nat,root = (n:Int):=⟨root.toNat,by omega⟩
  rw [Int.toNat_natCast] at q
  refine Z00 ?_
  simp [d4.c 2 rfl,hNt,hNc]
  have d5:=d4.alloc (C [.int .i64 rt])
  generalize s4.alloc (.cells [.int .i64 rt] false) = s5 at d5 ⊢
  generalize s4.next = T2 at d5 ⊢
  have hr:∀ a ∈ [rt],a < ns.length:=by simp; omega
  refine Z05 ?_
  refine Zer (roots:=[rt]) d5.wf (hN.at.keep d5.Z0b) hO (by omega) ?_ (by simp) hr fun lv mg s6 hg hx => ?_
  ·have e:=Z5q (ks:=[(rt:Int)]) d5.wf (d5.o 0 rfl) (.lim 1)
   exact e
  obtain ⟨hC,hnd,hlt,hroot⟩:=Z7c hO hr
  have hLl:=Z2a hnd hlt
  unfold Z0v at q
  generalize bfsF (kidG ns) ns.length [rt] = L at hg hC hnd hlt hroot hLl q
  have d6:=d5.keeps hx.Z0b
  have hLv:Z0e s6 lv (nats L):=(hg.row.kid fun y hy => hx.own y hy).ints hx.wf
  rcases (hN.keep d6.Z0b) with ⟨_,e0⟩ | ⟨p,c0,rfl,hG⟩
  ·rw [e0] at o1
   simp at o1
  have hks:∀ (a:Nat) nd,ns[a]? = some nd→nd.2.length ≤ 4∧∀ k ∈ nd.2,0 ≤ k∧k < ns.length:=fun a nd h => hO nd (List.mem_of_getElem? h)
  have hLne:L ≠ []:=by
   rintro rfl
   simpa using hroot rt (by simp)
  obtain ⟨R,g1,g2,g3⟩:=Zgv hC hLne
  simp
  refine Z00 ?_
  simp [d6.c 3 rfl,hg.ntup]
  refine Z05 ?_
  refine Zgp d6.wf hG (by omega) hLv hC.lt (by omega) hks g1 g2 fun Bx s7 k7 _ hox => ?_
  have d7:=d6.keeps k7
  rw [Zkf hC g3,← Zi5 hC]
  rw [g3] at hox
  simp
  refine Z00 ?_
  simp [d7.c 3 rfl,hg.ntup]
  refine Z05 ?_
  have hcl:=Zbp hC
  have hCx:Z0e s7 (.slice Bx 0 ns.length (.lim ns.length)) (clsF ns L):=by
   have:=Z5q d7.wf hox (.lim ns.length)
   rwa [hcl] at this
  refine Zlk (nds:=ns) d7.wf (hN.at.keep d7.Z0b) (hLv.keep k7) hCx (by omega) (by omega) hcl hC.lt hks (fun a nd _ h => Zl7 (hnm nd (List.mem_of_getElem? h))) (fun j a hj => ?_) rfl fun Bn mn s8 hM hc8 => ?_
  ·have hj':=(List.getElem?_eq_some_iff.1 hj).1
   have hsp:L = L.take j ++ a :: L.drop (j + 1):=by
    have h1:=List.take_append_drop j L
    rw [List.drop_eq_getElem_cons hj'] at h1
    have h2:L[j] = a:=(List.getElem?_eq_some_iff.1 hj).2
    rw [h2] at h1
    exact h1.symm
   obtain ⟨c,e1,e2,_⟩:=Zhv hC hsp
   exact ⟨c,e1,e2⟩
  have d8:Ctx s (fun _ => False) (mn ++ [(T2,C [.int .i64 rt]),(T,C [.slice p 0 ns.length c0,.int .i64 rt]),(B2,C [.nilSlice,.int .i64 0]),(B1,C [.slice p 0 ns.length c0,.int .i64 rt])]) s8:=Ctx.on (m:=[]) (by simpa using d7) (by simpa using hc8)
  have d9:=d8.perm (m':=(B2,C [.nilSlice,.int .i64 0]) :: (mn ++ [(T2,C [.int .i64 rt]),(T,C [.slice p 0 ns.length c0,.int .i64 rt]),(B1,C [.slice p 0 ns.length c0,.int .i64 rt])])) (Z0r fun x => by
   simp only [Z0h,Z0o,Z2n]
   omega)
  simp [d9.o 0 rfl]
  have d10:=d9.put 0 rfl (C [.slice Bn 0 (outF (clsF ns L) ns L).length (.lim (outF (clsF ns L) ns L).length),.int .i64 0])
  simp only [List.set_cons_zero] at d10
  refine AM.wp_ret ?_
  simp
  exact q Bn mn _ hz hM (d10.tail.sub (List.sublist_append_left mn _))
 ·simp [hz]
  refine Z00 ?_
  simp [d4.o 1 rfl]
  have d5:=d4.put 1 rfl (C [.nilSlice,.int .i64 0])
  simp only [List.set_cons_succ,List.set_cons_zero] at d5
  refine AM.wp_ret ?_
  simp
  exact q0 _ d5.Z0b hz
theorem Zqf {nds nds':List ND} {R:Nat→Nat→Prop} (h:∀ a b,R a b→∃ x y,nds[a]? = some x∧nds'[b]? = some y∧x.1 = y.1∧x.2.length = y.2.length∧∀ (j:Nat) (k m:Int),x.2[j]? = some k→y.2[j]? = some m→R k.toNat m.toNat) :
  ∀ (d a b:Nat),R a b→unf nds d a = unf nds' d b
 | 0,a,b,_ => rfl
 | d + 1,a,b,hab => by
  obtain ⟨x,y,hx,hy,e1,e2,e3⟩:=h a b hab
  rw [Z8i hx,Z8i hy,e1]
  congr 1
  refine List.ext_getElem? fun j => ?_
  rw [List.getElem?_map,List.getElem?_map]
  by_cases hj:j < x.2.length
  ·rw [List.getElem?_eq_getElem hj,List.getElem?_eq_getElem (show j < y.2.length by omega)]
   simp only [Option.map_some]
   rw [Zqf h d _ _ (e3 j _ _ (List.getElem?_eq_getElem hj) (List.getElem?_eq_getElem (show j < y.2.length by omega)))]
  ·rw [List.getElem?_eq_none (by omega),List.getElem?_eq_none (by omega)]; rfl
theorem Z7s {nds nds':List ND} {R:Nat→Nat→Prop} (h:∀ a b,R a b→∃ x y,nds[a]? = some x∧nds'[b]? = some y∧x.1 = y.1∧x.2.length = y.2.length∧∀ (j:Nat) (k m:Int),x.2[j]? = some k→y.2[j]? = some m→R k.toNat m.toNat)
  {a b:Nat} (hab:R a b):lab nds a = lab nds' b:=funext fun d => Zqf h d a b hab
section
open Classical
variable {β:Type}
noncomputable def idxB (b:β):List β→Nat
 | [] => 0
 | x :: l => if x = b then 0 else idxB b l + 1
theorem Zpx {b:β}:∀ {l:List β},b ∈ l→idxB b l < l.length
 | [],h => by cases h
 | x :: l,h => by
  unfold idxB
  split
  ·simp
  ·rename_i hx
   rcases List.mem_cons.1 h with rfl | h
   ·exact (hx rfl).elim
   ·have:=Zpx h
    simp
    omega
theorem Zpw {b:β} {m:List β}:∀ {l:List β},b ∈ l→idxB b (l ++ m) = idxB b l
 | [],h => by cases h
 | x :: l,h => by
  rw [List.cons_append]
  unfold idxB
  split
  ·rfl
  ·rename_i hx
   rcases List.mem_cons.1 h with rfl | h
   ·exact (hx rfl).elim
   ·rw [Zpw h]
theorem Zng {b:β} {m:List β}:∀ {l:List β},b ∉ l→idxB b (l ++ m) = l.length + idxB b m
 | [],_ => by simp
 | x :: l,h => by
  rw [List.cons_append]
  conv => lhs; unfold idxB
  split
  ·rename_i hx
   exact (h (by simp [hx])).elim
  ·rw [Zng (fun hm => h (by simp [hm])),List.length_cons]
   omega
theorem Zhu {b:β}:∀ {l:List β},b ∈ l→l[idxB b l]? = some b
 | [],h => by cases h
 | x :: l,h => by
  unfold idxB
  split
  ·rename_i hx
   rw [hx]; rfl
  ·rename_i hx
   rcases List.mem_cons.1 h with rfl | h
   ·exact (hx rfl).elim
   ·simpa using Zhu h
theorem Znf {α μ:Type} {f:α→β} {g:α→μ} {a:α}:∀ {l:List α},(∀ e ∈ l,(f e = f a ↔ g e = g a))→idxB (f a) (l.map f) = idxB (g a) (l.map g)
 | [],_ => rfl
 | e :: l,h => by
  rw [List.map_cons,List.map_cons]
  unfold idxB
  have:=h e (by simp)
  by_cases he:f e = f a
  ·rw [if_pos he,if_pos (this.1 he)]
  ·rw [if_neg he,if_neg (fun hg => he (this.2 hg)),Znf fun x hx => h x (by simp [hx])]
noncomputable def Z55 {α:Type} (f:α→β) (l:List α):List α:=l.foldl (fun v a => if f a ∈ v.map f then v else v ++ [a]) []
theorem Za1 {α:Type} (f:α→β) (l:List α) (a:α):Z55 f (l ++ [a]) = if f a ∈ (Z55 f l).map f then Z55 f l else Z55 f l ++ [a]:=by
 unfold Z55
 rw [List.foldl_append]
 rfl
theorem Zj2 {α:Type} (f:α→β) (l:List α):(Z55 f l).map f = dd (l.map f):=by
 induction l using Z7z with
 | nil => rfl
 | append_singleton l a ih =>
  rw [Za1,List.map_append,List.map_cons,List.map_nil,Zg5,← ih]
  unfold addB
  split
  ·rfl
  ·rw [List.map_append]; rfl
theorem Zdr {α:Type} (f:α→β) (l:List α):∀ x ∈ Z55 f l,x ∈ l:=by
 induction l using Z7z with
 | nil => intro x hx; cases hx
 | append_singleton l a ih =>
  intro x hx
  rw [Za1] at hx
  split at hx
  ·exact List.mem_append_left _ (ih x hx)
  ·rcases List.mem_append.1 hx with hx | hx
   ·exact List.mem_append_left _ (ih x hx)
   ·exact List.mem_append_right _ hx
theorem Zp2 {α μ:Type} {f:α→β} {g:α→μ} (l:List α):(∀ a ∈ l,∀ b ∈ l,(f a = f b ↔ g a = g b))→Z55 f l = Z55 g l:=by
 induction l using Z7z with
 | nil => intro _; rfl
 | append_singleton l a ih =>
  intro h
  have e:=ih fun x hx y hy => h x (by simp [hx]) y (by simp [hy])
  rw [Za1,Za1,← e]
  have:f a ∈ (Z55 f l).map f ↔ g a ∈ (Z55 f l).map g:=by
   rw [List.mem_map,List.mem_map]
   constructor
   ·rintro ⟨x,hx,hf⟩
    exact ⟨x,hx,(h x (by simp [Zdr f l x hx]) a (by simp)).1 hf⟩
   ·rintro ⟨x,hx,hf⟩
    exact ⟨x,hx,(h x (by simp [Zdr f l x hx]) a (by simp)).2 hf⟩
  by_cases hm:f a ∈ (Z55 f l).map f
  ·rw [if_pos hm,if_pos (this.1 hm)]
  ·rw [if_neg hm,if_neg (fun hg => hm (this.2 hg))]
theorem Zvj {α μ:Type} {f:α→β} {g:α→μ} {l:List α} (h:∀ a ∈ l,∀ b ∈ l,(f a = f b ↔ g a = g b)) {a:α} (ha:a ∈ l):idxB (f a) (dd (l.map f)) = idxB (g a) (dd (l.map g)):=by
 rw [← Zj2 f l,← Zj2 g l,← Zp2 l h]
 exact Znf fun e he => h e (Zdr f l e he) a ha
end
theorem Zld (f:Nat→Key):∀ (L:List Nat) (D:List Key),Z11 f D L = Z2o D (L.map f)
 | [],D => rfl
 | a :: L,D => by
  show Z11 f (addK D (f a)) L = Z2o (addB D (f a)) (L.map f)
  rw [Zld f L]
  congr 1
  unfold addK addB
  by_cases h:f a ∈ D
  ·rw [if_pos h,if_pos h]
  ·rw [if_neg h,if_neg h]
theorem Zj8 {b:Key}:∀ (l:List Key),l.idxOf b = idxB b l
 | [] => rfl
 | x :: l => by
  rw [List.idxOf_cons]
  unfold idxB
  by_cases h:x = b
  ·rw [if_pos h]; simp [h]
  ·rw [if_neg h,← Zj8 l]
   have:(x == b) = false:=by simpa using h
   rw [this]
   rfl
theorem Zk8 {nds:List ND} {L:List Nat} (hC:Closed nds L) {a:Nat} (ha:a ∈ L):(clsF nds L)[a]? = some ((idxB (lab nds a) (dd (L.map (lab nds))):Nat):Int):=by
 obtain ⟨f,hf,hs⟩:=Zn3 hC
 rw [hf a ha,Zj8,Zld]
 have:idxB (f a) (dd (L.map f)) = idxB (lab nds a) (dd (L.map (lab nds))):=Zvj (fun x hx y hy => (hs x hx y hy).trans (Zkv hC hx hy)) ha
 rw [← this]
 rfl
noncomputable def canN (D:List Lab) (b:Lab):ND:=(lname b,(Zgc b).map fun x => ((idxB x D:Nat):Int))
noncomputable def canD (D:List Lab):List ND:=D.map (canN D)
theorem Zu2 {nds:List ND} {L:List Nat} (hC:Closed nds L) {a:Nat} {nd:ND} (ha:a ∈ L) (h:nds[a]? = some nd):Z3y (clsF nds L) nd = canN (dd (L.map (lab nds))) (lab nds a):=by
 unfold Z3y canN
 rw [Zah h,Z6a h,List.map_map]
 congr 1
 refine List.map_congr_left fun k hk => ?_
 rw [Zk8 hC ((hC.kids a ha nd h).2 k hk)]
 rfl
theorem Zd9 {nds:List ND} {L:List Nat} (hC:Closed nds L):outF (clsF nds L) nds L = canD (dd (L.map (lab nds))):=by
 have key:∀ (P S:List Nat),L = P ++ S→outF (clsF nds L) nds P = (dd (P.map (lab nds))).map (canN (dd (L.map (lab nds)))):=by
  intro P
  induction P using Z7z with
  | nil => intro S _; rfl
  | append_singleton P x ih =>
   intro S hS
   have ihp:=ih (x :: S) (by rw [hS]; simp)
   have hx:x ∈ L:=by rw [hS]; simp
   have hnd:nds[x]? = some (nds[x]'(hC.lt x hx)):=List.getElem?_eq_getElem _
   have e1:outF (clsF nds L) nds (P ++ [x]) = Z2e (clsF nds L) nds (outF (clsF nds L) nds P) x:=by unfold outF; rw [List.foldl_append]; rfl
   rw [e1,ihp]
   unfold Z2e
   rw [Zk8 hC hx,hnd]
   simp only
   rw [Zu2 hC hx hnd]
   obtain ⟨T,hT⟩:=Zc3 ((x :: S).map (lab nds)) (dd (P.map (lab nds)))
   have hD:dd (L.map (lab nds)) = dd (P.map (lab nds)) ++ T:=by
    rw [hS,List.append_assoc,List.map_append,Zez]
    exact hT
   rw [List.map_append,List.map_cons,List.map_nil,Zg5,List.length_map]
   unfold addB
   by_cases hm:lab nds x ∈ dd (P.map (lab nds))
   ·rw [if_pos hm,hD,Zpw hm,if_pos (by have:=Zpx hm; omega)]
   ·rw [if_neg hm]
    have:¬ ((idxB (lab nds x) (dd (L.map (lab nds))):Nat):Int) < ((dd (P.map (lab nds))).length:Nat):=by
     rw [hD,Zng hm]
     omega
    rw [if_neg this,List.map_append]
    rfl
 exact key L [] (by simp)
noncomputable def canT (g:Nat) (b:Lab):List ND:=canD (runL Zgc g [b] 0)
theorem Zpr {K:Nat→List Nat} {nds:List ND} {n r g:Nat} (hK:∀ a,a < n→∀ k ∈ K a,k < n) {P:Nat→Prop} (hP:∀ a,P a→∀ k ∈ K a,P k) (hκ:∀ a,P a→∃ nd,nds[a]? = some nd∧K a = nd.2.map Int.toNat) (hr:r < n) (hPr:P r) (hg:n + 1 ≤ g) :
  dd ((bfsF K n [r]).map (lab nds)) = runL Zgc g [lab nds r] 0:=by
 have h1:bfsF K n [r] = runB K (n + 1) [r] 0:=rfl
 have h2:dd ([r].map (lab nds)) = [lab nds r]:=by simp [dd,Z2o,addB]
 rw [h1]
 have:=Zze (f:=lab nds) (κ:=Zgc) hK hP (fun a ha => by
  obtain ⟨nd,e1,e2⟩:=hκ a ha
  rw [Z6a e1,e2,List.map_map]
  rfl) (n + 1) [r] 0 g (by simp) (by simpa using hr) (by simpa using hPr) (by omega) (by simpa [dd,Z2o] using hg) (by intro x a hx; omega) (by simp)
 rw [this,h2]
 rfl
theorem Zrc {cs:List CV} (h:HOk2 cs) {i g:Nat} (hi:Z06 cs (i:Int) = true) (hg:cs.length + 1 ≤ g):Z44 cs i = canT g (lab (Z0d cs) i):=by
 obtain ⟨hC,_⟩:=Z8w h (roots:=[i]) (by simpa using hi)
 unfold Z44 canT
 rw [Zd9 hC]
 congr 1
 refine Zpr h.Zpz (P:=fun a => Z06 cs (a:Int) = true) (fun a ha => Zkc h.toHOk ha) (fun a ha => ?_) (Z2b hi) hi hg
 obtain ⟨_,d,hd,ht,_⟩:=Z21 ha
 rw [Int.toNat_natCast] at hd
 refine ⟨_,Z2k hd,?_⟩
 unfold kidN
 rw [Z1z hd,if_pos ht]
theorem Zrb {ns:List ND} (h:GrOk ns) {r g:Nat} (hr:r < ns.length) (hg:ns.length + 1 ≤ g):Z0v ns r = canT g (lab ns r):=by
 obtain ⟨hC,_⟩:=Z7c h (roots:=[r]) (by simpa using hr)
 unfold Z0v canT
 rw [Zd9 hC]
 congr 1
 exact Zpr h.Z9k (P:=fun a => a < ns.length) h.Z9k (fun a ha => ⟨_,List.getElem?_eq_getElem ha,Zbx (List.getElem?_eq_getElem ha)⟩) hr hr hg
theorem Zmh {cs:List CV} {ns:List ND} (h:HOk2 cs) (h':GrOk ns) {i r:Nat} (hi:Z06 cs (i:Int) = true) (hr:r < ns.length) (hl:lab (Z0d cs) i = lab ns r):Z44 cs i = Z0v ns r:=by
 rw [Zrc h hi (g:=cs.length + ns.length + 1) (by omega),Zrb h' hr (g:=cs.length + ns.length + 1) (by omega),hl]
def Z3w (n:Nat) (nd:ND):ND:=(nd.1,nd.2.map fun k => (n:Int) + k)
def bigG (cs:List CV) (ts:List ND):List ND:=Z0d cs ++ ts.map (Z3w cs.length)
def bigL (cs:List CV) (ts:List ND):List Nat:=Z17 cs cs.length ++ (List.range ts.length).map fun i => cs.length + i
noncomputable def Z1x (cs:List CV) (ts:List ND):List Int:=(List.range ts.length).map fun i => Z4i (fun d => decide (((clsF (bigG cs ts) (bigL cs ts))[cs.length + i]?).getD 0 = d)) ((clsF (bigG cs ts) (bigL cs ts)).take cs.length)
theorem Zbn (cs:List CV) (ts:List ND):(bigG cs ts).length = cs.length + ts.length:=by simp [bigG,Z10]
theorem Zeo {cs:List CV} {ts:List ND} {a:Nat} (h:a < cs.length):(bigG cs ts)[a]? = (Z0d cs)[a]?:=by
 unfold bigG
 rw [List.getElem?_append_left (by rw [Z10]; exact h)]
theorem Zep {cs:List CV} {ts:List ND} (i:Nat):(bigG cs ts)[cs.length + i]? = (ts[i]?).map (Z3w cs.length):=by
 unfold bigG
 rw [List.getElem?_append_right (by rw [Z10]; omega),Z10,List.getElem?_map]
 congr 2
 omega
theorem Z9n {cs:List CV} {ts:List ND} {a:Nat}:a ∈ bigL cs ts ↔ (a < cs.length∧Z06 cs (a:Int) = true) ∨ (cs.length ≤ a∧a < cs.length + ts.length):=by
 unfold bigL
 rw [List.mem_append,Z5i]
 refine or_congr Iff.rfl ?_
 simp only [List.mem_map,List.mem_range]
 constructor
 ·rintro ⟨i,hi,rfl⟩
  omega
 ·rintro ⟨h1,h2⟩
  exact ⟨a - cs.length,by omega,by omega⟩
theorem Zsk {cs:List CV} {ts:List ND} (hO:HOk cs) (hT:GrOk ts):Closed (bigG cs ts) (bigL cs ts)∧∀ (a:Nat) nd,(bigG cs ts)[a]? = some nd→nd.2.length ≤ 4∧∀ k ∈ nd.2,0 ≤ k∧k < (bigG cs ts).length:=by
 have hg:∀ (a:Nat) nd,(bigG cs ts)[a]? = some nd→(a < cs.length∧(Z0d cs)[a]? = some nd) ∨ (cs.length ≤ a∧∃ x,ts[a - cs.length]? = some x∧nd = Z3w cs.length x):=by
  intro a nd h
  by_cases ha:a < cs.length
  ·rw [Zeo ha] at h
   exact .inl ⟨ha,h⟩
  ·obtain ⟨i,rfl⟩:∃ i,a = cs.length + i:=⟨a - cs.length,by omega⟩
   rw [Zep] at h
   cases hx:ts[i]? with
   | none => rw [hx] at h; cases h
   | some x =>
    rw [hx] at h
    refine .inr ⟨by omega,x,by rw [Nat.add_sub_cancel_left]; exact hx,?_⟩
    simpa using h.symm
 refine ⟨⟨fun a ha => ?_,fun a ha x hx => ?_⟩,fun a nd h => ?_⟩
 ·rw [Zbn]
  rcases Z9n.1 ha with h | h <;> omega
 ·rcases hg a x hx with ⟨h1,h2⟩ | ⟨h1,y,h2,rfl⟩
  ·have hcl:=hO.closed
   have ham:a ∈ Z17 cs cs.length:=by
    rcases Z9n.1 ha with h | h
    ·exact Z5i.2 h
    ·omega
   obtain ⟨h4,hk⟩:=hcl.kids a ham x h2
   refine ⟨h4,fun k hkm => ?_⟩
   exact List.mem_append_left _ (hk k hkm)
  ·obtain ⟨h4,hk⟩:=hT y (List.mem_of_getElem? h2)
   refine ⟨by simpa [Z3w] using h4,fun k hkm => ?_⟩
   obtain ⟨k',hk',rfl⟩:=List.mem_map.1 hkm
   obtain ⟨k0,k1⟩:=hk k' hk'
   exact Z9n.2 (.inr (by omega))
 ·rw [Zbn]
  rcases hg a nd h with ⟨h1,h2⟩ | ⟨h1,y,h2,rfl⟩
  ·obtain ⟨g1,g2⟩:=hO.Zdu a nd h2
   refine ⟨g1,fun k hk => ?_⟩
   obtain ⟨k0,k1⟩:=g2 k hk
   rw [Z10] at k1
   omega
  ·obtain ⟨h4,hk⟩:=hT y (List.mem_of_getElem? h2)
   refine ⟨by simpa [Z3w] using h4,fun k hkm => ?_⟩
   obtain ⟨k',hk',rfl⟩:=List.mem_map.1 hkm
   obtain ⟨k0,k1⟩:=hk k' hk'
   omega
section
variable {sc s:St} {fr:FI} {t0:PT AVal} {n:Nat} {r:Lets} {Q:Ex→PT AVal→St→Prop}
theorem Zr3 {B9 B10:Pos} {nm:List UInt8} {kv0:AVal} {ks:List Int} (hk:Z0e sc kv0 ks) (h4:ks.length ≤ 4) (hn:n ≤ 400) (hin:∀ k ∈ ks,0 ≤ k∧k < 1000)
  (hc:Ctx sc (fun _ => False) ((B10,C [.str nm,.nilSlice]) :: (B9,C [.str nm,kv0]) :: r) s) (t7:PT.get (posOf 7) t0 = some (.int .i64 n)) (t9:PT.get (posOf 9) t0 = some (.ptr B9 0)) (t10:PT.get (posOf 10) t0 = some (.ptr B10 0))
  (q:∀ t s' kv mg,Fr [12,35,36,37,38] t0 t→Z1a kv (ks.map fun k => (n:Int) + k) mg→Ctx sc (fun _ => False) ((B10,C [.str nm,kv]) :: (B9,C [.str nm,kv0]) :: (mg ++ r)) s'→Q .normal t s'):wp Tryd.prog Zt1 fr t0 s Q:=by
 have hkt:=hk.ntup
 refine Z00 ?_
 simp [t9,hc.c 1 rfl,hkt,hk.len]
 refine AM.wp_block ?_
 refine AM.wp_loop (fun m t s' => ∃ (j:Nat) (kv:AVal) (mg:Lets),j ≤ ks.length∧m = ks.length - j∧Fr [12,35,36,37,38] t0 t∧PT.get (posOf 35) t = some kv0∧PT.get (posOf 36) t = some (.int .i64 ks.length)∧PT.get (posOf 37) t = some (.int .i64 j) ∧
   Z1a kv ((ks.take j).map fun k => (n:Int) + k) mg∧Ctx sc (fun _ => False) ((B10,C [.str nm,kv]) :: (B9,C [.str nm,kv0]) :: (mg ++ r)) s') ks.length ⟨0,.nilSlice,[],by simp,by simp,?_,by simp,by simp,by simp,.inl ⟨by simp,rfl,rfl⟩,hc⟩ ?_
 ·intro y hy
  simp at hy
  simp [hy]
 rintro m t s' ⟨j,kv,mg,hj,rfl,hF,t35,t36,t37,hg,hc'⟩
 refine Z00 ?_
 simp [t36,t37]
 refine AM.wp_seq ?_
 refine AM.Z03 ?_
 by_cases hlt:j < ks.length
 ·have hwr:IntKind.wrap .i64 ((j:Int) + 1) = ((j + 1:Nat):Int):=by rw [IntWalk.i64_in _ (by omega)]; omega
  obtain ⟨k,hkk⟩:∃ k,ks[j]? = some k:=⟨_,List.getElem?_eq_getElem hlt⟩
  obtain ⟨k0,k1⟩:=hin k (List.mem_of_getElem? hkk)
  have hwk:IntKind.wrap .i64 ((n:Int) + k) = (n:Int) + k:=IntWalk.i64_in _ (by omega)
  have u7:=(hF 7 (by simp)).trans t7
  have u10:=(hF 10 (by simp)).trans t10
  rcases hk.keep hc'.Z0b with ⟨_,h0⟩ | ⟨b5,o5,c5,cells5,rfl,hb5,hcs5,hle5,hel5⟩
  ·rw [h0] at hlt
   simp at hlt
  have hgk:=hel5 _ _ hkk
  simp [hlt]
  refine AM.wp_skip ?_
  simp
  refine AM.wp_seq ?_
  refine AM.wp_block ?_
  refine Z00 ?_
  simp [t35,t37,hlt,hcs5,hgk]
  refine AM.wp_region ?_
  have hns:s'.obj s'.next = none:=hc'.wf _ (Z08 _)
  simp [u7,u10,hc'.c 0 rfl,hg.ntup,hg.cells,hns,hwk,Z13,srcP]
  have d2:=hc'.alloc (C [.int .i64 (n + k)])
  generalize s'.alloc (.cells [.int .i64 (n + k)] false) = sB at d2 ⊢
  generalize s'.next = T at d2 ⊢
  refine Z4t (pre:=[(T,C [.int .i64 (n + k)]),(B10,C [.str nm,kv]),(B9,C [.str nm,.slice b5 o5 ks.length c5])]) d2 hg (by simp; omega) fun kv' mg' sC hg' d3 => ?_
  simp only [List.cons_append,List.nil_append] at d3
  simp [hg'.ntup,hg'.cells,d3.o 1 rfl]
  have d4:=(d3.put 1 rfl (C [.str nm,kv'])).tail
  simp only [List.set_cons_zero,List.set_cons_succ] at d4
  have hnx:((ks.take j).map fun k => (n:Int) + k) ++ [(n:Int) + k] = (ks.take (j + 1)).map fun k => (n:Int) + k:=by
   rw [List.take_add_one,hkk,List.map_append]
   simp
  rw [hnx] at hg'
  refine AM.wp_region ?_
  simp [t37,hwr]
  refine ⟨ks.length - (j + 1),by omega,j + 1,by omega,by omega,?_,by simp [t35],by simp [t36],by simp,kv',mg',by simpa using hg',d4⟩
  intro y hy
  simp at hy
  simp [hy]
  exact hF y (by simp [hy])
 ·simp [hlt]
  refine AM.wp_exit ?_
  simp
  have hje:j = ks.length:=by omega
  subst hje
  rw [List.take_length] at hg
  refine q _ s' kv mg ?_ hg hc'
  intro y hy
  simp at hy
  simp [hy]
  exact hF y (by simp [hy])
theorem Zwu {s0:St} {W:Pos→Prop} {q:Pos} {cells:List AVal} {m:Nat} {cp:Cap} {a b:AVal} {Q:AVal→St→Prop} (h:Ctx s0 W ((q,C cells) :: r) s) (hl:cells.length = 2 * m) (h1:1 ≤ m) (hm:m ≤ 1000) (hcp:cp = .lim m ∨ cp = .opn 2)
  (qq:∀ q' s',Ctx s0 W ((q',C (cells ++ [a,b])) :: r) s'→Q (.slice q' 0 (m + 1) (.opn 2)) s'):appP (2,40) (.slice q 0 m cp) [a,b] 1 s Q:=by
 have ht:List.take (m * 2) (List.drop 0 cells) = cells:=by rw [List.drop_zero]; exact List.take_of_length_le (by omega)
 rcases hcp with rfl | rfl
 ·simp only [appP,Z4a]
  rw [if_neg (by decide),if_neg (by omega),if_neg (by omega),h.c 0 rfl]
  refine ⟨by omega,by unfold Z0j; omega,?_⟩
  rw [ht]
  exact qq _ _ ((h.alloc (C (cells ++ [a,b]))).sub (.cons_cons _ (.cons _ (List.Sublist.refl _))))
 ·simp only [appP,Z4a]
  rw [if_neg (by decide)]
  refine ⟨trivial,?_⟩
  rw [h.o 0 rfl]
  simp only [Z0x]
  rw [if_neg (by omega),if_neg (by omega)]
  refine ⟨by omega,by unfold Z0j; omega,?_⟩
  rw [ht]
  exact qq _ _ ((h.put0 .dead).tail.alloc (C (cells ++ [a,b])))
end
def Z41 (n:Nat) (ts:List ND) (i:Nat):List ND:=(ts.take i).map (Z3w n)
theorem Zju {n i:Nat} {ts:List ND} {nd:ND} (h:ts[i]? = some nd):Z41 n ts (i + 1) = Z41 n ts i ++ [Z3w n nd]:=by
 unfold Z41
 rw [List.take_add_one,h]
 simp
theorem Zyu {s0 s:St} {p:Pos} {cs:List CV} {V:List AVal} {m:Lets} {Q:AVal→St→Prop} (hc:Ctx s0 (fun _ => False) m s) (hp:s0.Old p) (hpc:s0.cells p = some (encs (rcs cs V))) (hV:V.length = cs.length) (h4:cs.length ≤ 400)
  (hK:∀ j c,(rcs cs V)[j]? = some c→Z0e s0 c.kv (Z29 cs j))
  (q:∀ pn lv mg Vg s',Z1a lv (nats (Z17 cs cs.length)) mg→Vg.length = cs.length→(∀ (i:Nat) nd kv,(Z0d cs)[i]? = some nd→Vg[i]? = some kv→Z0e s0 kv nd.2)→Ctx s0 (fun _ => False) ((pn,C (Z0g (Z0d cs) Vg)) :: (mg ++ m)) s'→Q (.tup [.slice pn 0 cs.length (.lim cs.length),lv]) s') :
  Z0f Tryd.prog 50 [.agg [.slice p 0 cs.length (.lim cs.length)]] s Q:=by
 have hl:=Z34 hV
 have htk:=Zzg hV cs.length
 have hget:∀ (i:Nat) (c:CV),cs[i]? = some c→∃ kv,V[i]? = some kv∧(rcs cs V)[i]? = some ⟨c.taken,c.name,kv,c.held⟩:=fun i c hi => by
  have hlt:=(List.getElem?_eq_some_iff.1 hi).1
  have hv:V[i]? = some (V[i]'(by omega)):=List.getElem?_eq_getElem _
  exact ⟨_,hv,Z3d hi hv⟩
 generalize rcs cs V = l at hpc hK hl htk hget
 rw [← hl]
 refine Zl8 hc.wf (hc.Z0b.old hp) ((hc.Z0b.cells hp).trans hpc) (by omega) (fun j c hj => (hK j c hj).keep hc.Z0b) fun pn lv s3 k3 hpn hox hlv _ _ => ?_
 rw [hl] at hox hlv ⊢
 rw [htk] at hlv
 have hel:∀ (i:Nat) (c:CV),cs[i]? = some c→∃ kv,(nlI l cs.length)[i]? = some (if c.taken = true then (c.name,kv) else ([],.nilSlice))∧Z0e s0 kv c.kids:=by
  intro i c hi
  obtain ⟨kv,g1,g2⟩:=hget i c hi
  refine ⟨kv,?_,?_⟩
  ·rw [Z8s g2]
   have hlt:=(List.getElem?_eq_some_iff.1 hi).1
   simp [hlt]
  ·have:=hK i _ g2
   rwa [Z1z hi] at this
 have hPl:(nlI l cs.length).length = cs.length:=by rw [Z6w,hl]
 generalize nlI l cs.length = P at hox hel hPl
 have hP:penc P = Z0g (Z0d cs) (P.map Prod.snd):=by
  unfold Z0g
  congr 1
  refine List.ext_getElem? fun i => ?_
  by_cases hi:i < cs.length
  ·obtain ⟨kv,g1,_⟩:=hel i _ (List.getElem?_eq_getElem hi)
   rw [List.getElem?_zipWith,Z2k (List.getElem?_eq_getElem hi),List.getElem?_map,g1]
   split <;> rfl
  ·rw [List.getElem?_eq_none (by omega),List.getElem?_eq_none (by simp [Z10]; omega)]
 rw [hP] at hox
 have hVg:∀ (i:Nat) nd kv,(Z0d cs)[i]? = some nd→(P.map Prod.snd)[i]? = some kv→Z0e s0 kv nd.2:=by
  intro i nd kv hnd hkv
  have hi:i < cs.length:=by have:=(List.getElem?_eq_some_iff.1 hnd).1; rwa [Z10] at this
  obtain ⟨kv',g1,g2⟩:=hel i _ (List.getElem?_eq_getElem hi)
  rw [Z2k (List.getElem?_eq_getElem hi)] at hnd
  rw [List.getElem?_map,g1] at hkv
  by_cases ht:cs[i].taken = true
  ·simp [ht] at hnd hkv
   subst hnd hkv
   exact g2
  ·simp [ht] at hnd hkv
   subst hnd hkv
   exact .inl ⟨rfl,rfl⟩
 have c1:=hc.made k3 hpn (St.Z2v hox)
 rcases hlv with ⟨rfl,h0⟩ | ⟨q',rfl,h0,h5,h6,h7⟩
 ·exact q pn .nilSlice [] _ s3 (.inl ⟨by rw [h0]; rfl,rfl,rfl⟩) (by simp [hPl]) hVg (by simpa using c1)
 ·have hq:(q',C (ints (nats (Z17 cs cs.length)))).1 ∉ (((pn,C (Z0g (Z0d cs) (P.map Prod.snd))) :: m).map (·.1)):=by
   rw [List.map_cons,List.mem_cons]
   rintro (h | h)
   ·exact h7 h
   ·exact hc.Zu4 h6 h
  have hobj:s3.obj q' = some (C (ints (nats (Z17 cs cs.length)))):=by
   have:=St.Z2v h5
   rw [this]
   simp [ints]
  have c2:=c1.add (b:=q') (x:=C (ints (nats (Z17 cs cs.length)))) hobj (fun ho => h6 (hc.Z0b.old ho)) hq
  refine q pn _ [(q',C (ints (nats (Z17 cs cs.length))))] _ s3 (.inr ⟨q',by simpa using h0,by simp,rfl⟩) (by simp [hPl]) hVg (c2.perm (List.Perm.swap _ _ _))
def capI (n:Nat):Nat→Cap
 | 0 => .lim n
 | _ + 1 => .opn 2
theorem Zyd (n i:Nat):capI n i = .lim (n + i) ∨ capI n i = .opn 2:=by
 cases i with
 | zero => exact .inl rfl
 | succ i => exact .inr rfl
theorem seg2 {cs:List AVal} {o:Nat} {a b:AVal} (h1:cs[o]? = some a) (h2:cs[o + 1]? = some b):(cs.drop o).take 2 = [a,b]∧o + 2 ≤ cs.length:=by
 obtain ⟨g1,e1⟩:=List.getElem?_eq_some_iff.1 h1
 obtain ⟨g2,e2⟩:=List.getElem?_eq_some_iff.1 h2
 refine ⟨?_,by omega⟩
 rw [List.drop_eq_getElem_cons g1,List.drop_eq_getElem_cons g2,e1,e2]
 rfl
theorem Zvd {s:St} {p:Pos} {cs:List CV} {V:List AVal} {nv:AVal} {ts:List ND} {root:Int} {Q:AVal→St→Prop} (hw:s.Wf) (hp:s.Old p) (hpc:s.cells p = some (encs (rcs cs V))) (hV:V.length = cs.length) (h1:1 ≤ cs.length) (h4:cs.length ≤ 400)
  (hK:∀ j c,(rcs cs V)[j]? = some c→Z0e s c.kv (Z29 cs j)) (hO:HOk cs) (hN:Z1k s nv ts) (hT:GrOk ts) (hl1:1 ≤ ts.length) (hl2:ts.length ≤ 60)
  (q:∀ Bo s',Keeps s s'→¬ s.Old Bo→s'.own Bo = some (ints (Z1x cs ts))→Q (.slice Bo 0 ts.length (.lim ts.length)) s'):Z0f Tryd.prog 62 [.agg [.slice p 0 cs.length (.lim cs.length)],.agg [nv,.int .i64 root]] s Q:=by
 have hNt:=hN.ntup
 have hNc:=hN.Za4
 have hl:=Z34 hV
 refine Z09 (Z0n (by decide)) fi62 rfl (by decide) rfl ?_
 refine Z00 ?_
 simp [hNt,hNc]
 have d1:=(Ctx.start (fun _ => False) hw).alloc (C [.slice p 0 cs.length (.lim cs.length)])
 generalize s.alloc (.cells [.slice p 0 cs.length (.lim cs.length)] false) = s1 at d1 ⊢
 generalize s.next = B2 at d1 ⊢
 have d2:=d1.alloc (C [nv,.int .i64 root])
 generalize s1.alloc (.cells [nv,.int .i64 root] false) = s2 at d2 ⊢
 generalize s1.next = B3 at d2 ⊢
 refine Z00 ?_
 simp [d2.c 1 rfl]
 refine Z05 ?_
 refine Zyu d2 hp hpc hV h4 hK fun pn lv mg Vg s3 hg hVg hVk d3 => ?_
 simp
 refine Z00 ?_
 simp
 have d4:Ctx s (fun _ => False) ((pn,C (Z0g (Z0d cs ++ Z41 cs.length ts 0) (Vg ++ []))) :: (B3,C [nv,.int .i64 root]) :: ([] ++ (mg ++ []))) s3:=by
  have:=d3.perm (m':=(B2,C [.slice p 0 cs.length (.lim cs.length)]) :: (pn,C (Z0g (Z0d cs) Vg)) :: (B3,C [nv,.int .i64 root]) :: mg) (Z0r fun x => by
   simp only [Z0h,Z0o,Z2n]
   omega)
  simpa [Z41] using this.tail
 refine AM.wp_seq ?_
 refine Z00 ?_
 simp [d4.c 1 rfl,hNt,hN.len]
 refine AM.wp_block ?_
 refine AM.wp_loop (fun k t s' => ∃ (i:Nat) (qn:Pos) (lv:AVal) (Vk:List AVal) (mk mg:Lets),i ≤ ts.length∧k = ts.length - i∧PT.get (posOf 3) t = some (.ptr B3 0)∧PT.get (posOf 5) t = some (.slice qn 0 (cs.length + i) (capI cs.length i))∧PT.get (posOf 6) t = some lv∧PT.get (posOf 7) t = some (.int .i64 cs.length) ∧
   PT.get (posOf 24) t = some nv∧PT.get (posOf 25) t = some (.int .i64 ts.length)∧PT.get (posOf 26) t = some (.int .i64 i)∧Z1a lv (nats (Z17 cs cs.length ++ (List.range i).map fun x => cs.length + x)) mg∧Z14 ((Z41 cs.length ts i).map Prod.snd) Vk mk ∧
   Ctx s (fun _ => False) ((qn,C (Z0g (Z0d cs ++ Z41 cs.length ts i) (Vg ++ Vk))) :: (B3,C [nv,.int .i64 root]) :: (mk ++ (mg ++ []))) s') ts.length
  ⟨0,pn,lv,[],[],mg,by simp,by simp,by simp,by simp [capI],by simp,by simp,by simp,by simp,by simp,by simpa using hg,by simp [Z41,Z14],d4⟩ ?_
 rintro k t s' ⟨i,qn,lv,Vk,mk,mg,hi,rfl,t3,t5,t6,t7,t24,t25,t26,hg,hR,d⟩
 refine Z00 ?_
 simp [t25,t26]
 refine AM.wp_seq ?_
 refine AM.Z03 ?_
 by_cases hlt:i < ts.length
 ·have hwr:IntKind.wrap .i64 ((i:Int) + 1) = ((i + 1:Nat):Int):=by rw [IntWalk.i64_in _ (by omega)]; omega
  have hwn:IntKind.wrap .i64 ((cs.length:Int) + i) = ((cs.length + i:Nat):Int):=by rw [IntWalk.i64_in _ (by omega)]; omega
  obtain ⟨nd,hnd⟩:∃ nd,ts[i]? = some nd:=⟨_,List.getElem?_eq_getElem hlt⟩
  obtain ⟨hk4,hkin⟩:=hT nd (List.mem_of_getElem? hnd)
  rcases hN with ⟨_,e0⟩ | ⟨bn,on,cn,cellsn,rfl,hbn,hcsn,hlen,heln⟩
  ·rw [e0] at hnd
   simp at hnd
  have rn:∀ {m:Lets} {s'':St},Ctx s (fun _ => False) m s''→s''.cells bn = some cellsn:=fun d => (d.Z0b.cells hbn).trans hcsn
  obtain ⟨hgn,kv,hgk,hkv⟩:=heln i nd hnd
  have hkt:=hkv.ntup
  have hkc:=hkv.Za4
  obtain ⟨hsg,hsl⟩:=seg2 hgn hgk
  have hmin:min 2 (cellsn.length - (on + i * 2)) = 2:=by omega
  simp [hlt]
  refine AM.wp_skip ?_
  simp
  refine AM.wp_seq ?_
  refine AM.wp_block ?_
  refine Z00 ?_
  simp [t24,t26,hlt,rn d,hsl,hmin,hsg]
  have e1:=(d.alloc (C [.str [],.nilSlice])).put 0 rfl (C [.str nd.1,kv])
  simp only [List.set_cons_zero] at e1
  generalize (s'.alloc (.cells [.str [],.nilSlice] false)).put s'.next (.cells [.str nd.1,kv] false) = s4 at e1 ⊢
  generalize s'.next = B9 at e1 ⊢
  refine Z00 ?_
  simp [e1.c 0 rfl]
  have e2:=(e1.alloc (C [.str [],.nilSlice])).put 0 rfl (C [.str nd.1,.nilSlice])
  simp only [List.set_cons_zero] at e2
  generalize (s4.alloc (.cells [.str [],.nilSlice] false)).put s4.next (.cells [.str nd.1,.nilSlice] false) = s5 at e2 ⊢
  generalize s4.next = B10 at e2 ⊢
  refine AM.wp_seq ?_
  refine Zr3 (n:=cs.length) hkv hk4 h4 (fun k hk => by have:=hkin k hk; omega) e2 (by simp [t7]) (by simp) (by simp) fun t2 s6 kv2 mk2 hF2 hg2 e3 => ?_
  have u3:PT.get (posOf 3) t2 = some (.ptr B3 0):=(hF2 3 (by simp)).trans (by simp [t3])
  have u5:PT.get (posOf 5) t2 = some (.slice qn 0 (cs.length + i) (capI cs.length i)):=(hF2 5 (by simp)).trans (by simp [t5])
  have u6:PT.get (posOf 6) t2 = some lv:=(hF2 6 (by simp)).trans (by simp [t6])
  have u7:PT.get (posOf 7) t2 = some (.int .i64 cs.length):=(hF2 7 (by simp)).trans (by simp [t7])
  have u8:PT.get (posOf 8) t2 = some (.int .i64 i):=(hF2 8 (by simp)).trans (by simp)
  have u10:PT.get (posOf 10) t2 = some (.ptr B10 0):=(hF2 10 (by simp)).trans (by simp)
  have u24:PT.get (posOf 24) t2 = some (.slice bn on ts.length cn):=(hF2 24 (by simp)).trans (by simp [t24])
  have u25:PT.get (posOf 25) t2 = some (.int .i64 ts.length):=(hF2 25 (by simp)).trans (by simp [t25])
  have u26:PT.get (posOf 26) t2 = some (.int .i64 i):=(hF2 26 (by simp)).trans (by simp [t26])
  simp
  refine AM.wp_region ?_
  simp [u5,u6,u7,u8,u10,e3.c 0 rfl,hg2.ntup,hg2.cells,Z13,srcP]
  have e4:=e3.alloc (C [.str nd.1,kv2])
  generalize s6.alloc (.cells [.str nd.1,kv2] false) = s7 at e4 ⊢
  generalize s6.next = T at e4 ⊢
  have hVk':Vk.length = i:=by
   have:=hR.len
   simpa [Z41,Nat.min_eq_left hi] using this
  have hVV:(Vg ++ Vk).length = (Z0d cs ++ Z41 cs.length ts i).length:=by simp [hVg,hVk',Z10,Z41,Nat.min_eq_left hi]
  have hcl:(Z0g (Z0d cs ++ Z41 cs.length ts i) (Vg ++ Vk)).length = 2 * (cs.length + i):=by
   rw [Z6b hVV]
   simp [Z10,Z41,Nat.min_eq_left hi]
  have e5:=e4.perm (m':=(qn,C (Z0g (Z0d cs ++ Z41 cs.length ts i) (Vg ++ Vk))) :: (B3,C [.slice bn on ts.length cn,.int .i64 root]) :: (mk2 ++ (mk ++ mg)) ++ [(T,C [.str nd.1,kv2]),(B10,C [.str nd.1,kv2]),(B9,C [.str nd.1,kv])]) (Z0r fun x => by
   simp only [Z0h,Z0o,Z2n]
   omega)
  have e6:=e5.sub (m':=(qn,C (Z0g (Z0d cs ++ Z41 cs.length ts i) (Vg ++ Vk))) :: (B3,C [.slice bn on ts.length cn,.int .i64 root]) :: (mk2 ++ (mk ++ mg))) (List.sublist_append_left _ _)
  refine Zwu e6 hcl (by omega) (by omega) (Zyd _ _) fun qn' s8 e7 => ?_
  have hsn:Z0g (Z0d cs ++ Z41 cs.length ts i) (Vg ++ Vk) ++ [.str nd.1,kv2] = Z0g (Z0d cs ++ Z41 cs.length ts (i + 1)) (Vg ++ (Vk ++ [kv2])):=by
   have:=Zjh hVV (Z3w cs.length nd) kv2
   rw [List.append_assoc,← Zju hnd,List.append_assoc] at this
   exact this.symm
  rw [hsn] at e7
  have e8:=e7.alloc (C [.int .i64 (cs.length + i:Nat)])
  rw [hwn]
  generalize s8.alloc (.cells [.int .i64 (cs.length + i:Nat)] false) = s9 at e8 ⊢
  generalize s8.next = T2 at e8 ⊢
  have e9:=e8.tail.perm (m':=[(qn',C (Z0g (Z0d cs ++ Z41 cs.length ts (i + 1)) (Vg ++ (Vk ++ [kv2])))),(B3,C [.slice bn on ts.length cn,.int .i64 root])] ++ (mg ++ (mk ++ mk2))) (Z0r fun x => by
   simp only [Z0h,Z0o,Z2n]
   omega)
  have hll:(Z17 cs cs.length).length ≤ cs.length:=Nat.le_trans (List.length_filter_le _ _) (by simp)
  refine Z4t e9 hg (by simp; omega) fun lv' mg' s10 hg' e10 => ?_
  have hg'':Z1a lv' (nats (Z17 cs cs.length ++ (List.range (i + 1)).map fun x => cs.length + x)) mg':=by
   have:nats (Z17 cs cs.length ++ (List.range (i + 1)).map fun x => cs.length + x) = nats (Z17 cs cs.length ++ (List.range i).map fun x => cs.length + x) ++ [((cs.length + i:Nat):Int)]:=by
    rw [List.range_succ]
    simp
   rw [this]
   exact hg'
  have hR':Z14 ((Z41 cs.length ts (i + 1)).map Prod.snd) (Vk ++ [kv2]) (mk ++ mk2):=by
   rw [Zju hnd,List.map_append]
   exact hR.snoc hg2.row
  refine AM.wp_region ?_
  simp [u26,hwr]
  refine ⟨ts.length - (i + 1),by omega,i + 1,by omega,by omega,u3,qn',⟨rfl,by omega,rfl⟩,u7,u24,u25,by omega,Vk ++ [kv2],mk ++ mk2,mg',by simpa using hg'',hR',?_⟩
  refine e10.perm (Z0r fun x => ?_)
  simp only [Z0h,Z0o,Z2n]
  omega
 ·simp [hlt]
  refine AM.wp_exit ?_
  simp
  have hie:i = ts.length:=by omega
  subst hie
  have htl:Z41 cs.length ts ts.length = ts.map (Z3w cs.length):=by simp [Z41]
  rw [htl] at hR d
  have hVk':Vk.length = ts.length:=by
   have:=hR.len
   simpa using this
  have hVV:(Vg ++ Vk).length = (Z0d cs ++ ts.map (Z3w cs.length)).length:=by simp [hVg,hVk',Z10]
  have hbl:=Zbn cs ts
  have hNG:NodesG s' qn (bigG cs ts):=by
   refine ⟨d.oi 0 rfl,_,d.c 0 rfl,by rw [Z6b hVV]; simp [bigG],fun j nd hnd => ?_⟩
   have hj:j < cs.length + ts.length:=by have:=(List.getElem?_eq_some_iff.1 hnd).1; omega
   have hv:(Vg ++ Vk)[j]? = some ((Vg ++ Vk)[j]'(by simp; omega)):=List.getElem?_eq_getElem _
   obtain ⟨g1,g2⟩:=Z7g hnd hv
   refine ⟨g1,_,g2,?_⟩
   generalize (Vg ++ Vk)[j]'(by simp; omega) = kv at hv
   by_cases hjn:j < cs.length
   ·rw [Zeo hjn] at hnd
    rw [List.getElem?_append_left (by omega)] at hv
    exact (hVk j nd kv hnd hv).keep d.Z0b
   ·obtain ⟨x,rfl⟩:∃ x,j = cs.length + x:=⟨j - cs.length,by omega⟩
    rw [Zep] at hnd
    rw [List.getElem?_append_right (by omega),hVg,Nat.add_sub_cancel_left] at hv
    obtain ⟨kv',r1,r2⟩:=hR.each (i:=x) (ks:=nd.2) (by rw [List.map_map,List.getElem?_map]; rw [← Option.map_map,hnd]; rfl)
    rw [hv] at r1
    cases r1
    rcases r2 with ⟨r3,r4⟩ | ⟨q',c',r3,r4,r5⟩
    ·exact .inl ⟨r4,r3⟩
    ·rw [r4]
     exact Z5q d.wf (Z1l (d.own (q',C (ints nd.2)) (by simp [r5]))) c'
  obtain ⟨hC,hks⟩:=Zsk hO hT
  have hLi:Z0e s' lv (nats (bigL cs ts)):=(hg.row.kid fun y hy => d.own y (by simp [hy])).ints d.wf
  have hll:(Z17 cs cs.length).length ≤ cs.length:=Nat.le_trans (List.length_filter_le _ _) (by simp)
  have hbL:(bigL cs ts).length ≤ 1000:=by simp [bigL]; omega
  have hlt':=hg.ntup
  refine Z00 ?_
  simp [t5,t6]
  refine Z05 ?_
  refine Zl1 hbl d.wf hNG (by omega) hLi hbL hC hks fun Bx s4 k4 hBx hox => ?_
  have hcl:=Zbp hC
  simp only [Z1x] at q
  generalize clsF (bigG cs ts) (bigL cs ts) = cls at hox hcl q
  have e1:=d.made k4 hBx (St.Z2v hox)
  rw [hbl] at hcl
  simp
  have hz3:ts.length ≤ Z0j:=by unfold Z0j; omega
  have hz4:ts.length * 8 ≤ Z0j:=by unfold Z0j; omega
  refine Z00 ?_
  simp [t3,e1.c 2 rfl,hNt,hN.len,hz3,hz4]
  have e2:=e1.alloc (C (List.replicate ts.length (.int .i64 0)))
  have hBo:¬ s.Old s4.next:=fun ho => Z08 s4 (e1.Z0b.old ho)
  generalize s4.alloc (.cells (List.replicate ts.length (.int .i64 0)) false) = s5 at e2 ⊢
  generalize s4.next = Bo at e2 hBo ⊢
  refine AM.wp_seq ?_
  refine Z00 ?_
  simp
  have e3:=e2.sub (m':=(Bo,C (List.replicate ts.length (.int .i64 0))) :: (Bx,C (ints cls)) :: []) (.cons_cons _ (.cons_cons _ (List.nil_sublist _)))
  have hz0:List.replicate ts.length (AVal.int .i64 0) = ints (((List.range ts.length).map fun i => Z4i (fun d => decide ((cls[cs.length + i]?).getD 0 = d)) (cls.take cs.length)).take 0 ++ List.replicate (ts.length - 0) 0):=by simp [ints]
  generalize hres:((List.range ts.length).map fun i => Z4i (fun d => decide ((cls[cs.length + i]?).getD 0 = d)) (cls.take cs.length)) = res at hz0 q
  have hresl:res.length = ts.length:=by rw [← hres]; simp
  rw [hz0] at e3
  refine AM.wp_block ?_
  refine AM.wp_loop (fun k t s' => ∃ i:Nat,i ≤ ts.length∧k = ts.length - i∧PT.get (posOf 7) t = some (.int .i64 cs.length)∧PT.get (posOf 13) t = some (.slice Bx 0 (cs.length + ts.length) (.lim (cs.length + ts.length)))∧PT.get (posOf 14) t = some (.slice Bo 0 ts.length (.lim ts.length)) ∧
    PT.get (posOf 69) t = some (.int .i64 ts.length)∧PT.get (posOf 70) t = some (.int .i64 i)∧Ctx s (fun _ => False) ((Bo,C (ints (res.take i ++ List.replicate (ts.length - i) 0))) :: (Bx,C (ints cls)) :: []) s') ts.length
   ⟨0,by simp,by simp,by simp [t7],by simp,by simp,by simp,by simp,e3⟩ ?_
  rintro k t s' ⟨i,hi,rfl,t7,t13,t14,t69,t70,d⟩
  refine Z00 ?_
  simp [t69,t70]
  refine AM.wp_seq ?_
  refine AM.Z03 ?_
  by_cases hlt:i < ts.length
  ·have hwr:IntKind.wrap .i64 ((i:Int) + 1) = ((i + 1:Nat):Int):=by rw [IntWalk.i64_in _ (by omega)]; omega
   have hwn:IntKind.wrap .i64 ((cs.length:Int) + i) = ((cs.length + i:Nat):Int):=by rw [IntWalk.i64_in _ (by omega)]; omega
   obtain ⟨cc,hcc⟩:∃ cc,cls[cs.length + i]? = some cc:=⟨_,List.getElem?_eq_getElem (by omega)⟩
   have hgc:(ints cls)[cs.length + i]? = some (.int .i64 cc):=by rw [List.getElem?_map,hcc]; rfl
   simp [hlt]
   refine AM.wp_skip ?_
   simp
   refine AM.wp_seq ?_
   refine AM.wp_block ?_
   refine Z00 ?_
   simp [t70]
   refine AM.wp_region ?_
   simp [t7,t13,t14]
   refine Zfq (a:=0) (b:=cs.length) (off:=0) (n:=cs.length + ts.length) (c:=cs.length + ts.length) (p:=Bx) (by simp) rfl ⟨.i64,by simp⟩ (by omega) (by omega) ?_
   rw [if_neg (by omega),hwn]
   have hlt2:((cs.length + i:Nat):Int) < (cs.length:Int) + ts.length:=by omega
   have hlt3:(0:Int) ≤ ((cs.length + i:Nat):Int):=by omega
   simp only [Nat.zero_mul,Nat.add_zero,Nat.zero_add,Nat.sub_zero,Int.toNat_natCast,Nat.mul_one]
   refine ⟨hlt3,hlt2,?_⟩
   rw [d.c 1 rfl]
   simp only [Z0x,hgc]
   have hIx:Z0e s' (.slice Bx 0 cs.length (.lim (cs.length + ts.length))) (cls.take cs.length):=by
    refine .inr ⟨Bx,0,.lim (cs.length + ts.length),ints cls,?_,d.oi 1 rfl,d.c 1 rfl,?_,fun j k hk => ?_⟩
    ·rw [List.length_take,hcl,Nat.min_eq_left (by omega)]
    ·simp
     omega
    ·rw [List.getElem?_take] at hk
     split at hk
     ·rw [Nat.zero_add,List.getElem?_map,hk]
      rfl
     ·cases hk
   refine Z05 ?_
   refine Zr9 hIx (by rw [List.length_take]; omega) ?_
   have hri:res[i]? = some (Z4i (fun d => decide (cc = d)) (cls.take cs.length)):=by
    rw [← hres,List.getElem?_map,List.getElem?_range hlt]
    simp [hcc]
   generalize Z4i (fun d => decide (cc = d)) (cls.take cs.length) = vv at hri ⊢
   have hnx:(res.take i ++ List.replicate (ts.length - i) 0).set i vv = res.take (i + 1) ++ List.replicate (ts.length - (i + 1)) 0:=by
    have hln:(res.take i).length = i:=by rw [List.length_take]; omega
    rw [List.set_append_right _ _ (by omega),hln,Nat.sub_self]
    have e:ts.length - i = (ts.length - (i + 1)) + 1:=by omega
    rw [e,List.replicate_succ,List.set_cons_zero,List.take_add_one,hri]
    simp
   have hln:(res.take i ++ List.replicate (ts.length - i) 0).length = ts.length:=by
    rw [List.length_append,List.length_take,List.length_replicate]
    omega
   have hlay:lay (ints (res.take i ++ List.replicate (ts.length - i) 0)) i [.int .i64 vv] = ints (res.take (i + 1) ++ List.replicate (ts.length - (i + 1)) 0):=by
    have:=Z8f (res.take i ++ List.replicate (ts.length - i) 0) i vv (by omega)
    rw [hnx] at this
    exact this
   have hown:=d.o 0 rfl
   have dd:=d.put 0 rfl (C (ints (res.take (i + 1) ++ List.replicate (ts.length - (i + 1)) 0)))
   simp only [List.set_cons_zero] at dd
   have hlen:i + 1 ≤ (ints (res.take i ++ List.replicate (ts.length - i) 0)).length:=by rw [List.length_map]; omega
   generalize ints (res.take i ++ List.replicate (ts.length - i) 0) = mv at hlay hown hlen
   generalize hY:ints (res.take (i + 1) ++ List.replicate (ts.length - (i + 1)) 0) = Y at hlay dd
   simp [lay] at hlay
   simp [hlt,hown,hlen]
   rw [hlay]
   refine AM.wp_region ?_
   simp [t70,hwr]
   exact ⟨ts.length - (i + 1),by omega,i + 1,by omega,by omega,by simp [t7],by simp [t13],by simp [t14],by simp [t69],by simp,by rw [← hY] at dd ⊢; simpa [ints] using dd⟩
  ·simp [hlt]
   refine AM.wp_exit ?_
   simp
   have hie:i = ts.length:=by omega
   subst hie
   have hrt:res.take ts.length ++ List.replicate (ts.length - ts.length) 0 = res:=by
    rw [Nat.sub_self,← hresl,List.take_length]
    simp
   rw [hrt] at d
   refine Z00 ?_
   simp [t14]
   refine AM.wp_ret ?_
   simp
   exact q Bo s' d.Z0b hBo (d.o 0 rfl)
theorem Zag {ns:List ND} {r:Nat} (hO:GrOk ns) (hr:r < ns.length):GrOk (Z0v ns r)∧1 ≤ (Z0v ns r).length∧(Z0v ns r).length ≤ ns.length:=by
 have hr':∀ a ∈ [r],a < ns.length:=by simpa using hr
 obtain ⟨hC,hnd,hlt,hroot⟩:=Z7c hO hr'
 unfold Z0v
 generalize bfsF (kidG ns) ns.length [r] = L at hC hnd hlt hroot
 have hm:(outF (clsF ns L) ns L).length = Zjf ns L:=Zi5 hC
 refine ⟨fun x hx => ?_,?_,?_⟩
 ·obtain ⟨a,nd,h1,h2,rfl⟩:=Ze6 hx
  refine ⟨by simpa [Z3y] using (hO nd (List.mem_of_getElem? h2)).1,fun k hk => ?_⟩
  obtain ⟨k',hk',rfl⟩:=List.mem_map.1 hk
  obtain ⟨_,hkin⟩:=hC.kids a h1 nd h2
  obtain ⟨c,e1,e2⟩:=Zew hC (hkin k' hk')
  rw [e1]
  simp only [Option.getD_some]
  omega
 ·rcases hroot r (by simp) with h
  obtain ⟨c,e1,e2⟩:=Zew hC h
  omega
 ·have:=Zi4 (clsF ns L) ns L
  have:=Z2a hnd hlt
  omega
theorem Zj5 (cs:List CV) (ts:List ND):(Z1x cs ts).length = ts.length:=by simp [Z1x]
end Go.Proofs
end
