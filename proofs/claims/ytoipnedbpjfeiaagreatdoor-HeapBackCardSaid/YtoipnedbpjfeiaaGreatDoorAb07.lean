/- Parts of the proof: Chk1, Chk2, Chk3, Ring3, Brd1, Brd2, Brd3, Hm1, Get1, Get2, Get3, Abr, Abr2, AC1, AC2, AC3, AC4, AC5, Ord, Mgd, Swp. -/
import Derived.Test.YtoipnedbpjfeiaaGreatDoorAb06
set_option linter.all false
set_option linter.unusedSectionVars false
set_option linter.unusedSimpArgs false
set_option linter.unusedVariables false
section
open Go Go.AM
namespace Go.Proofs
set_option maxRecDepth 100000
theorem Zih {cs:List AVal} {k:Nat} {a b:AVal} (h1:cs[k]? = some a) (h2:cs[k + 1]? = some b):(cs.drop k).take 2 = [a,b]:=by
 have l1:=(List.getElem?_eq_some_iff.1 h1).1
 have l2:=(List.getElem?_eq_some_iff.1 h2).1
 rw [List.drop_eq_getElem_cons l1,List.drop_eq_getElem_cons l2]
 rw [List.getElem?_eq_getElem l1] at h1
 rw [List.getElem?_eq_getElem l2] at h2
 simp [Option.some.inj h1,Option.some.inj h2]
theorem Zv2 {s:St} {nv fv:AVal} {ns:List ND} {f:ND→Bool} {Q:AVal→St→Prop} (hv:Z1v s nv ns) (hmax:ns.length ≤ 2 ^ 62)
  (hf:∀ (s':St) (nd:ND) (kv:AVal) (R:AVal→St→Prop),Keeps s s'→nd ∈ ns→Z0e s' kv nd.2→(∀ s'',Keeps s' s''→R (.bool (f nd)) s'')→Z3i Tryz.prog fv [.agg [.str nd.1,kv]] s' R)
  (q:∀ (i:Int) s',Keeps s s'→(!decide (i < 0)) = ns.any f→Q (.int .i64 i) s'):Z0c Tryz.prog 128 [nv,fv] s Q:=by
 refine Z08 (Z0d (by decide)) fi128 rfl (by decide) rfl ?_
 refine Z00 ?_
 simp
 refine AM.wp_seq ?_
 refine Z00 ?_
 simp [hv.len,hv.ntup]
 refine AM.wp_block ?_
 refine AM.wp_loop (fun m t s' => ∃ i:Nat,i ≤ ns.length∧m = ns.length - i∧PT.get (posOf 0) t = some nv∧PT.get (posOf 1) t = some fv∧PT.get (posOf 7) t = some (.int .i64 ns.length)∧PT.get (posOf 8) t = some (.int .i64 i)∧Keeps s s'∧∀ j d,j < i→ns[j]? = some d→f d = false) ns.length ⟨0,by simp,by simp,by simp,by simp,by simp,by simp,Keeps.refl s,by simp⟩ ?_
 rintro m t s' ⟨i,hi,rfl,t0,t1,t7,t8,hk,hall⟩
 refine Z00 ?_
 simp [t7,t8]
 refine AM.wp_seq ?_
 refine AM.Z04 ?_
 by_cases hlt:i < ns.length
 ·obtain ⟨nd,hnd⟩:∃ nd,ns[i]? = some nd:=⟨_,List.getElem?_eq_getElem hlt⟩
  have hwr:IntKind.wrap .i64 ((i:Int) + 1) = ((i + 1:Nat):Int):=by rw [IntWalk.i64_in _ (by omega)]; omega
  rcases hv.keep hk with ⟨_,h0⟩ | ⟨b,o,c,cs,rfl,hb,hcs,hle,hel⟩
  ·subst h0
   simp at hlt
  obtain ⟨g1,kv,g2,g3⟩:=hel i nd hnd
  have hseg:=Zih g1 g2
  have hlen:o + i * 2 + 2 ≤ cs.length:=by have:=(List.getElem?_eq_some_iff.1 g2).1; omega
  simp [hlt]
  refine AM.wp_skip ?_
  simp
  refine AM.wp_seq ?_
  refine AM.wp_block ?_
  refine Z00 ?_
  simp [t8]
  refine Z00 ?_
  simp [t0,t1,hlt,hcs,hseg,hlen]
  refine hf s' nd kv _ hk (List.mem_of_getElem? hnd) g3 fun s2 hk2 => ?_
  simp
  refine AM.Z04 ?_
  cases hct:f nd with
  | true =>
   simp
   refine Z00 ?_
   simp
   refine AM.wp_ret ?_
   simp
   refine q _ _ (hk.trans hk2) ?_
   have h1:ns.any f = true:=List.any_eq_true.2 ⟨nd,List.mem_of_getElem? hnd,hct⟩
   have h2:¬ ((i:Int) < 0):=by omega
   rw [h1]
   simp [h2]
  | false =>
   simp
   refine AM.wp_skip ?_
   simp
   refine AM.wp_region ?_
   simp [t8,hwr]
   refine ⟨ns.length - (i + 1),by omega,i + 1,by omega,by omega,by simp [t0],by simp [t1],by simp [t7],by simp,hk.trans hk2,?_⟩
   intro j k l hj hd
   by_cases hji:j = i
   ·subst hji
    rw [hnd] at hd
    cases hd
    exact hct
   ·exact hall j (k,l) (by omega) hd
 ·simp [hlt]
  refine AM.wp_exit ?_
  simp
  refine Z00 ?_
  simp
  refine AM.wp_ret ?_
  simp
  refine q _ _ hk ?_
  have h1:ns.any f = false:=by
   rw [List.any_eq_false]
   intro d hd
   obtain ⟨j,hj,e⟩:=List.getElem_of_mem hd
   have:=hall j d (by omega) (by rw [List.getElem?_eq_getElem hj,e])
   simp [this]
  rw [h1]
  rfl
theorem Zn1 {s:St} {nv fv:AVal} {ns:List ND} {f:ND→Bool} {Q:AVal→St→Prop} (hv:Z1v s nv ns) (hmax:ns.length ≤ 2 ^ 62)
  (hf:∀ (s':St) (nd:ND) (kv:AVal) (R:AVal→St→Prop),Keeps s s'→nd ∈ ns→Z0e s' kv nd.2→(∀ s'',Keeps s' s''→R (.bool (f nd)) s'')→Z3i Tryz.prog fv [.agg [.str nd.1,kv]] s' R)
  (q:∀ s',Keeps s s'→Q (.bool (ns.any f)) s'):Z0c Tryz.prog 98 [nv,fv] s Q:=by
 refine Z08 (Z0d (by decide)) fi98 rfl (by decide) rfl ?_
 refine Z00 ?_
 simp
 refine Z00 ?_
 simp
 refine Z02 ?_
 refine Zv2 hv hmax hf fun i s' hk e => ?_
 simp
 refine AM.wp_ret ?_
 simp
 rw [e]
 exact q _ hk
theorem Zvk (g:ND→Bool):∀ ns:List ND,(!ns.any fun x => !g x) = ns.all g
 | [] => rfl
 | k :: r => by
  have:=Zvk g r
  simp only [List.any_cons,List.all_cons,Bool.not_or,Bool.not_not]
  rw [this]
theorem Zff {s:St} {nv:AVal} {ns:List ND} {f:Nat} {a c:List AVal} {g:ND→Bool} {Q:AVal→St→Prop} (hwf:s.Wf) (hv:Z1v s nv ns) (hmax:ns.length ≤ 2 ^ 62)
  (hf:∀ (s':St) (nd:ND) (kv:AVal) (R:AVal→St→Prop),Keeps s s'→nd ∈ ns→Z0e s' kv nd.2→(∀ s'',Keeps s' s''→R (.bool (g nd)) s'')→Z3i Tryz.prog (.fn f a c) [.agg [.str nd.1,kv]] s' R)
  (q:∀ s',Keeps s s'→Q (.bool (ns.all g)) s'):Z0c Tryz.prog 146 [nv,.fn f a c] s Q:=by
 refine Z08 (Z0d (by decide)) fi146 rfl (by decide) rfl ?_
 refine Z00 ?_
 simp
 have c1:=(Ctx.start (fun _ => False) hwf).alloc (C [.fn f a c])
 generalize s.alloc (.cells [.fn f a c] false) = s1 at c1 ⊢
 generalize s.next = B at c1 ⊢
 have k1:=c1.Z0m
 refine Z00 ?_
 simp [hv.ntup]
 refine Z02 ?_
 refine Zn1 (f:=fun x => !g x) (hv.keep k1) hmax (fun s' nd kv R hk hnd hkv hR => ?_) fun s' hk => ?_
 ·refine Z02 ?_
  have hkt:=hkv.ntup
  refine Z08 (Z0d (by decide)) fi162 rfl (by decide) rfl ?_
  refine Z00 ?_
  simp
  have c2:=((Ctx.start (fun _ => False) (hk.wf c1.wf))).alloc (C [.str nd.1,kv])
  have hB:s'.cells B = some [.fn f a c]:=(hk.cells (c1.oi 0 rfl)).trans (c1.c 0 rfl)
  have hBo:s'.Old B:=hk.old (c1.oi 0 rfl)
  generalize s'.alloc (.cells [.str nd.1,kv] false) = s2 at c2 ⊢
  generalize s'.next = B2 at c2 ⊢
  have k2:=c2.Z0m
  refine Z00 ?_
  simp [(k2.cells hBo).trans hB,c2.c 0 rfl]
  refine hf s2 nd kv _ ((k1.trans hk).trans k2) hnd (hkv.keep k2) fun s3 k3 => ?_
  simp
  refine AM.wp_ret ?_
  simp
  exact hR s3 (k2.trans k3)
 ·simp
  refine AM.wp_ret ?_
  simp
  have:=q _ (k1.trans hk)
  rw [← Zvk] at this
  exact this
theorem Zs8 {s:St} {v:AVal} {ks:List Int} {f:Nat} {a c:List AVal} {g:Int→Bool} {Q:AVal→St→Prop} (hwf:s.Wf) (hv:Z0e s v ks) (hmax:ks.length ≤ 2 ^ 62)
  (hf:∀ (s':St) (x:Int) (R:AVal→St→Prop),Keeps s s'→x ∈ ks→(∀ s'',Keeps s' s''→R (.bool (g x)) s'')→Z3i Tryz.prog (.fn f a c) [.int .i64 x] s' R)
  (q:∀ s',Keeps s s'→Q (.bool (ks.all g)) s'):Z0c Tryz.prog 151 [v,.fn f a c] s Q:=by
 refine Z08 (Z0d (by decide)) fi151 rfl (by decide) rfl ?_
 refine Z00 ?_
 simp
 have c1:=(Ctx.start (fun _ => False) hwf).alloc (C [.fn f a c])
 generalize s.alloc (.cells [.fn f a c] false) = s1 at c1 ⊢
 generalize s.next = B at c1 ⊢
 have k1:=c1.Z0m
 refine Z00 ?_
 simp [hv.ntup]
 refine Z02 ?_
 refine Zce (hv.keep k1) hmax (f:=fun x => !g x) (fun s' x R hk hx hR => ?_) fun s' hk => ?_
 ·refine Z02 ?_
  have hB:s'.cells B = some [.fn f a c]:=(hk.cells (c1.oi 0 rfl)).trans (c1.c 0 rfl)
  refine Z08 (Z0d (by decide)) fi163 rfl (by decide) rfl ?_
  refine Z00 ?_
  simp
  refine Z00 ?_
  simp [hB]
  refine hf s' x _ (k1.trans hk) hx fun s3 k3 => ?_
  simp
  refine AM.wp_ret ?_
  simp
  exact hR s3 k3
 ·simp
  refine AM.wp_ret ?_
  simp
  have:=q _ (k1.trans hk)
  rw [← Zk5] at this
  exact this
def Z1m (ns:List ND) (root:Int):Int :=
 if ns.length < 1 ∨ 60 < ns.length ∨ (ns.all fun nd => decide (nd.2.length ≤ 4)) = false then 2
 else if (ns.all fun nd => Z2k nd.1) = false then 4
 else if (decide (0 ≤ root) && decide (root < ns.length)) = false ∨ (ns.all fun nd => nd.2.all fun k => decide (0 ≤ k) && decide (k < ns.length)) = false then 1
 else 0
def Zge (ns:List ND):Prop:=∀ nd ∈ ns,nd.1.length ≤ 2 ^ 62∧nd.2.length ≤ 2 ^ 62
theorem Zky {s:St} {B:Pos} {nv:AVal} {ns:List ND} {rt k:Int} {Q:AVal→St→Prop} (hB:s.cells B = some [nv,.int .i64 rt]) (hv:Z18 nv = some ns.length) (q:Q (.bool (decide (0 ≤ k) && decide (k < ns.length))) s):Z0c Tryz.prog 145 [.int .i64 k,.ptr B 0] s Q:=by
 have hnt:∀ t,¬ nv = .tup t:=by
  rintro t rfl
  cases hv
 refine Z08 (Z0d (by decide)) fi145 rfl (by decide) rfl ?_
 refine Z00 ?_
 simp
 refine Z00 ?_
 by_cases h0:k < 0
 ·have h0':¬ 0 ≤ k:=by omega
  simp [h0]
  refine AM.wp_ret ?_
  simp
  simpa [h0'] using q
 ·have h0':0 ≤ k:=by omega
  simp [h0,hB,hnt,hv]
  refine AM.wp_ret ?_
  simp
  simpa [h0'] using q
theorem Zmz {s:St} {nv:AVal} {ns:List ND} {rt:Int} {Q:AVal→St→Prop} (hwf:s.Wf) (hv:Z1v s nv ns) (hmax:ns.length ≤ 2 ^ 62) (hsm:Zge ns)
  (q:∀ s',Keeps s s'→Q (.int .i64 (Z1m ns rt)) s'):Z0c Tryz.prog 121 [.agg [nv,.int .i64 rt]] s Q:=by
 have hnt:=hv.ntup
 have hln:=hv.len
 refine Z08 (Z0d (by decide)) fi121 rfl (by decide) rfl ?_
 refine Z00 ?_
 simp
 have c1:=(Ctx.start (fun _ => False) hwf).alloc (C [nv,.int .i64 rt])
 generalize s.alloc (.cells [nv,.int .i64 rt] false) = s1 at c1 ⊢
 generalize s.next = B1 at c1 ⊢
 refine Z00 ?_
 simp
 have c2:=(c1.alloc (C [.nilFn])).put 0 rfl (C [.fn 145 [] [.ptr B1 0]])
 simp only [List.set_cons_zero] at c2
 generalize (s1.alloc (.cells [.nilFn] false)).put s1.next (.cells [.fn 145 [] [.ptr B1 0]] false) = s2 at c2 ⊢
 generalize s1.next = B3 at c2 ⊢
 have k2:=c2.Z0m
 refine AM.wp_seq ?_
 refine AM.wp_block ?_
 refine Z00 ?_
 by_cases hA:ns.length < 1
 ·have hF:Z1m ns rt = 2:=by unfold Z1m; rw [if_pos (.inl hA)]
  rw [hF] at q
  have hA':(ns.length:Int) < 1:=by omega
  have hA0:ns.length = 0:=by omega
  simp [c2.c 1 rfl,hnt,hln,hA0]
  refine AM.Z04 ?_
  simp
  refine Z00 ?_
  simp
  refine AM.wp_ret ?_
  simp
  exact q s2 k2
 have hA':¬ (ns.length:Int) < 1:=by omega
 by_cases hB:60 < ns.length
 ·have hF:Z1m ns rt = 2:=by unfold Z1m; rw [if_pos (.inr (.inl hB))]
  rw [hF] at q
  have hB':(60:Int) < ns.length:=by omega
  simp [c2.c 1 rfl,hnt,hln,hA',hB']
  refine AM.Z04 ?_
  simp
  refine Z00 ?_
  simp
  refine AM.wp_ret ?_
  simp
  exact q s2 k2
 have hB':¬ (60:Int) < ns.length:=by omega
 simp [c2.c 1 rfl,hnt,hln,hA',hB']
 refine Z02 ?_
 refine Zff (g:=fun nd => decide (nd.2.length ≤ 4)) c2.wf (hv.keep k2) hmax (fun s' nd kv R hk hnd hkv hR => ?_) fun s3 k3 => ?_
 ·refine Z02 ?_
  have hkt:=hkv.ntup
  refine Z08 (Z0d (by decide)) fi147 rfl (by decide) rfl ?_
  refine Z00 ?_
  simp
  have d:=(Ctx.start (fun _ => False) (hk.wf c2.wf)).alloc (C [.str nd.1,kv])
  generalize s'.alloc (.cells [.str nd.1,kv] false) = sA at d ⊢
  generalize s'.next = BA at d ⊢
  refine Z00 ?_
  simp [d.c 0 rfl,hkt,hkv.len]
  refine AM.wp_ret ?_
  simp
  have e:(!decide ((4:Int) < (nd.2.length:Int))) = decide (nd.2.length ≤ 4):=by
   by_cases h:nd.2.length ≤ 4
   ·have h':¬ (4:Int) < nd.2.length:=by omega
    simp [h,h']
   ·have h':(4:Int) < nd.2.length:=by omega
    simp [h,h']
  have:=hR sA d.Z0m
  rw [← e] at this
  simpa using this
 have c3:=c2.keeps k3
 have K3:=k2.trans k3
 cases h4:ns.all (fun nd => decide (nd.2.length ≤ 4)) with
 | false =>
  have hF:Z1m ns rt = 2:=by unfold Z1m; rw [if_pos (.inr (.inr h4))]
  rw [hF] at q
  simp
  refine AM.Z04 ?_
  simp
  refine Z00 ?_
  simp
  refine AM.wp_ret ?_
  simp
  exact q s3 K3
 | true =>
 simp
 refine AM.Z04 ?_
 simp
 refine Z00 ?_
 simp [c3.c 1 rfl,hnt]
 refine Z02 ?_
 refine Zff (g:=fun nd => Z2k nd.1) c3.wf (hv.keep K3) hmax (fun s' nd kv R hk hnd hkv hR => ?_) fun s4 k4 => ?_
 ·refine Z02 ?_
  have hkt:=hkv.ntup
  refine Z08 (Z0d (by decide)) fi148 rfl (by decide) rfl ?_
  refine Z00 ?_
  simp
  have d:=(Ctx.start (fun _ => False) (hk.wf c3.wf)).alloc (C [.str nd.1,kv])
  generalize s'.alloc (.cells [.str nd.1,kv] false) = sA at d ⊢
  generalize s'.next = BA at d ⊢
  refine Z00 ?_
  simp [d.c 0 rfl]
  refine Z02 ?_
  refine Zsp (hsm nd hnd).1 fun sB kB => ?_
  simp
  refine AM.wp_ret ?_
  simp
  exact hR sB (d.Z0m.trans kB)
 have c4:=c3.keeps k4
 have K4:=K3.trans k4
 cases hN:ns.all (fun nd => Z2k nd.1) with
 | false =>
  have hF:Z1m ns rt = 4:=by unfold Z1m; rw [if_neg (fun h => h.elim hA (fun h => h.elim hB (fun h => by rw [h4] at h; cases h))),if_pos hN]
  rw [hF] at q
  simp
  refine AM.Z04 ?_
  simp
  refine Z00 ?_
  simp
  refine AM.wp_ret ?_
  simp
  exact q s4 K4
 | true =>
 simp
 refine AM.Z04 ?_
 simp
 refine Z00 ?_
 simp [c4.c 0 rfl,c4.c 1 rfl]
 refine Z02 ?_
 refine Zky (c4.c 1 rfl) hln ?_
 cases hr:(decide (0 ≤ rt) && decide (rt < ns.length)) with
 | false =>
  have hF:Z1m ns rt = 1:=by unfold Z1m; rw [if_neg (fun h => h.elim hA (fun h => h.elim hB (fun h => by rw [h4] at h; cases h))),if_neg (by simp [hN]),if_pos (.inl hr)]
  rw [hF] at q
  simp
  refine AM.Z04 ?_
  simp
  refine Z00 ?_
  simp
  refine AM.wp_ret ?_
  simp
  exact q s4 K4
 | true =>
 simp [c4.c 0 rfl,c4.c 1 rfl,hnt]
 refine Z02 ?_
 refine Zff (g:=fun nd => nd.2.all fun k => decide (0 ≤ k) && decide (k < ns.length)) c4.wf (hv.keep K4) hmax (fun s' nd kv R hk hnd hkv hR => ?_) fun s5 k5 => ?_
 ·refine Z02 ?_
  have hkt:=hkv.ntup
  refine Z08 (Z0d (by decide)) fi150 rfl (by decide) rfl ?_
  refine Z00 ?_
  simp
  have d:=(c4.keeps hk).alloc (C [.str nd.1,kv])
  have d':=(Ctx.start (fun _ => False) (hk.wf c4.wf)).alloc (C [.str nd.1,kv])
  generalize s'.alloc (.cells [.str nd.1,kv] false) = sA at d d' ⊢
  generalize s'.next = BA at d d' ⊢
  have kA:=d'.Z0m
  refine Z00 ?_
  simp [d.c 0 rfl,d.c 1 rfl,hkt]
  refine Z02 ?_
  refine Zs8 (g:=fun k => decide (0 ≤ k) && decide (k < ns.length)) d.wf (hkv.keep kA) (hsm nd hnd).2 (fun s6 x R6 k6 hx hR6 => ?_) fun s6 k6 => ?_
  ·refine Z02 ?_
   exact Zky ((d.keeps k6).c 2 rfl) hln (hR6 s6 (Keeps.refl _))
  ·simp
   refine AM.wp_ret ?_
   simp
   exact hR s6 (kA.trans k6)
 have K5:=K4.trans k5
 cases hK:ns.all (fun nd => nd.2.all fun k => decide (0 ≤ k) && decide (k < ns.length)) with
 | false =>
  have hF:Z1m ns rt = 1:=by unfold Z1m; rw [if_neg (fun h => h.elim hA (fun h => h.elim hB (fun h => by rw [h4] at h; cases h))),if_neg (by simp [hN]),if_pos (.inr hK)]
  rw [hF] at q
  simp
  refine AM.Z04 ?_
  simp
  refine Z00 ?_
  simp
  refine AM.wp_ret ?_
  simp
  exact q s5 K5
 | true =>
  have hF:Z1m ns rt = 0:=by unfold Z1m; rw [if_neg (fun h => h.elim hA (fun h => h.elim hB (fun h => by rw [h4] at h; cases h))),if_neg (by simp [hN]),if_neg (by simp only [hr,hK]; simp)]
  rw [hF] at q
  simp
  refine AM.Z04 ?_
  simp
  refine AM.wp_skip ?_
  simp
  refine Z00 ?_
  simp
  refine AM.wp_ret ?_
  simp
  exact q s5 K5
abbrev TV:=List ND × Int
def Z6v (s:St) (v:AVal) (ts:List TV):Prop:=(Z18 v = some 0∧ts = []) ∨
 ∃ b o c cs,v = .slice b o ts.length c∧s.Old b∧s.cells b = some cs∧o + 2 * ts.length ≤ cs.length∧∀ (i:Nat) (t:TV),ts[i]? = some t→∃ nv,cs[o + i * 2]? = some nv∧cs[o + i * 2 + 1]? = some (.int .i64 t.2)∧Z1v s nv t.1
theorem Z6v.keep {s s':St} {v:AVal} {ts:List TV} (h:Z6v s v ts) (k:Keeps s s'):Z6v s' v ts:=by
 rcases h with h | ⟨b,o,c,cs,h1,h2,h3,h4,h5⟩
 ·exact .inl h
 ·refine .inr ⟨b,o,c,cs,h1,k.old h2,(k.cells h2).trans h3,h4,fun i t hi => ?_⟩
  obtain ⟨nv,g1,g2,g3⟩:=h5 i t hi
  exact ⟨nv,g1,g2,g3.keep k⟩
theorem Z6v.len {s:St} {v:AVal} {ts:List TV} (h:Z6v s v ts):Z18 v = some ts.length:=by
 rcases h with ⟨h1,rfl⟩ | ⟨b,o,c,cs,rfl,_⟩
 ·exact h1
 ·rfl
theorem Z6v.ntup {s:St} {v:AVal} {ts:List TV} (h:Z6v s v ts):∀ t,¬ v = .tup t:=by
 rintro t rfl
 have:=h.len
 cases this
def Zq7 (ts:List TV):Prop:=∀ t ∈ ts,t.1.length ≤ 2 ^ 62∧Zge t.1
def Z8l (ts:List TV):Int:=match ts.find? (fun t => decide (Z1m t.1 t.2 ≠ 0)) with
 | some t => Z1m t.1 t.2
 | none => 0
theorem Zv3 {s:St} {v:AVal} {ts:List TV} {Q:AVal→St→Prop} (hwf:s.Wf) (hv:Z6v s v ts) (hsm:Zq7 ts) (hmax:ts.length ≤ 1000)
  (q:∀ (i:Int) s',Keeps s s'→((i = -1∧ts.find? (fun t => decide (Z1m t.1 t.2 ≠ 0)) = none) ∨ ∃ (j:Nat) (t:TV),i = j∧ts[j]? = some t∧ts.find? (fun t => decide (Z1m t.1 t.2 ≠ 0)) = some t)→Q (.int .i64 i) s'):Z0c Tryz.prog 158 [v,.fn 138 [] []] s Q:=by
 refine Z08 (Z0d (by decide)) fi158 rfl (by decide) rfl ?_
 refine Z00 ?_
 simp
 refine AM.wp_seq ?_
 refine Z00 ?_
 simp [hv.len,hv.ntup]
 refine AM.wp_block ?_
 refine AM.wp_loop (fun m t s' => ∃ i:Nat,i ≤ ts.length∧m = ts.length - i∧PT.get (posOf 0) t = some v∧PT.get (posOf 1) t = some (.fn 138 [] [])∧PT.get (posOf 7) t = some (.int .i64 ts.length)∧PT.get (posOf 8) t = some (.int .i64 i)∧Keeps s s'∧(ts.take i).find? (fun t => decide (Z1m t.1 t.2 ≠ 0)) = none) ts.length ⟨0,by simp,by simp,by simp,by simp,by simp,by simp,Keeps.refl s,by simp⟩ ?_
 rintro m t s' ⟨i,hi,rfl,t0,t1,t7,t8,hk,hall⟩
 refine Z00 ?_
 simp [t7,t8]
 refine AM.wp_seq ?_
 refine AM.Z04 ?_
 by_cases hlt:i < ts.length
 ·obtain ⟨tt,htt⟩:∃ tt,ts[i]? = some tt:=⟨_,List.getElem?_eq_getElem hlt⟩
  have hwr:IntKind.wrap .i64 ((i:Int) + 1) = ((i + 1:Nat):Int):=by rw [IntWalk.i64_in _ (by omega)]; omega
  rcases hv.keep hk with ⟨_,h0⟩ | ⟨b,o,c,cs,rfl,hb,hcs,hle,hel⟩
  ·subst h0
   simp at hlt
  obtain ⟨nv,g1,g2,g3⟩:=hel i tt htt
  have hseg:=Zih g1 g2
  have hlen:o + i * 2 + 2 ≤ cs.length:=by have:=(List.getElem?_eq_some_iff.1 g2).1; omega
  have hnt:=g3.ntup
  obtain ⟨hs1,hs2⟩:=hsm tt (List.mem_of_getElem? htt)
  simp [hlt]
  refine AM.wp_skip ?_
  simp
  refine AM.wp_seq ?_
  refine AM.wp_block ?_
  refine Z00 ?_
  simp [t8]
  refine Z00 ?_
  simp [t0,t1,hlt,hcs,hseg,hlen]
  refine Z02 ?_
  refine Z08 (Z0d (by decide)) fi138 rfl (by decide) rfl ?_
  refine Z00 ?_
  simp
  have d:=(Ctx.start (fun _ => False) (hk.wf hwf)).alloc (C [nv,.int .i64 tt.2])
  generalize s'.alloc (.cells [nv,.int .i64 tt.2] false) = sA at d ⊢
  generalize s'.next = BA at d ⊢
  have kA:=d.Z0m
  refine Z00 ?_
  simp [d.c 0 rfl]
  refine Z02 ?_
  refine Zmz (rt:=tt.2) d.wf (g3.keep kA) hs1 hs2 fun sB kB => ?_
  have hkB:=(hk.trans kA).trans kB
  simp
  refine AM.wp_ret ?_
  simp
  refine AM.Z04 ?_
  by_cases hct:Z1m tt.1 tt.2 = 0
  ·simp [hct]
   refine AM.wp_skip ?_
   simp
   refine AM.wp_region ?_
   simp [t8,hwr]
   refine ⟨ts.length - (i + 1),by omega,i + 1,by omega,by omega,by simp [t0],by simp [t1],by simp [t7],by simp,hkB,?_⟩
   have:(ts.take (i + 1)).find? (fun t => decide (Z1m t.1 t.2 ≠ 0)) = none:=by
    rw [List.take_add_one,htt,List.find?_append,hall]
    simp [hct]
   simpa using this
  ·simp [hct]
   refine Z00 ?_
   simp
   refine AM.wp_ret ?_
   simp
   refine q _ _ hkB (.inr ⟨i,tt,rfl,htt,?_⟩)
   rw [← List.take_append_drop i ts,List.find?_append,hall,List.drop_eq_getElem_cons hlt]
   have e:ts[i] = tt:=by rw [List.getElem?_eq_getElem hlt] at htt; exact Option.some.inj htt
   rw [e]
   simp [hct]
 ·simp [hlt]
  refine AM.wp_exit ?_
  simp
  refine Z00 ?_
  simp
  refine AM.wp_ret ?_
  simp
  have:i = ts.length:=by omega
  subst this
  rw [List.take_length] at hall
  exact q _ _ hk (.inl ⟨rfl,hall⟩)
theorem Zrv {s:St} {v:AVal} {ts:List TV} {Q:AVal→St→Prop} (hwf:s.Wf) (hv:Z6v s v ts) (hsm:Zq7 ts) (hmax:ts.length ≤ 1000)
  (q:∀ s',Keeps s s'→Q (.int .i64 (Z8l ts)) s'):Z0c Tryz.prog 108 [v] s Q:=by
 have hvt:=hv.ntup
 refine Z08 (Z0d (by decide)) fi108 rfl (by decide) rfl ?_
 refine Z00 ?_
 simp
 refine Z00 ?_
 simp [hvt]
 refine Z02 ?_
 refine Z08 (Z0d (by decide)) fi137 rfl (by decide) rfl ?_
 refine Z00 ?_
 simp
 have d1:=(Ctx.start (fun _ => False) hwf).alloc (C [.nilSlice,.int .i64 0])
 generalize s.alloc (.cells [.nilSlice,.int .i64 0] false) = s1 at d1 ⊢
 generalize s.next = B4 at d1 ⊢
 refine Z00 ?_
 simp
 have d2:=d1.alloc (C [.nilSlice,.int .i64 0])
 generalize s1.alloc (.cells [.nilSlice,.int .i64 0] false) = s2 at d2 ⊢
 generalize s1.next = B6 at d2 ⊢
 have k2:=d2.Z0m
 refine Z00 ?_
 simp [hvt]
 refine Z02 ?_
 refine Zv3 d2.wf (hv.keep k2) hsm hmax fun i s3 k3 hi => ?_
 have d3:=d2.keeps k3
 have K3:=k2.trans k3
 simp
 refine AM.wp_seq ?_
 refine Z00 ?_
 rcases hi with ⟨rfl,hn⟩ | ⟨j,tt,rfl,htt,hf⟩
 ·have hF:Z8l ts = 0:=by unfold Z8l; rw [hn]
  rw [hF] at q
  simp
  refine AM.Z04 ?_
  simp
  refine Z00 ?_
  simp [d3.c 0 rfl,d3.o 1 rfl]
  have d4:=d3.put 1 rfl (C [.nilSlice,.int .i64 0])
  simp only [List.set_cons_succ,List.set_cons_zero] at d4
  generalize s3.put B4 (.cells [.nilSlice,.int .i64 0] false) = s4 at d4 ⊢
  refine AM.wp_ret ?_
  simp [d4.c 1 rfl]
  have d5:=(d4.alloc (C [.nilSlice,.int .i64 0])).put 0 rfl (C [.nilSlice,.int .i64 0])
  simp only [List.set_cons_zero] at d5
  generalize (s4.alloc (.cells [.nilSlice,.int .i64 0] false)).put s4.next (.cells [.nilSlice,.int .i64 0] false) = s5 at d5 ⊢
  refine AM.wp_seq ?_
  refine Z00 ?_
  simp
  refine AM.Z04 ?_
  simp
  refine Z00 ?_
  simp
  refine AM.wp_ret ?_
  simp
  exact q s5 d5.Z0m
 ·have hF:Z8l ts = Z1m tt.1 tt.2:=by unfold Z8l; rw [hf]
  rw [hF] at q
  have hneg:¬ ((j:Int) < 0):=by omega
  have hlt:=(List.getElem?_eq_some_iff.1 htt).1
  rcases hv.keep K3 with ⟨_,h0⟩ | ⟨b,o,c,cs,rfl,hb,hcs,hle,hel⟩
  ·subst h0
   simp at hlt
  obtain ⟨nv,g1,g2,g3⟩:=hel j tt htt
  have hseg:=Zih g1 g2
  have hlen:o + j * 2 + 2 ≤ cs.length:=by have:=(List.getElem?_eq_some_iff.1 g2).1; omega
  have hnt:=g3.ntup
  have hnc:=g3.Zd0
  obtain ⟨hs1,hs2⟩:=hsm tt (List.mem_of_getElem? htt)
  simp [hneg]
  refine AM.Z04 ?_
  simp
  refine AM.wp_skip ?_
  simp
  refine Z00 ?_
  simp [hlt,hcs,hseg,hlen,d3.o 1 rfl]
  have d4:=d3.put 1 rfl (C [nv,.int .i64 tt.2])
  simp only [List.set_cons_succ,List.set_cons_zero] at d4
  generalize s3.put B4 (.cells [nv,.int .i64 tt.2] false) = s4 at d4 ⊢
  refine AM.wp_ret ?_
  simp [d4.c 1 rfl]
  have d5:=(d4.alloc (C [.nilSlice,.int .i64 0])).put 0 rfl (C [nv,.int .i64 tt.2])
  simp only [List.set_cons_zero] at d5
  generalize (s4.alloc (.cells [.nilSlice,.int .i64 0] false)).put s4.next (.cells [nv,.int .i64 tt.2] false) = s5 at d5 ⊢
  generalize s4.next = B3 at d5 ⊢
  refine AM.wp_seq ?_
  refine Z00 ?_
  simp
  refine AM.Z04 ?_
  simp
  refine AM.wp_skip ?_
  simp
  refine Z00 ?_
  simp [d5.c 0 rfl]
  refine Z02 ?_
  have K5:=d5.Z0m
  have hN5:Z1v s5 nv tt.1:=by
   rcases hv.keep K5 with ⟨_,h0⟩ | ⟨b',o',c',cs',e,hb',hcs',hle',hel'⟩
   ·subst h0
    simp at hlt
   cases e
   obtain ⟨nv',e1,e2,e3⟩:=hel' j tt htt
   have:cs' = cs:=by
    have h1:s5.cells b = s.cells b:=by
     rcases hv with ⟨_,h0⟩ | ⟨b2,o2,c2,cs2,e',hb2,_⟩
     ·subst h0
      simp at hlt
     cases e'
     exact K5.cells hb2
    have h2:s3.cells b = s.cells b:=by
     rcases hv with ⟨_,h0⟩ | ⟨b2,o2,c2,cs2,e',hb2,_⟩
     ·subst h0
      simp at hlt
     cases e'
     exact K3.cells hb2
    rw [hcs'] at h1
    rw [hcs] at h2
    rw [← h2] at h1
    exact Option.some.inj h1
   subst this
   rw [g1] at e1
   cases e1
   exact e3
  refine Zmz (rt:=tt.2) d5.wf hN5 hs1 hs2 fun s6 k6 => ?_
  simp
  refine AM.wp_ret ?_
  simp
  exact q s6 (K5.trans k6)
def addN (v:List Nat) (k:Nat):List Nat:=if k ∈ v then v else v ++ [k]
def Z0f (v:List Nat) (ks:List Nat):List Nat:=ks.foldl addN v
def runB (K:Nat→List Nat):Nat→List Nat→Nat→List Nat
 | 0,v,_ => v
 | f + 1,v,i => match v[i]? with
  | none => v
  | some a => runB K f (Z0f v (K a)) (i + 1)
def bfsF (K:Nat→List Nat) (n:Nat) (roots:List Nat):List Nat:=roots.foldl (fun v r => runB K (n + 1 - v.length) (addN v r) v.length) []
theorem Zwi {v:List Nat} {k a:Nat} (h:a ∈ v):a ∈ addN v k:=by
 unfold addN
 split
 ·exact h
 ·exact List.mem_append_left _ h
theorem Zmo (v:List Nat) (k:Nat):∃ w,addN v k = v ++ w:=by
 unfold addN
 split
 ·exact ⟨[],by simp⟩
 ·exact ⟨[k],rfl⟩
theorem Z7s:∀ (ks v:List Nat),∃ w,Z0f v ks = v ++ w
 | [],v => ⟨[],by simp [Z0f]⟩
 | k :: ks,v => by
  obtain ⟨w,h⟩:=Zmo v k
  obtain ⟨w',h'⟩:=Z7s ks (addN v k)
  exact ⟨w ++ w',by show Z0f (addN v k) ks = _; rw [h',h,List.append_assoc]⟩
theorem Zh1 {v ks:List Nat} {j k:Nat} (h:ks[j]? = some k):Z0f v (ks.take (j + 1)) = addN (Z0f v (ks.take j)) k:=by
 unfold Z0f
 rw [List.take_add_one,h,List.foldl_append]
 rfl
theorem Z95 {v:List Nat} {k:Nat} (h:v.Nodup):(addN v k).Nodup:=by
 unfold addN
 split
 ·exact h
 ·rename_i hk
  rw [List.nodup_append]
  exact ⟨h,by simp,by rintro a ha b hb rfl; simp at hb; exact hk (hb ▸ ha)⟩
theorem Zde {v:List Nat} {k n:Nat} (h:∀ a ∈ v,a < n) (hk:k < n):∀ a ∈ addN v k,a < n:=by
 unfold addN
 split
 ·exact h
 ·intro a ha
  rcases List.mem_append.1 ha with ha | ha
  ·exact h a ha
  ·simp at ha
   omega
theorem Zcc {n:Nat}:∀ {ks v:List Nat},v.Nodup→(∀ a ∈ v,a < n)→(∀ k ∈ ks,k < n)→(Z0f v ks).Nodup∧∀ a ∈ Z0f v ks,a < n
 | [],v,h1,h2,_ => ⟨h1,h2⟩
 | k :: ks,v,h1,h2,h3 => Zcc (ks:=ks) (v:=addN v k) (Z95 h1) (Zde h2 (h3 k (by simp))) (fun x hx => h3 x (by simp [hx]))
theorem Z34:∀ {n:Nat} {v:List Nat},v.Nodup→(∀ a ∈ v,a < n)→v.length ≤ n
 | 0,v,_,h => by
  cases v with
  | nil => simp
  | cons a v => exact (Nat.not_lt_zero a (h a (by simp))).elim
 | n + 1,v,h1,h2 => by
  have ih:=Z34 (n:=n) (v:=v.erase n) (h1.erase n) (fun a ha => by
   have h3:=h2 a (List.mem_of_mem_erase ha)
   have h4:a ≠ n:=fun e => by
    subst e
    exact (List.Nodup.mem_erase_iff h1).1 ha |>.1 rfl
   omega)
  rw [List.length_erase] at ih
  split at ih <;> omega
def metL (n:Nat) (v:List Nat):List AVal:=(List.range n).map fun i => .bool (decide (i ∈ v))
theorem Z61 {n a:Nat} (v:List Nat) (h:a < n):(metL n v)[a]? = some (.bool (decide (a ∈ v))):=by
 unfold metL
 rw [List.getElem?_map,List.getElem?_range h]
 rfl
theorem Z3q (n:Nat) (v:List Nat):(metL n v).length = n:=by simp [metL]
theorem Ze8 {n a:Nat} {v:List Nat} (h:a < n) (hv:a ∉ v):lay (metL n v) a [.bool true] = metL n (addN v a):=by
 have e:addN v a = v ++ [a]:=by unfold addN; rw [if_neg hv]
 refine List.ext_getElem? fun j => ?_
 unfold lay
 by_cases hj:j < n
 ·rw [Z61 _ hj]
  rcases Nat.lt_trichotomy j a with hl | rfl | hg
  ·rw [List.append_assoc,List.getElem?_append_left (by simp [Z3q]; omega),List.getElem?_take_of_lt hl,Z61 _ hj,e]
   have:¬ j = a:=by omega
   simp [this]
  ·rw [List.append_assoc,List.getElem?_append_right (by simp [Z3q]; omega)]
   simp [Z3q,e,Nat.min_eq_left (Nat.le_of_lt h)]
  ·rw [List.getElem?_append_right (by simp [Z3q]; omega),List.getElem?_drop]
   have e2:a + [AVal.bool true].length + (j - (List.take a (metL n v) ++ [AVal.bool true]).length) = j:=by simp [Z3q]; omega
   rw [e2,Z61 _ hj,e]
   have:¬ j = a:=by omega
   simp [this]
 ·rw [List.getElem?_eq_none (by simp [Z3q]; omega),List.getElem?_eq_none (by rw [Z3q]; omega)]
def Z79 (qv:AVal) (g:List Int) (m:Lets):Prop:=(g = []∧qv = .nilSlice∧m = []) ∨ ∃ b pre,qv = .slice b pre.length g.length (.opn 1)∧m = [(b,C (ints (pre ++ g)))]
theorem Z79.len {qv:AVal} {g:List Int} {m:Lets} (h:Z79 qv g m):Z18 qv = some g.length:=by
 rcases h with ⟨rfl,rfl,_⟩ | ⟨q,_,rfl,_⟩ <;> rfl
theorem Z79.ntup {qv:AVal} {g:List Int} {m:Lets} (h:Z79 qv g m):∀ t,¬ qv = .tup t:=by
 rintro t rfl
 have:=h.len
 cases this
theorem Z79.cells {qv:AVal} {g:List Int} {m:Lets} (h:Z79 qv g m):qv.cells = [qv]:=by
 rcases h with ⟨rfl,rfl,_⟩ | ⟨q,_,rfl,_⟩ <;> rfl
theorem Zvx {s0 s:St} {W:Pos→Prop} {r pre mg:Lets} {qv:AVal} {g:List Int} {x:Int} {Q:AVal→St→Prop} (h:Ctx s0 W (pre ++ (mg ++ r)) s) (hg:Z79 qv g mg) (hs:g.length ≤ 1000)
  (q:∀ qv' mg' s',Z79 qv' (g ++ [x]) mg'→Ctx s0 W (pre ++ (mg' ++ r)) s'→Q qv' s'):appP (1,8) qv [.int .i64 x] 1 s Q:=by
 rcases hg with ⟨rfl,rfl,rfl⟩ | ⟨b,p0,rfl,rfl⟩
 ·simp only [appP,Z4m]
  rw [if_neg (by decide)]
  refine ⟨by unfold Z0g; omega,?_⟩
  have:=h.alloc (C [.int .i64 x])
  refine q (.slice s.next 0 1 (.opn 1)) [(s.next,C (ints ([] ++ [x])))] _ (.inr ⟨_,[],rfl,rfl⟩) (this.perm ?_)
  simp only [List.nil_append]
  exact List.perm_middle.symm
 ·have hb:s.own b = some (ints (p0 ++ g)):=Z13 (h.own (b,C (ints (p0 ++ g))) (by simp))
  have h1:Ctx s0 W ((b,C (ints (p0 ++ g))) :: (pre ++ r)) s:=h.perm (by simp)
  have hn:(s.put b .dead).next = s.next:=rfl
  simp only [appP,Z4m]
  rw [if_neg (by decide)]
  refine ⟨trivial,?_⟩
  rw [hb]
  simp only [Z0y]
  by_cases hl:g.length = 0
  ·rw [if_pos hl]
   have hg0:g = []:=List.length_eq_zero_iff.1 hl
   subst hg0
   refine ⟨by unfold Z0g; omega,?_⟩
   have h2:=(h1.put0 .dead).tail.alloc (C [.int .i64 x])
   refine q (.slice s.next 0 1 (.opn 1)) [(s.next,C (ints ([] ++ ([] ++ [x]))))] _ (.inr ⟨_,[],rfl,rfl⟩) (h2.perm ?_)
   rw [hn]
   exact List.perm_middle.symm
  ·have h2:=(h1.put0 .dead).tail.alloc (C (ints g ++ [.int .i64 x]))
   rw [if_neg hl,if_neg (by simp)]
   refine ⟨by simp,by unfold Z0g; omega,?_⟩
   have ht:List.take (g.length * 1) (List.drop p0.length (ints (p0 ++ g))) = ints g:=by
    unfold ints
    rw [List.map_append,List.drop_left' (by simp)]
    exact List.take_of_length_le (by simp)
   rw [ht]
   have hi:ints g ++ [AVal.int .i64 x] = ints ([] ++ (g ++ [x])):=by simp [ints]
   rw [hi] at h2 ⊢
   refine q (.slice s.next 0 (g.length + 1) (.opn 1)) [(s.next,C (ints ([] ++ (g ++ [x]))))] _ (.inr ⟨_,[],by simp,rfl⟩) (h2.perm ?_)
   rw [hn]
   exact List.perm_middle.symm
abbrev nats (v:List Nat):List Int:=v.map fun (a:Nat) => (a:Int)
theorem meet_wp {s0 s:St} {W:Pos→Prop} {n a:Nat} {v g:List Nat} {qv fv:AVal} {B7 B6 Bm B4:Pos} {pre mq m base:Lets} {J:List Nat→Lets→Prop} {Q:AVal→St→Prop}
  (hc:Ctx s0 W ((B7,C [qv]) :: (B6,C [.slice Bm 0 n (.lim n)]) :: (Bm,C (metL n v)) :: (B4,C [fv]) :: (pre ++ (mq ++ (m ++ base)))) s) (hq:Z79 qv (nats g) mq) (hg:g.length ≤ 1000) (hJ:J v m) (ha:a < n) (hft:∀ t,¬ fv = .tup t)
  (hmeet:∀ (x m:Lets) (s':St) (R:AVal→St→Prop),J v m→a ∉ v→Ctx s0 W (x ++ (m ++ base)) s'→(∀ u m' s'',J (v ++ [a]) m'→Ctx s0 W (x ++ (m' ++ base)) s''→R u s'')→Z3i Tryz.prog fv [.int .i64 a] s' R)
  (q:∀ qv' mq' m' s',Z79 qv' (nats (if a ∈ v then g else g ++ [a])) mq'→J (addN v a) m'→Ctx s0 W ((B7,C [qv']) :: (B6,C [.slice Bm 0 n (.lim n)]) :: (Bm,C (metL n (addN v a))) :: (B4,C [fv]) :: (pre ++ (mq' ++ (m' ++ base)))) s'→Q (.tup []) s') :
  Z0c Tryz.prog 107 [.int .i64 a,.ptr B6 0,.ptr B7 0,.ptr B4 0] s Q:=by
 have hget:=Z61 v ha
 refine Z08 (Z0d (by decide)) fi107 rfl (by decide) rfl ?_
 refine Z00 ?_
 simp [hc.c 1 rfl,hc.c 2 rfl,ha,hget]
 refine AM.Z04 ?_
 by_cases hv:a ∈ v
 ·simp [hv]
  refine AM.wp_skip ?_
  simp
  refine q qv mq m s (by rw [if_pos hv]; exact hq) ?_ ?_
  ·unfold addN
   rw [if_pos hv]
   exact hJ
  ·unfold addN
   rw [if_pos hv]
   exact hc
 ·have hset:=Ze8 ha hv
  have hle:a + 1 ≤ (metL n v).length:=by rw [Z3q]; omega
  simp [lay] at hset
  simp [hv]
  refine Z00 ?_
  simp [hc.c 1 rfl,hc.c 2 rfl,hc.o 2 rfl,ha,hle]
  rw [hset]
  have c1:=hc.put 2 rfl (C (metL n (addN v a)))
  simp only [List.set_cons_succ,List.set_cons_zero] at c1
  generalize s.put Bm (.cells (metL n (addN v a)) false) = s1 at c1 ⊢
  refine Z00 ?_
  simp [c1.c 0 rfl,hq.ntup,hq.cells,Z20,srcP]
  have c2:=c1.alloc (C [.int .i64 a])
  generalize s1.alloc (.cells [.int .i64 a] false) = s2 at c2 ⊢
  generalize s1.next = T at c2 ⊢
  refine Zvx (pre:=(T,C [.int .i64 a]) :: (B7,C [qv]) :: (B6,C [.slice Bm 0 n (.lim n)]) :: (Bm,C (metL n (addN v a))) :: (B4,C [fv]) :: pre) (r:=m ++ base) (by simpa using c2) hq (by simpa using hg) fun qv' mq' s3 hq' c3 => ?_
  simp only [List.cons_append] at c3
  simp [hq'.ntup,hq'.cells,c3.o 1 rfl]
  have c4:=(c3.put 1 rfl (C [qv'])).tail
  simp only [List.set_cons_succ,List.set_cons_zero] at c4
  generalize s3.put B7 (.cells [qv'] false) = s4 at c4 ⊢
  refine AM.wp_region ?_
  simp [c4.c 3 rfl,hft]
  refine hmeet ((B7,C [qv']) :: (B6,C [.slice Bm 0 n (.lim n)]) :: (Bm,C (metL n (addN v a))) :: (B4,C [fv]) :: (pre ++ mq')) m s4 _ hJ hv (by simpa using c4) fun u m' s5 hJ' c5 => ?_
  simp
  refine q qv' mq' m' s5 (by rw [if_neg hv]; simpa using hq') ?_ (by simpa using c5)
  unfold addN
  rw [if_neg hv]
  exact hJ'
def kidN (cs:List CV) (a:Nat):List Nat:=(Z0o cs a).map Int.toNat
theorem Zm1 {K:Nat→List Nat} {f:Nat} {v:List Nat} {i:Nat} (h:v.length ≤ i):runB K f v i = v:=by
 cases f with
 | zero => rfl
 | succ f =>
  unfold runB
  rw [List.getElem?_eq_none h]
theorem Zm2 {K:Nat→List Nat} {n:Nat} {v:List Nat} {i a:Nat} (hi:i ≤ n) (h:v[i]? = some a):runB K (n + 1 - i) v i = runB K (n + 1 - (i + 1)) (Z0f v (K a)) (i + 1):=by
 have e:n + 1 - i = (n + 1 - (i + 1)) + 1:=by omega
 rw [e]
 show (match v[i]? with | none => v | some a => runB K (n + 1 - (i + 1)) (Z0f v (K a)) (i + 1)) = _
 rw [h]
section
variable {s0 s:St} {W:Pos→Prop} {p:Pos} {cs:List CV} {V:List AVal} {base m0:Lets} {rv:AVal} {roots:List Nat} {J:List Nat→Lets→Prop} {f:Nat} {fx fy:List AVal}
structure Leans (s0:St) (W:Pos→Prop) (p:Pos) (cs:List CV) (V:List AVal) (base:Lets) (rv:AVal) (roots:List Nat) (J:List Nat→Lets→Prop) (fv:AVal):Prop where
 len:V.length = cs.length
 max:cs.length ≤ 400
 read:∀ (x m:Lets) s',Ctx s0 W (x ++ (m ++ base)) s'→(∃ v,J v m)→s'.Old p∧s'.cells p = some (encs (rcs cs V))∧Z0e s' rv (nats roots)∧∀ (i:Nat) (d:CV),cs[i]? = some d→∃ kv,V[i]? = some kv∧Z0e s' kv d.kids
 roots_ok:∀ a ∈ roots,a < cs.length
 rlen:roots.length ≤ 400
 kids:∀ a,a < cs.length→(Z0o cs a).length ≤ 4∧∀ k ∈ Z0o cs a,0 ≤ k∧k < cs.length
 meet:∀ (a:Nat) (v:List Nat) (x m:Lets) (s':St) (R:AVal→St→Prop),J v m→a ∉ v→a < cs.length→v.Nodup→(∀ y ∈ v,y < cs.length)→Ctx s0 W (x ++ (m ++ base)) s'→(∀ u m' s'',J (v ++ [a]) m'→Ctx s0 W (x ++ (m' ++ base)) s''→R u s'')→Z3i Tryz.prog fv [.int .i64 a] s' R
def BrdI (s0:St) (W:Pos→Prop) (p:Pos) (n:Nat) (base:Lets) (J:List Nat→Lets→Prop) (fv:AVal) (B7 B6 Bm B4 B3:Pos) (v g:List Nat) (s:St):Prop :=
 ∃ qv mq m,Z79 qv (nats g) mq∧J v m∧v.Nodup∧(∀ a ∈ v,a < n)∧Ctx s0 W ((B7,C [qv]) :: (B6,C [.slice Bm 0 n (.lim n)]) :: (Bm,C (metL n v)) :: (B4,C [fv]) :: (B3,C [.slice p 0 n (.lim n)]) :: (mq ++ (m ++ base))) s
theorem Zmv {B7 B6 Bm B4 B3:Pos} {v g:List Nat} {a:Nat} {Q:AVal→St→Prop} (hL:Leans s0 W p cs V base rv roots J (.fn f fx fy)) (h:BrdI s0 W p cs.length base J (.fn f fx fy) B7 B6 Bm B4 B3 v g s) (hg:g.length ≤ 1000) (ha:a < cs.length)
  (q:∀ s',BrdI s0 W p cs.length base J (.fn f fx fy) B7 B6 Bm B4 B3 (addN v a) (if a ∈ v then g else g ++ [a]) s'→Q (.tup []) s'):Z3i Tryz.prog (.fn 107 [] [.ptr B6 0,.ptr B7 0,.ptr B4 0]) [.int .i64 a] s Q:=by
 obtain ⟨qv,mq,m,h1,h2,h3,h4,h5⟩:=h
 refine Z02 ?_
 refine meet_wp (pre:=[(B3,C [.slice p 0 cs.length (.lim cs.length)])]) (by simpa using h5) h1 hg h2 ha (by simp) (fun x m s' R hJ hv hc hR => hL.meet a v x m s' R hJ hv ha h3 h4 hc hR) fun qv' mq' m' s' g1 g2 g3 => ?_
 exact q s' ⟨qv',mq',m',g1,g2,Z95 h3,Zde h4 ha,by simpa using g3⟩
theorem Zwo {fr:FI} {t0:PT AVal} {B7 B6 Bm B4 B3:Pos} {v:List Nat} {i a:Nat} {Q:Ex→PT AVal→St→Prop} (hL:Leans s0 W p cs V base rv roots J (.fn f fx fy)) (h:BrdI s0 W p cs.length base J (.fn f fx fy) B7 B6 Bm B4 B3 v (v.drop i) s) (hi:v[i]? = some a)
  (t3:PT.get (posOf 3) t0 = some (.ptr B3 0)) (t7:PT.get (posOf 7) t0 = some (.ptr B7 0)) (t8:PT.get (posOf 8) t0 = some (.fn 107 [] [.ptr B6 0,.ptr B7 0,.ptr B4 0]))
  (q:∀ t s',Fr [12,32,33,34,35,36,37,38,39,40,41,42] t0 t→BrdI s0 W p cs.length base J (.fn f fx fy) B7 B6 Bm B4 B3 (Z0f v (kidN cs a)) ((Z0f v (kidN cs a)).drop i) s'→Q .normal t s'):wp Tryz.prog Zui fr t0 s Q:=by
 have hil:i < v.length:=(List.getElem?_eq_some_iff.1 hi).1
 obtain ⟨qv,mq,m,h1,h2,h3,h4,h5⟩:=h
 have ha:a < cs.length:=h4 a (List.mem_of_getElem? hi)
 have hcd:cs[a]? = some cs[a]:=List.getElem?_eq_getElem ha
 obtain ⟨r1,r2,_,r4⟩:=hL.read ((B7,C [qv]) :: (B6,C [.slice Bm 0 cs.length (.lim cs.length)]) :: (Bm,C (metL cs.length v)) :: (B4,C [.fn f fx fy]) :: (B3,C [.slice p 0 cs.length (.lim cs.length)]) :: mq) m s (by simpa using h5) ⟨v,h2⟩
 obtain ⟨kv,k1,k2⟩:=r4 a _ hcd
 have hko:=Z1d hcd
 obtain ⟨l4,lin⟩:=hL.kids a ha
 rw [hko] at l4 lin
 have hg2:(encs (rcs cs V))[a * 4 + 2]? = some kv:=Z2o _ a 2 _ (Z1k hcd k1) (by decide)
 have hdr:v.drop i = a :: v.drop (i + 1):=by
  rw [List.drop_eq_getElem_cons hil]
  congr 1
  have:=List.getElem?_eq_getElem hil
  rw [hi] at this
  exact (Option.some.inj this).symm
 have hq0:∃ b pre,qv = .slice b pre.length (v.drop i).length (.opn 1)∧mq = [(b,C (ints (pre ++ nats (v.drop i))))]:=by
  rcases h1 with ⟨e,_⟩ | ⟨b,pre,e1,e2⟩
  ·rw [hdr] at e
   simp at e
  ·exact ⟨b,pre,by simpa using e1,e2⟩
 obtain ⟨bq,pre,rfl,rfl⟩:=hq0
 have hqc:s.cells bq = some (ints (pre ++ nats (v.drop i))):=h5.c 5 rfl
 have hqh:(ints (pre ++ nats (v.drop i)))[pre.length]? = some (.int .i64 a):=by
  unfold ints
  rw [List.getElem?_map,List.getElem?_append_right (Nat.le_refl _),Nat.sub_self,hdr]
  rfl
 have hlen1:0 < (v.drop i).length:=by rw [hdr]; simp
 have hlen0:(0:Int) < ((v.drop i).length:Int):=by omega
 clear hdr
 generalize hgd:v.drop i = g0 at h5 hqc hqh hlen0 hlen1
 obtain ⟨qcs,hqcs⟩:∃ x,x = ints (pre ++ nats g0):=⟨_,rfl⟩
 rw [← hqcs] at hqc hqh
 refine Z00 ?_
 have hkt:=k2.ntup
 have hkl:=k2.len
 simp [t3,t7,h5.c 4 rfl,h5.c 0 rfl,hqc,hqh,hlen0,hlen1,r2,hg2,ha,hkt,hkl]
 refine AM.wp_block ?_
 refine AM.wp_loop (fun k t s' => ∃ (j:Nat),j ≤ (Z0o cs a).length∧k = (Z0o cs a).length - j∧Fr [12,32,33,34,35,36,37,38,39,40,41,42] t0 t∧PT.get (posOf 39) t = some kv∧PT.get (posOf 40) t = some (.int .i64 (Z0o cs a).length)∧PT.get (posOf 41) t = some (.int .i64 j) ∧
   BrdI s0 W p cs.length base J (.fn f fx fy) B7 B6 Bm B4 B3 (Z0f v ((kidN cs a).take j)) ((Z0f v ((kidN cs a).take j)).drop i) s') (Z0o cs a).length
  ⟨0,by simp,by simp,?_,by simp,by simp [hko],by simp,by
   have:BrdI s0 W p cs.length base J (.fn f fx fy) B7 B6 Bm B4 B3 v g0 s:=⟨_,_,m,.inr ⟨bq,pre,by simp,rfl⟩,h2,h3,h4,h5⟩
   rw [← hgd] at this
   simpa [Z0f] using this⟩ ?_
 ·intro y hy
  simp at hy
  simp [hy]
 rintro k t s' ⟨j,hj,rfl,hF,t39,t40,t41,hI⟩
 refine Z00 ?_
 simp [t40,t41]
 refine AM.wp_seq ?_
 refine AM.Z04 ?_
 by_cases hlt:j < (Z0o cs a).length
 ·have hwr:IntKind.wrap .i64 ((j:Int) + 1) = ((j + 1:Nat):Int):=by rw [hko] at hlt; rw [IntWalk.i64_in _ (by omega)]; omega
  obtain ⟨kk,hkk⟩:∃ kk,(Z0o cs a)[j]? = some kk:=⟨_,List.getElem?_eq_getElem hlt⟩
  have hkm:=List.mem_of_getElem? hkk
  obtain ⟨kk0,kk1⟩:=lin kk (hko ▸ hkm)
  obtain ⟨kn,rfl⟩:∃ kn:Nat,kk = (kn:Int):=⟨kk.toNat,by omega⟩
  have hkN:(kidN cs a)[j]? = some kn:=by unfold kidN; rw [List.getElem?_map,hkk]; rfl
  have u8:=(hF 8 (by simp)).trans t8
  obtain ⟨qv2,mq2,m2,e1,e2,e3,e4,e5⟩:=hI
  obtain ⟨_,_,_,x4⟩:=hL.read ((B7,C [qv2]) :: (B6,C [.slice Bm 0 cs.length (.lim cs.length)]) :: (Bm,C (metL cs.length (Z0f v ((kidN cs a).take j)))) :: (B4,C [.fn f fx fy]) :: (B3,C [.slice p 0 cs.length (.lim cs.length)]) :: mq2) m2 s' (by simpa using e5) ⟨_,e2⟩
  obtain ⟨kv2,y1,y2⟩:=x4 a _ hcd
  rw [k1] at y1
  cases y1
  rw [← hko] at y2
  rcases y2 with ⟨_,h0⟩ | ⟨b,o,c,cells,rfl,hb,hcs,hle,hel⟩
  ·rw [h0] at hlt
   simp at hlt
  have hgk:=hel j _ hkk
  simp [hlt]
  refine AM.wp_skip ?_
  simp
  refine AM.wp_seq ?_
  refine AM.wp_block ?_
  refine Z00 ?_
  simp [t39,t41,hlt,hcs,hgk]
  refine AM.wp_region ?_
  simp [u8]
  have hglen:((Z0f v ((kidN cs a).take j)).drop i).length ≤ 1000:=by
   have:=Z34 e3 e4
   have hm:=hL.max
   rw [List.length_drop]
   omega
  refine Zmv (a:=kn) hL ⟨qv2,mq2,m2,e1,e2,e3,e4,e5⟩ hglen (by omega) fun s3 hI3 => ?_
  have hnx:=Zh1 (v:=v) hkN
  have hil2:i ≤ (Z0f v ((kidN cs a).take j)).length:=by
   obtain ⟨w,hw⟩:=Z7s ((kidN cs a).take j) v
   rw [hw,List.length_append]
   omega
  have hdn:(addN (Z0f v ((kidN cs a).take j)) kn).drop i = if kn ∈ Z0f v ((kidN cs a).take j) then (Z0f v ((kidN cs a).take j)).drop i else (Z0f v ((kidN cs a).take j)).drop i ++ [kn]:=by
   unfold addN
   split
   ·rfl
   ·rw [List.drop_append_of_le_length hil2]
  rw [← hdn,← hnx] at hI3
  simp
  refine AM.wp_region ?_
  simp [t41,hwr]
  refine ⟨(Z0o cs a).length - (j + 1),by omega,j + 1,by omega,by omega,?_,by simp [t39],by simp [t40],by simp,hI3⟩
  intro y hy
  simp at hy
  simp [hy]
  exact hF y (by simp [hy])
 ·simp [hlt]
  refine AM.wp_exit ?_
  simp
  have hje:j = (Z0o cs a).length:=by omega
  subst hje
  have htk:(kidN cs a).take (Z0o cs a).length = kidN cs a:=List.take_of_length_le (by simp [kidN])
  rw [htk] at hI
  refine q _ s' ?_ hI
  intro y hy
  simp at hy
  simp [hy]
  exact hF y (by simp [hy])
end
section
variable {s0 s:St} {W:Pos→Prop} {p:Pos} {cs:List CV} {V:List AVal} {base m0:Lets} {rv:AVal} {roots:List Nat} {J:List Nat→Lets→Prop} {f:Nat} {fx fy:List AVal}
theorem Zie (K:Nat→List Nat):∀ (f:Nat) (v:List Nat) (i:Nat),∃ w,runB K f v i = v ++ w
 | 0,v,i => ⟨[],by simp [runB]⟩
 | f + 1,v,i => by
  unfold runB
  cases v[i]? with
  | none => exact ⟨[],by simp⟩
  | some a =>
   obtain ⟨w,h⟩:=Z7s (K a) v
   obtain ⟨w',h'⟩:=Zie K f (Z0f v (K a)) (i + 1)
   refine ⟨w ++ w',?_⟩
   show runB K f (Z0f v (K a)) (i + 1) = _
   rw [h',h,List.append_assoc]
theorem Zyc {fr:FI} {t0:PT AVal} {B7 B6 Bm B4 B3:Pos} {v:List Nat} {i:Nat} {Q:Ex→PT AVal→St→Prop} (hL:Leans s0 W p cs V base rv roots J (.fn f fx fy)) (h:BrdI s0 W p cs.length base J (.fn f fx fy) B7 B6 Bm B4 B3 v (v.drop i) s) (hi:i ≤ cs.length)
  (t3:PT.get (posOf 3) t0 = some (.ptr B3 0)) (t7:PT.get (posOf 7) t0 = some (.ptr B7 0)) (t8:PT.get (posOf 8) t0 = some (.fn 107 [] [.ptr B6 0,.ptr B7 0,.ptr B4 0]))
  (q:∀ t s',Fr [12,29,32,33,34,35,36,37,38,39,40,41,42] t0 t→BrdI s0 W p cs.length base J (.fn f fx fy) B7 B6 Bm B4 B3 (runB (kidN cs) (cs.length + 1 - i) v i) [] s'→Q .normal t s'):wp Tryz.prog Zuh fr t0 s Q:=by
 refine AM.wp_block ?_
 refine AM.wp_loop (fun k t s' => ∃ (j:Nat) (u:List Nat),j ≤ cs.length∧k = cs.length + 1 - j∧Fr [12,29,32,33,34,35,36,37,38,39,40,41,42] t0 t∧runB (kidN cs) (cs.length + 1 - i) v i = runB (kidN cs) (cs.length + 1 - j) u j ∧
   BrdI s0 W p cs.length base J (.fn f fx fy) B7 B6 Bm B4 B3 u (u.drop j) s') (cs.length + 1 - i) ⟨i,v,hi,rfl,fun y _ => rfl,rfl,h⟩ ?_
 rintro k t s' ⟨j,u,hj,rfl,hF,hrun,hI⟩
 have u3:=(hF 3 (by simp)).trans t3
 have u7:=(hF 7 (by simp)).trans t7
 have u8:=(hF 8 (by simp)).trans t8
 obtain ⟨qv,mq,m,e1,e2,e3,e4,e5⟩:=id hI
 have hul:=Z34 e3 e4
 refine AM.wp_seq ?_
 refine Z00 ?_
 have hql:=e1.len
 have hqt:=e1.ntup
 rw [List.length_map,List.length_drop] at hql
 by_cases hlt:j < u.length
 ·have hpos:0 < u.length - j:=by omega
  obtain ⟨a,ha⟩:∃ a,u[j]? = some a:=⟨_,List.getElem?_eq_getElem hlt⟩
  simp [u7,e5.c 0 rfl,hql,hqt,hpos]
  refine AM.Z04 ?_
  simp
  refine AM.wp_skip ?_
  simp
  refine AM.wp_seq ?_
  refine AM.wp_block ?_
  refine Zwo hL hI ha (by simp [u3]) (by simp [u7]) (by simp [u8]) fun t2 s2 hF2 hI2 => ?_
  obtain ⟨qv2,mq2,m2,g1,g2,g3,g4,g5⟩:=hI2
  have w7:PT.get (posOf 7) t2 = some (.ptr B7 0):=(hF2 7 (by simp)).trans (by simp [u7])
  obtain ⟨w,hw⟩:=Z7s (kidN cs a) u
  have hjl:j < (Z0f u (kidN cs a)).length:=by rw [hw,List.length_append]; omega
  have hdr:(Z0f u (kidN cs a)).drop j = (Z0f u (kidN cs a))[j] :: (Z0f u (kidN cs a)).drop (j + 1):=List.drop_eq_getElem_cons hjl
  have hq0:∃ b pre,qv2 = .slice b pre.length ((Z0f u (kidN cs a)).length - j) (.opn 1)∧mq2 = [(b,C (ints (pre ++ nats ((Z0f u (kidN cs a)).drop j))))]:=by
   rcases g1 with ⟨e,_⟩ | ⟨b,pre,e1,e2⟩
   ·have:=congrArg List.length e
    rw [List.length_map,List.length_drop] at this
    simp at this
    omega
   ·exact ⟨b,pre,by rw [List.length_map,List.length_drop] at e1; exact e1,e2⟩
  obtain ⟨b,pre,rfl,rfl⟩:=hq0
  simp
  refine AM.wp_region ?_
  simp [w7,g5.c 0 rfl]
  refine Zo6 (a:=1) (b:=(Z0f u (kidN cs a)).length - j) (p:=b) (off:=pre.length) (n:=(Z0f u (kidN cs a)).length - j) (by simp) ⟨.i64,by simp⟩ rfl (by omega) (Nat.le_refl _) ?_
  simp [w7,g5.o 0 rfl]
  have c6:=g5.put 0 rfl (C [.slice b (pre.length + 1) ((Z0f u (kidN cs a)).length - j - 1) (.opn 1)])
  simp only [List.set_cons_zero] at c6
  refine ⟨cs.length + 1 - (j + 1),by omega,j + 1,by omega,rfl,?_,Z0f u (kidN cs a),?_,?_⟩
  ·intro y hy
   simp at hy
   rw [hF2 y (by simp [hy])]
   simp [hy]
   exact hF y (by simp [hy])
  ·rw [hrun,Zm2 hj ha]
  ·refine ⟨.slice b (pre.length + 1) ((Z0f u (kidN cs a)).length - j - 1) (.opn 1),_,m2,.inr ⟨b,pre ++ [(((Z0f u (kidN cs a))[j]:Nat):Int)],?_,rfl⟩,g2,g3,g4,?_⟩
   ·rw [List.length_map,List.length_drop,List.length_append,List.length_singleton]
    rfl
   ·have e:pre ++ [(((Z0f u (kidN cs a))[j]:Nat):Int)] ++ nats ((Z0f u (kidN cs a)).drop (j + 1)) = pre ++ nats ((Z0f u (kidN cs a)).drop j):=by
     rw [hdr,List.append_assoc]
     rfl
    rw [e]
    exact c6
 ·have hz:u.length - j = 0:=by omega
  have hd0:u.drop j = []:=List.drop_eq_nil_of_le (by omega)
  simp [u7,e5.c 0 rfl,hql,hqt,hz]
  refine AM.Z04 ?_
  simp
  refine AM.wp_exit ?_
  simp
  rw [hrun,Zm1 (by omega)] at q
  rw [hd0] at hI
  refine q _ s' ?_ hI
  intro y hy
  simp at hy
  simp [hy]
  exact hF y (by simp [hy])
theorem Ztz {K:Nat→List Nat} {n:Nat} (hK:∀ a,a < n→∀ k ∈ K a,k < n):∀ (f:Nat) (v:List Nat) (i:Nat),v.Nodup→(∀ a ∈ v,a < n)→(runB K f v i).Nodup∧∀ a ∈ runB K f v i,a < n
 | 0,v,i,h1,h2 => ⟨h1,h2⟩
 | f + 1,v,i,h1,h2 => by
  unfold runB
  cases hv:v[i]? with
  | none => exact ⟨h1,h2⟩
  | some a =>
   obtain ⟨h3,h4⟩:=Zcc h1 h2 (hK a (h2 a (List.mem_of_getElem? hv)))
   exact Ztz hK f _ _ h3 h4
theorem Zku {Q:AVal→St→Prop} (hL:Leans s0 W p cs V base rv roots J (.fn f fx fy)) (hc:Ctx s0 W (m0 ++ base) s) (hJ:J [] m0) (hrt:∀ t,¬ rv = .tup t)
  (q:∀ (x m:Lets) s',J (bfsF (kidN cs) cs.length roots) m→Ctx s0 W (x ++ (m ++ base)) s'→Q (.tup []) s'):Z0c Tryz.prog 62 [.agg [.slice p 0 cs.length (.lim cs.length)],.fn f fx fy,rv] s Q:=by
 have hmax:=hL.max
 refine Z08 (Z0d (by decide)) fi62 rfl (by decide) rfl ?_
 refine Z00 ?_
 simp
 have c1:=hc.alloc (C [.slice p 0 cs.length (.lim cs.length)])
 generalize s.alloc (.cells [.slice p 0 cs.length (.lim cs.length)] false) = s1 at c1 ⊢
 generalize s.next = B3 at c1 ⊢
 have c2:=c1.alloc (C [.fn f fx fy])
 generalize s1.alloc (.cells [.fn f fx fy] false) = s2 at c2 ⊢
 generalize s1.next = B4 at c2 ⊢
 have hz1:cs.length ≤ Z0g:=by unfold Z0g; omega
 refine Z00 ?_
 simp [c2.c 1 rfl,hz1]
 have c3:=c2.alloc (C (List.replicate cs.length (.bool false)))
 generalize s2.alloc (.cells (List.replicate cs.length (.bool false)) false) = s3 at c3 ⊢
 generalize s2.next = Bm at c3 ⊢
 have c4:=(c3.alloc (C [.nilSlice])).put 0 rfl (C [.slice Bm 0 cs.length (.lim cs.length)])
 simp only [List.set_cons_zero] at c4
 generalize (s3.alloc (.cells [.nilSlice] false)).put s3.next (.cells [.slice Bm 0 cs.length (.lim cs.length)] false) = s4 at c4 ⊢
 generalize s3.next = B6 at c4 ⊢
 refine Z00 ?_
 simp
 have c5:=c4.alloc (C [.nilSlice])
 generalize s4.alloc (.cells [.nilSlice] false) = s5 at c5 ⊢
 generalize s4.next = B7 at c5 ⊢
 have hm0:List.replicate cs.length (AVal.bool false) = metL cs.length []:=by
  refine List.ext_getElem? fun j => ?_
  by_cases hj:j < cs.length
  ·rw [Z61 _ hj,List.getElem?_replicate,if_pos hj]
   simp
  ·rw [List.getElem?_eq_none (by simp; omega),List.getElem?_eq_none (by rw [Z3q]; omega)]
 rw [hm0] at c5
 have hI0:BrdI s0 W p cs.length base J (.fn f fx fy) B7 B6 Bm B4 B3 [] [] s5:=by
  refine ⟨.nilSlice,[],m0,.inl ⟨rfl,rfl,rfl⟩,hJ,by simp,by simp,c5.perm ?_⟩
  refine List.Perm.cons _ (List.Perm.cons _ (List.Perm.cons _ ?_))
  exact List.Perm.refl _
 refine Z00 ?_
 simp
 obtain ⟨_,_,hrv,_⟩:=hL.read [(B7,C [.nilSlice]),(B6,C [.slice Bm 0 cs.length (.lim cs.length)]),(Bm,C (metL cs.length [])),(B4,C [.fn f fx fy]),(B3,C [.slice p 0 cs.length (.lim cs.length)])] m0 s5 (by simpa using c5) ⟨_,hJ⟩
 have hrl:=hrv.len
 have hrlen:=hL.rlen
 rw [List.length_map] at hrl
 refine Z00 ?_
 simp [hrt,hrl]
 refine AM.wp_block ?_
 refine AM.wp_loop (fun k t s' => ∃ (j:Nat),j ≤ roots.length∧k = roots.length - j∧PT.get (posOf 3) t = some (.ptr B3 0)∧PT.get (posOf 7) t = some (.ptr B7 0)∧PT.get (posOf 8) t = some (.fn 107 [] [.ptr B6 0,.ptr B7 0,.ptr B4 0])∧PT.get (posOf 18) t = some rv∧PT.get (posOf 19) t = some (.int .i64 roots.length)∧PT.get (posOf 20) t = some (.int .i64 j) ∧
   BrdI s0 W p cs.length base J (.fn f fx fy) B7 B6 Bm B4 B3 (bfsF (kidN cs) cs.length (roots.take j)) [] s') roots.length
  ⟨0,by simp,by simp,by simp,by simp,by simp,by simp,by simp,by simp,by simpa [bfsF] using hI0⟩ ?_
 rintro k t s' ⟨j,hj,rfl,t3,t7,t8,t18,t19,t20,hI⟩
 refine Z00 ?_
 simp [t19,t20]
 refine AM.wp_seq ?_
 refine AM.Z04 ?_
 by_cases hlt:j < roots.length
 ·have hwr:IntKind.wrap .i64 ((j:Int) + 1) = ((j + 1:Nat):Int):=by rw [IntWalk.i64_in _ (by omega)]; omega
  obtain ⟨a,ha⟩:∃ a,roots[j]? = some a:=⟨_,List.getElem?_eq_getElem hlt⟩
  have han:=hL.roots_ok a (List.mem_of_getElem? ha)
  obtain ⟨qv,mq,m,e1,e2,e3,e4,e5⟩:=id hI
  obtain ⟨_,_,hrv',_⟩:=hL.read ((B7,C [qv]) :: (B6,C [.slice Bm 0 cs.length (.lim cs.length)]) :: (Bm,C (metL cs.length (bfsF (kidN cs) cs.length (roots.take j)))) :: (B4,C [.fn f fx fy]) :: (B3,C [.slice p 0 cs.length (.lim cs.length)]) :: mq) m s' (by simpa using e5) ⟨_,e2⟩
  rcases hrv' with ⟨_,h0⟩ | ⟨b,o,c,cells,rfl,hb,hcs,hle,hel⟩
  ·have:roots = []:=by simpa using h0
   rw [this] at hlt
   simp at hlt
  have hgk:=hel j (a:Int) (by rw [List.getElem?_map,ha]; rfl)
  rw [List.length_map] at t18
  simp [hlt]
  refine AM.wp_skip ?_
  simp
  refine AM.wp_seq ?_
  refine AM.wp_block ?_
  refine Z00 ?_
  simp [t18,t20,hlt,hcs,hgk]
  refine Z00 ?_
  simp [t8]
  refine Zmv (a:=a) hL hI (by simp) han fun s2 hI2 => ?_
  have hul:=Z34 e3 e4
  have hdn:(addN (bfsF (kidN cs) cs.length (roots.take j)) a).drop (bfsF (kidN cs) cs.length (roots.take j)).length = if a ∈ bfsF (kidN cs) cs.length (roots.take j) then [] else [] ++ [a]:=by
   unfold addN
   split
   ·exact List.drop_eq_nil_of_le (Nat.le_refl _)
   ·rw [List.drop_left]
    rfl
  rw [← hdn] at hI2
  simp
  refine Zyc hL hI2 hul (by simp [t3]) (by simp [t7]) (by simp [t8]) fun t3' s3 hF3 hI3 => ?_
  have hfin:runB (kidN cs) (cs.length + 1 - (bfsF (kidN cs) cs.length (roots.take j)).length) (addN (bfsF (kidN cs) cs.length (roots.take j)) a) (bfsF (kidN cs) cs.length (roots.take j)).length = bfsF (kidN cs) cs.length (roots.take (j + 1)):=by
   unfold bfsF
   rw [List.take_add_one,ha,List.foldl_append]
   rfl
  rw [hfin] at hI3
  simp
  have w20:=(hF3 20 (by simp))
  simp [t20] at w20
  refine AM.wp_region ?_
  simp [w20,hwr]
  refine ⟨roots.length - (j + 1),by omega,j + 1,by omega,by omega,?_,?_,?_,?_,?_,rfl,hI3⟩
  ·rw [hF3 3 (by simp)]
   simp [t3]
  ·rw [hF3 7 (by simp)]
   simp [t7]
  ·rw [hF3 8 (by simp)]
   simp [t8]
  ·rw [hF3 18 (by simp)]
   simp [t18]
  ·rw [hF3 19 (by simp)]
   simp [t19]
 ·simp [hlt]
  refine AM.wp_exit ?_
  simp
  have hje:j = roots.length:=by omega
  subst hje
  rw [List.take_length] at hI
  obtain ⟨qv,mq,m,e1,e2,e3,e4,e5⟩:=hI
  exact q ((B7,C [qv]) :: (B6,C [.slice Bm 0 cs.length (.lim cs.length)]) :: (Bm,C (metL cs.length (bfsF (kidN cs) cs.length roots))) :: (B4,C [.fn f fx fy]) :: (B3,C [.slice p 0 cs.length (.lim cs.length)]) :: mq) m s' e2 (by simpa using e5)
end
theorem Z9g {s0 s:St} {W:Pos→Prop} {hb:Pos} {vs:AVal} {cs:List CV} {m r:Lets} (hH:Z26 hb vs cs m) (h:Ctx s0 W (m ++ r) s):∃ p V mr,Ctx s0 W ((hb,C [.slice p 0 cs.length (.lim cs.length),vs]) :: (p,C (encs (rcs cs V))) :: (mr ++ r)) s∧Z0s (cs.map CV.kids) V mr∧V.length = cs.length∧1 ≤ cs.length∧cs.length ≤ 400 ∧
  m.Perm ((hb,C [.slice p 0 cs.length (.lim cs.length),vs]) :: (p,C (encs (rcs cs V))) :: mr):=by
 obtain ⟨p,V,mr,hp,hR,h1,h4⟩:=hH
 refine ⟨p,V,mr,h.perm ?_,hR,by simpa using hR.len,h1,h4,hp⟩
 simpa using hp.append (List.Perm.refl r)
def setH (cs:List CV) (k:Nat) (x:Int):List CV:=match cs[k]? with
 | some c => cs.set k { c with held:=x }
 | none => cs
theorem Zou (cs:List CV) (k:Nat) (x:Int):(setH cs k x).length = cs.length:=by
 unfold setH
 split <;> simp
theorem Zw1 (cs:List CV) (k:Nat) (x:Int):(setH cs k x).map CV.kids = cs.map CV.kids:=by
 unfold setH
 split
 ·rename_i c hc
  rw [List.map_set]
  refine List.ext_getElem? fun j => ?_
  rw [List.getElem?_set]
  split
  ·rename_i e
   subst e
   have:=(List.getElem?_eq_some_iff.1 hc).1
   rw [if_pos (by simpa using this),List.getElem?_map,hc]
   rfl
  ·rfl
 ·rfl
theorem Zxv {cs:List CV} {V:List AVal} {k:Nat} {c:CV} {kv:AVal} (hc:cs[k]? = some c) (hv:V[k]? = some kv) (x:Int):(rcs cs V).set k { taken:=c.taken,name:=c.name,kv:=kv,held:=x } = rcs (setH cs k x) V:=by
 unfold setH
 rw [hc]
 simp only
 have hV:V.set k kv = V:=by
  refine List.ext_getElem? fun y => ?_
  rw [List.getElem?_set]
  by_cases e:k = y
  ·subst e
   rw [if_pos rfl,hv,if_pos (List.getElem?_eq_some_iff.1 hv).1]
  ·rw [if_neg e]
 have:=Z84 (cs:=cs) (V:=V) (i:=k) (d:={ c with held:=x }) (kv:=kv)
 rw [hV] at this
 exact this
def Z7w (cs:List CV) (i:Int):Int × List CV :=
 if Z07 cs i = false then (1,cs) else match cs[i.toNat]? with
  | some c => if c.held = 1000 then (12,cs) else (0,setH cs i.toNat (IntKind.wrap .i64 (c.held + 1)))
  | none => (1,cs)
section
variable {s0 s:St} {W:Pos→Prop} {hb:Pos} {vs:AVal} {cs:List CV} {m r:Lets} {Q:AVal→St→Prop}
theorem takes_c {p:Pos} {V:List AVal} {i:Int} (hw:s.Old p) (hc:s.cells p = some (encs (rcs cs V))) (hV:V.length = cs.length) (q:∀ s',Keeps s s'→Q (.bool (Z07 cs i)) s'):Z0c Tryz.prog 50 [.agg [.slice p 0 cs.length (.lim cs.length)],.int .i64 i] s Q :=
 Zeq hw hc (Z1c hV) (by rw [Zay hV]; exact q)
theorem Zux {i:Int} (hH:Z26 hb vs cs m) (h:Ctx s0 W (m ++ r) s)
  (q:∀ m' s',Z26 hb vs (Z7w cs i).2 m'→Ctx s0 W (m' ++ r) s'→Q (.int .i64 (Z7w cs i).1) s'):Z0c Tryz.prog 22 [.ptr hb 0,.int .i64 i] s Q:=by
 obtain ⟨p,V,mr,hc,hR,hV,h1,h4⟩:=Z91 hH h
 have hno:cs.length ≠ 0:=by omega
 refine Z08 (Z0d (by decide)) fi22 rfl (by decide) rfl ?_
 refine Z00 ?_
 simp
 refine AM.wp_seq ?_
 refine AM.wp_block ?_
 refine Z00 ?_
 simp
 refine Z02 ?_
 refine Z5j (hc.c 0 rfl) rfl hno ?_
 simp
 refine AM.Z04 ?_
 simp
 refine Z00 ?_
 simp [hc.c 0 rfl]
 refine Z02 ?_
 refine takes_c (hc.oi 1 rfl) (hc.c 1 rfl) hV fun s1 k1 => ?_
 have c1:=hc.keeps k1
 cases ht:Z07 cs i with
 | false =>
  have:Z7w cs i = (1,cs):=by unfold Z7w; rw [if_pos ht]
  rw [this] at q
  simp
  refine AM.Z04 ?_
  simp
  refine Z00 ?_
  simp
  refine AM.wp_ret ?_
  simp
  exact q _ _ (Z2a hR h1 h4) c1
 | true =>
  obtain ⟨h0,d,hd,_,hlt⟩:=Z22 ht
  obtain ⟨kv,hkv⟩:∃ kv,V[i.toNat]? = some kv:=⟨_,List.getElem?_eq_getElem (by omega)⟩
  have hrg:=Z1k hd hkv
  have hg3:(encs (rcs cs V))[i.toNat * 4 + 3]? = some (.int .i64 d.held):=Z2o _ i.toNat 3 _ hrg (by decide)
  have hil:i < cs.length:=by omega
  simp
  refine AM.Z04 ?_
  simp
  refine Z00 ?_
  simp [c1.c 0 rfl,c1.c 1 rfl,h0,hil,hg3]
  refine AM.Z04 ?_
  by_cases he:d.held = 1000
  ·have:Z7w cs i = (12,cs):=by unfold Z7w; rw [if_neg (by simp [ht]),hd]; simp only; rw [if_pos he]
   rw [this] at q
   simp [he]
   refine Z00 ?_
   simp
   refine AM.wp_ret ?_
   simp
   exact q _ _ (Z2a hR h1 h4) c1
  ·have:Z7w cs i = (0,setH cs i.toNat (IntKind.wrap .i64 (d.held + 1))):=by unfold Z7w; rw [if_neg (by simp [ht]),hd]; simp only; rw [if_neg he]
   rw [this] at q
   have hlay:=Zfc _ i.toNat _ (IntKind.wrap .i64 (d.held + 1)) hrg
   rw [Zxv hd hkv] at hlay
   have hle:i.toNat * 4 + 3 + 1 ≤ (encs (rcs cs V)).length:=by rw [Z2j,Z1c hV]; omega
   simp [lay] at hlay
   simp [he]
   refine AM.wp_skip ?_
   simp
   refine Z00 ?_
   simp [c1.c 0 rfl,c1.c 1 rfl,c1.o 1 rfl,h0,hil,hg3,hle]
   rw [hlay]
   have c2:=c1.put 1 rfl (C (encs (rcs (setH cs i.toNat (IntKind.wrap .i64 (d.held + 1))) V)))
   simp only [List.set_cons_succ,List.set_cons_zero] at c2
   refine Z00 ?_
   simp
   refine AM.wp_ret ?_
   simp
   have hl:=Zou cs i.toNat (IntKind.wrap .i64 (d.held + 1))
   refine q _ _ (Z2a (p:=p) (V:=V) (mr:=mr) (by rw [Zw1]; exact hR) (by simpa [hl] using h1) (by simpa [hl] using h4)) ?_
   rw [hl]
   exact c2
def Z2c (cs:List CV) (i:Nat):List Int:=((Z1f cs i).filter fun j => match cs[j]? with | some c => decide (0 < c.held) | none => false).map fun (j:Nat) => (j:Int)
theorem Zsf {cs:List CV} {i:Nat} {c:CV} (h:cs[i]? = some c) (ht:c.taken = true):Z2c cs (i + 1) = Z2c cs i ++ (if 0 < c.held then [(i:Int)] else []):=by
 unfold Z2c
 rw [Zad h ht,List.filter_append]
 by_cases hh:0 < c.held <;> simp [h,hh]
theorem Zsg {cs:List CV} {i:Nat} {c:CV} (h:cs[i]? = some c) (ht:c.taken = false):Z2c cs (i + 1) = Z2c cs i:=by
 unfold Z2c
 rw [Zd6 h ht]
theorem Zfk (cs:List CV) (i:Nat):(Z2c cs i).length ≤ i:=by
 unfold Z2c Z1f
 rw [List.length_map]
 refine Nat.le_trans (List.length_filter_le _ _) (Nat.le_trans (List.length_filter_le _ _) (by simp))
theorem Zqt {p:Pos} {V:List AVal} {base:Lets} (hc:Ctx s0 W base s) (hV:V.length = cs.length) (h4:cs.length ≤ 400) (hp:∀ x s',Ctx s0 W (x ++ base) s'→s'.Old p∧s'.cells p = some (encs (rcs cs V)))
  (q:∀ lv mg x s',Z23 lv (Z2c cs cs.length) mg→Ctx s0 W (x ++ (mg ++ base)) s'→Q lv s'):Z0c Tryz.prog 64 [.agg [.slice p 0 cs.length (.lim cs.length)]] s Q:=by
 have hl:=Z1c hV
 refine Z08 (Z0d (by decide)) fi64 rfl (by decide) rfl ?_
 refine Z00 ?_
 simp
 have c1:=hc.alloc (C [.slice p 0 cs.length (.lim cs.length)])
 generalize s.alloc (.cells [.slice p 0 cs.length (.lim cs.length)] false) = s1 at c1 ⊢
 generalize s.next = B1 at c1 ⊢
 refine Z00 ?_
 simp
 have c2:=c1.alloc (C [.nilSlice])
 generalize s1.alloc (.cells [.nilSlice] false) = s2 at c2 ⊢
 generalize s1.next = B3 at c2 ⊢
 refine AM.wp_seq ?_
 refine Z00 ?_
 simp [c2.c 1 rfl]
 refine Z02 ?_
 refine Z8q fun BB hBB => ?_
 have c3:=c2.alloc (C [.slice p 0 cs.length (.lim cs.length)])
 rw [← hBB] at c3
 generalize s2.alloc (.cells [.slice p 0 cs.length (.lim cs.length)] false) = s3 at c3 ⊢
 simp
 refine AM.wp_block ?_
 refine Zb5 (B:=BB) (p:=p) (l:=rcs cs V) (J:=fun i m => ∃ lv mg,Z23 lv (Z2c cs i) mg∧m = (B3,C [lv]) :: (B1,C [.slice p 0 cs.length (.lim cs.length)]) :: (mg ++ base))
  hl h4 (by simp) rfl fi64 rfl ?_ ?_ ?_ ⟨.nilSlice,[],.inl ⟨rfl,rfl,rfl⟩,rfl⟩ c3 ?_
 ·rintro i m s' ⟨lv,mg,hg,rfl⟩ hc'
  exact hp ((B3,C [lv]) :: (B1,C [.slice p 0 cs.length (.lim cs.length)]) :: mg) s' (by simpa using hc')
 ·rintro i c m hci hct ⟨lv,mg,hg,rfl⟩
  have hi:i < cs.length:=by have:=(List.getElem?_eq_some_iff.1 hci).1; rwa [hl] at this
  rw [Z1k (List.getElem?_eq_getElem hi) (List.getElem?_eq_getElem (show i < V.length by omega))] at hci
  cases hci
  exact ⟨lv,mg,by rw [Zsg (List.getElem?_eq_getElem hi) hct]; exact hg,rfl⟩
 ·rintro i c s' m Lb X Wx hci hct ⟨lv,mg,hg,rfl⟩ hc' hW
  have hi:i < cs.length:=by have:=(List.getElem?_eq_some_iff.1 hci).1; rwa [hl] at this
  obtain ⟨_,hpc⟩:=hp ((Lb,X) :: (BB,C [.slice p 0 cs.length (.lim cs.length)]) :: (B3,C [lv]) :: (B1,C [.slice p 0 cs.length (.lim cs.length)]) :: mg) s' (by simpa using hc')
  have hg3:(encs (rcs cs V))[i * 4 + 3]? = some (.int .i64 c.held):=Z2o _ i 3 _ hci (by decide)
  rw [Z1k (List.getElem?_eq_getElem hi) (List.getElem?_eq_getElem (show i < V.length by omega))] at hci
  have hnx:=Zsf (List.getElem?_eq_getElem hi) (by cases hci; exact hct)
  have hhe:cs[i].held = c.held:=by cases hci; rfl
  rw [hhe] at hnx
  refine AM.wp_block ?_
  refine Z00 ?_
  simp [hc'.c 3 rfl,hi,hpc,hg3]
  refine AM.Z04 ?_
  by_cases hh:0 < c.held
  ·rw [if_pos hh] at hnx
   simp [hh]
   refine AM.wp_region ?_
   simp [hc'.c 2 rfl,hg.ntup,hg.cells,Z20,srcP]
   have d2:=hc'.alloc (C [.int .i64 i])
   generalize s'.alloc (.cells [.int .i64 i] false) = sB at d2 ⊢
   generalize s'.next = T at d2 ⊢
   have hgl:=Zfk cs i
   refine Z6w (pre:=[(T,C [.int .i64 i]),(Lb,X),(BB,C [.slice p 0 cs.length (.lim cs.length)]),(B3,C [lv]),(B1,C [.slice p 0 cs.length (.lim cs.length)])]) d2 hg (by omega) fun lv' mg' sC hg' d3 => ?_
   simp at d3
   rw [← hnx] at hg'
   simp [hg'.ntup,hg'.cells,d3.o 3 rfl]
   have d4:=(d3.put 3 rfl (C [lv'])).tail
   exact hW _ _ _ ⟨lv',mg',hg',rfl⟩ d4
  ·rw [if_neg hh,List.append_nil] at hnx
   simp [hh]
   refine AM.wp_skip ?_
   simp
   refine hW _ _ _ ⟨lv,mg,by rw [hnx]; exact hg,rfl⟩ hc'
 ·rintro s' m ⟨lv,mg,hg,rfl⟩ hc'
  simp
  refine Z00 ?_
  simp [hc'.c 0 rfl,hg.ntup]
  refine AM.wp_ret ?_
  simp
  exact q lv mg [(B3,C [lv]),(B1,C [.slice p 0 cs.length (.lim cs.length)])] s' hg (by simpa using hc')
end
theorem Zhm {K:Nat→List Nat} {n:Nat} (hK:∀ a,a < n→∀ k ∈ K a,k < n):∀ (f:Nat) (v:List Nat) (i:Nat),v.Nodup→(∀ a ∈ v,a < n)→n + 1 ≤ i + f→(∀ j a,j < i→v[j]? = some a→∀ k ∈ K a,k ∈ v) →
  ∀ a ∈ runB K f v i,∀ k ∈ K a,k ∈ runB K f v i
 | 0,v,i,h1,h2,h3,h4 => by
  intro a ha k hk
  have hl:=Z34 h1 h2
  obtain ⟨j,hj⟩:=List.getElem?_of_mem ha
  have hjl:=(List.getElem?_eq_some_iff.1 hj).1
  simp only [runB] at hj hjl
  exact h4 j a (by omega) hj k hk
 | f + 1,v,i,h1,h2,h3,h4 => by
  unfold runB
  cases hv:v[i]? with
  | none =>
   intro a ha k hk
   obtain ⟨j,hj⟩:=List.getElem?_of_mem ha
   have hjl:=(List.getElem?_eq_some_iff.1 hj).1
   have hil:=List.getElem?_eq_none_iff.1 hv
   exact h4 j a (by simp only at hjl; omega) hj k hk
  | some b =>
   have hb:=h2 b (List.mem_of_getElem? hv)
   obtain ⟨h5,h6⟩:=Zcc h1 h2 (hK b hb)
   refine Zhm hK f (Z0f v (K b)) (i + 1) h5 h6 (by omega) ?_
   intro j a hj ha k hk
   obtain ⟨w,hw⟩:=Z7s (K b) v
   have hil:=(List.getElem?_eq_some_iff.1 hv).1
   by_cases e:j = i
   ·subst e
    have hab:a = b:=by
     rw [hw,List.getElem?_append_left hil,hv] at ha
     exact (Option.some.inj ha).symm
    subst hab
    have key:∀ (ks v:List Nat) (k:Nat),k ∈ ks→k ∈ Z0f v ks:=by
     intro ks
     induction ks with
     | nil => intro v k h; cases h
     | cons x ks ih =>
      intro v k h
      show k ∈ Z0f (addN v x) ks
      rcases List.mem_cons.1 h with rfl | h
      ·obtain ⟨w',hw'⟩:=Z7s ks (addN v k)
       rw [hw']
       refine List.mem_append_left _ ?_
       unfold addN
       split
       ·assumption
       ·simp
      ·exact ih _ _ h
    exact key _ _ _ hk
   ·have ha':v[j]? = some a:=by
     rw [hw,List.getElem?_append_left (by omega)] at ha
     exact ha
    have:=h4 j a (by omega) ha' k hk
    rw [hw]
    exact List.mem_append_left _ this
theorem Zoq {K:Nat→List Nat} {P:Nat→Prop} (hP:∀ a,P a→∀ k ∈ K a,P k):∀ (f:Nat) (v:List Nat) (i:Nat),(∀ a ∈ v,P a)→∀ a ∈ runB K f v i,P a
 | 0,v,i,h => h
 | f + 1,v,i,h => by
  unfold runB
  cases hv:v[i]? with
  | none => exact h
  | some b =>
   refine Zoq hP f _ _ ?_
   have hb:=h b (List.mem_of_getElem? hv)
   have key:∀ (ks v:List Nat),(∀ a ∈ v,P a)→(∀ k ∈ ks,P k)→∀ a ∈ Z0f v ks,P a:=by
    intro ks
    induction ks with
    | nil => intro v h _; exact h
    | cons x ks ih =>
     intro v h h'
     refine ih (addN v x) ?_ (fun k hk => h' k (by simp [hk]))
     unfold addN
     split
     ·exact h
     ·intro a ha
      rcases List.mem_append.1 ha with ha | ha
      ·exact h a ha
      ·simp at ha
       rw [ha]
       exact h' x (by simp)
   exact key _ _ h (hP b hb)
theorem Zdy {K:Nat→List Nat} {n:Nat} (hK:∀ a,a < n→∀ k ∈ K a,k < n):∀ (roots:List Nat),(∀ r ∈ roots,r < n) →
  (bfsF K n roots).Nodup∧(∀ a ∈ bfsF K n roots,a < n)∧(∀ a ∈ bfsF K n roots,∀ k ∈ K a,k ∈ bfsF K n roots)∧(∀ r ∈ roots,r ∈ bfsF K n roots)∧∀ (P:Nat→Prop),(∀ a,P a→∀ k ∈ K a,P k)→(∀ r ∈ roots,P r)→∀ a ∈ bfsF K n roots,P a:=by
 have step:∀ (roots done v:List Nat),v.Nodup→(∀ a ∈ v,a < n)→(∀ a ∈ v,∀ k ∈ K a,k ∈ v)→(∀ r ∈ done,r ∈ v)→(∀ r ∈ roots,r < n)→(∀ (P:Nat→Prop),(∀ a,P a→∀ k ∈ K a,P k)→(∀ r ∈ done,P r)→∀ a ∈ v,P a) →
   (roots.foldl (fun v r => runB K (n + 1 - v.length) (addN v r) v.length) v).Nodup∧(∀ a ∈ roots.foldl (fun v r => runB K (n + 1 - v.length) (addN v r) v.length) v,a < n)∧(∀ a ∈ roots.foldl (fun v r => runB K (n + 1 - v.length) (addN v r) v.length) v,∀ k ∈ K a,k ∈ roots.foldl (fun v r => runB K (n + 1 - v.length) (addN v r) v.length) v) ∧
   (∀ r ∈ done ++ roots,r ∈ roots.foldl (fun v r => runB K (n + 1 - v.length) (addN v r) v.length) v)∧∀ (P:Nat→Prop),(∀ a,P a→∀ k ∈ K a,P k)→(∀ r ∈ done ++ roots,P r)→∀ a ∈ roots.foldl (fun v r => runB K (n + 1 - v.length) (addN v r) v.length) v,P a:=by
  intro roots
  induction roots with
  | nil =>
   intro done v h1 h2 h3 h4 _ h6
   exact ⟨h1,h2,h3,by simpa using h4,fun P hP hr => h6 P hP (by simpa using hr)⟩
  | cons r roots ih =>
   intro done v h1 h2 h3 h4 h5 h6
   have hr:=h5 r (by simp)
   have hl:=Z34 h1 h2
   have a1:=Z95 (k:=r) h1
   have a2:=Zde h2 hr
   obtain ⟨b1,b2⟩:=Ztz hK (n + 1 - v.length) (addN v r) v.length a1 a2
   have b3:=Zhm hK (n + 1 - v.length) (addN v r) v.length a1 a2 (by omega) (by
    intro j a hj ha k hk
    obtain ⟨w,hw⟩:=Zmo v r
    rw [hw,List.getElem?_append_left hj] at ha
    rw [hw]
    exact List.mem_append_left _ (h3 a (List.mem_of_getElem? ha) k hk))
   obtain ⟨w,hw⟩:=Zie K (n + 1 - v.length) (addN v r) v.length
   have hrm:r ∈ addN v r:=by
    unfold addN
    split
    ·assumption
    ·simp
   have:=ih (done ++ [r]) (runB K (n + 1 - v.length) (addN v r) v.length) b1 b2 b3 (by
    intro x hx
    rw [hw]
    refine List.mem_append_left _ ?_
    rcases List.mem_append.1 hx with hx | hx
    ·exact Zwi (h4 x hx)
    ·simp at hx
     rw [hx]
     exact hrm) (fun x hx => h5 x (by simp [hx])) (by
    intro P hP hd
    refine Zoq hP _ _ _ ?_
    have hv:=h6 P hP (fun x hx => hd x (by simp [hx]))
    unfold addN
    split
    ·exact hv
    ·intro a ha
     rcases List.mem_append.1 ha with ha | ha
     ·exact hv a ha
     ·simp at ha
      rw [ha]
      exact hd r (by simp))
   simpa using this
 intro roots hr
 have:=step roots [] [] (by simp) (by simp) (by simp) (by simp) hr (by simp)
 simpa [bfsF] using this
def Z59 (cls:List Int) (nd:ND):ND:=(nd.1,nd.2.map fun k => (cls[k.toNat]?).getD 0)
def Z2t (cls:List Int) (nds:List ND) (out:List ND) (a:Nat):List ND:=match cls[a]?,nds[a]? with
 | some c,some nd => if c < out.length then out else out ++ [Z59 cls nd]
 | _,_ => out
def outF (cls:List Int) (nds:List ND) (l:List Nat):List ND:=l.foldl (Z2t cls nds) []
theorem Zqy {cs:List CV} (h:HOk cs) {a:Nat} (ha:Z07 cs (a:Int) = true):∀ k ∈ kidN cs a,Z07 cs (k:Int) = true:=by
 obtain ⟨_,d,hd,ht,_⟩:=Z22 ha
 rw [Int.toNat_natCast] at hd
 intro k hk
 unfold kidN at hk
 rw [Z1d hd] at hk
 obtain ⟨x,hx,rfl⟩:=List.mem_map.1 hk
 have h1:=h.kids d (List.mem_of_getElem? hd) ht x hx
 have h0:=(Z22 h1).1
 rw [Int.toNat_of_nonneg h0]
 exact h1
theorem Z1y {cs:List CV} {k:Nat} (h:Z07 cs (k:Int) = true):k < cs.length:=by
 obtain ⟨_,_,_,_,hlt⟩:=Z22 h
 simpa using hlt
structure HOk2 (cs:List CV):Prop extends HOk cs where
 free:∀ c ∈ cs,c.taken = false→c.kids = []
theorem HOk2.Zqx {cs:List CV} (h:HOk2 cs):∀ a,a < cs.length→∀ k ∈ kidN cs a,k < cs.length:=by
 intro a ha k hk
 have hd:cs[a]? = some cs[a]:=List.getElem?_eq_getElem ha
 cases ht:cs[a].taken with
 | true => exact Z1y (Zqy h.toHOk (by rw [Z14 hd]; exact ht) k hk)
 | false =>
  unfold kidN at hk
  rw [Z1d hd,h.free _ (List.getElem_mem ha) ht] at hk
  simp at hk
theorem Ziq {cs:List CV} (h:HOk2 cs) {roots:List Nat} (hr:∀ r ∈ roots,Z07 cs (r:Int) = true):Closed (Z11 cs) (bfsF (kidN cs) cs.length roots)∧(bfsF (kidN cs) cs.length roots).Nodup∧(∀ a ∈ bfsF (kidN cs) cs.length roots,Z07 cs (a:Int) = true)∧∀ r ∈ roots,r ∈ bfsF (kidN cs) cs.length roots:=by
 obtain ⟨h1,h2,h3,h4,h5⟩:=Zdy (n:=cs.length) (h.Zqx) roots (fun r hx => Z1y (hr r hx))
 have h6:=h5 (fun a => Z07 cs (a:Int) = true) (fun a ha => Zqy h.toHOk ha) hr
 refine ⟨⟨fun a ha => by rw [Z1s]; exact h2 a ha,fun a ha x hx => ?_⟩,h1,h6,h4⟩
 have hd:cs[a]? = some (cs[a]'(h2 a ha)):=List.getElem?_eq_getElem (h2 a ha)
 have ht:=h6 a ha
 rw [Z14 hd] at ht
 rw [Z39 hd,if_pos ht] at hx
 cases hx
 refine ⟨h.kids4 _ (List.getElem_mem _),fun k hk => h3 a ha _ ?_⟩
 unfold kidN
 rw [Z1d hd]
 exact List.mem_map.2 ⟨k,hk,rfl⟩
theorem Z9h {s0 s:St} {W:Pos→Prop} {L mr:Lets} {p:Pos} {cs:List CV} {V:List AVal} (h:Ctx s0 W L s) (hp:(p,C (encs (rcs cs V))) ∈ L) (hR:Z0s (cs.map CV.kids) V mr) (hmr:∀ x ∈ mr,x ∈ L) :
  s.Old p∧s.cells p = some (encs (rcs cs V))∧∀ (i:Nat) (d:CV),cs[i]? = some d→∃ kv,V[i]? = some kv∧Z0e s kv d.kids:=by
 refine ⟨h.ob hp,Z0a (Z13 (h.own _ hp)),fun i d hd => ?_⟩
 obtain ⟨kv,g1,g2⟩:=hR.each (i:=i) (ks:=d.kids) (by rw [List.getElem?_map,hd]; rfl)
 refine ⟨kv,g1,?_⟩
 rcases g2 with ⟨e1,e2⟩ | ⟨q,c,e1,e2,e3⟩
 ·exact .inl ⟨e2,e1⟩
 ·rw [e2]
  exact Z60 h.wf (Z13 (h.own _ (hmr _ e3))) c
theorem Zvr {cls:List Int} {nds:List ND} {l:List Nat} {i a:Nat} (h:l[i]? = some a):outF cls nds (l.take (i + 1)) = Z2t cls nds (outF cls nds (l.take i)) a:=by
 unfold outF
 rw [List.take_add_one,h,List.foldl_append]
 rfl
theorem Zob (cls:List Int) (nds:List ND):∀ (l:List Nat),(outF cls nds l).length ≤ l.length:=by
 have key:∀ (l:List Nat) (out:List ND),(l.foldl (Z2t cls nds) out).length ≤ out.length + l.length:=by
  intro l
  induction l with
  | nil => intro out; simp
  | cons a l ih =>
   intro out
   have h1:=ih (Z2t cls nds out a)
   have h2:(Z2t cls nds out a).length ≤ out.length + 1:=by
    unfold Z2t
    split
    ·split
     ·omega
     ·simp
    ·omega
   simp only [List.foldl_cons,List.length_cons]
   omega
 intro l
 have:=key l []
 simpa [outF] using this
theorem Zlt (cls:List Int) (nds:List ND) (l:List Nat) (i:Nat):(outF cls nds (l.take i)).length ≤ (outF cls nds l).length:=by
 have key:∀ (l:List Nat) (out:List ND),out.length ≤ (l.foldl (Z2t cls nds) out).length:=by
  intro l
  induction l with
  | nil => intro out; simp
  | cons a l ih =>
   intro out
   have h1:=ih (Z2t cls nds out a)
   have h2:out.length ≤ (Z2t cls nds out a).length:=by
    unfold Z2t
    split
    ·split
     ·omega
     ·simp
    ·omega
   simp only [List.foldl_cons]
   omega
 have h:=key (l.drop i) (outF cls nds (l.take i))
 unfold outF at h ⊢
 rw [← List.foldl_append,List.take_append_drop] at h
 exact h
def kidG (ns:List ND) (a:Nat):List Nat:=match ns[a]? with
 | some nd => nd.2.map Int.toNat
 | none => []
theorem Zhy {ns:List ND} {a:Nat} {nd:ND} (h:ns[a]? = some nd):kidG ns a = nd.2.map Int.toNat:=by unfold kidG; rw [h]
def GrOk (ns:List ND):Prop:=∀ nd ∈ ns,nd.2.length ≤ 4∧∀ k ∈ nd.2,0 ≤ k∧k < ns.length
theorem GrOk.Zkc {ns:List ND} (h:GrOk ns):∀ a,a < ns.length→∀ k ∈ kidG ns a,k < ns.length:=by
 intro a ha k hk
 rw [Zhy (List.getElem?_eq_getElem ha)] at hk
 obtain ⟨x,hx,rfl⟩:=List.mem_map.1 hk
 have:=(h _ (List.getElem_mem ha)).2 x hx
 omega
section
variable {s0 s:St} {fr:FI} {t0:PT AVal} {ns:List ND} {nv lv rv:AVal} {n:Nat} {Bm:Pos} {v:List Nat} {mg:Lets} {Q:Ex→PT AVal→St→Prop}
theorem Zwf {i a:Nat} (hN:Z1v s0 nv ns) (hO:GrOk ns) (hmax:ns.length ≤ 1000) (hg:Z23 lv (nats v) mg) (hnd:v.Nodup) (hlt:∀ x ∈ v,x < ns.length) (hi:v[i]? = some a)
  (hc:Ctx s0 (fun _ => False) ((Bm,C (metL ns.length v)) :: mg) s)
  (t0':PT.get (posOf 0) t0 = some nv) (t5:PT.get (posOf 5) t0 = some (.slice Bm 0 ns.length (.lim ns.length))) (t6:PT.get (posOf 6) t0 = some lv) (t9:PT.get (posOf 9) t0 = some (.int .i64 i))
  (q:∀ t s' lv' mg',Fr [6,11,48,49,50,51,58] t0 t→PT.get (posOf 6) t = some lv'→Z23 lv' (nats (Z0f v (kidG ns a))) mg'→Ctx s0 (fun _ => False) ((Bm,C (metL ns.length (Z0f v (kidG ns a)))) :: mg') s'→Q .normal t s'):wp Tryz.prog Zqc fr t0 s Q:=by
 have hil:i < v.length:=(List.getElem?_eq_some_iff.1 hi).1
 have ha:=hlt a (List.mem_of_getElem? hi)
 have hnda:ns[a]? = some ns[a]:=List.getElem?_eq_getElem ha
 obtain ⟨h4,hin⟩:=hO _ (List.getElem_mem ha)
 have hkg:=Zhy hnda
 rcases hN.keep hc.Z0m with ⟨_,e⟩ | ⟨b,o,c,cs,rfl,hb,hcs,hle,hel⟩
 ·rw [e] at ha
  simp at ha
 obtain ⟨_,kv,g2,g3⟩:=hel a _ hnda
 rcases hg with ⟨e,_⟩ | ⟨qb,hne,rfl,rfl⟩
 ·have:v = []:=by simpa using e
  rw [this] at hil
  simp at hil
 have hvq:(ints (nats v))[i]? = some (.int .i64 a):=by unfold ints; rw [List.getElem?_map,List.getElem?_map,hi]; rfl
 obtain ⟨iv,hiv⟩:∃ x,x = ints (nats v):=⟨_,rfl⟩
 have hq:=hc.c 1 rfl
 rw [← hiv] at hvq hq
 rw [List.length_map] at t6
 refine Z00 ?_
 simp [t0',t6,t9,hil,hq,hvq,ha,hcs,g2,g3.ntup,g3.len]
 refine AM.wp_block ?_
 refine AM.wp_loop (fun m t s' => ∃ (j:Nat) (lv':AVal) (mg':Lets),j ≤ ns[a].2.length∧m = ns[a].2.length - j∧Fr [6,11,48,49,50,51,58] t0 t∧PT.get (posOf 6) t = some lv'∧PT.get (posOf 48) t = some kv∧PT.get (posOf 49) t = some (.int .i64 ns[a].2.length)∧PT.get (posOf 50) t = some (.int .i64 j) ∧
   Z23 lv' (nats (Z0f v ((kidG ns a).take j))) mg'∧(Z0f v ((kidG ns a).take j)).Nodup∧(∀ x ∈ Z0f v ((kidG ns a).take j),x < ns.length)∧Ctx s0 (fun _ => False) ((Bm,C (metL ns.length (Z0f v ((kidG ns a).take j)))) :: mg') s') ns[a].2.length
  ⟨0,.slice qb 0 v.length (.opn 1),[(qb,C (ints (nats v)))],by simp,by simp,?_,by simp [t6],by simp,by simp,by simp,.inr ⟨qb,by simpa [Z0f] using hne,by simp [Z0f],by simp [Z0f]⟩,by simpa [Z0f] using hnd,by simpa [Z0f] using hlt,by simpa [Z0f] using hc⟩ ?_
 ·intro y hy
  simp at hy
  simp [hy]
 rintro m t s' ⟨j,lv',mg',hj,rfl,hF,t6',t48,t49,t50,hg',hnd',hlt',hc'⟩
 refine Z00 ?_
 simp [t49,t50]
 refine AM.wp_seq ?_
 refine AM.Z04 ?_
 by_cases hlj:j < ns[a].2.length
 ·have hwr:IntKind.wrap .i64 ((j:Int) + 1) = ((j + 1:Nat):Int):=by rw [IntWalk.i64_in _ (by omega)]; omega
  obtain ⟨kk,hkk⟩:∃ kk,ns[a].2[j]? = some kk:=⟨_,List.getElem?_eq_getElem hlj⟩
  obtain ⟨kk0,kk1⟩:=hin kk (List.mem_of_getElem? hkk)
  obtain ⟨kn,rfl⟩:∃ kn:Nat,kk = (kn:Int):=⟨kk.toNat,by omega⟩
  have hkn:kn < ns.length:=by omega
  have hkN:(kidG ns a)[j]? = some kn:=by rw [hkg,List.getElem?_map,hkk]; rfl
  have u5:=(hF 5 (by simp)).trans t5
  rcases hN.keep hc'.Z0m with ⟨_,e⟩ | ⟨b',o',c',cs',e,hb',hcs',hle',hel'⟩
  ·rw [e] at ha
   simp at ha
  cases e
  obtain ⟨_,kv',e2,e3⟩:=hel' a _ hnda
  have hcs2:cs' = cs:=by
   rcases hN with ⟨_,e⟩ | ⟨b3,o3,c3,cs3,e,hb3,hcs3,_⟩
   ·rw [e] at ha
    simp at ha
   cases e
   have h1:=hc'.Z0m.cells hb3
   have h2:=hc.Z0m.cells hb3
   rw [hcs'] at h1
   rw [hcs] at h2
   rw [← h2] at h1
   exact Option.some.inj h1
  subst hcs2
  rw [g2] at e2
  cases e2
  rcases e3 with ⟨_,h0⟩ | ⟨b4,o4,c4,cells4,rfl,hb4,hcs4,hle4,hel4⟩
  ·rw [h0] at hlj
   simp at hlj
  have hgk:=hel4 j _ hkk
  have hmet:=Z61 (Z0f v ((kidG ns a).take j)) hkn
  have hnx:=Zh1 (v:=v) hkN
  simp [hlj]
  refine AM.wp_skip ?_
  simp
  refine AM.wp_seq ?_
  refine AM.wp_block ?_
  refine Z00 ?_
  simp [t48,t50,hlj,hcs4,hgk]
  refine Z00 ?_
  simp [u5,hkn,hc'.c 0 rfl,hmet]
  refine AM.Z04 ?_
  have hvl:=Z34 hnd' hlt'
  by_cases hm:kn ∈ Z0f v ((kidG ns a).take j)
  ·have hadd:addN (Z0f v ((kidG ns a).take j)) kn = Z0f v ((kidG ns a).take j):=by unfold addN; rw [if_pos hm]
   rw [hadd] at hnx
   simp [hm]
   refine AM.wp_skip ?_
   simp
   refine AM.wp_region ?_
   simp [t50,hwr]
   refine ⟨ns[a].2.length - (j + 1),by omega,j + 1,by omega,by omega,?_,lv',by simp [t6'],by simp [t48],by simp [t49],by simp,mg',by rw [hnx]; exact hg',by rw [hnx]; exact hnd',by rw [hnx]; exact hlt',by rw [hnx]; exact hc'⟩
   intro y hy
   simp at hy
   simp [hy]
   exact hF y (by simp [hy])
  ·have hadd:addN (Z0f v ((kidG ns a).take j)) kn = Z0f v ((kidG ns a).take j) ++ [kn]:=by unfold addN; rw [if_neg hm]
   have hset:=Ze8 hkn hm
   have hle5:kn + 1 ≤ (metL ns.length (Z0f v ((kidG ns a).take j))).length:=by rw [Z3q]; omega
   have hnd2:=Z95 (k:=kn) hnd'
   have hlt2:=Zde hlt' hkn
   rw [← hnx] at hset hnd2 hlt2
   simp [lay] at hset
   simp [hm]
   refine Z00 ?_
   simp [u5,hkn,hc'.o 0 rfl,hle5]
   rw [hset]
   have d1:=hc'.put 0 rfl (C (metL ns.length (Z0f v ((kidG ns a).take (j + 1)))))
   simp only [List.set_cons_zero] at d1
   generalize s'.put Bm (.cells (metL ns.length (Z0f v ((kidG ns a).take (j + 1)))) false) = s1 at d1 ⊢
   refine AM.wp_region ?_
   simp [t6',hg'.ntup,Z20,srcP]
   have d2:=d1.alloc (C [.int .i64 kn])
   generalize s1.alloc (.cells [.int .i64 kn] false) = s2 at d2 ⊢
   generalize s1.next = T at d2 ⊢
   refine Z6w (pre:=[(T,C [.int .i64 kn]),(Bm,C (metL ns.length (Z0f v ((kidG ns a).take (j + 1)))))]) (r:=[]) (by simpa using d2) hg' (by simp; omega) fun lv2 mg2 s3 hg2 d3 => ?_
   simp only [List.cons_append,List.nil_append,List.append_nil] at d3
   have hg2':Z23 lv2 (nats (Z0f v ((kidG ns a).take (j + 1)))) mg2:=by
    rw [hnx,hadd]
    simpa using hg2
   refine AM.wp_region ?_
   simp [t50,hwr]
   refine ⟨ns[a].2.length - (j + 1),by omega,j + 1,by omega,by omega,?_,by simp [t48],by simp [t49],by simp,mg2,hg2',hnd2,hlt2,d3.tail⟩
   intro y hy
   simp at hy
   simp [hy]
   exact hF y (by simp [hy])
 ·simp [hlj]
  refine AM.wp_exit ?_
  simp
  have hje:j = ns[a].2.length:=by omega
  subst hje
  have htk:(kidG ns a).take ns[a].2.length = kidG ns a:=List.take_of_length_le (by rw [hkg]; simp)
  rw [htk] at hg' hc'
  refine q _ s' lv' mg' ?_ (by simp [t6']) hg' hc'
  intro y hy
  simp at hy
  simp [hy]
  exact hF y (by simp [hy])
end
section
variable {s0 s:St} {fr:FI} {t0:PT AVal} {ns:List ND} {nv lv rv:AVal} {n:Nat} {Bm:Pos} {v:List Nat} {mg:Lets}
theorem Zq8 {i:Nat} {Q:Ex→PT AVal→St→Prop} (hN:Z1v s0 nv ns) (hO:GrOk ns) (hmax:ns.length ≤ 1000) (hg:Z23 lv (nats v) mg) (hnd:v.Nodup) (hlt:∀ x ∈ v,x < ns.length) (hi:i ≤ ns.length)
  (hc:Ctx s0 (fun _ => False) ((Bm,C (metL ns.length v)) :: mg) s)
  (t0':PT.get (posOf 0) t0 = some nv) (t5:PT.get (posOf 5) t0 = some (.slice Bm 0 ns.length (.lim ns.length))) (t6:PT.get (posOf 6) t0 = some lv) (t9:PT.get (posOf 9) t0 = some (.int .i64 i))
  (q:∀ t s' lv' mg',Fr [6,9,11,38,48,49,50,51,58] t0 t→PT.get (posOf 6) t = some lv'→Z23 lv' (nats (runB (kidG ns) (ns.length + 1 - i) v i)) mg'→Ctx s0 (fun _ => False) ((Bm,C (metL ns.length (runB (kidG ns) (ns.length + 1 - i) v i))) :: mg') s'→Q .normal t s'):wp Tryz.prog Zqb fr t0 s Q:=by
 refine AM.wp_block ?_
 refine AM.wp_loop (fun k t s' => ∃ (j:Nat) (u:List Nat) (lv':AVal) (mg':Lets),j ≤ ns.length∧k = ns.length + 1 - j∧Fr [6,9,11,38,48,49,50,51,58] t0 t∧PT.get (posOf 6) t = some lv'∧PT.get (posOf 9) t = some (.int .i64 j)∧runB (kidG ns) (ns.length + 1 - i) v i = runB (kidG ns) (ns.length + 1 - j) u j ∧
   Z23 lv' (nats u) mg'∧u.Nodup∧(∀ x ∈ u,x < ns.length)∧Ctx s0 (fun _ => False) ((Bm,C (metL ns.length u)) :: mg') s') (ns.length + 1 - i) ⟨i,v,lv,mg,hi,rfl,fun y _ => rfl,t6,t9,rfl,hg,hnd,hlt,hc⟩ ?_
 rintro k t s' ⟨j,u,lv',mg',hj,rfl,hF,t6',t9',hrun,hg',hnd',hlt',hc'⟩
 have hul:=Z34 hnd' hlt'
 have u0:=(hF 0 (by simp)).trans t0'
 have u5:=(hF 5 (by simp)).trans t5
 refine AM.wp_seq ?_
 refine Z00 ?_
 have hgl:=hg'.len
 rw [List.length_map] at hgl
 simp [t6',t9',hg'.ntup,hgl]
 refine AM.Z04 ?_
 by_cases hjl:j < u.length
 ·obtain ⟨a,ha⟩:∃ a,u[j]? = some a:=⟨_,List.getElem?_eq_getElem hjl⟩
  have hwr:IntKind.wrap .i64 ((j:Int) + 1) = ((j + 1:Nat):Int):=by rw [IntWalk.i64_in _ (by omega)]; omega
  simp [hjl]
  refine AM.wp_skip ?_
  simp
  refine AM.wp_seq ?_
  refine AM.wp_block ?_
  refine Zwf hN hO hmax hg' hnd' hlt' ha hc' (by simp [u0]) (by simp [u5]) (by simp [t6']) (by simp [t9']) fun t2 s2 lv2 mg2 hF2 g6 hg2 hc2 => ?_
  have g9:PT.get (posOf 9) t2 = some (.int .i64 j):=(hF2 9 (by simp)).trans (by simp [t9'])
  obtain ⟨b1,b2⟩:=Zcc hnd' hlt' (hO.Zkc a (hlt' a (List.mem_of_getElem? ha)))
  simp
  refine AM.wp_region ?_
  simp [g9,g6,hwr]
  refine ⟨ns.length + 1 - (j + 1),by omega,j + 1,by omega,by omega,?_,by simp,Z0f u (kidG ns a),?_,mg2,hg2,b1,b2,hc2⟩
  ·intro y hy
   simp at hy
   simp [hy]
   rw [hF2 y (by simp [hy])]
   simp [hy]
   exact hF y (by simp [hy])
  ·rw [hrun,Zm2 hj ha]
 ·simp [hjl]
  refine AM.wp_exit ?_
  simp
  rw [hrun,Zm1 (by omega)] at q
  refine q _ s' lv' mg' ?_ (by simp [t6']) hg' hc'
  intro y hy
  simp at hy
  simp [hy]
  exact hF y (by simp [hy])
theorem Zmw {roots:List Nat} {Q:AVal→St→Prop} (hwf:s.Wf) (hN:Z1v s nv ns) (hO:GrOk ns) (hmax:ns.length ≤ 1000) (hrv:Z0e s rv (nats roots)) (hrl:roots.length ≤ 1000) (hr:∀ a ∈ roots,a < ns.length)
  (q:∀ lv mg s',Z23 lv (nats (bfsF (kidG ns) ns.length roots)) mg→Ctx s (fun _ => False) mg s'→Q lv s'):Z0c Tryz.prog 109 [nv,rv] s Q:=by
 have hz1:ns.length ≤ Z0g:=by unfold Z0g; omega
 have hrlen:=hrv.len
 rw [List.length_map] at hrlen
 refine Z08 (Z0d (by decide)) fi109 rfl (by decide) rfl ?_
 refine Z00 ?_
 simp
 refine Z00 ?_
 simp [hN.ntup,hN.len,hz1]
 have c1:=(Ctx.start (fun _ => False) hwf).alloc (C (List.replicate ns.length (.bool false)))
 generalize s.alloc (.cells (List.replicate ns.length (.bool false)) false) = s1 at c1 ⊢
 generalize s.next = Bm at c1 ⊢
 have hm0:List.replicate ns.length (AVal.bool false) = metL ns.length []:=by
  refine List.ext_getElem? fun j => ?_
  by_cases hj:j < ns.length
  ·rw [Z61 _ hj,List.getElem?_replicate,if_pos hj]
   simp
  ·rw [List.getElem?_eq_none (by simp; omega),List.getElem?_eq_none (by rw [Z3q]; omega)]
 rw [hm0] at c1
 refine Z00 ?_
 simp
 refine AM.wp_seq ?_
 refine Z00 ?_
 simp [hrv.ntup,hrlen]
 refine AM.wp_block ?_
 refine AM.wp_loop (fun k t s' => ∃ (j:Nat) (lv:AVal) (mg:Lets),j ≤ roots.length∧k = roots.length - j∧PT.get (posOf 0) t = some nv∧PT.get (posOf 5) t = some (.slice Bm 0 ns.length (.lim ns.length))∧PT.get (posOf 6) t = some lv∧PT.get (posOf 15) t = some rv∧PT.get (posOf 16) t = some (.int .i64 roots.length)∧PT.get (posOf 17) t = some (.int .i64 j) ∧
   Z23 lv (nats (bfsF (kidG ns) ns.length (roots.take j))) mg∧Ctx s (fun _ => False) ((Bm,C (metL ns.length (bfsF (kidG ns) ns.length (roots.take j)))) :: mg) s') roots.length
  ⟨0,.nilSlice,[],by simp,by simp,by simp,by simp,by simp,by simp,by simp,by simp,.inl ⟨by simp [bfsF],rfl,rfl⟩,by simpa [bfsF] using c1⟩ ?_
 rintro k t s' ⟨j,lv,mg,hj,rfl,t0',t5,t6,t15,t16,t17,hg,hc⟩
 refine Z00 ?_
 simp [t16,t17]
 refine AM.wp_seq ?_
 refine AM.Z04 ?_
 by_cases hlt:j < roots.length
 ·have hwr:IntKind.wrap .i64 ((j:Int) + 1) = ((j + 1:Nat):Int):=by rw [IntWalk.i64_in _ (by omega)]; omega
  obtain ⟨a,ha⟩:∃ a,roots[j]? = some a:=⟨_,List.getElem?_eq_getElem hlt⟩
  have han:=hr a (List.mem_of_getElem? ha)
  rcases hrv.keep hc.Z0m with ⟨_,h0⟩ | ⟨b,o,c,cells,rfl,hb,hcs,hle,hel⟩
  ·have:roots = []:=by simpa using h0
   rw [this] at hlt
   simp at hlt
  have hgk:=hel j (a:Int) (by rw [List.getElem?_map,ha]; rfl)
  rw [List.length_map] at t15
  have hgl:=hg.len
  rw [List.length_map] at hgl
  obtain ⟨f1,f2,_⟩:=Zdy (n:=ns.length) hO.Zkc (roots.take j) (fun x hx => hr x (List.mem_of_mem_take hx))
  have hful:=Z34 f1 f2
  have hmet:=Z61 (bfsF (kidG ns) ns.length (roots.take j)) han
  have hnx:bfsF (kidG ns) ns.length (roots.take (j + 1)) = runB (kidG ns) (ns.length + 1 - (bfsF (kidG ns) ns.length (roots.take j)).length) (addN (bfsF (kidG ns) ns.length (roots.take j)) a) (bfsF (kidG ns) ns.length (roots.take j)).length:=by
   unfold bfsF
   rw [List.take_add_one,ha,List.foldl_append]
   rfl
  generalize hv:bfsF (kidG ns) ns.length (roots.take j) = v at hg hc hgl f1 f2 hful hmet hnx
  simp [hlt]
  refine AM.wp_skip ?_
  simp
  refine AM.wp_seq ?_
  refine AM.wp_block ?_
  refine Z00 ?_
  simp [t15,t17,hlt,hcs,hgk]
  refine Z00 ?_
  simp [t6,hg.ntup,hgl]
  refine AM.wp_seq ?_
  refine Z00 ?_
  simp [t5,han,hc.c 0 rfl,hmet]
  refine AM.Z04 ?_
  by_cases hm:a ∈ v
  ·have hadd:addN v a = v:=by unfold addN; rw [if_pos hm]
   rw [hadd] at hnx
   simp [hm]
   refine AM.wp_skip ?_
   simp
   refine Zq8 (i:=v.length) hN hO hmax hg f1 f2 hful hc (by simp [t0']) (by simp [t5]) (by simp [t6]) (by simp) fun t2 s2 lv2 mg2 hF2 g6 hg2 hc2 => ?_
   rw [← hnx] at hg2 hc2
   have g17:PT.get (posOf 17) t2 = some (.int .i64 j):=(hF2 17 (by simp)).trans (by simp [t17])
   simp
   refine AM.wp_region ?_
   simp [g17,g6,hwr]
   refine ⟨roots.length - (j + 1),by omega,j + 1,by omega,by omega,?_,?_,?_,?_,rfl,mg2,hg2,hc2⟩
   ·rw [hF2 0 (by simp)]; simp [t0']
   ·rw [hF2 5 (by simp)]; simp [t5]
   ·rw [hF2 15 (by simp)]; simp [t15]
   ·rw [hF2 16 (by simp)]; simp [t16]
  ·have hadd:addN v a = v ++ [a]:=by unfold addN; rw [if_neg hm]
   have hset:=Ze8 han hm
   have hle5:a + 1 ≤ (metL ns.length v).length:=by rw [Z3q]; omega
   have hnd2:=Z95 (k:=a) f1
   have hlt2:=Zde f2 han
   simp [lay] at hset
   simp [hm]
   refine AM.wp_seq ?_
   refine AM.wp_region ?_
   simp [t5,han,hc.o 0 rfl,hle5]
   rw [hset]
   have d1:=hc.put 0 rfl (C (metL ns.length (addN v a)))
   simp only [List.set_cons_zero] at d1
   generalize s'.put Bm (.cells (metL ns.length (addN v a)) false) = s2 at d1 ⊢
   refine AM.wp_region ?_
   simp [t6,hg.ntup,Z20,srcP]
   have d2:=d1.alloc (C [.int .i64 a])
   generalize s2.alloc (.cells [.int .i64 a] false) = s3 at d2 ⊢
   generalize s2.next = T at d2 ⊢
   refine Z6w (pre:=[(T,C [.int .i64 a]),(Bm,C (metL ns.length (addN v a)))]) (r:=[]) (by simpa using d2) hg (by simp; omega) fun lv2 mg2 s4 hg2 d3 => ?_
   simp only [List.cons_append,List.nil_append,List.append_nil] at d3
   have hg2':Z23 lv2 (nats (addN v a)) mg2:=by
    rw [hadd]
    simpa using hg2
   refine Zq8 (i:=v.length) hN hO hmax hg2' hnd2 hlt2 hful d3.tail (by simp [t0']) (by simp [t5]) (by simp) (by simp) fun t2 s5 lv5 mg5 hF2 g6 hg5 hc5 => ?_
   rw [← hnx] at hg5 hc5
   have g17:PT.get (posOf 17) t2 = some (.int .i64 j):=(hF2 17 (by simp)).trans (by simp [t17])
   simp
   refine AM.wp_region ?_
   simp [g17,g6,hwr]
   refine ⟨roots.length - (j + 1),by omega,j + 1,by omega,by omega,?_,?_,?_,?_,rfl,mg5,hg5,hc5⟩
   ·rw [hF2 0 (by simp)]; simp [t0']
   ·rw [hF2 5 (by simp)]; simp [t5]
   ·rw [hF2 15 (by simp)]; simp [t15]
   ·rw [hF2 16 (by simp)]; simp [t16]
 ·simp [hlt]
  refine AM.wp_exit ?_
  simp
  have hje:j = roots.length:=by omega
  subst hje
  rw [List.take_length] at hg hc
  refine Z00 ?_
  simp [t6,hg.ntup]
  refine AM.wp_ret ?_
  simp
  exact q lv mg s' hg hc.tail
end
theorem Zwl {fr:FI} {s0 s:St} {t0:PT AVal} {p Bn Bk:Pos} {nds:List (List UInt8 × List Int)} {nd:List UInt8 × List Int} {a:Nat} {now:List Int} {c0 c1:Cap} {Q:Ex→PT AVal→St→Prop}
  (hN:NodesG s0 p nds) (hk0:Keeps s0 s) (hnd:nds[a]? = some nd) (h4:nd.2.length ≤ 4) (hin:∀ k ∈ nd.2,0 ≤ k∧k < nds.length) (hlen:now.length = nds.length)
  (h0:PT.get (posOf 0) t0 = some (.slice p 0 nds.length c0)) (h11:PT.get (posOf 12) t0 = some (.int .i64 a)) (h5:PT.get (posOf 6) t0 = some (.slice Bn 0 nds.length c1)) (h12:PT.get (posOf 13) t0 = some (.ptr Bk 0))
  (hBn:s.cells Bn = some (now.map fun k => .int .i64 k)) (hob:s.Old Bn) (hne:Bn ≠ Bk) (hBk:s.own Bk = some (sgK now nd 0).cells) (hoBk:s.Old Bk) (hfr:¬ s0.Old Bk)
  (q:∀ t s',Fr [14,15,56,57,58,59] t0 t→Same [Bk] s s'→s'.own Bk = some (sgK now nd 4).cells→Q .normal t s'):wp Tryz.prog Zqg fr t0 s Q:=by
 have hf:∀ b ∈ [Bk],¬ s0.Old b:=by simpa using hfr
 obtain ⟨cs,hcs,hle,hel⟩:=(hN.keep hk0).ex
 obtain ⟨hel0,kv,hel1,hkv⟩:=hel a nd hnd
 have ha:a < nds.length:=(List.getElem?_eq_some_iff.1 hnd).1
 have hkv0:Z0e s0 kv nd.2:=by
  obtain ⟨cs0,hcs0,_,hel00⟩:=hN.ex
  have e:cs0 = cs:=by
   have:=hk0.cells hN.old
   rw [hcs,hcs0] at this
   exact (Option.some.inj this).symm
  subst e
  obtain ⟨_,kv',h1,h2⟩:=hel00 a nd hnd
  rw [hel1] at h1
  cases h1
  exact h2
 refine Z00 ?_
 simp [h0,h11,ha,hcs,hel1,hkv.len]
 refine AM.wp_block ?_
 refine AM.wp_loop (fun m t s' => ∃ i:Nat,i ≤ nd.2.length∧m = nd.2.length - i∧Fr [14,15,56,57,58,59] t0 t∧PT.get (posOf 56) t = some kv∧PT.get (posOf 57) t = some (.int .i64 nd.2.length)∧PT.get (posOf 58) t = some (.int .i64 i)∧Same [Bk] s s'∧s'.own Bk = some (sgK now nd i).cells) nd.2.length ⟨0,by simp,by simp,?_,by simp,by simp,by simp,Same.refl _ _,hBk⟩ ?_
 ·intro x hx
  simp at hx
  simp [hx]
 rintro m t s' ⟨i,hi,rfl,hF,t55,t56,t57,hS,hO⟩
 refine Z00 ?_
 simp [t56,t57]
 refine AM.wp_seq ?_
 refine AM.Z04 ?_
 by_cases hlt:i < nd.2.length
 ·obtain ⟨k,hk⟩:∃ k,nd.2[i]? = some k:=⟨_,List.getElem?_eq_getElem hlt⟩
  obtain ⟨hk1,hk2⟩:=hin k (List.mem_of_getElem? hk)
  obtain ⟨x,hx⟩:∃ x,now[k.toNat]? = some x:=⟨_,List.getElem?_eq_getElem (by omega)⟩
  have hwr:IntKind.wrap .i64 ((i:Int) + 1) = ((i + 1:Nat):Int):=by rw [IntWalk.i64_in _ (by omega)]; omega
  have hkeep:Keeps s0 s':=Same.keeps hk0 hS hf
  have hBn':s'.cells Bn = some (now.map fun k => .int .i64 k):=(hS.cells (by simpa using hne) hob).trans hBn
  have hgx:(now.map fun k => AVal.int .i64 k)[k.toNat]? = some (.int .i64 x):=by rw [List.getElem?_map,hx]; rfl
  have hlay:lay (sgK now nd i).cells (2 + i) [.int .i64 x] = (sgK now nd (i + 1)).cells:=Zw2 (nm:=nd.1) (by omega) hk hx
  have hsl:2 + i + 1 ≤ (sgK now nd i).cells.length:=by simp [sgK,Key.cells,Za5]; omega
  have hi4:(i:Int) < 4:=by omega
  simp [lay] at hlay
  have t5:=(hF 6 (by simp)).trans h5
  have t12:=(hF 13 (by simp)).trans h12
  rcases hkv0.keep hkeep with ⟨_,e0⟩ | ⟨b,o,c,ks,rfl,hb,hks,hle2,hel2⟩
  ·rw [e0] at hlt
   simp at hlt
  have hg:=hel2 i k hk
  simp [hlt]
  refine AM.wp_skip ?_
  simp
  refine AM.wp_seq ?_
  refine AM.wp_block ?_
  refine Z00 ?_
  simp [t55,t57,hlt,hks,hg]
  refine AM.wp_region ?_
  simp [t5,t12,hk1,hk2,hBn',hgx,hO]
  refine ⟨hi4,hsl,?_⟩
  rw [hlay]
  refine AM.wp_region ?_
  simp [t57,hwr]
  refine ⟨nd.2.length - (i + 1),by omega,i + 1,by omega,by omega,?_,by simp [t55],by simp [t56],by simp,?_,by simp⟩
  ·intro y hy
   simp at hy
   simp [hy]
   exact hF y (by simp [hy])
  ·exact hS.put _ (by simp) (hS.old hoBk)
 ·simp [hlt]
  refine AM.wp_exit ?_
  simp
  have hie:i = nd.2.length:=by omega
  subst hie
  refine q _ s' ?_ hS ?_
  ·intro y hy
   simp at hy
   simp [hy]
   exact hF y (by simp [hy])
  ·rw [hO]
   unfold sgK
   rw [Zoy now nd.2 (Nat.le_refl _) h4]
theorem Zwk {fr:FI} {s:St} {t0:PT AVal} {Bx:Pos} {n:Nat} {c2:Cap} {Q:Ex→PT AVal→St→Prop} (hw:s.Wf) (hn:n ≤ 1000)
  (h7:PT.get (posOf 8) t0 = some (.slice Bx 0 n c2)) (hBx:s.own Bx = some ((List.replicate n (0:Int)).map fun k => .int .i64 k))
  (q:∀ t s',Fr [9,25,26,27] t0 t→Same [Bx] s s'→s'.own Bx = some ((List.replicate n (-1:Int)).map fun k => .int .i64 k)→Q .normal t s'):wp Tryz.prog Zqd fr t0 s Q:=by
 have hoX:s.Old Bx:=Z09 hw hBx
 refine Z00 ?_
 simp [h7]
 refine AM.wp_block ?_
 refine AM.wp_loop (fun m t s' => ∃ i:Nat,i ≤ n∧m = n - i∧Fr [9,25,26,27] t0 t∧PT.get (posOf 25) t = some (.int .i64 n)∧PT.get (posOf 26) t = some (.int .i64 i)∧Same [Bx] s s' ∧
  s'.own Bx = some (List.replicate i (.int .i64 (-1)) ++ List.replicate (n - i) (.int .i64 0))) n ⟨0,by simp,by simp,?_,by simp,by simp,Same.refl _ _,?_⟩ ?_
 ·intro y hy
  simp at hy
  simp [hy]
 ·simpa using hBx
 rintro m t s' ⟨i,hi,rfl,hF,t24,t25,hS,hX⟩
 refine Z00 ?_
 simp [t24,t25]
 refine AM.wp_seq ?_
 refine AM.Z04 ?_
 by_cases hlt:i < n
 ·have hwr:IntKind.wrap .i64 ((i:Int) + 1) = ((i + 1:Nat):Int):=by rw [IntWalk.i64_in _ (by omega)]; omega
  have t7:=(hF 8 (by simp)).trans h7
  have hle:i + 1 ≤ i + (n - i):=by omega
  simp [hlt]
  refine AM.wp_skip ?_
  simp
  refine AM.wp_seq ?_
  refine AM.wp_block ?_
  refine Z00 ?_
  simp [t25]
  refine AM.wp_region ?_
  simp [t7,hlt,hX,hle,Zic]
  refine AM.wp_region ?_
  simp [t25,hwr]
  refine ⟨n - (i + 1),by omega,i + 1,by omega,by omega,?_,by simp [t24],by simp,hS.put _ (by simp) (hS.old hoX),?_⟩
  ·intro y hy
   simp at hy
   simp [hy]
   exact hF y (by simp [hy])
  ·rw [Zid]
 ·simp [hlt]
  refine AM.wp_exit ?_
  simp
  have hie:i = n:=by omega
  subst hie
  refine q _ s' ?_ hS (by simpa using hX)
  intro y hy
  simp at hy
  simp [hy]
  exact hF y (by simp [hy])
theorem Zwj {fr:FI} {s0 s:St} {t0:PT AVal} {p Bn Bx Bm:Pos} {nds:List (List UInt8 × List Int)} {nd:List UInt8 × List Int} {a:Nat} {now nxt:List Int} {c0 c1 c2:Cap} {D:List Key} {Q:Ex→PT AVal→St→Prop}
  (hN:NodesG s0 p nds) (hk0:Keeps s0 s) (hw:s.Wf) (hnd:nds[a]? = some nd) (h4:nd.2.length ≤ 4) (hin:∀ k ∈ nd.2,0 ≤ k∧k < nds.length) (hlen:now.length = nds.length) (hlx:nxt.length = nds.length)
  (h0:PT.get (posOf 0) t0 = some (.slice p 0 nds.length c0)) (h11:PT.get (posOf 12) t0 = some (.int .i64 a)) (h5:PT.get (posOf 6) t0 = some (.slice Bn 0 nds.length c1)) (h7:PT.get (posOf 8) t0 = some (.slice Bx 0 nds.length c2)) (h9:PT.get (posOf 10) t0 = some (.map Bm))
  (hBn:s.cells Bn = some (now.map fun k => .int .i64 k)) (hob:s.Old Bn) (hBx:s.own Bx = some (nxt.map fun k => .int .i64 k)) (hBm:s.obj Bm = some (.map (Z1g 0 D) D.length)) (hD:∀ d ∈ D,d.2.length = 5)
  (hnx:Bn ≠ Bx) (hnm:Bn ≠ Bm) (hxm:Bx ≠ Bm) (hfx:¬ s0.Old Bx) (hfm:¬ s0.Old Bm)
  (q:∀ t s',Fr [12,13,14,15,16,17,40,41,42,43,44,45,46,47,48,49,50,51,56,57,58,59,78] t0 t→Same [Bx,Bm] s s' →
   s'.own Bx = some ((nxt.set a ((addK D (sgK now nd 4)).idxOf (sgK now nd 4):Nat)).map fun k => .int .i64 k)→s'.obj Bm = some (.map (Z1g 0 (addK D (sgK now nd 4))) (addK D (sgK now nd 4)).length)→Q .normal t s'):wp Tryz.prog Zqf fr t0 s Q:=by
 obtain ⟨cs,hcs,hle,hel⟩:=(hN.keep hk0).ex
 obtain ⟨hel0,kv,hel1,hkv⟩:=hel a nd hnd
 have ha:a < nds.length:=(List.getElem?_eq_some_iff.1 hnd).1
 have hoX:s.Old Bx:=Z09 hw hBx
 have hoM:s.Old Bm:=Z3c hw hBm
 refine Z00 ?_
 simp [h0,h11,ha,hcs,hel0,hel1,hkv.len,hw]
 have hK1:Keeps s ((s.alloc (.cells [.str [],.int .i64 0,.int .i64 0,.int .i64 0,.int .i64 0,.int .i64 0] false)).put s.next (.cells [.str nd.1,.int .i64 nd.2.length,.int .i64 0,.int .i64 0,.int .i64 0,.int .i64 0] false)) :=
  (Keeps.alloc _ _).put _ (Z0b _) (Z1b _ _)
 have hoK:((s.alloc (.cells [.str [],.int .i64 0,.int .i64 0,.int .i64 0,.int .i64 0,.int .i64 0] false)).put s.next (.cells [.str nd.1,.int .i64 nd.2.length,.int .i64 0,.int .i64 0,.int .i64 0,.int .i64 0] false)).Old s.next:=Zgr.2 (Z1b _ _)
 have hwK:((s.alloc (.cells [.str [],.int .i64 0,.int .i64 0,.int .i64 0,.int .i64 0,.int .i64 0] false)).put s.next (.cells [.str nd.1,.int .i64 nd.2.length,.int .i64 0,.int .i64 0,.int .i64 0,.int .i64 0] false)).own s.next = some (sgK now nd 0).cells:=Z81 _ _ _
 generalize (s.alloc (.cells [.str [],.int .i64 0,.int .i64 0,.int .i64 0,.int .i64 0,.int .i64 0] false)).put s.next (.cells [.str nd.1,.int .i64 nd.2.length,.int .i64 0,.int .i64 0,.int .i64 0,.int .i64 0] false) = S1 at hK1 hoK hwK ⊢
 have hfk:¬ s0.Old s.next:=fun h => Z0b s (hk0.old h)
 have hnk:Bn ≠ s.next:=ne_next hob
 have hxk:Bx ≠ s.next:=ne_next hoX
 have hmk:Bm ≠ s.next:=ne_next hoM
 have hsk:¬ s.Old s.next:=Z0b s
 generalize s.next = Bk at hoK hwK hfk hnk hxk hmk hsk ⊢
 refine AM.wp_seq ?_
 refine Zwl (c0:=c0) (c1:=c1) (Bn:=Bn) (Bk:=Bk) hN (hk0.trans hK1) hnd h4 hin hlen (by simp [h0]) (by simp [h11]) (by simp [h5]) (by simp) ((hK1.cells hob).trans hBn) (hK1.old hob) hnk hwK hoK hfk fun t2 s2 hF2 hS2 hO2 => ?_
 have hX2:s2.own Bx = some (nxt.map fun k => .int .i64 k):=((hS2.own (by simpa using hxk) (hK1.old hoX)).trans (hK1.own hoX)).trans hBx
 have hM2:s2.obj Bm = some (.map (Z1g 0 D) D.length):=((hS2.obj Bm (by simpa using hmk) (hK1.old hoM)).trans (hK1.obj Bm hoM)).trans hBm
 have g9:PT.get (posOf 10) t2 = some (.map Bm):=(hF2 10 (by simp)).trans (by simp [h9])
 have g12:PT.get (posOf 13) t2 = some (.ptr Bk 0):=(hF2 13 (by simp)).trans (by simp)
 have g7:PT.get (posOf 8) t2 = some (.slice Bx 0 nds.length c2):=(hF2 8 (by simp)).trans (by simp [h7])
 have g11:PT.get (posOf 12) t2 = some (.int .i64 a):=(hF2 12 (by simp)).trans (by simp [h11])
 have hwf2:s2.Wf:=hS2.wf (hK1.wf hw)
 have hoX2:s2.Old Bx:=hS2.old (hK1.old hoX)
 have hoM2:s2.Old Bm:=hS2.old (hK1.old hoM)
 have hl6:(sgK now nd 4).cells.length = 6:=by simp [sgK,Key.cells,Za5]
 have ht6:(sgK now nd 4).cells.take 6 = (sgK now nd 4).cells:=List.take_of_length_le (by omega)
 have hk5:(sgK now nd 4).2.length = 5:=by simp [sgK,Za5]
 have hSa:Same [Bx,Bm] s s2:=⟨fun b hb ho => (hS2.obj b (by intro hm; simp at hm; subst hm; exact hsk ho) (hK1.old ho)).trans (hK1.obj b ho),Nat.le_trans hK1.next hS2.next,fun h => hwf2⟩
 have hcB:=Z0a hO2
 have fin:∀ (t3:PT AVal) (s3:St),Fr [12,13,14,15,16,17,40,41,42,43,44,45,46,47,48,49,50,51,56,57,58,59,78] t0 t3→PT.get (posOf 16) t3 = some (.int .i64 ((addK D (sgK now nd 4)).idxOf (sgK now nd 4):Nat))→Same [Bx,Bm] s s3 →
   s3.own Bx = some (nxt.map fun k => .int .i64 k)→s3.obj Bm = some (.map (Z1g 0 (addK D (sgK now nd 4))) (addK D (sgK now nd 4)).length)→PT.get (posOf 12) t3 = some (.int .i64 a)→wp Tryz.prog Zqh fr t3 s3 Q:=by
  intro t3 s3 hF3 f16 hS3 hX3 hM3 f12
  have f8:PT.get (posOf 8) t3 = some (.slice Bx 0 nds.length c2):=(hF3 8 (by simp)).trans h7
  refine AM.wp_region ?_
  have hlay:=Z5z nxt a ((addK D (sgK now nd 4)).idxOf (sgK now nd 4):Nat) (by omega)
  have hax:a + 1 ≤ nxt.length:=by omega
  simp [lay] at hlay
  simp [f8,f12,f16,ha,hX3,hax]
  refine q t3 _ hF3 (hS3.put _ (by simp) (hS3.old hoX)) ?_ ?_
  ·rw [hlay]
   simp
  ·rw [Z42 (fun e => hxm e.symm)]
   exact hM3
 have hF2':∀ y,y ∉ [12,13,14,15,16,17,40,41,42,43,44,45,46,47,48,49,50,51,56,57,58,59,78]→PT.get (posOf y) t2 = PT.get (posOf y) t0:=by
  intro y hy
  simp at hy
  rw [hF2 y (by simp [hy])]
  simp [hy]
 simp
 refine AM.wp_seq ?_
 refine AM.wp_region ?_
 simp [g9,g12,hcB,hl6,ht6]
 refine Ze7 (w:=5) hM2 hk5 hD (fun hm => ?_) (fun hm => ?_)
 ·have e:addK D (sgK now nd 4) = D:=if_pos hm
  simp
  refine AM.wp_seq ?_
  refine Z00 ?_
  simp
  refine AM.Z04 ?_
  simp
  refine AM.wp_skip ?_
  simp
  refine fin _ s2 ?_ (by rw [e]; simp) hSa hX2 (by rw [e]; exact hM2) (by simp [g11])
  intro y hy
  have h1:=hF2' y hy
  simp at hy
  simp [hy]
  exact h1
 ·have e:addK D (sgK now nd 4) = D ++ [sgK now nd 4]:=if_neg hm
  have hidx:(D ++ [sgK now nd 4]).idxOf (sgK now nd 4) = D.length:=by rw [List.idxOf_append,if_neg hm]; simp
  simp
  refine AM.wp_seq ?_
  refine Z00 ?_
  simp
  refine AM.Z04 ?_
  simp
  refine Z00 ?_
  simp [g9]
  refine Z7y hM2 ?_
  rw [entsFrom_len]
  refine AM.wp_region ?_
  simp [g9,g12,hcB,hl6,ht6]
  refine Zm4 (w:=5) hM2 hk5 hD hm ?_
  simp
  refine fin _ _ ?_ (by rw [e,hidx]; simp) (hSa.put _ (by simp) hoM2) ?_ ?_ (by simp [g11])
  ·intro y hy
   have h1:=hF2' y hy
   simp at hy
   simp [hy]
   exact h1
  ·rw [Z5r hxm]
   exact hX2
  ·rw [e]
   simp
theorem Zwm {fr:FI} {s0 s:St} {t0:PT AVal} {p Bn Bx Bm:Pos} {nds:List (List UInt8 × List Int)} {now:List Int} {c0 c1 c2:Cap} {Lv:AVal} {L:List Nat} {Q:Ex→PT AVal→St→Prop}
  (hN:NodesG s0 p nds) (hk0:Keeps s0 s) (hw:s.Wf) (hL:Z0e s0 Lv (L.map fun (a:Nat) => (a:Int))) (hLn:∀ a ∈ L,a < nds.length) (hLl:L.length ≤ 1000)
  (hkids:∀ (a:Nat) nd,nds[a]? = some nd→nd.2.length ≤ 4∧∀ k ∈ nd.2,0 ≤ k∧k < nds.length) (hlen:now.length = nds.length)
  (h0:PT.get (posOf 0) t0 = some (.slice p 0 nds.length c0)) (h1:PT.get (posOf 1) t0 = some Lv) (h5:PT.get (posOf 6) t0 = some (.slice Bn 0 nds.length c1)) (h7:PT.get (posOf 8) t0 = some (.slice Bx 0 nds.length c2)) (h9:PT.get (posOf 10) t0 = some (.map Bm))
  (hBn:s.cells Bn = some (now.map fun k => .int .i64 k)) (hob:s.Old Bn) (hBx:s.own Bx = some ((List.replicate nds.length (-1)).map fun k => .int .i64 k)) (hBm:s.obj Bm = some (.map [] 0))
  (hnx:Bn ≠ Bx) (hnm:Bn ≠ Bm) (hxm:Bx ≠ Bm) (hfx:¬ s0.Old Bx) (hfm:¬ s0.Old Bm)
  (q:∀ t s',Fr [12,13,14,15,16,17,34,35,36,37,40,41,42,43,44,45,46,47,48,49,50,51,56,57,58,59,78] t0 t→Same [Bx,Bm] s s' →
   s'.own Bx = some ((Z0q now nds L).2.map fun k => .int .i64 k)→s'.obj Bm = some (.map (Z1g 0 (Z0q now nds L).1) (Z0q now nds L).1.length)→Q .normal t s'):wp Tryz.prog Zqe fr t0 s Q:=by
 have hoX:s.Old Bx:=Z09 hw hBx
 have hoM:s.Old Bm:=Z3c hw hBm
 have hLlen:=(hL.keep hk0).len
 have hLt:=hL.ntup
 simp at hLlen
 have hf:∀ b ∈ [Bx,Bm],¬ s0.Old b:=by
  intro b hb
  simp at hb
  rcases hb with rfl | rfl
  ·exact hfx
  ·exact hfm
 refine Z00 ?_
 simp [h1,hLlen]
 refine AM.wp_block ?_
 refine AM.wp_loop (fun m t s' => ∃ i:Nat,i ≤ L.length∧m = L.length - i∧Fr [12,13,14,15,16,17,34,35,36,37,40,41,42,43,44,45,46,47,48,49,50,51,56,57,58,59,78] t0 t∧PT.get (posOf 34) t = some Lv∧PT.get (posOf 35) t = some (.int .i64 L.length)∧PT.get (posOf 36) t = some (.int .i64 i)∧Same [Bx,Bm] s s' ∧
  s'.own Bx = some ((Z0q now nds (L.take i)).2.map fun k => .int .i64 k)∧s'.obj Bm = some (.map (Z1g 0 (Z0q now nds (L.take i)).1) (Z0q now nds (L.take i)).1.length)) L.length ⟨0,by simp,by simp,?_,by simp,by simp,by simp,Same.refl _ _,?_,?_⟩ ?_
 ·intro y hy
  simp at hy
  simp [hy]
 ·simpa [Z0q] using hBx
 ·simpa [Z0q,Z1g] using hBm
 rintro m t s' ⟨i,hi,rfl,hF,t33,t34,t35,hS,hX,hM⟩
 refine Z00 ?_
 simp [t34,t35]
 refine AM.wp_seq ?_
 refine AM.Z04 ?_
 by_cases hlt:i < L.length
 ·obtain ⟨a,ha⟩:∃ a,L[i]? = some a:=⟨_,List.getElem?_eq_getElem hlt⟩
  have han:a < nds.length:=hLn a (List.mem_of_getElem? ha)
  obtain ⟨nd,hnd⟩:∃ nd,nds[a]? = some nd:=⟨_,List.getElem?_eq_getElem han⟩
  obtain ⟨h4,hin⟩:=hkids a nd hnd
  have hwr:IntKind.wrap .i64 ((i:Int) + 1) = ((i + 1:Nat):Int):=by rw [IntWalk.i64_in _ (by omega)]; omega
  have hkeep:Keeps s0 s':=Same.keeps hk0 hS hf
  have hal:(L.map fun (a:Nat) => (a:Int))[i]? = some (a:Int):=by rw [List.getElem?_map,ha]; rfl
  have hkey:keyA now nds a = sgK now nd 4:=by unfold keyA; rw [hnd]
  have htk:L.take (i + 1) = L.take i ++ [a]:=by
   rw [List.take_add_one,ha]
   rfl
  have hrd:Z0q now nds (L.take (i + 1)) = Z5a now nds (Z0q now nds (L.take i)) a:=by
   unfold Z0q
   rw [htk,List.foldl_append]
   rfl
  rcases hL.keep hkeep with ⟨_,e0⟩ | ⟨b,o,c,ks,rfl,hb,hks,hle2,hel2⟩
  ·have:(L.map fun (a:Nat) => (a:Int)).length = 0:=by rw [e0]; rfl
   rw [List.length_map] at this
   omega
  have hg:=hel2 i a hal
  simp at t33
  simp [hlt]
  refine AM.wp_skip ?_
  simp
  refine AM.wp_seq ?_
  refine AM.wp_block ?_
  refine Z00 ?_
  simp [t33,t35,hlt,hks,hg]
  refine Zwj (c0:=c0) (c1:=c1) (c2:=c2) (D:=(Z0q now nds (L.take i)).1) (nxt:=(Z0q now nds (L.take i)).2) hN hkeep (hS.wf hw) hnd h4 hin hlen ?_ ?_ ?_ ?_ ?_ ?_ ((hS.cells (by simp [hnx,hnm]) hob).trans hBn) (hS.old hob) hX hM ?_ hnx hnm hxm hfx hfm fun t2 s2 hF2 hS2 hX2 hM2 => ?_
  ·rw [Z0q,Zbk]
   simp
  ·simp
   exact (hF 0 (by simp)).trans h0
  ·simp
  ·simp
   exact (hF 6 (by simp)).trans h5
  ·simp
   exact (hF 8 (by simp)).trans h7
  ·simp
   exact (hF 10 (by simp)).trans h9
  ·exact Zdb _ _ (fun a ha => hLn a (List.mem_of_mem_take ha)) (by simp)
  have g33:PT.get (posOf 34) t2 = some (.slice b o L.length c):=(hF2 34 (by simp)).trans (by simp [t33])
  have g34:PT.get (posOf 35) t2 = some (.int .i64 L.length):=(hF2 35 (by simp)).trans (by simp [t34])
  have g35:PT.get (posOf 36) t2 = some (.int .i64 i):=(hF2 36 (by simp)).trans (by simp [t35])
  simp
  refine AM.wp_region ?_
  simp [g35,hwr]
  refine ⟨L.length - (i + 1),by omega,i + 1,by omega,by omega,?_,by simp [g33],by simp [g34],by simp,hS.trans hS2,?_,?_⟩
  ·intro y hy
   simp at hy
   simp [hy]
   rw [hF2 y (by simp [hy])]
   simp [hy]
   exact hF y (by simp [hy])
  ·rw [hrd,hX2,← hkey]
   rfl
  ·rw [hrd,hM2,← hkey]
   rfl
 ·simp [hlt]
  refine AM.wp_exit ?_
  simp
  have hie:i = L.length:=by omega
  subst hie
  rw [List.take_length] at hX hM
  refine q _ s' ?_ hS hX hM
  intro y hy
  simp at hy
  simp [hy]
  exact hF y (by simp [hy])
def cnA (nds:List (List UInt8 × List Int)) (L:List Nat):Nat→Nat
 | 0 => 1
 | r + 1 => cntI nds L (r + 1)
theorem Zpc {s:St} {p:Pos} {nds:List (List UInt8 × List Int)} {c0:Cap} {Lv:AVal} {L:List Nat} {R:Nat} {Q:AVal→St→Prop}
  (hw:s.Wf) (hN:NodesG s p nds) (hn:nds.length ≤ 1000) (hL:Z0e s Lv (L.map fun (a:Nat) => (a:Int))) (hLn:∀ a ∈ L,a < nds.length) (hLl:L.length ≤ 1000)
  (hkids:∀ (a:Nat) nd,nds[a]? = some nd→nd.2.length ≤ 4∧∀ k ∈ nd.2,0 ≤ k∧k < nds.length)
  (hR:∀ r,r < R→cntI nds L (r + 1) ≠ cnA nds L r) (hE:cntI nds L (R + 1) = cnA nds L R)
  (q:∀ Bx s',Keeps s s'→¬ s.Old Bx→s'.own Bx = some ((nowI nds L (R + 1)).map fun k => .int .i64 k)→Q (.tup [.slice Bx 0 nds.length (.lim nds.length),.int .i64 (cntI nds L (R + 1):Nat)]) s'):Z0c Tryz.prog 110 [.slice p 0 nds.length c0,Lv] s Q:=by
 have hLt:=hL.ntup
 refine Z08 (Z0d (by decide)) fi110 rfl (by decide) rfl ?_
 refine Z00 ?_
 simp
 refine Z00 ?_
 have hs1:nds.length * 8 ≤ Z0g:=by unfold Z0g; omega
 have hs2:nds.length ≤ Z0g:=by unfold Z0g; omega
 simp [hs1,hs2]
 have hK1:Keeps s (s.alloc (.cells (List.replicate nds.length (.int .i64 0)) false)):=Keeps.alloc _ _
 have hX1:(s.alloc (.cells (List.replicate nds.length (.int .i64 0)) false)).own s.next = some ((nowI nds L 0).map fun k => .int .i64 k):=by simp [nowI]
 have hf1:¬ s.Old s.next:=Z0b s
 have ho1:(s.alloc (.cells (List.replicate nds.length (.int .i64 0)) false)).Old s.next:=Z1b _ _
 generalize s.alloc (.cells (List.replicate nds.length (.int .i64 0)) false) = s1 at hK1 hX1 ho1 ⊢
 generalize s.next = B1 at hX1 hf1 ho1 ⊢
 refine Z00 ?_
 simp
 refine AM.wp_block ?_
 refine AM.wp_loop (fun m t s' => ∃ (r:Nat) (Bn:Pos),r ≤ R∧m = R - r∧PT.get (posOf 0) t = some (.slice p 0 nds.length c0)∧PT.get (posOf 1) t = some Lv∧PT.get (posOf 6) t = some (.slice Bn 0 nds.length (.lim nds.length))∧PT.get (posOf 7) t = some (.int .i64 (cnA nds L r:Nat))∧Keeps s s'∧¬ s.Old Bn∧s'.Old Bn ∧
  s'.own Bn = some ((nowI nds L r).map fun k => .int .i64 k)) R ⟨0,B1,by simp,by simp,by simp,by simp,by simp,by simp [cnA],hK1,hf1,ho1,hX1⟩ ?_
 rintro m t s' ⟨r,Bn,hr,rfl,t0,t1,t5,t6,hk,hfn,hon,hXn⟩
 refine AM.wp_block ?_
 refine Z00 ?_
 simp [t0,hs1,hs2]
 have hw':s'.Wf:=hk.wf hw
 have hK2:Keeps s' (s'.alloc (.cells (List.replicate nds.length (.int .i64 0)) false)):=Keeps.alloc _ _
 have hX2:(s'.alloc (.cells (List.replicate nds.length (.int .i64 0)) false)).own s'.next = some ((List.replicate nds.length (0:Int)).map fun k => .int .i64 k):=by simp
 have hfx:¬ s.Old s'.next:=fun h => Z0b s' (hk.old h)
 have hnx:Bn ≠ s'.next:=ne_next hon
 have hfx':¬ s'.Old s'.next:=Z0b s'
 generalize s'.alloc (.cells (List.replicate nds.length (.int .i64 0)) false) = s2 at hK2 hX2 ⊢
 generalize s'.next = Bx at hX2 hfx hnx hfx' ⊢
 have hw2:s2.Wf:=hK2.wf hw'
 refine AM.wp_seq ?_
 refine Zwk (n:=nds.length) (Bx:=Bx) (c2:=.lim nds.length) hw2 hn (by simp) hX2 fun t3 s3 hF3 hS3 hX3 => ?_
 have hw3:s3.Wf:=hS3.wf hw2
 have hk3:Keeps s' s3:=Same.keeps hK2 hS3 (by simpa using hfx')
 have g0:PT.get (posOf 0) t3 = some (.slice p 0 nds.length c0):=(hF3 0 (by simp)).trans (by simp [t0])
 have g1:PT.get (posOf 1) t3 = some Lv:=(hF3 1 (by simp)).trans (by simp [t1])
 have g5:PT.get (posOf 6) t3 = some (.slice Bn 0 nds.length (.lim nds.length)):=(hF3 6 (by simp)).trans (by simp [t5])
 have g6:PT.get (posOf 7) t3 = some (.int .i64 (cnA nds L r:Nat)):=(hF3 7 (by simp)).trans (by simp [t6])
 have g7:PT.get (posOf 8) t3 = some (.slice Bx 0 nds.length (.lim nds.length)):=(hF3 8 (by simp)).trans (by simp)
 simp
 refine Z00 ?_
 simp
 have hK4:Keeps s3 (s3.alloc (.map [] 0)):=Keeps.alloc _ _
 have hM4:(s3.alloc (.map [] 0)).obj s3.next = some (.map [] 0):=Z4x _ _
 have hoX3:s3.Old Bx:=Z09 hw3 hX3
 have hfm:¬ s.Old s3.next:=fun h => Z0b s3 (hk3.old (hk.old h))
 have hnm:Bn ≠ s3.next:=ne_next (hk3.old hon)
 have hxm:Bx ≠ s3.next:=ne_next hoX3
 generalize s3.alloc (.map [] 0) = s4 at hK4 hM4 ⊢
 generalize s3.next = Bm at hM4 hfm hnm hxm ⊢
 have hw4:s4.Wf:=hK4.wf hw3
 have hk4:Keeps s s4:=(hk.trans hk3).trans hK4
 have hX4:s4.own Bx = some ((List.replicate nds.length (-1:Int)).map fun k => .int .i64 k):=(hK4.own hoX3).trans hX3
 have hN4:s4.own Bn = some ((nowI nds L r).map fun k => .int .i64 k):=(hK4.own (hk3.old hon)).trans ((hk3.own hon).trans hXn)
 refine AM.wp_seq ?_
 refine Zwm (p:=p) (Bn:=Bn) (Bx:=Bx) (Bm:=Bm) (c0:=c0) (c1:=.lim nds.length) (c2:=.lim nds.length) (now:=nowI nds L r) (Lv:=Lv) (L:=L) hN hk4 hw4 hL hLn hLl hkids (Z6m nds L r) (by simp [g0]) (by simp [g1]) (by simp [g5]) (by simp [g7]) (by simp) (Z0a hN4) (hK4.old (hk3.old hon)) hX4 hM4 hnx hnm hxm hfx hfm fun t5' s5 hF5 hS5 hX5 hM5 => ?_
 have hk5:Keeps s s5:=Same.keeps hk4 hS5 (by
  intro b hb
  simp at hb
  rcases hb with rfl | rfl
  ·exact hfx
  ·exact hfm)
 have j0:PT.get (posOf 0) t5' = some (.slice p 0 nds.length c0):=(hF5 0 (by simp)).trans (by simp [g0])
 have j1:PT.get (posOf 1) t5' = some Lv:=(hF5 1 (by simp)).trans (by simp [g1])
 have j6:PT.get (posOf 7) t5' = some (.int .i64 (cnA nds L r:Nat)):=(hF5 7 (by simp)).trans (by simp [g6])
 have j7:PT.get (posOf 8) t5' = some (.slice Bx 0 nds.length (.lim nds.length)):=(hF5 8 (by simp)).trans (by simp [g7])
 have j9:PT.get (posOf 10) t5' = some (.map Bm):=(hF5 10 (by simp)).trans (by simp)
 have hcnt:(Z0q (nowI nds L r) nds L).1.length = cntI nds L (r + 1):=rfl
 simp
 refine AM.wp_seq ?_
 refine Z00 ?_
 simp [j9]
 refine Z7y hM5 ?_
 rw [entsFrom_len,hcnt]
 by_cases he:cntI nds L (r + 1) = cnA nds L r
 ·have hrR:r = R:=by
   rcases Nat.lt_or_ge r R with h | h
   ·exact (hR r h he).elim
   ·omega
  subst hrR
  simp [j6,he]
  refine AM.Z04 ?_
  simp
  refine Z00 ?_
  simp [j7,j6]
  refine AM.wp_ret ?_
  simp
  rw [← he]
  exact q Bx s5 hk5 hfx hX5
 ·have hrR:r < R:=by
   rcases Nat.lt_or_ge r R with h | h
   ·exact h
   ·have:r = R:=by omega
    subst this
    exact (he hE).elim
  have he':¬ ((cntI nds L (r + 1):Nat):Int) = (cnA nds L r:Nat):=by omega
  have hcn:cnA nds L (r + 1) = cntI nds L (r + 1):=rfl
  simp [j6,he,he']
  refine AM.Z04 ?_
  simp
  refine AM.wp_skip ?_
  simp
  refine AM.wp_region ?_
  simp [j7,j9]
  refine Z7y hM5 ?_
  rw [entsFrom_len,hcnt]
  simp
  refine ⟨R - (r + 1),by omega,r + 1,by omega,rfl,by simp [j0],by simp [j1],rfl,hk5,hfx,Z09 (hk5.wf hw) hX5,hX5⟩
def Z17 (f:Nat→Key) (D:List Key) (L:List Nat):List Key:=L.foldl (fun D a => addK D (f a)) D
theorem Zck {now:List Int} {nds:List ND}:∀ (L:List Nat) (x:List Key × List Int),(L.foldl (Z5a now nds) x).1 = Z17 (keyA now nds) x.1 L
 | [],x => rfl
 | a :: L,x => by
  rw [List.foldl_cons,Zck L]
  rfl
theorem Zlc {f g:Nat→Key}:∀ (L E:List Nat) (D D':List Key),(∀ a ∈ E ++ L,∀ b ∈ E ++ L,(f a = f b ↔ g a = g b))→D.length = D'.length→(∀ e ∈ E,f e ∈ D∧g e ∈ D'∧D.idxOf (f e) = D'.idxOf (g e))→(∀ k ∈ D,∃ e ∈ E,f e = k)→(∀ k ∈ D',∃ e ∈ E,g e = k) →
  (Z17 f D L).length = (Z17 g D' L).length∧∀ e ∈ E ++ L,(Z17 f D L).idxOf (f e) = (Z17 g D' L).idxOf (g e)
 | [],E,D,D',_,hl,he,_,_ => ⟨hl,fun e h => (he e (by simpa using h)).2.2⟩
 | a :: L,E,D,D',hk,hl,he,hD,hD' => by
  have hmem:f a ∈ D ↔ g a ∈ D':=by
   constructor
   ·intro h
    obtain ⟨e,h1,h2⟩:=hD _ h
    have:=(hk e (by simp [h1]) a (by simp)).1 h2
    rw [← this]
    exact (he e h1).2.1
   ·intro h
    obtain ⟨e,h1,h2⟩:=hD' _ h
    have:=(hk e (by simp [h1]) a (by simp)).2 h2
    rw [← this]
    exact (he e h1).1
  have:=Zlc (f:=f) (g:=g) L (E ++ [a]) (addK D (f a)) (addK D' (g a)) (by simpa using hk) (by
   unfold addK
   by_cases h:f a ∈ D
   ·rw [if_pos h,if_pos (hmem.1 h)]
    exact hl
   ·rw [if_neg h,if_neg (fun h' => h (hmem.2 h'))]
    simp [hl]) (by
   intro e h
   rcases List.mem_append.1 h with h | h
   ·obtain ⟨h1,h2,h3⟩:=he e h
    exact ⟨Zdu h1,Zdu h2,by rw [Zdt h1,Zdt h2,h3]⟩
   ·simp at h
    subst h
    refine ⟨Zby _ _,Zby _ _,?_⟩
    unfold addK
    by_cases h:f e ∈ D
    ·rw [if_pos h,if_pos (hmem.1 h)]
     obtain ⟨e',h1,h2⟩:=hD _ h
     have h3:=(hk e' (by simp [h1]) e (by simp)).1 h2
     rw [← h2,← h3]
     exact (he e' h1).2.2
    ·rw [if_neg h,if_neg (fun h' => h (hmem.2 h')),List.idxOf_append,if_neg h,List.idxOf_append,if_neg (fun h' => h (hmem.2 h'))]
     simp [hl]) (by
   intro k hk'
   unfold addK at hk'
   split at hk'
   ·obtain ⟨e,h1,h2⟩:=hD k hk'
    exact ⟨e,by simp [h1],h2⟩
   ·rcases List.mem_append.1 hk' with h | h
    ·obtain ⟨e,h1,h2⟩:=hD k h
     exact ⟨e,by simp [h1],h2⟩
    ·simp at h
     exact ⟨a,by simp,h.symm⟩) (by
   intro k hk'
   unfold addK at hk'
   split at hk'
   ·obtain ⟨e,h1,h2⟩:=hD' k hk'
    exact ⟨e,by simp [h1],h2⟩
   ·rcases List.mem_append.1 hk' with h | h
    ·obtain ⟨e,h1,h2⟩:=hD' k h
     exact ⟨e,by simp [h1],h2⟩
    ·simp at h
     exact ⟨a,by simp,h.symm⟩)
  simpa [Z17] using this
section
variable {nds:List ND} {L:List Nat} (hC:Closed nds L)
include hC
theorem Zxf {r1 r2:Nat} (h:∀ a ∈ L,∀ b ∈ L,(sim nds (r1 + 1) a b ↔ sim nds (r2 + 1) a b)):nowI nds L (r1 + 1) = nowI nds L (r2 + 1)∧cntI nds L (r1 + 1) = cntI nds L (r2 + 1):=by
 have hk:=Zlc (f:=keyA (nowI nds L r1) nds) (g:=keyA (nowI nds L r2) nds) L [] [] [] (by
  intro a ha b hb
  simp at ha hb
  rw [Z68 hC r1 a b ha hb,Z68 hC r2 a b ha hb]
  exact h a ha b hb) rfl (by simp) (by simp) (by simp)
 have e1:(Z0q (nowI nds L r1) nds L).1 = Z17 (keyA (nowI nds L r1) nds) [] L:=Zck L _
 have e2:(Z0q (nowI nds L r2) nds L).1 = Z17 (keyA (nowI nds L r2) nds) [] L:=Zck L _
 refine ⟨List.ext_getElem? fun j => ?_,?_⟩
 ·by_cases hj:j < nds.length
  ·by_cases hm:j ∈ L
   ·show (Z0q (nowI nds L r1) nds L).2[j]? = (Z0q (nowI nds L r2) nds L).2[j]?
    rw [Za4 hm hj,Za4 hm hj,e1,e2]
    have:=hk.2 j (by simpa using hm)
    rw [this]
   ·rw [Zfv nds L r1 j hj hm,Zfv nds L r2 j hj hm]
  ·rw [List.getElem?_eq_none (by rw [Z6m]; omega),List.getElem?_eq_none (by rw [Z6m]; omega)]
 ·show (Z0q (nowI nds L r1) nds L).1.length = (Z0q (nowI nds L r2) nds L).1.length
  rw [e1,e2]
  exact hk.1
theorem Zpd (hne:L ≠ []):∃ R,(∀ r,r < R→cntI nds L (r + 1) ≠ cnA nds L r)∧cntI nds L (R + 1) = cnA nds L R∧nowI nds L (R + 1) = clsF nds L:=by
 obtain ⟨R,h1,h2,h3⟩:=Z9o hC
 have hpos:cntI nds L 1 ≠ 0:=by
  rw [Z5n]
  cases L with
  | nil => exact (hne rfl).elim
  | cons a L => simp [news]
 cases R with
 | zero => exact (hpos h2).elim
 | succ R =>
  by_cases h1':cntI nds L 1 = 1
  ·refine ⟨0,by simp,h1',?_⟩
   rw [h1]
   have hone:∀ a ∈ L,∀ b ∈ L,sim nds 1 a b:=by
    rw [Z5n] at h1'
    intro a ha b hb
    refine (Z68 hC 0 a b ha hb).1 ?_
    have:=Zft (f:=keyA (nowI nds L 0) nds) (g:=fun _:Nat => (0:Nat)) L [] (fun _ _ _ _ _ => rfl) (by
     rw [h1']
     cases L with
     | nil => exact (hne rfl).elim
     | cons c L =>
      have key:∀ (L E:List Nat),E ≠ []→news (fun _:Nat => (0:Nat)) E L = 0:=by
       intro L
       induction L with
       | nil => intro E _; rfl
       | cons x L ih =>
        intro E hE
        have h2:=ih (E ++ [x]) (by simp)
        cases E with
        | nil => exact (hE rfl).elim
        | cons y E =>
         simp only [news]
         rw [h2]
         simp
      simp only [news]
      rw [key L ([] ++ [c]) (by simp)]
      simp) (by simp) a (by simpa using ha) b (by simpa using hb) rfl
    exact this
   refine (Zxf hC (r1:=0) (r2:=R + 1) fun a ha b hb => ?_).1
   constructor
   ·intro _
    have hall:∀ r a b,a ∈ L→b ∈ L→sim nds r a b:=by
     intro r
     induction r with
     | zero => intro a b _ _; trivial
     | succ r ih =>
      intro a b ha hb
      obtain ⟨x,y,hx,hy,e1,e2,_⟩:=hone a ha b hb
      exact ⟨x,y,hx,hy,e1,e2,fun j k m hk hm => ih _ _ ((hC.kids a ha x hx).2 k (List.mem_of_getElem? hk)) ((hC.kids b hb y hy).2 m (List.mem_of_getElem? hm))⟩
    exact hall _ a b ha hb
   ·intro _
    exact hone a ha b hb
  ·refine ⟨R + 1,?_,h2,h1.symm⟩
   intro r hr
   cases r with
   | zero => exact h1'
   | succ r => exact h3 (r + 1) hr
noncomputable def Zjk (nds:List ND) (L:List Nat):Nat:=news (fun a => (clsF nds L)[a]?) [] L
theorem Zqz {R:Nat} (h:nowI nds L (R + 1) = clsF nds L):cntI nds L (R + 1) = Zjk nds L:=by
 rw [Z5n]
 unfold Zjk
 rw [← h]
 have hiff:∀ a ∈ L,∀ b ∈ L,(keyA (nowI nds L R) nds a = keyA (nowI nds L R) nds b ↔ (nowI nds L (R + 1))[a]? = (nowI nds L (R + 1))[b]?):=fun a ha b hb => by
  rw [Z68 hC R a b ha hb,Za0 hC (R + 1) a b ha hb]
 have h1:=Zau (f:=keyA (nowI nds L R) nds) (g:=fun a => (nowI nds L (R + 1))[a]?) L [] (fun a ha b hb h => (hiff a (by simpa using ha) b (by simpa using hb)).1 h)
 have h2:=Zau (f:=fun a => (nowI nds L (R + 1))[a]?) (g:=keyA (nowI nds L R) nds) L [] (fun a ha b hb h => (hiff a (by simpa using ha) b (by simpa using hb)).2 h)
 omega
theorem Zf9 {a:Nat} (ha:a ∈ L):∃ c:Nat,(clsF nds L)[a]? = some (c:Int)∧c < Zjk nds L:=by
 obtain ⟨R,h1,h2,h3⟩:=Z9o hC
 have hm:=Zqz hC h1.symm
 rw [h1]
 refine ⟨_,Za4 ha (hC.lt a ha),?_⟩
 rw [← hm]
 show _ < (Z0q (nowI nds L R) nds L).1.length
 exact List.idxOf_lt_length_of_mem (Zcx L _ a ha)
end
theorem Zbw {α:Type} {motive:List α→Prop} (nil:motive []) (append_singleton:∀ (l:List α) (a:α),motive l→motive (l ++ [a])) (l:List α):motive l:=by
 have:∀ r:List α,motive r.reverse:=by
  intro r
  induction r with
  | nil => exact nil
  | cons a r ih =>
   rw [List.reverse_cons]
   exact append_singleton _ a ih
 have h:=this l.reverse
 rwa [List.reverse_reverse] at h
theorem Zb3 (f:Nat→Key) (D:List Key) (P S:List Nat):Z17 f D (P ++ S) = Z17 f (Z17 f D P) S:=by
 unfold Z17
 rw [List.foldl_append]
theorem Zbc (f:Nat→Key):∀ (S:List Nat) (D:List Key),∃ T,Z17 f D S = D ++ T
 | [],D => ⟨[],by simp [Z17]⟩
 | a :: S,D => by
  obtain ⟨T,h⟩:=Zbc f S (addK D (f a))
  have h1:Z17 f D (a :: S) = Z17 f (addK D (f a)) S:=rfl
  rw [h1,h]
  unfold addK
  split
  ·exact ⟨T,rfl⟩
  ·exact ⟨[f a] ++ T,by simp⟩
theorem Zjh (f:Nat→Key):∀ (S:List Nat) (D:List Key) (k:Key),k ∈ Z17 f D S ↔ k ∈ D ∨ ∃ a ∈ S,f a = k
 | [],D,k => by simp [Z17]
 | a :: S,D,k => by
  have h1:Z17 f D (a :: S) = Z17 f (addK D (f a)) S:=rfl
  rw [h1,Zjh f S]
  have h2:k ∈ addK D (f a) ↔ k ∈ D ∨ f a = k:=by
   unfold addK
   split
   ·rename_i h
    constructor
    ·exact .inl
    ·rintro (h' | rfl)
     ·exact h'
     ·exact h
   ·simp [eq_comm]
  rw [h2]
  constructor
  ·rintro ((h | h) | ⟨b,hb,h⟩)
   ·exact .inl h
   ·exact .inr ⟨a,by simp,h⟩
   ·exact .inr ⟨b,by simp [hb],h⟩
  ·rintro (h | ⟨b,hb,h⟩)
   ·exact .inl (.inl h)
   ·rcases List.mem_cons.1 hb with rfl | hb
    ·exact .inl (.inr h)
    ·exact .inr ⟨b,hb,h⟩
theorem Zn0 {nds:List ND} {L:List Nat} (hC:Closed nds L):∃ f:Nat→Key,(∀ a ∈ L,(clsF nds L)[a]? = some ((Z17 f [] L).idxOf (f a):Nat))∧∀ a ∈ L,∀ b ∈ L,(f a = f b ↔ ∀ r,sim nds r a b):=by
 obtain ⟨R,h1,h2,_⟩:=Z9o hC
 refine ⟨keyA (nowI nds L R) nds,fun a ha => ?_,fun a ha b hb => ?_⟩
 ·have e1:(Z0q (nowI nds L R) nds L).1 = Z17 (keyA (nowI nds L R) nds) [] L:=Zck L _
  rw [h1,← e1]
  exact Za4 ha (hC.lt a ha)
 ·rw [← Zh4 hC h2 ha hb,Za0 hC (R + 1) a b ha hb,← Z68 hC R a b ha hb]
theorem Znk {nds:List ND} {L P S:List Nat} {a:Nat} (hC:Closed nds L) (hL:L = P ++ a :: S) :
  ∃ c:Nat,(clsF nds L)[a]? = some (c:Int)∧c ≤ (outF (clsF nds L) nds P).length∧(c < (outF (clsF nds L) nds P).length ↔ ∃ e ∈ P,∀ r,sim nds r e a):=by
 obtain ⟨f,hf0,hs⟩:=Zn0 hC
 have hf:∀ x ∈ L,(clsF nds L)[x]? = some (((Z17 f [] L).idxOf (f x):Nat):Int):=hf0
 have ha:a ∈ L:=by rw [hL]; simp
 have hPL:∀ x ∈ P,x ∈ L:=fun x hx => by rw [hL]; simp [hx]
 have key:∀ (P' Q':List Nat),P = P' ++ Q'→(outF (clsF nds L) nds P').length = (Z17 f [] P').length:=by
  intro P'
  induction P' using Zbw with
  | nil => intro Q' _; rfl
  | append_singleton P' x ih =>
   intro Q' hQ
   have ihp:=ih (x :: Q') (by rw [hQ]; simp)
   have hx:x ∈ L:=hPL x (by rw [hQ]; simp)
   have hnd:nds[x]? = some (nds[x]'(hC.lt x hx)):=List.getElem?_eq_getElem _
   have e1:outF (clsF nds L) nds (P' ++ [x]) = Z2t (clsF nds L) nds (outF (clsF nds L) nds P') x:=by unfold outF; rw [List.foldl_append]; rfl
   have e2:Z17 f [] (P' ++ [x]) = addK (Z17 f [] P') (f x):=by rw [Zb3]; rfl
   rw [e1,e2]
   unfold Z2t
   rw [hf x hx,hnd]
   simp only
   obtain ⟨T,hT⟩:=Zbc f (x :: (Q' ++ a :: S)) (Z17 f [] P')
   have hLx:L = P' ++ x :: (Q' ++ a :: S):=by rw [hL,hQ]; simp
   have hk:Z17 f [] L = Z17 f [] P' ++ T:=by rw [hLx,Zb3]; exact hT
   rw [hk,List.idxOf_append]
   unfold addK
   by_cases hm:f x ∈ Z17 f [] P'
   ·rw [if_pos hm,if_pos hm,if_pos (by have:=List.idxOf_lt_length_of_mem hm; omega)]
    exact ihp
   ·rw [if_neg hm,if_neg hm,if_neg (by omega)]
    simp [ihp]
 have hlen:=key P [] (by simp)
 obtain ⟨T,hT⟩:=Zbc f (a :: S) (Z17 f [] P)
 have hk:Z17 f [] L = Z17 f [] P ++ T:=by rw [hL,Zb3]; exact hT
 refine ⟨_,hf a ha,?_⟩
 rw [hlen,hk,List.idxOf_append]
 have hmem:f a ∈ Z17 f [] P ↔ ∃ e ∈ P,∀ r,sim nds r e a:=by
  rw [Zjh]
  constructor
  ·rintro (h | ⟨e,he,h⟩)
   ·cases h
   ·exact ⟨e,he,(hs e (hPL e he) a ha).1 h⟩
  ·rintro ⟨e,he,h⟩
   exact .inr ⟨e,he,(hs e (hPL e he) a ha).2 h⟩
 by_cases hm:f a ∈ Z17 f [] P
 ·rw [if_pos hm]
  have:=List.idxOf_lt_length_of_mem hm
  exact ⟨by omega,⟨fun _ => hmem.1 hm,fun _ => this⟩⟩
 ·rw [if_neg hm]
  have hz:T.idxOf (f a) = 0:=by
   have h1:Z17 f (Z17 f [] P) (a :: S) = Z17 f (addK (Z17 f [] P) (f a)) S:=rfl
   obtain ⟨T',hT'⟩:=Zbc f S (addK (Z17 f [] P) (f a))
   rw [h1,hT'] at hT
   unfold addK at hT
   rw [if_neg hm,List.append_assoc] at hT
   have:=List.append_cancel_left hT
   rw [← this]
   simp
  rw [hz]
  refine ⟨by omega,⟨fun h => by omega,fun h => (hm (hmem.2 h)).elim⟩⟩
theorem Zoc {nds:List ND} {L:List Nat} (hC:Closed nds L):(outF (clsF nds L) nds L).length = Zjk nds L:=by
 have hb:∀ a ∈ L,∃ c:Nat,(clsF nds L)[a]? = some (c:Int):=fun a ha => by
  obtain ⟨c,h,_⟩:=Zf9 hC ha
  exact ⟨c,h⟩
 have key:∀ (P S:List Nat),L = P ++ S→(outF (clsF nds L) nds P).length = news (fun a => (clsF nds L)[a]?) [] P:=by
  intro P
  induction P using Zbw with
  | nil => intro S _; rfl
  | append_singleton P x ih =>
   intro S hS
   have ihp:=ih (x :: S) (by rw [hS]; simp)
   obtain ⟨c,hc,h1,h2⟩:=Znk (P:=P) (a:=x) (S:=S) hC (by rw [hS]; simp)
   have hx:x ∈ L:=by rw [hS]; simp
   have e1:outF (clsF nds L) nds (P ++ [x]) = Z2t (clsF nds L) nds (outF (clsF nds L) nds P) x:=by unfold outF; rw [List.foldl_append]; rfl
   have hnd:nds[x]? = some (nds[x]'(hC.lt x hx)):=List.getElem?_eq_getElem _
   have hap:∀ (P E:List Nat) (y:Nat) (f:Nat→Option Int),news f E (P ++ [y]) = news f E P + (if (E ++ P).any (fun e => decide (f e = f y)) = true then 0 else 1):=by
    intro P
    induction P with
    | nil => intro E y f; simp [news]
    | cons z P ih =>
     intro E y f
     have:=ih (E ++ [z]) y f
     simp only [List.cons_append,news]
     rw [this]
     have e:(E ++ [z] ++ P) = E ++ z :: P:=by simp
     rw [e]
     omega
   rw [hap,e1,← ihp]
   unfold Z2t
   rw [hc,hnd]
   simp only
   have hany:([] ++ P).any (fun e => decide ((clsF nds L)[e]? = (clsF nds L)[x]?)) = true ↔ ∃ e ∈ P,∀ r,sim nds r e x:=by
    simp only [List.nil_append,List.any_eq_true,decide_eq_true_eq]
    constructor
    ·rintro ⟨e,he,h⟩
     exact ⟨e,he,(Zdz hC (by rw [hS]; simp [he]) hx).1 h⟩
    ·rintro ⟨e,he,h⟩
     exact ⟨e,he,(Zdz hC (by rw [hS]; simp [he]) hx).2 h⟩
   rw [hc] at hany
   by_cases hlt:c < (outF (clsF nds L) nds P).length
   ·rw [if_pos (hany.2 (h2.1 hlt)),if_pos (by omega)]
    omega
   ·rw [if_neg (fun h => hlt (h2.2 (hany.1 h))),if_neg (by omega)]
    simp
 exact key L [] (by simp)
end Go.Proofs
end
section
open Go Go.AM
namespace Go.AM
theorem Zvp {P:Program} {γ:RO→Option AVal} {s:St} {Q:AVal→St→Prop} {es ox:Nat} {x y:RO} {bx:Pos} {cx:Cap} {yv:AVal}
  (hx:γ x = some (.slice bx ox 0 cx)) (hy:γ y = some yv) (hs:Z18 yv = some 0) (h:Q (.int .i64 0) s):opP P (.copy (some es) x y) γ s Q:=by
 refine ⟨_,_,fun rec K hK => ?_,h⟩
 refine Z01.2 ⟨_,hx,Z01.2 ⟨_,hy,?_⟩⟩
 cases yv <;> cases hs <;> exact hK
end Go.AM
namespace Go.Proofs
set_option maxRecDepth 100000
def clOf (cls:List Int) (k:Int):Int:=(cls[k.toNat]?).getD 0
def Z4k (f:Int→Int) (ks:List Int) (j:Nat):List Int:=(ks.take j).map f ++ ks.drop j
theorem Zrm (f:Int→Int) (ks:List Int):Z4k f ks 0 = ks:=by simp [Z4k]
theorem Zkr (f:Int→Int) (ks:List Int) (j:Nat):(Z4k f ks j).length = ks.length:=by
 simp [Z4k]
 omega
theorem Zto (f:Int→Int) (ks:List Int):Z4k f ks ks.length = ks.map f:=by simp [Z4k]
theorem Ztp {f:Int→Int} {ks:List Int} {j:Nat} {k:Int} (h:ks[j]? = some k):(Z4k f ks j)[j]? = some k:=by
 have hj:=(List.getElem?_eq_some_iff.1 h).1
 unfold Z4k
 rw [List.getElem?_append_right (by simp; omega)]
 have e:j - ((ks.take j).map f).length = 0:=by simp; omega
 rw [e,List.getElem?_drop]
 simpa using h
theorem Zrl {f:Int→Int} {ks:List Int} {j:Nat} {k:Int} (h:ks[j]? = some k):(Z4k f ks j).set j (f k) = Z4k f ks (j + 1):=by
 have hj:=(List.getElem?_eq_some_iff.1 h).1
 unfold Z4k
 have hl:((ks.take j).map f).length = j:=by simp; omega
 rw [List.set_append_right _ _ (by omega),hl,Nat.sub_self,List.take_add_one,h]
 have hd:ks.drop j = k :: ks.drop (j + 1):=by
  rw [List.drop_eq_getElem_cons hj]
  have:ks[j] = k:=(List.getElem?_eq_some_iff.1 h).2
  rw [this]
 rw [hd]
 simp
theorem Zlv:∀ (l:List (List UInt8 × AVal)) (i:Nat) (c:List UInt8 × AVal) (nm:List UInt8),l[i]? = some c→lay (penc l) (i * 2) [.str nm] = penc (l.set i (nm,c.2))
 | [],i,c,nm,h => by simp at h
 | d :: l,0,c,nm,h => by
  simp at h
  subst h
  simp [lay,penc]
 | d :: l,i + 1,c,nm,h => by
  have ih:=Zlv l i c nm (by simpa using h)
  have e:penc (d :: l) = [.str d.1,d.2] ++ penc l:=rfl
  have e2:penc ((d :: l).set (i + 1) (nm,c.2)) = [.str d.1,d.2] ++ penc (l.set i (nm,c.2)):=rfl
  rw [e,e2,← ih]
  have e3:(i + 1) * 2 = i * 2 + 2:=by omega
  rw [e3]
  simp [lay]
theorem Zlw:∀ (l:List (List UInt8 × AVal)) (i:Nat) (c:List UInt8 × AVal) (kv:AVal),l[i]? = some c→lay (penc l) (i * 2 + 1) [kv] = penc (l.set i (c.1,kv))
 | [],i,c,nm,h => by simp at h
 | d :: l,0,c,nm,h => by
  simp at h
  subst h
  simp [lay,penc]
 | d :: l,i + 1,c,nm,h => by
  have ih:=Zlw l i c nm (by simpa using h)
  have e:penc (d :: l) = [.str d.1,d.2] ++ penc l:=rfl
  have e2:penc ((d :: l).set (i + 1) (c.1,nm)) = [.str d.1,d.2] ++ penc (l.set i (c.1,nm)):=rfl
  rw [e,e2,← ih]
  have e3:(i + 1) * 2 + 1 = i * 2 + 1 + 2:=by omega
  rw [e3]
  simp [lay]
theorem Zpa:∀ (ns:List ND) (V:List AVal) (i:Nat) (nm:List UInt8) (ks:List Int) (kv:AVal),V[i]? = some kv→(List.zipWith (fun nd kv => (nd.1,kv)) ns V).set i (nm,kv) = List.zipWith (fun (nd:ND) kv => (nd.1,kv)) (ns.set i (nm,ks)) V
 | [],V,i,nm,ks,kv,h => by simp
 | n :: ns,[],i,nm,ks,kv,h => by simp at h
 | n :: ns,v :: V,0,nm,ks,kv,h => by simp at h; subst h; simp
 | n :: ns,v :: V,i + 1,nm,ks,kv,h => by
  have:=Zpa ns V i nm ks kv (by simpa using h)
  simpa using this
theorem Zpb:∀ (ns:List ND) (V:List AVal) (i:Nat) (nd:ND) (kv:AVal),ns[i]? = some nd→(List.zipWith (fun (nd:ND) kv => (nd.1,kv)) ns V).set i (nd.1,kv) = List.zipWith (fun (nd:ND) kv => (nd.1,kv)) ns (V.set i kv)
 | [],V,i,nm,kv,h => by simp at h
 | n :: ns,[],i,nm,kv,h => by simp
 | n :: ns,v :: V,0,nm,kv,h => by simp at h; subst h; simp
 | n :: ns,v :: V,i + 1,nm,kv,h => by
  have:=Zpb ns V i nm kv (by simpa using h)
  simpa using this
theorem Zsq {ns:List ND} {V:List AVal} {i:Nat} {nd:ND} {kv:AVal} (nm:List UInt8) (ks:List Int) (h1:ns[i]? = some nd) (h2:V[i]? = some kv):lay (Z0h ns V) (i * 2) [.str nm] = Z0h (ns.set i (nm,ks)) V:=by
 unfold Z0h
 rw [Zlv _ i (nd.1,kv) nm (by simp [List.getElem?_zipWith,h1,h2]),Zpa ns V i nm ks kv h2]
theorem Zsr {ns:List ND} {V:List AVal} {i:Nat} {nd:ND} {kv:AVal} (kv':AVal) (h1:ns[i]? = some nd) (h2:V[i]? = some kv):lay (Z0h ns V) (i * 2 + 1) [kv'] = Z0h ns (V.set i kv'):=by
 unfold Z0h
 rw [Zlw _ i (nd.1,kv) kv' (by simp [List.getElem?_zipWith,h1,h2]),Zpb ns V i nd kv' h1]
def Zil (Bn:Pos) (ns:List ND) (m:Lets):Prop:=∃ V mr,m.Perm ((Bn,C (Z0h ns V)) :: mr)∧Z0s (ns.map Prod.snd) V mr
theorem Zil.at {s0 s:St} {W:Pos→Prop} {Bn:Pos} {ns:List ND} {m:Lets} (h:Zil Bn ns m) (c:Cap) (hc:Ctx s0 W m s):Z1v s (.slice Bn 0 ns.length c) ns:=by
 obtain ⟨V,mr,hp,hR⟩:=h
 have hc':=hc.perm hp
 have hV:V.length = ns.length:=by simpa using hR.len
 refine .inr ⟨Bn,0,c,_,rfl,hc'.oi 0 rfl,hc'.c 0 rfl,by rw [Z6g hV]; omega,fun i nd hi => ?_⟩
 obtain ⟨kv,g1,g2⟩:=hR.each (i:=i) (ks:=nd.2) (by rw [List.getElem?_map,hi]; rfl)
 obtain ⟨e1,e2⟩:=Z7j hi g1
 rw [Nat.zero_add]
 refine ⟨e1,kv,e2,?_⟩
 rcases g2 with ⟨e3,e4⟩ | ⟨q',c',e3,e4,e5⟩
 ·exact .inl ⟨e4,e3⟩
 ·rw [e4]
  exact Z60 hc'.wf (Z13 (hc'.own _ (List.mem_cons_of_mem _ e5))) c'
theorem Zi8 {cls:List Int} {nds:List ND}:∀ {l:List Nat} {x:ND},x ∈ outF cls nds l→∃ a nd,a ∈ l∧nds[a]? = some nd∧x = Z59 cls nd:=by
 have key:∀ (l:List Nat) (out:List ND) (x:ND),x ∈ l.foldl (Z2t cls nds) out→x ∈ out ∨ ∃ a nd,a ∈ l∧nds[a]? = some nd∧x = Z59 cls nd:=by
  intro l
  induction l with
  | nil => intro out x h; exact .inl h
  | cons a l ih =>
   intro out x h
   rcases ih _ x h with h | ⟨b,nd,h1,h2,h3⟩
   ·unfold Z2t at h
    split at h
    ·rename_i c nd hc hnd
     split at h
     ·exact .inl h
     ·rcases List.mem_append.1 h with h | h
      ·exact .inl h
      ·exact .inr ⟨a,nd,by simp,hnd,by simpa using h⟩
    ·exact .inl h
   ·exact .inr ⟨b,nd,by simp [h1],h2,h3⟩
 intro l x h
 rcases key l [] x h with h | h
 ·cases h
 ·exact h
def padF (M:Nat) (l:List ND):List ND:=l ++ List.replicate (M - l.length) ([],[])
theorem Zxn {M:Nat} {l:List ND} (h:l.length ≤ M):(padF M l).length = M:=by
 simp [padF]
 omega
theorem Zxo {M:Nat} {l:List ND} (h:l.length < M):(padF M l)[l.length]? = some ([],[]):=by
 unfold padF
 rw [List.getElem?_append_right (Nat.le_refl _),Nat.sub_self,List.getElem?_replicate,if_pos (by omega)]
theorem Zoe {M:Nat} {l:List ND} {i:Nat} {x:ND} (h:l[i]? = some x):(padF M l)[i]? = some x:=by
 unfold padF
 rw [List.getElem?_append_left (List.getElem?_eq_some_iff.1 h).1]
 exact h
theorem Zof {M:Nat} {l:List ND} (x:ND) (h:l.length < M):(padF M l).set l.length x = padF M (l ++ [x]):=by
 unfold padF
 rw [List.set_append_right _ _ (Nat.le_refl _),Nat.sub_self]
 have e:M - l.length = (M - (l ++ [x]).length) + 1:=by simp; omega
 rw [e,List.replicate_succ,List.set_cons_zero]
 simp
theorem Zpq {ns ns':List ND} (V:List AVal) (h:ns.map Prod.fst = ns'.map Prod.fst):Z0h ns V = Z0h ns' V:=by
 have key:∀ l:List ND,List.zipWith (fun (nd:ND) kv => (nd.1,kv)) l V = List.zipWith (fun (n:List UInt8) kv => (n,kv)) (l.map Prod.fst) V:=fun l => by rw [List.zipWith_map_left]
 unfold Z0h
 rw [key,key,h]
theorem Zx2 {cs:List AVal} {o:Nat} {ks:List Int} (hl:o + ks.length ≤ cs.length) (h:∀ i k,ks[i]? = some k→cs[o + i]? = some (.int .i64 k)):(cs.drop o).take ks.length = ints ks:=by
 refine List.ext_getElem? fun i => ?_
 rw [List.getElem?_take,List.getElem?_drop,List.getElem?_map]
 by_cases hi:i < ks.length
 ·rw [if_pos hi,h i _ (List.getElem?_eq_getElem hi),List.getElem?_eq_getElem hi]
  rfl
 ·rw [if_neg hi,List.getElem?_eq_none (by omega)]
  rfl
theorem Zrx {P:Program} {γ:RO→Option AVal} {s0 s:St} {W:Pos→Prop} {Q:AVal→St→Prop} {pre r:Lets} {x y:RO} {Bk:Pos} {kv:AVal} {ks:List Int} {c:Cap}
  (hc:Ctx s0 W (pre ++ (Bk,C (List.replicate ks.length (.int .i64 0))) :: r) s) (hx:γ x = some (.slice Bk 0 ks.length c)) (hy:γ y = some kv) (hk:Z0e s kv ks)
  (q:∀ v s',Ctx s0 W (pre ++ (Bk,C (ints ks)) :: r) s'→Q v s'):opP P (.copy (some 1) x y) γ s Q:=by
 by_cases h0:ks = []
 ·subst h0
  exact Zvp hx hy hk.len (q _ _ hc)
 ·have hl:ks.length ≠ 0:=by simpa using h0
  rcases hk with ⟨_,e⟩ | ⟨b,o,c',cs,rfl,hb,hcs,hle,hel⟩
  ·exact (h0 e).elim
  ·have hk0:s.own Bk = some (List.replicate ks.length (.int .i64 0)):=Z13 (hc.own (Bk,C _) (by simp))
   refine Zo4 (ox:=0) (o:=o) hx hy hl hk0 hcs (by omega) (by simp) ?_
   rw [Nat.mul_one,Zx2 hle hel]
   have e:lay (List.replicate ks.length (AVal.int .i64 0)) 0 (ints ks) = ints ks:=by simp [lay]
   rw [e]
   have hi:(pre ++ (Bk,C (List.replicate ks.length (.int .i64 0))) :: r)[pre.length]? = some (Bk,C (List.replicate ks.length (.int .i64 0))):=by simp
   have:=hc.put pre.length hi (C (ints ks))
   rw [List.set_append_right _ _ (Nat.le_refl _),Nat.sub_self,List.set_cons_zero] at this
   exact q _ _ this
end Go.Proofs
end
section
open Go Go.AM
namespace Go.Proofs
set_option maxRecDepth 100000
theorem Zfd (p:Pos) (o n c:Nat):Z2l 8 (.agg [.slice p o n (.lim c)]) (.agg [.slice p o n (.lim c)]) = true:=by
 simp [Z2l,Zch]
theorem Zw7 {s0 s:St} {W:Pos→Prop} {n a:Nat} {v:List Nat} {B4 Bm:Pos} {pre r:Lets} {Q:AVal→St→Prop} (hc:Ctx s0 W (pre ++ ((B4,C [.slice Bm 0 n (.lim n)]) :: (Bm,C (metL n v)) :: r)) s) (ha:a < n) (hav:a ∉ v)
  (q:∀ s',Ctx s0 W (pre ++ ((B4,C [.slice Bm 0 n (.lim n)]) :: (Bm,C (metL n (v ++ [a]))) :: r)) s'→Q (.tup []) s'):Z0c Tryz.prog 63 [.int .i64 a,.ptr B4 0] s Q:=by
 have hc0:Ctx s0 W ((B4,C [.slice Bm 0 n (.lim n)]) :: (Bm,C (metL n v)) :: (pre ++ r)) s:=hc.perm (List.perm_middle.trans (List.Perm.cons _ List.perm_middle))
 have hset:=Ze8 ha hav
 have e:addN v a = v ++ [a]:=by unfold addN; rw [if_neg hav]
 rw [e] at hset
 have hle:a + 1 ≤ (metL n v).length:=by rw [Z3q]; omega
 simp [lay] at hset
 refine Z08 (Z0d (by decide)) fi63 rfl (by decide) rfl ?_
 refine AM.wp_region ?_
 simp [hc0.c 0 rfl,hc0.o 1 rfl,ha,hle]
 rw [hset]
 have c1:=hc0.put 1 rfl (C (metL n (v ++ [a])))
 simp only [List.set_cons_succ,List.set_cons_zero] at c1
 exact q _ (c1.perm (List.perm_middle.trans (List.Perm.cons _ List.perm_middle)).symm)
def Z16 (cs:List CV):List Nat:=bfsF (kidN cs) cs.length ((Z2c cs cs.length).map Int.toNat)
def Z3m (cs:List CV) (v:List Nat) (i:Nat):List Int:=((Z1f cs i).filter fun j => decide (j ∉ v)).map fun (j:Nat) => (j:Int)
def Zg9 (cs:List CV):Int × Int × List CV:=((Z3m cs (Z16 cs) cs.length).length,0,relC cs (Z3m cs (Z16 cs) cs.length))
theorem Ztk {cs:List CV} {v:List Nat} {i:Nat} {c:CV} (h:cs[i]? = some c) (ht:c.taken = true):Z3m cs v (i + 1) = Z3m cs v i ++ (if i ∈ v then [] else [(i:Int)]):=by
 unfold Z3m
 rw [Zad h ht,List.filter_append]
 by_cases hh:i ∈ v <;> simp [hh]
theorem Ztl {cs:List CV} {v:List Nat} {i:Nat} {c:CV} (h:cs[i]? = some c) (ht:c.taken = false):Z3m cs v (i + 1) = Z3m cs v i:=by
 unfold Z3m
 rw [Zd6 h ht]
theorem Zm8 (cs:List CV) (v:List Nat) (i:Nat):(Z3m cs v i).length ≤ i:=by
 unfold Z3m Z1f
 rw [List.length_map]
 refine Nat.le_trans (List.length_filter_le _ _) (Nat.le_trans (List.length_filter_le _ _) (by simp))
theorem Zgb {cs:List CV} {v:List Nat} {i:Nat} {k:Int}:k ∈ Z3m cs v i ↔ 0 ≤ k∧k < i∧Z07 cs k = true∧k.toNat ∉ v:=by
 unfold Z3m
 simp only [List.mem_map,List.mem_filter,Z4o,decide_eq_true_eq]
 constructor
 ·rintro ⟨j,⟨⟨h1,h2⟩,h3⟩,rfl⟩
  exact ⟨by omega,by omega,h2,by simpa using h3⟩
 ·rintro ⟨h0,h1,h2,h3⟩
  have e:((k.toNat:Nat):Int) = k:=by omega
  exact ⟨k.toNat,⟨⟨by omega,by rw [e]; exact h2⟩,h3⟩,e⟩
theorem Z8w {cs:List CV} {i:Nat} {k:Int} (h:k ∈ Z2c cs i):0 ≤ k∧k < i∧Z07 cs k = true:=by
 unfold Z2c at h
 simp only [List.mem_map,List.mem_filter,Z4o] at h
 obtain ⟨j,⟨⟨h1,h2⟩,_⟩,rfl⟩:=h
 exact ⟨by omega,by omega,h2⟩
theorem Zjm {l:List Int} (h:∀ k ∈ l,0 ≤ k):nats (l.map Int.toNat) = l:=by
 unfold nats
 rw [List.map_map]
 have:∀ k ∈ l,((fun (a:Nat) => (a:Int)) ∘ Int.toNat) k = k:=fun k hk => by
  have:=h k hk
  simp only [Function.comp]
  omega
 exact (List.map_congr_left this).trans (by simp)
theorem Zon {cs:List CV} (hO:HOk2 cs):∀ a,a < cs.length→(Z0o cs a).length ≤ 4∧∀ k ∈ Z0o cs a,0 ≤ k∧k < cs.length:=by
 intro a ha
 have hcd:cs[a]? = some cs[a]:=List.getElem?_eq_getElem ha
 rw [Z1d hcd]
 refine ⟨hO.kids4 _ (List.getElem_mem ha),fun k hk => ?_⟩
 cases hta:cs[a].taken with
 | true =>
  obtain ⟨k0,_,_,_,k1⟩:=Z22 (hO.kids _ (List.getElem_mem ha) hta k hk)
  exact ⟨k0,by omega⟩
 | false =>
  rw [hO.free _ (List.getElem_mem ha) hta] at hk
  cases hk
theorem sweep_c {s0 s:St} {W:Pos→Prop} {hb:Pos} {vs:AVal} {cs:List CV} {m r:Lets} {Q:AVal→St→Prop} (hH:Z26 hb vs cs m) (h:Ctx s0 W (m ++ r) s) (hO:HOk2 cs)
  (q:∀ m' s',Z26 hb vs (Zg9 cs).2.2 m'→Ctx s0 W (m' ++ r) s'→Q (.tup [.int .i64 (Zg9 cs).1,.int .i64 (Zg9 cs).2.1]) s'):Z0c Tryz.prog 19 [.ptr hb 0] s Q:=by
 obtain ⟨p,V,mr,hc,hR,hV,h1,h4,hP⟩:=Z9g hH h
 have hl:=Z1c hV
 have hno:cs.length ≠ 0:=by omega
 have hz1:cs.length ≤ Z0g:=by unfold Z0g; omega
 refine Z08 (Z0d (by decide)) fi19 rfl (by decide) rfl ?_
 refine Z00 ?_
 simp
 refine AM.wp_seq ?_
 refine Z00 ?_
 simp
 refine Z02 ?_
 refine Z5j (hc.c 0 rfl) rfl hno ?_
 simp
 refine AM.Z04 ?_
 simp
 refine AM.wp_skip ?_
 simp
 refine Z00 ?_
 simp [hc.c 0 rfl,hz1]
 have c1:=hc.alloc (C (List.replicate cs.length (.bool false)))
 generalize s.alloc (.cells (List.replicate cs.length (.bool false)) false) = s1 at c1 ⊢
 generalize s.next = Bm at c1 ⊢
 have c2:=(c1.alloc (C [.nilSlice])).put 0 rfl (C [.slice Bm 0 cs.length (.lim cs.length)])
 simp only [List.set_cons_zero] at c2
 generalize (s1.alloc (.cells [.nilSlice] false)).put s1.next (.cells [.slice Bm 0 cs.length (.lim cs.length)] false) = s2 at c2 ⊢
 generalize s1.next = B4 at c2 ⊢
 have hm0:List.replicate cs.length (AVal.bool false) = metL cs.length []:=by
  refine List.ext_getElem? fun j => ?_
  by_cases hj:j < cs.length
  ·rw [Z61 _ hj,List.getElem?_replicate,if_pos hj]
   simp
  ·rw [List.getElem?_eq_none (by simp; omega),List.getElem?_eq_none (by rw [Z3q]; omega)]
 rw [hm0] at c2
 refine Z00 ?_
 simp [c2.c 2 rfl]
 refine Z02 ?_
 refine Zqt (p:=p) (V:=V) (cs:=cs) c2 hV h4 (fun x s' hx => ?_) fun lv mg x s3 hg c3 => ?_
 ·have hx':(p,C (encs (rcs cs V))) ∈ x ++ ((B4,C [.slice Bm 0 cs.length (.lim cs.length)]) :: (Bm,C (metL cs.length [])) :: (hb,C [.slice p 0 cs.length (.lim cs.length),vs]) :: (p,C (encs (rcs cs V))) :: (mr ++ r)):=by simp
  exact ⟨hx.ob hx',Z0a (Z13 (hx.own _ hx'))⟩
 have c3:=(c3.sub (List.sublist_append_right x _))
 have c4:Ctx s0 W ([(B4,C [.slice Bm 0 cs.length (.lim cs.length)]),(Bm,C (metL cs.length []))] ++ ((hb,C [.slice p 0 cs.length (.lim cs.length),vs]) :: (p,C (encs (rcs cs V))) :: (mg ++ (mr ++ r)))) s3:=c3.perm (by
  have:=List.perm_append_comm (l₁:=mg) (l₂:=[(B4,C [.slice Bm 0 cs.length (.lim cs.length)]),(Bm,C (metL cs.length [])),(hb,C [.slice p 0 cs.length (.lim cs.length),vs]),(p,C (encs (rcs cs V)))])
  have:=this.append (List.Perm.refl (mr ++ r))
  simpa using this)
 have hlv:∀ t,¬ lv = .tup t:=hg.ntup
 simp [hlv,c4.c 2 rfl]
 refine ⟨Zfd _ _ _ _,?_⟩
 refine Z02 ?_
 have hrn:nats ((Z2c cs cs.length).map Int.toNat) = Z2c cs cs.length:=Zjm fun k hk => (Z8w hk).1
 have hrl:=Zfk cs cs.length
 have hroots:∀ a ∈ (Z2c cs cs.length).map Int.toNat,Z07 cs (a:Int) = true:=by
  intro a ha
  obtain ⟨k,hk,rfl⟩:=List.mem_map.1 ha
  obtain ⟨k0,_,kt⟩:=Z8w hk
  rw [Int.toNat_of_nonneg k0]
  exact kt
 refine Zku (V:=V) (J:=fun v m => m = [(B4,C [.slice Bm 0 cs.length (.lim cs.length)]),(Bm,C (metL cs.length v))]) (roots:=(Z2c cs cs.length).map Int.toNat) (rv:=lv) (f:=63) (fx:=[]) (fy:=[.ptr B4 0])
  ⟨hV,h4,?_,fun a ha => Z1y (hroots a ha),by simp; omega,Zon hO,?_⟩ c4 rfl hlv ?_
 ·rintro x m' s' hx ⟨v,rfl⟩
  obtain ⟨r1,r2,r3⟩:=Z9h (p:=p) (cs:=cs) (V:=V) hx (by simp) hR (fun y hy => by simp [hy])
  refine ⟨r1,r2,?_,r3⟩
  rw [hrn]
  exact (hg.row.kid fun y hy => hx.own y (by simp [hy])).ints hx.wf
 ·rintro a v x m' s' R rfl hav han hvn hvlt hx hq
  refine Z02 ?_
  exact Zw7 (pre:=x) (by simpa using hx) han hav fun s'' hx' => hq _ _ _ rfl (by simpa using hx')
 ·rintro x m' s5 rfl hx
  have c5:=hx.sub (List.sublist_append_right x _)
  simp only [List.cons_append,List.nil_append] at c5
  have hrd:bfsF (kidN cs) cs.length ((Z2c cs cs.length).map Int.toNat) = Z16 cs:=rfl
  rw [hrd] at c5
  simp only [Zg9] at q
  have hrlt:∀ a,a < cs.length→(metL cs.length (Z16 cs))[a]? = some (.bool (decide (a ∈ Z16 cs))):=fun a ha => Z61 _ ha
  generalize Z16 cs = v at c5 q hrlt
  simp
  refine Z00 ?_
  simp
  have c6:=c5.alloc (C [.nilSlice])
  generalize s5.alloc (.cells [.nilSlice] false) = s6 at c6 ⊢
  generalize s5.next = B5 at c6 ⊢
  refine AM.wp_seq ?_
  refine Z00 ?_
  simp [c6.c 3 rfl]
  refine Z02 ?_
  refine Z8q fun BB hBB => ?_
  have c7:=c6.alloc (C [.slice p 0 cs.length (.lim cs.length)])
  rw [← hBB] at c7
  generalize s6.alloc (.cells [.slice p 0 cs.length (.lim cs.length)] false) = s7 at c7 ⊢
  simp
  refine AM.wp_block ?_
  refine Zb5 (B:=BB) (p:=p) (l:=rcs cs V) (J:=fun i m => ∃ gv mh,Z23 gv (Z3m cs v i) mh∧m = (B5,C [gv]) :: (B4,C [.slice Bm 0 cs.length (.lim cs.length)]) :: (Bm,C (metL cs.length v)) :: (hb,C [.slice p 0 cs.length (.lim cs.length),vs]) :: (p,C (encs (rcs cs V))) :: (mh ++ (mg ++ (mr ++ r))))
   hl h4 (by simp) rfl fi19 rfl ?_ ?_ ?_ ⟨.nilSlice,[],.inl ⟨rfl,rfl,rfl⟩,rfl⟩ c7 ?_
  ·rintro i m s' ⟨gv,mh,hgr,rfl⟩ hc'
   exact ⟨hc'.oi 4 rfl,hc'.c 4 rfl⟩
  ·rintro i c m hci hct ⟨gv,mh,hgr,rfl⟩
   have hi:i < cs.length:=by have:=(List.getElem?_eq_some_iff.1 hci).1; rwa [hl] at this
   rw [Z1k (List.getElem?_eq_getElem hi) (List.getElem?_eq_getElem (show i < V.length by omega))] at hci
   cases hci
   exact ⟨gv,mh,by rw [Ztl (List.getElem?_eq_getElem hi) hct]; exact hgr,rfl⟩
  ·rintro i c s' m Lb X Wx hci hct ⟨gv,mh,hgr,rfl⟩ hc' hW
   have hi:i < cs.length:=by have:=(List.getElem?_eq_some_iff.1 hci).1; rwa [hl] at this
   rw [Z1k (List.getElem?_eq_getElem hi) (List.getElem?_eq_getElem (show i < V.length by omega))] at hci
   have hnx:=Ztk (v:=v) (List.getElem?_eq_getElem hi) (by cases hci; exact hct)
   have hgm:=hrlt i hi
   refine AM.wp_block ?_
   refine Z00 ?_
   simp [hc'.c 3 rfl,hc'.c 4 rfl,hi,hgm]
   refine AM.Z04 ?_
   by_cases hh:i ∈ v
   ·rw [if_pos hh,List.append_nil] at hnx
    simp [hh]
    refine AM.wp_skip ?_
    simp
    exact hW _ _ _ ⟨gv,mh,by rw [hnx]; exact hgr,rfl⟩ hc'
   ·rw [if_neg hh] at hnx
    simp [hh]
    refine AM.wp_region ?_
    simp [hc'.c 2 rfl,hgr.ntup,hgr.cells,Z20,srcP]
    have d2:=hc'.alloc (C [.int .i64 i])
    generalize s'.alloc (.cells [.int .i64 i] false) = sB at d2 ⊢
    generalize s'.next = T at d2 ⊢
    have hgl:=Zm8 cs v i
    refine Z6w (pre:=[(T,C [.int .i64 i]),(Lb,X),(BB,C [.slice p 0 cs.length (.lim cs.length)]),(B5,C [gv]),(B4,C [.slice Bm 0 cs.length (.lim cs.length)]),(Bm,C (metL cs.length v)),(hb,C [.slice p 0 cs.length (.lim cs.length),vs]),(p,C (encs (rcs cs V)))]) d2 hgr (by omega) fun gv' mh' sC hgr' d3 => ?_
    simp at d3
    rw [← hnx] at hgr'
    simp [hgr'.ntup,hgr'.cells,d3.o 3 rfl]
    have d4:=(d3.put 3 rfl (C [gv'])).tail
    exact hW _ _ _ ⟨gv',mh',hgr',rfl⟩ d4
  ·rintro s' m ⟨gv,mh,hgr,rfl⟩ hc'
   have hglen:=Zm8 cs v cs.length
   have hgin:∀ k ∈ Z3m cs v cs.length,0 ≤ k∧k < cs.length:=fun k hk => by
    obtain ⟨a,b,_⟩:=Zgb.1 hk
    exact ⟨a,b⟩
   simp
   refine Z00 ?_
   simp [hc'.c 3 rfl,hc'.c 0 rfl,hgr.ntup]
   refine Z02 ?_
   refine Zlz hl hc'.wf (hc'.o 4 rfl) (by omega) hgin (fun s'' hS => ?_) fun s12 hS hpn2 => ?_
   ·have hmg:Ctx s0 W mh s'':=(hc'.sub (m':=mh) (by
     refine List.Sublist.trans ?_ (List.drop_sublist 5 _)
     exact List.sublist_append_left _ _)).same hS (fun b hb ho => by
      simp at hb
      subst hb
      exact hc'.free _ (List.mem_of_getElem? (i:=4) rfl) ho) (fun x hx hb => by
      simp at hb
      exact hc'.apart 4 rfl (y:=x) (by simp [hx]) hb.symm)
    exact (hgr.row.kid fun x hx => hmg.own x hx).ints hmg.wf
   ·have c12:=hc'.chg 4 rfl hS (St.Z2b hpn2)
    simp only [List.set_cons_succ,List.set_cons_zero] at c12
    obtain ⟨V3,m3,dd,e1,e2,e3⟩:=Zib (Z3m cs v cs.length) (cs:=cs) (V:=V) (m:=mr) hV hR hgin
    rw [e1] at c12
    simp
    refine Z00 ?_
    simp [c12.c 0 rfl,hgr.len,hgr.ntup]
    refine AM.wp_ret ?_
    simp
    have hlen:(relC cs (Z3m cs v cs.length)).length = cs.length:=Zc9 _ _
    refine q _ _ (Z2a (p:=p) e2 (by omega) (by omega)) ?_
    rw [hlen]
    have c14:=c12.sub (m':=(hb,C [.slice p 0 cs.length (.lim cs.length),vs]) :: (p,C (encs (rcs (relC cs (Z3m cs v cs.length)) V3))) :: (mr ++ r)) (.cons _ (.cons _ (.cons _ (.cons_cons _ (.cons_cons _
     (List.Sublist.trans (List.sublist_append_right mg _) (List.sublist_append_right mh _)))))))
    have c15:=c14.perm (List.Perm.cons _ (List.Perm.cons _ (e3.append (List.Perm.refl r))))
    exact c15.sub (.cons_cons _ (.cons_cons _ ((List.sublist_append_left m3 dd).append (List.Sublist.refl r))))
end Go.Proofs
end
