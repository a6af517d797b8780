/- Parts of the proof: Sam, Pck2, Bk2, Bk3. -/
import Derived.Test.YtoipnedbpjfeiaaGreatDoorAb09
set_option linter.all false
set_option linter.unusedSectionVars false
set_option linter.unusedSimpArgs false
set_option linter.unusedVariables false
section
open Go Go.AM
namespace Go.Proofs
set_option maxRecDepth 100000
theorem Zwv {s:St} {v w:AVal} {xs ys:List Int} {Q:AVal→St→Prop} (hv:Z0e s v xs) (hw:Z0e s w ys) (hx:xs.length ≤ 2 ^ 62) (q:Q (.bool (xs == ys)) s):Z0c Tryz.prog 39 [v,w] s Q:=by
 refine Z08 (Z0d (by decide)) fi39 rfl (by decide) rfl ?_
 refine Z00 ?_
 simp
 refine AM.wp_seq ?_
 refine Z00 ?_
 simp [hv.ntup,hw.ntup,hv.len,hw.len]
 refine AM.Z04 ?_
 by_cases hl:xs.length = ys.length
 ·have hl':(xs.length:Int) = ys.length:=by omega
  simp [hl,hl']
  refine AM.wp_skip ?_
  simp
  refine AM.wp_seq ?_
  refine Z00 ?_
  simp [hv.ntup,hv.len]
  refine AM.wp_block ?_
  refine AM.wp_loop (fun m t s' => ∃ j:Nat,j ≤ xs.length∧m = xs.length - j∧PT.get (posOf 0) t = some v∧PT.get (posOf 1) t = some w∧PT.get (posOf 12) t = some (.int .i64 xs.length)∧PT.get (posOf 13) t = some (.int .i64 j)∧s' = s∧xs.take j = ys.take j) xs.length
   ⟨0,by simp,by simp,by simp,by simp,by simp [hl],by simp,rfl,by simp⟩ ?_
  rintro m t s' ⟨j,hj,rfl,t0,t1,t12,t13,rfl,heq⟩
  refine Z00 ?_
  simp [t12,t13]
  refine AM.wp_seq ?_
  refine AM.Z04 ?_
  by_cases hlt:j < xs.length
  ·have hwr:IntKind.wrap .i64 ((j:Int) + 1) = ((j + 1:Nat):Int):=by rw [IntWalk.i64_in _ (by omega)]; omega
   obtain ⟨x,hxj⟩:∃ x,xs[j]? = some x:=⟨_,List.getElem?_eq_getElem hlt⟩
   obtain ⟨y,hyj⟩:∃ y,ys[j]? = some y:=⟨_,List.getElem?_eq_getElem (by omega)⟩
   rcases hv with ⟨_,e⟩ | ⟨b,o,c,cs,rfl,hb,hcs,hle,hel⟩
   ·rw [e] at hlt
    simp at hlt
   rcases hw with ⟨_,e⟩ | ⟨b',o',c',cs',rfl,hb',hcs',hle',hel'⟩
   ·rw [e] at hl
    simp at hl
    rw [hl] at hlt
    simp at hlt
   have hg:=hel j x hxj
   have hg':=hel' j y hyj
   have hlt':j < ys.length:=by omega
   simp [hlt]
   refine AM.wp_skip ?_
   simp
   refine AM.wp_seq ?_
   refine AM.wp_block ?_
   refine Z00 ?_
   simp [t13]
   refine Z00 ?_
   simp [t0,t1,hlt,hlt',hcs,hcs',hg,hg']
   refine AM.Z04 ?_
   by_cases hxy:x = y
   ·simp [hxy]
    refine AM.wp_skip ?_
    simp
    refine AM.wp_region ?_
    simp [t13,hwr]
    refine ⟨xs.length - (j + 1),by omega,j + 1,by omega,by omega,by simp [t0],by simp [t1],by simp [t12],by simp,?_⟩
    rw [List.take_add_one,List.take_add_one,hxj,hyj,heq,hxy]
   ·simp [hxy]
    refine Z00 ?_
    simp
    refine AM.wp_ret ?_
    simp
    have hne:(xs == ys) = false:=by
     have:xs ≠ ys:=by
      intro e
      rw [e,hyj] at hxj
      exact hxy (Option.some.inj hxj).symm
     simpa using this
    rw [hne] at q
    exact q
  ·simp [hlt]
   refine AM.wp_exit ?_
   simp
   have hje:j = xs.length:=by omega
   subst hje
   rw [List.take_length,hl,List.take_length] at heq
   refine Z00 ?_
   simp
   refine AM.wp_ret ?_
   simp
   have hee:(xs == ys) = true:=by simpa using heq
   rw [hee] at q
   exact q
 ·have hl':¬ (xs.length:Int) = ys.length:=by omega
  simp [hl,hl']
  refine Z00 ?_
  simp
  refine AM.wp_ret ?_
  simp
  have hne:(xs == ys) = false:=by
   have:xs ≠ ys:=fun e => hl (by rw [e])
   simpa using this
  rw [hne] at q
  exact q
def Z9i (c d:CV):Bool:=c.taken == d.taken && (c.name == d.name && (c.held == d.held && c.kids == d.kids))
theorem Zaw {c d:CV}:Z9i c d = true ↔ c = d:=by
 cases c
 cases d
 simp [Z9i]
 intro _ _
 exact and_comm
theorem Zxw {s:St} {c d:CV} {kv kw:AVal} {Q:AVal→St→Prop} (hwf:s.Wf) (hv:Z0e s kv c.kids) (hw:Z0e s kw d.kids) (hx:c.kids.length ≤ 1000)
  (q:∀ s',Keeps s s'→Q (.bool (Z9i c d)) s'):Z0c Tryz.prog 43 [.agg [.bool c.taken,.str c.name,kv,.int .i64 c.held],.agg [.bool d.taken,.str d.name,kw,.int .i64 d.held]] s Q:=by
 have hvc:=hv.Zd0
 have hwc:=hw.Zd0
 refine Z08 (Z0d (by decide)) fi43 rfl (by decide) rfl ?_
 refine Z00 ?_
 simp
 have c1:=(Ctx.start (fun _ => False) hwf).alloc (C [.bool c.taken,.str c.name,kv,.int .i64 c.held])
 generalize s.alloc (.cells [.bool c.taken,.str c.name,kv,.int .i64 c.held] false) = s1 at c1 ⊢
 generalize s.next = B2 at c1 ⊢
 have c2:=c1.alloc (C [.bool d.taken,.str d.name,kw,.int .i64 d.held])
 generalize s1.alloc (.cells [.bool d.taken,.str d.name,kw,.int .i64 d.held] false) = s2 at c2 ⊢
 generalize s1.next = B3 at c2 ⊢
 have k2:=c2.Z0m
 refine Z00 ?_
 by_cases h1:c.taken = d.taken
 ·by_cases h2:c.name = d.name
  ·by_cases h3:c.held = d.held
   ·simp [c2.c 0 rfl,c2.c 1 rfl,h1,h2,h3,hv.ntup,hw.ntup]
    refine Z02 ?_
    refine Zwv (hv.keep k2) (hw.keep k2) (by omega) ?_
    simp
    refine AM.wp_ret ?_
    simp
    have:=q s2 k2
    simpa [Z9i,h1,h2,h3] using this
   ·simp [c2.c 0 rfl,c2.c 1 rfl,h1,h2,h3]
    refine AM.wp_ret ?_
    simp
    have e:Z9i c d = false:=by
     cases hh:Z9i c d with
     | true => exact (h3 (congrArg CV.held (Zaw.1 hh))).elim
     | false => rfl
    exact e ▸ q s2 k2
  ·simp [c2.c 0 rfl,c2.c 1 rfl,h1,h2]
   refine AM.wp_ret ?_
   simp
   have e:Z9i c d = false:=by
    cases hh:Z9i c d with
    | true => exact (h2 (congrArg CV.name (Zaw.1 hh))).elim
    | false => rfl
   exact e ▸ q s2 k2
 ·simp [c2.c 0 rfl,c2.c 1 rfl,h1]
  refine AM.wp_ret ?_
  simp
  have e:Z9i c d = false:=by
   cases hh:Z9i c d with
   | true => exact (h1 (congrArg CV.taken (Zaw.1 hh))).elim
   | false => rfl
  exact e ▸ q s2 k2
theorem Zjz {l:List CV} {j:Nat} {c:CV} (h:l[j]? = some c):l.take (j + 1) = l.take j ++ [c]:=by rw [List.take_add_one,h]; rfl
theorem Zn8 {s:St} {p p':Pos} {cs ds:List CV} {V V':List AVal} {Q:AVal→St→Prop} (hwf:s.Wf) (hV:V.length = cs.length) (hV':V'.length = ds.length) (hl:cs.length ≤ 400) (hl':ds.length ≤ 400)
  (hp:s.Old p) (hc:s.cells p = some (encs (rcs cs V))) (hk:∀ (i:Nat) (d:CV),cs[i]? = some d→∃ kv,V[i]? = some kv∧Z0e s kv d.kids)
  (hp':s.Old p') (hc':s.cells p' = some (encs (rcs ds V'))) (hk':∀ (i:Nat) (d:CV),ds[i]? = some d→∃ kv,V'[i]? = some kv∧Z0e s kv d.kids) (h4:∀ c ∈ cs,c.kids.length ≤ 1000)
  (q:∀ s' b,Keeps s s'→(b = true ↔ cs = ds)→Q (.bool b) s'):Z0c Tryz.prog 46 [.slice p 0 cs.length (.lim cs.length),.slice p' 0 ds.length (.lim ds.length),.fn 43 [] []] s Q:=by
 refine Z08 (Z0d (by decide)) fi46 rfl (by decide) rfl ?_
 refine Z00 ?_
 simp
 refine AM.wp_seq ?_
 refine Z00 ?_
 by_cases hle:cs.length = ds.length
 ·have hle':(cs.length:Int) = ds.length:=by omega
  simp [hle,hle']
  refine AM.Z04 ?_
  simp
  refine AM.wp_skip ?_
  simp
  refine AM.wp_seq ?_
  refine Z00 ?_
  simp
  refine AM.wp_block ?_
  refine AM.wp_loop (fun m t s' => ∃ j:Nat,j ≤ cs.length∧m = cs.length - j∧PT.get (posOf 1) t = some (.slice p' 0 ds.length (.lim ds.length))∧PT.get (posOf 2) t = some (.fn 43 [] [])∧PT.get (posOf 15) t = some (.slice p 0 cs.length (.lim cs.length))∧PT.get (posOf 16) t = some (.int .i64 cs.length)∧PT.get (posOf 17) t = some (.int .i64 j)∧Keeps s s'∧cs.take j = ds.take j) cs.length
   ⟨0,by simp,by simp,by simp,by simp,by simp [hle],by simp [hle],by simp,Keeps.refl s,by simp⟩ ?_
  rintro m t s' ⟨j,hj,rfl,t1,t2,t15,t16,t17,hK,heq⟩
  refine Z00 ?_
  simp [t16,t17]
  refine AM.wp_seq ?_
  refine AM.Z04 ?_
  by_cases hlt:j < cs.length
  ·have hwr:IntKind.wrap .i64 ((j:Int) + 1) = ((j + 1:Nat):Int):=by rw [IntWalk.i64_in _ (by omega)]; omega
   have hlt':j < ds.length:=by omega
   have hcj:cs[j]? = some cs[j]:=List.getElem?_eq_getElem hlt
   have hdj:ds[j]? = some ds[j]:=List.getElem?_eq_getElem hlt'
   obtain ⟨kv,k1,k2⟩:=hk j _ hcj
   obtain ⟨kw,l1,l2⟩:=hk' j _ hdj
   have hpc:s'.cells p = some (encs (rcs cs V)):=(hK.cells hp).trans hc
   have hpc':s'.cells p' = some (encs (rcs ds V')):=(hK.cells hp').trans hc'
   have hseg:=Z9q _ j _ (Z1k hcj k1)
   have hseg':=Z9q _ j _ (Z1k hdj l1)
   have hlen:j * 4 + 4 ≤ (encs (rcs cs V)).length:=by rw [Z2j,Z1c hV]; omega
   have hlen':j * 4 + 4 ≤ (encs (rcs ds V')).length:=by rw [Z2j,Z1c hV']; omega
   simp only [RC.enc] at hseg hseg'
   have hkt:=k2.ntup
   have hlt2:=l2.ntup
   generalize hA:cs[j] = A at hseg hcj k2
   generalize hD:ds[j] = D at hseg' hdj l2
   simp [hlt]
   refine AM.wp_skip ?_
   simp
   refine AM.wp_seq ?_
   refine AM.wp_block ?_
   refine Z00 ?_
   simp [t15,t17,hlt,hpc,hlen,hseg]
   have hw':=hK.wf hwf
   have c1:=((Ctx.start (fun _ => False) hw').alloc (C [.bool false,.str [],.nilSlice,.int .i64 0])).put 0 rfl (C [.bool A.taken,.str A.name,kv,.int .i64 A.held])
   simp only [List.set_cons_zero] at c1
   generalize (s'.alloc (.cells [.bool false,.str [],.nilSlice,.int .i64 0] false)).put s'.next (.cells [.bool A.taken,.str A.name,kv,.int .i64 A.held] false) = s1 at c1 ⊢
   generalize s'.next = B8 at c1 ⊢
   have k1':=c1.Z0m
   refine Z00 ?_
   simp [t1,hlt',(k1'.cells (hK.old hp')).trans hpc',hlen',hseg']
   have c2:=(c1.alloc (C [.bool false,.str [],.nilSlice,.int .i64 0])).put 0 rfl (C [.bool D.taken,.str D.name,kw,.int .i64 D.held])
   simp only [List.set_cons_zero] at c2
   generalize (s1.alloc (.cells [.bool false,.str [],.nilSlice,.int .i64 0] false)).put s1.next (.cells [.bool D.taken,.str D.name,kw,.int .i64 D.held] false) = s2 at c2 ⊢
   generalize s1.next = B9 at c2 ⊢
   have k2':=c2.Z0m
   refine Z00 ?_
   simp [t2,c2.c 0 rfl,c2.c 1 rfl]
   refine Z02 ?_
   refine Zxw (c:=A) (d:=D) c2.wf ((k2.keep hK).keep k2') ((l2.keep hK).keep k2') (h4 A (List.mem_of_getElem? hcj)) fun s3 k3 => ?_
   have hK3:=(hK.trans k2').trans k3
   simp
   refine AM.Z04 ?_
   cases hs:Z9i A D with
   | true =>
    simp
    refine AM.wp_skip ?_
    simp
    refine AM.wp_region ?_
    simp [t17,hwr]
    refine ⟨cs.length - (j + 1),by omega,j + 1,by omega,by omega,by simp [t1],by simp [t2],by simp [t15],by simp [t16],by simp,hK3,?_⟩
    rw [Zjz hcj,Zjz hdj,heq,Zaw.1 hs]
   | false =>
    simp
    refine Z00 ?_
    simp
    refine AM.wp_ret ?_
    simp
    refine q s3 false hK3 ⟨fun h => (by cases h),fun e => ?_⟩
    rw [e,hdj] at hcj
    rw [← Option.some.inj hcj] at hs
    rw [Zaw.2 rfl] at hs
    cases hs
  ·simp [hlt]
   refine AM.wp_exit ?_
   simp
   have hje:j = cs.length:=by omega
   subst hje
   rw [List.take_length,hle,List.take_length] at heq
   refine Z00 ?_
   simp
   refine AM.wp_ret ?_
   simp
   exact q s' true hK ⟨fun _ => heq,fun _ => rfl⟩
 ·have hle':¬ (cs.length:Int) = ds.length:=by omega
  simp [hle,hle']
  refine AM.Z04 ?_
  simp
  refine Z00 ?_
  simp
  refine AM.wp_ret ?_
  simp
  exact q s false (Keeps.refl s) (Iff.intro (fun h => by cases h) (fun e => (hle (by rw [e])).elim))
theorem Zla {cs:List CV} {V V':List AVal} (h:V.length = cs.length) (h':V'.length = cs.length):∀ i,Z2m (rcs cs V) i = Z2m (rcs cs V') i
 | 0 => rfl
 | i + 1 => by
  have ih:=Zla h h' i
  by_cases hi:i < cs.length
  ·have hc:cs[i]? = some cs[i]:=List.getElem?_eq_getElem hi
   have g1:=Z1k hc (List.getElem?_eq_getElem (show i < V.length by omega))
   have g2:=Z1k hc (List.getElem?_eq_getElem (show i < V'.length by omega))
   simp only [Z2m,g1,g2,ih]
  ·have g1:(rcs cs V)[i]? = none:=List.getElem?_eq_none (by rw [Z1c h]; omega)
   have g2:(rcs cs V')[i]? = none:=List.getElem?_eq_none (by rw [Z1c h']; omega)
   simp only [Z2m,g1,g2]
   exact ih
theorem Zn3 {s:St} {p:Pos} {l:List RC} {n:Nat} {Q:AVal→St→Prop} (hn:l.length = n) (hw:s.Wf) (hp:s.Old p) (hc:s.cells p = some (encs l)) (hl:n ≤ 400)
  (q:∀ s',Keeps s s'→Q (.agg [.int .i64 n,.int .i64 (takI l l.length).length,.int .i64 (Z2m l l.length)]) s'):Z0c Tryz.prog 45 [.agg [.slice p 0 n (.lim n)]] s Q:=by
 subst hn
 exact Zl0 hw hp hc hl q
structure Seen (s:St) (hb:Pos) (cs:List CV):Prop where
 ex:∃ p V vs,s.Old hb∧s.cells hb = some [.slice p 0 cs.length (.lim cs.length),vs]∧s.Old p∧s.cells p = some (encs (rcs cs V))∧V.length = cs.length∧1 ≤ cs.length∧cs.length ≤ 400∧∀ (i:Nat) (d:CV),cs[i]? = some d→∃ kv,V[i]? = some kv∧Z0e s kv d.kids
theorem Zgw {s0 s:St} {W:Pos→Prop} {hb:Pos} {vs:AVal} {cs:List CV} {m r:Lets} (hH:Z26 hb vs cs m) (h:Ctx s0 W (m ++ r) s):Seen s hb cs:=by
 obtain ⟨p,V,mr,hc,hR,hV,h1,h4⟩:=Z91 hH h
 obtain ⟨r1,r2,r3⟩:=Z9h (p:=p) (cs:=cs) (V:=V) hc (by simp) hR (fun y hy => by simp [hy])
 exact ⟨p,V,vs,hc.oi 0 rfl,hc.c 0 rfl,r1,r2,hV,h1,h4,r3⟩
theorem Zrc {s:St} {ha hb:Pos} {cs ds:List CV} {Q:AVal→St→Prop} (hwf:s.Wf) (hA:Seen s ha cs) (hB:Seen s hb ds) (hk4:∀ c ∈ cs,c.kids.length ≤ 1000)
  (q:∀ s' b,Keeps s s'→(b = true ↔ cs = ds)→Q (.bool b) s'):Z0c Tryz.prog 13 [.ptr ha 0,.ptr hb 0] s Q:=by
 obtain ⟨p,V,vs,a1,a2,a3,a4,a5,a6,a7,a8⟩:=hA
 obtain ⟨p',V',vs',b1,b2,b3,b4,b5,b6,b7,b8⟩:=hB
 have hno:cs.length ≠ 0:=by omega
 have hno':ds.length ≠ 0:=by omega
 refine Z08 (Z0d (by decide)) fi13 rfl (by decide) rfl ?_
 refine Z00 ?_
 simp
 refine Z00 ?_
 simp
 refine Z00 ?_
 simp
 refine Z02 ?_
 refine Z5j a2 rfl hno ?_
 simp
 refine Z02 ?_
 refine Z5j b2 rfl hno' ?_
 simp [a2,b2]
 refine Z02 ?_
 refine Zn3 (Z1c a5) hwf a3 a4 a7 fun s1 k1 => ?_
 have a2':=(k1.cells a1).trans a2
 have b2':=(k1.cells b1).trans b2
 simp [b2']
 refine ⟨Zfd _ _ _ _,?_⟩
 refine Z02 ?_
 refine Zn3 (Z1c b5) (k1.wf hwf) (k1.old b3) ((k1.cells b3).trans b4) b7 fun s2 k2 => ?_
 have hK:=k1.trans k2
 have a2'':=(hK.cells a1).trans a2
 have b2'':=(hK.cells b1).trans b2
 obtain ⟨bb,hbb⟩:∃ bb,bb = decide ([(cs.length:Int),(takI (rcs cs V) (rcs cs V).length).length,Z2m (rcs cs V) (rcs cs V).length] = [(ds.length:Int),(takI (rcs ds V') (rcs ds V').length).length,Z2m (rcs ds V') (rcs ds V').length]):=⟨_,rfl⟩
 have e3:∀ (K:Bool→Bool),Z0v [.int,.int,.int] [.int .i64 cs.length,.int .i64 (takI (rcs cs V) (rcs cs V).length).length,.int .i64 (Z2m (rcs cs V) (rcs cs V).length)] [.int .i64 ds.length,.int .i64 (takI (rcs ds V') (rcs ds V').length).length,.int .i64 (Z2m (rcs ds V') (rcs ds V').length)] K = K bb:=fun K => by
  rw [hbb]
  exact eqInts 3 [(cs.length:Int),(takI (rcs cs V) (rcs cs V).length).length,Z2m (rcs cs V) (rcs cs V).length] [(ds.length:Int),(takI (rcs ds V') (rcs ds V').length).length,Z2m (rcs ds V') (rcs ds V').length] K rfl rfl
 have hte:cs = ds→(takI (rcs cs V) (rcs cs V).length).length = (takI (rcs ds V') (rcs ds V').length).length:=by
  rintro rfl
  rw [Zen,Zen,Zem a5,Zem b5]
 have hhe:cs = ds→Z2m (rcs cs V) (rcs cs V).length = Z2m (rcs ds V') (rcs ds V').length:=by
  rintro rfl
  rw [Z1c a5,Z1c b5]
  exact Zla a5 b5 _
 generalize (takI (rcs cs V) (rcs cs V).length).length = ta at hbb e3 hte ⊢
 generalize (takI (rcs ds V') (rcs ds V').length).length = tb at hbb e3 hte ⊢
 rw [Zsi,Zpn,Zse,Zer,Zma,if_pos rfl,opP_bin,Zuu,Zut,Zer,Zer]
 refine ⟨rfl,rfl,by rw [e3],?_⟩
 rw [e3]
 cases bb with
 | true =>
  simp only [eqP]
  simp [a2'',b2'']
  refine Z02 ?_
  refine Zn8 (k2.wf (k1.wf hwf)) a5 b5 a7 b7 (hK.old a3) ((hK.cells a3).trans a4) (fun i d hd => ?_) (hK.old b3) ((hK.cells b3).trans b4) (fun i d hd => ?_) hk4 fun s3 b k3 hb => ?_
  ·obtain ⟨kv,e1,e2⟩:=a8 i d hd
   exact ⟨kv,e1,e2.keep hK⟩
  ·obtain ⟨kv,e1,e2⟩:=b8 i d hd
   exact ⟨kv,e1,e2.keep hK⟩
  ·simp
   refine AM.wp_ret ?_
   simp
   exact q s3 b (hK.trans k3) hb
 | false =>
  simp only [eqP]
  simp
  refine AM.wp_ret ?_
  simp
  refine q s2 false hK ⟨fun h => (by cases h),fun e => ?_⟩
  rw [hte e,hhe e,e,decide_eq_true rfl] at hbb
  cases hbb
theorem HOk2.packed {cs:List CV} (h:HOk2 cs) (v:List Nat):(∀ c ∈ Z1o cs v,c.kids.length ≤ 4)∧∀ c ∈ Z1o cs v,c.taken = true→∀ k ∈ c.kids,0 ≤ k∧k < cs.length:=by
 have key:∀ c ∈ Z1o cs v,c = Z1r ∨ c ∈ cs:=by
  intro c hc
  unfold Z1o pick at hc
  rcases List.mem_append.1 hc with hc | hc
  ·obtain ⟨a,_,rfl⟩:=List.mem_map.1 hc
   cases ha:cs[a]? with
   | none => exact .inl rfl
   | some d => exact .inr (List.mem_of_getElem? ha)
  ·exact .inl (List.eq_of_mem_replicate hc)
 refine ⟨fun c hc => ?_,fun c hc ht k hk => ?_⟩
 ·rcases key c hc with rfl | hm
  ·simp [Z1r]
  ·exact h.kids4 c hm
 ·rcases key c hc with rfl | hm
  ·simp [Z1r] at hk
  ·obtain ⟨k0,_,_,_,k1⟩:=Z22 (h.kids c hm ht k hk)
   exact ⟨k0,by omega⟩
theorem Zwd {s0 s:St} {W:Pos→Prop} {pn B4 Bx:Pos} {cs:List CV} {n:Nat} {V:List AVal} {cls:List Int} {mk r:Lets} {cp:Cap} {Q:AVal→St→Prop} (hn:cs.length = n) (h:Ctx s0 W (mk ++ r) s) (hR:Z0s (cs.map CV.kids) V mk) (hO4:∀ c ∈ cs,c.kids.length ≤ 4) (hOk:∀ c ∈ cs,c.taken = true→∀ k ∈ c.kids,0 ≤ k∧k < n) (hcl:cls.length = n) (h4:n ≤ 400)
  (hpn:(pn,C (encs (rcs cs V))) ∈ r) (hB4:(B4,C [.slice Bx 0 n cp]) ∈ r) (hBx:(Bx,C (ints cls)) ∈ r)
  (q:∀ mk' s',Z0s ((Z45 cls cs).map CV.kids) V mk'→Ctx s0 W (mk' ++ r) s'→Q (.tup []) s') :
  Z0c Tryz.prog 57 [.agg [.fn 66 [] [.ptr B4 0]],.agg [.slice pn 0 n (.lim n)]] s Q:=by
 subst hn
 exact Zwc h hR hO4 hOk hcl h4 hpn hB4 hBx q
theorem pack_c {s0 s:St} {W:Pos→Prop} {hb:Pos} {vs:AVal} {cs:List CV} {m r:Lets} {Q:AVal→St→Prop} (hH:Z26 hb vs cs m) (h:Ctx s0 W (m ++ r) s) (hO:HOk2 cs)
  (q:∀ Bo m' s',Z26 hb vs (Zml cs).2 m'→Ctx s0 W ((Bo,C (ints (Zml cs).1)) :: (m' ++ r)) s'→Q (.tup [.slice Bo 0 cs.length (.lim cs.length),.int .i64 0]) s'):Z0c Tryz.prog 20 [.ptr hb 0] s Q:=by
 obtain ⟨p,V,mr,hc,hR,hV,h1,h4,hP⟩:=Z9g hH h
 have hl:=Z1c hV
 have hno:cs.length ≠ 0:=by omega
 have hz1:cs.length ≤ Z0g:=by unfold Z0g; omega
 have hz2:cs.length * 8 ≤ Z0g:=by unfold Z0g; omega
 have hz3:cs.length * 56 ≤ Z0g:=by unfold Z0g; omega
 have hkvs:∀ (i:Nat) kv,V[i]? = some kv→kv.cells = [kv]∧∀ t,¬ kv = .tup t:=by
  intro i kv hi
  have hil:i < cs.length:=by have:=(List.getElem?_eq_some_iff.1 hi).1; omega
  obtain ⟨kv',e1,e2⟩:=hR.each (i:=i) (Z69 hil)
  rw [hi] at e1
  cases e1
  have hsl:Z18 kv = some (Z0o cs i).length:=by
   rcases e2 with ⟨e3,e4⟩ | ⟨q',c',_,e4,_⟩
   ·rw [e3]; exact e4
   ·rw [e4]; rfl
  cases kv <;> first | (cases hsl; done) | exact ⟨rfl,fun t e => by cases e⟩
 refine Z08 (Z0d (by decide)) fi20 rfl (by decide) rfl ?_
 refine Z00 ?_
 simp
 have c1:=hc.alloc (C [.ptr hb 0])
 generalize s.alloc (.cells [.ptr hb 0] false) = s1 at c1 ⊢
 generalize s.next = B1 at c1 ⊢
 refine AM.wp_seq ?_
 refine Z00 ?_
 simp [c1.c 0 rfl]
 refine Z02 ?_
 refine Z5j (c1.c 1 rfl) rfl hno ?_
 simp
 refine AM.Z04 ?_
 simp
 refine AM.wp_skip ?_
 simp
 refine Z00 ?_
 simp [c1.c 0 rfl,c1.c 1 rfl,hz1,hz2]
 have c2:=c1.alloc (C (List.replicate cs.length (.int .i64 0)))
 generalize s1.alloc (.cells (List.replicate cs.length (.int .i64 0)) false) = s2 at c2 ⊢
 generalize s1.next = Bo at c2 ⊢
 have c3:=(c2.alloc (C [.nilSlice])).put 0 rfl (C [.slice Bo 0 cs.length (.lim cs.length)])
 simp only [List.set_cons_zero] at c3
 generalize (s2.alloc (.cells [.nilSlice] false)).put s2.next (.cells [.slice Bo 0 cs.length (.lim cs.length)] false) = s3 at c3 ⊢
 generalize s2.next = B4 at c3 ⊢
 refine AM.wp_seq ?_
 refine Z00 ?_
 simp [c3.c 0 rfl]
 refine AM.wp_block ?_
 refine AM.wp_loop (fun k t s' => ∃ j:Nat,j ≤ cs.length∧k = cs.length - j∧PT.get (posOf 1) t = some (.ptr B1 0)∧PT.get (posOf 4) t = some (.ptr B4 0)∧PT.get (posOf 18) t = some (.int .i64 cs.length)∧PT.get (posOf 19) t = some (.int .i64 j) ∧
   Ctx s0 W ((B4,C [.slice Bo 0 cs.length (.lim cs.length)]) :: (Bo,C (List.replicate j (.int .i64 (-1)) ++ List.replicate (cs.length - j) (.int .i64 0))) :: (B1,C [.ptr hb 0]) :: (hb,C [.slice p 0 cs.length (.lim cs.length),vs]) :: (p,C (encs (rcs cs V))) :: (mr ++ r)) s') cs.length
  ⟨0,by simp,by simp,by simp,by simp,by simp,by simp,by simpa using c3⟩ ?_
 rintro k t s' ⟨j,hj,rfl,t1,t4,t18,t19,d⟩
 refine Z00 ?_
 simp [t18,t19]
 refine AM.wp_seq ?_
 refine AM.Z04 ?_
 by_cases hlt:j < cs.length
 ·have hwr:IntKind.wrap .i64 ((j:Int) + 1) = ((j + 1:Nat):Int):=by rw [IntWalk.i64_in _ (by omega)]; omega
  have hle:j + 1 ≤ j + (cs.length - j):=by omega
  simp [hlt]
  refine AM.wp_skip ?_
  simp
  refine AM.wp_seq ?_
  refine AM.wp_block ?_
  refine Z00 ?_
  simp [t19]
  refine AM.wp_region ?_
  simp [t4,d.c 0 rfl,d.o 1 rfl,hlt,hle,Zic]
  rw [Zid]
  have d1:=d.put 1 rfl (C (List.replicate (j + 1) (.int .i64 (-1)) ++ List.replicate (cs.length - (j + 1)) (.int .i64 0)))
  simp only [List.set_cons_succ,List.set_cons_zero] at d1
  refine AM.wp_region ?_
  simp [t19,hwr]
  exact ⟨cs.length - (j + 1),by omega,j + 1,by omega,by omega,by simp [t1],by simp [t4],by simp [t18],by simp,d1⟩
 ·simp [hlt]
  refine AM.wp_exit ?_
  simp
  have hje:j = cs.length:=by omega
  subst hje
  have hz:List.replicate cs.length (AVal.int .i64 (-1)) ++ List.replicate (cs.length - cs.length) (.int .i64 0) = ints (outL cs.length []):=by
   rw [Nat.sub_self,List.replicate_zero,List.append_nil]
   refine List.ext_getElem? fun x => ?_
   unfold ints
   by_cases hx:x < cs.length
   ·rw [List.getElem?_map,Zed _ hx,List.getElem?_replicate,if_pos hx]
    rfl
   ·rw [List.getElem?_eq_none (by simp; omega),List.getElem?_eq_none (by simp [Z8p]; omega)]
  rw [hz] at d
  refine Z00 ?_
  simp [t1,d.c 2 rfl,d.c 3 rfl,hz1,hz3]
  have hV0:(List.replicate cs.length [AVal.bool false,.str [],.nilSlice,.int .i64 0]).flatten = encs (rcs (Z1o cs []) (Z2u cs.length V [])):=by
   simp [encs,rcs,RC.enc,Z1r,Z1o,Z2u,pick,List.zipWith_replicate,List.flatMap]
  rw [hV0]
  have d1:=d.alloc (C (encs (rcs (Z1o cs []) (Z2u cs.length V []))))
  generalize s'.alloc (.cells (encs (rcs (Z1o cs []) (Z2u cs.length V []))) false) = s4 at d1 ⊢
  generalize s'.next = pn at d1 ⊢
  have d2:=(d1.alloc (C [.nilSlice])).put 0 rfl (C [.slice pn 0 cs.length (.lim cs.length)])
  simp only [List.set_cons_zero] at d2
  generalize (s4.alloc (.cells [.nilSlice] false)).put s4.next (.cells [.slice pn 0 cs.length (.lim cs.length)] false) = s5 at d2 ⊢
  generalize s4.next = B6 at d2 ⊢
  refine Z00 ?_
  simp
  have d3:=(d2.alloc (C [.int .i64 0])).put 0 rfl (C [.int .i64 0])
  simp only [List.set_cons_zero] at d3
  generalize (s5.alloc (.cells [.int .i64 0] false)).put s5.next (.cells [.int .i64 0] false) = s6 at d3 ⊢
  generalize s5.next = B7 at d3 ⊢
  refine Z00 ?_
  simp [t1,t4,d3.c 5 rfl,d3.c 6 rfl]
  refine Z02 ?_
  refine Zqt (p:=p) (V:=V) (cs:=cs) d3 hV h4 (fun x s' hx => ?_) fun lv mg x s7 hg d4 => ?_
  ·have hx':(p,C (encs (rcs cs V))) ∈ x ++ ((B7,C [.int .i64 0]) :: (B6,C [.slice pn 0 cs.length (.lim cs.length)]) :: (pn,C (encs (rcs (Z1o cs []) (Z2u cs.length V [])))) :: (B4,C [.slice Bo 0 cs.length (.lim cs.length)]) :: (Bo,C (ints (outL cs.length []))) :: (B1,C [.ptr hb 0]) :: (hb,C [.slice p 0 cs.length (.lim cs.length),vs]) :: (p,C (encs (rcs cs V))) :: (mr ++ r)):=by simp
   exact ⟨hx.ob hx',Z0a (Z13 (hx.own _ hx'))⟩
  have d4:=(d4.sub (List.sublist_append_right x _))
  have d5:Ctx s0 W ([(B7,C [.int .i64 ([]:List Nat).length]),(B4,C [.slice Bo 0 cs.length (.lim cs.length)]),(Bo,C (ints (outL cs.length []))),(B6,C [.slice pn 0 cs.length (.lim cs.length)]),(pn,C (encs (rcs (Z1o cs []) (Z2u cs.length V []))))] ++
    ((B1,C [.ptr hb 0]) :: (hb,C [.slice p 0 cs.length (.lim cs.length),vs]) :: (p,C (encs (rcs cs V))) :: (mg ++ (mr ++ r)))) s7:=d4.perm (Z0n fun x => by
   simp only [Z0j,Z0i,Z0z,List.length_nil]
   have:(((0:Nat):Int)) = 0:=rfl
   rw [this]
   omega)
  have hlv:∀ t,¬ lv = .tup t:=hg.ntup
  simp [t1,hlv,d5.c 5 rfl,d5.c 6 rfl]
  refine ⟨by simp [Z2l],Zfd _ _ _ _,?_⟩
  refine Z02 ?_
  have hrn:nats ((Z2c cs cs.length).map Int.toNat) = Z2c cs cs.length:=Zjm fun k hk => (Z8w hk).1
  have hrl:=Zfk cs cs.length
  have hroots:∀ a ∈ (Z2c cs cs.length).map Int.toNat,Z07 cs (a:Int) = true:=by
   intro a ha
   obtain ⟨k,hk,rfl⟩:=List.mem_map.1 ha
   obtain ⟨k0,_,kt⟩:=Z8w hk
   rw [Int.toNat_of_nonneg k0]
   exact kt
  refine Zku (V:=V) (J:=fun v m => m = [(B7,C [.int .i64 (v.length:Nat)]),(B4,C [.slice Bo 0 cs.length (.lim cs.length)]),(Bo,C (ints (outL cs.length v))),(B6,C [.slice pn 0 cs.length (.lim cs.length)]),(pn,C (encs (rcs (Z1o cs v) (Z2u cs.length V v))))])
   (roots:=(Z2c cs cs.length).map Int.toNat) (rv:=lv) (f:=65) (fx:=[]) (fy:=[.ptr B7 0,.ptr B4 0,.ptr B1 0,.ptr B6 0])
   ⟨hV,h4,?_,fun a ha => Z1y (hroots a ha),by simp; omega,Zon hO,?_⟩ d5 rfl hlv ?_
  ·rintro x m' s' hx ⟨v,rfl⟩
   obtain ⟨r1,r2,r3⟩:=Z9h (p:=p) (cs:=cs) (V:=V) hx (by simp) hR (fun y hy => by simp [hy])
   refine ⟨r1,r2,?_,r3⟩
   rw [hrn]
   exact (hg.row.kid fun y hy => hx.own y (by simp [hy])).ints hx.wf
  ·rintro a v x m' s' R rfl hav han hvn hvlt hx hq
   refine Z02 ?_
   exact Zxl (pre:=x) (r:=mg ++ (mr ++ r)) hV h4 (by simpa using hx) han hav hvn hvlt hkvs fun s'' hx' => hq _ _ _ rfl (by simpa using hx')
  ·rintro x m' s8 rfl hx
   have d6:=hx.sub (List.sublist_append_right x _)
   simp only [List.cons_append,List.nil_append] at d6
   obtain ⟨f1,f2,f3,f4,f5⟩:=Zdy (n:=cs.length) hO.Zqx ((Z2c cs cs.length).map Int.toNat) (fun a ha => Z1y (hroots a ha))
   have hrd:bfsF (kidN cs) cs.length ((Z2c cs cs.length).map Int.toNat) = Z16 cs:=rfl
   rw [hrd] at d6 f1 f2
   simp only [Zml] at q
   generalize Z16 cs = v at d6 f1 f2 q
   have hvl:=Z34 f1 f2
   obtain ⟨m1,dd,g1,g2⟩:=hR.pick f1 (fun a ha => by simpa using f2 a ha)
   have g3:=g1.nils (cs.length - v.length)
   rw [← Zt6] at g3
   have g3:Z0s ((Z1o cs v).map CV.kids) (Z2u cs.length V v) m1:=g3
   have hpl:=Zct (cs:=cs) hvl
   obtain ⟨p4,pin⟩:=hO.packed v
   have d7:=d6.perm (m':=m1 ++ ((B4,C [.slice Bo 0 cs.length (.lim cs.length)]) :: (Bo,C (ints (outL cs.length v))) :: (B6,C [.slice pn 0 cs.length (.lim cs.length)]) :: (pn,C (encs (rcs (Z1o cs v) (Z2u cs.length V v)))) :: (B1,C [.ptr hb 0]) :: (hb,C [.slice p 0 cs.length (.lim cs.length),vs]) :: (B7,C [.int .i64 (v.length:Nat)]) :: (p,C (encs (rcs cs V))) :: (mg ++ (dd ++ r)))) (Z0n fun x => by
    have i1:=Z3d g2 x
    simp only [Z0j,Z0i,Z0z] at i1 ⊢
    omega)
   simp
   have b6:s8.cells B6 = some [.slice pn 0 cs.length (.lim cs.length)]:=Z0a (Z13 (d7.own (B6,C [.slice pn 0 cs.length (.lim cs.length)]) (by simp)))
   refine Z00 ?_
   simp [t4,b6]
   refine Z02 ?_
   refine Zwd (Bx:=Bo) (cls:=outL cs.length v) (cp:=.lim cs.length) hpl d7 g3 p4 pin (Z8p _ _) h4 (by simp) (by simp) (by simp) fun mk' s9 e1 e2 => ?_
   have e3:=e2.perm (m':=(B4,C [.slice Bo 0 cs.length (.lim cs.length)]) :: (Bo,C (ints (outL cs.length v))) :: (B6,C [.slice pn 0 cs.length (.lim cs.length)]) :: (pn,C (encs (rcs (Z1o cs v) (Z2u cs.length V v)))) :: (B1,C [.ptr hb 0]) :: (hb,C [.slice p 0 cs.length (.lim cs.length),vs]) :: (mk' ++ ((B7,C [.int .i64 (v.length:Nat)]) :: (p,C (encs (rcs cs V))) :: (mg ++ (dd ++ r))))) (Z0n fun x => by
    simp only [Z0j,Z0i,Z0z]
    omega)
   simp
   refine Z00 ?_
   simp [t1,e3.c 4 rfl,e3.c 2 rfl,e3.o 5 rfl]
   have e4:=e3.put 5 rfl (C [.slice pn 0 cs.length (.lim cs.length),vs])
   simp only [List.set_cons_succ,List.set_cons_zero] at e4
   generalize s9.put hb (.cells [.slice pn 0 cs.length (.lim cs.length),vs] false) = s10 at e4 ⊢
   refine Z00 ?_
   simp [t4,e4.c 0 rfl]
   refine AM.wp_ret ?_
   simp
   have hml:(Z45 (outL cs.length v) (Z1o cs v)).length = cs.length:=by rw [Z93,hpl]
   have hrm:rcs (Z45 (outL cs.length v) (Z1o cs v)) (Z2u cs.length V v) = rcs (Z1o cs v) (Z2u cs.length V v):=by
    unfold rcs Z45
    rw [List.zipWith_map_left]
    congr 1
    funext d kv
    split <;> rfl
   refine q Bo _ s10 (Z2a (p:=pn) (V:=Z2u cs.length V v) (mr:=mk') e1 (by omega) (by omega)) ?_
   rw [hml,hrm]
   have e5:=e4.sub (m':=(Bo,C (ints (outL cs.length v))) :: (pn,C (encs (rcs (Z1o cs v) (Z2u cs.length V v)))) :: (hb,C [.slice pn 0 cs.length (.lim cs.length),vs]) :: (mk' ++ r)) (.cons _ (.cons_cons _ (.cons _ (.cons_cons _ (.cons _ (.cons_cons _ ((List.Sublist.refl mk').append (.cons _ (.cons _ ((List.sublist_append_right dd r).trans (List.sublist_append_right mg _)))))))))))
   refine e5.perm (Z0n fun x => ?_)
   simp only [Z0j,Z0i,Z0z]
   omega
theorem Zl1 {s s':St} {m:Lets} (h:Ctx s (fun _ => False) m s'):Keeps s s':=⟨fun b hb => h.obj b (fun h => h) hb,h.next,fun _ => h.wf⟩
section
variable {s0 s:St} {hb:Pos} {vs:AVal} {r:Lets} {fr:FI} {t0:PT AVal} {Q:Ex→PT AVal→St→Prop}
theorem bk_op {cs:List CV} {os:List OpV} {i:Nat} {m:Lets} {lv:AVal} (hG:HG cs) (hl:cs.length ≤ 60) (hH:Z26 hb vs cs m) (hc:Ctx s0 (fun _ => False) (m ++ r) s) (hO:Z8g s0 lv os) (hS:∀ o ∈ os,Zgz o.ns) (hi:i < os.length)
  (u5:PT.get (posOf 5) t0 = some (.ptr hb 0)) (u54:PT.get (posOf 54) t0 = some lv) (u56:PT.get (posOf 56) t0 = some (.int .i64 i))
  (q:∀ t s' c m',(∀ n ∈ [1,5,7,9,52,54,55,56],PT.get (posOf n) t = PT.get (posOf n) t0)→HG c→c.length = cs.length→Z26 hb vs c m'→Ctx s0 (fun _ => False) (m' ++ r) s'→Q .normal t s'):wp Tryz.prog c3_48 fr t0 s (Z9v 3 Q):=by
 obtain ⟨o,ho⟩:∃ o,os[i]? = some o:=⟨_,List.getElem?_eq_getElem hi⟩
 have hoS:=hS o (List.mem_of_getElem? ho)
 have hK:=Zl1 hc
 rcases hO with ⟨_,h⟩ | ⟨b,c,xs,rfl,hb1,hb2',hb3,hb4⟩
 ·rw [h] at ho; cases ho
 have hb2:s.cells b = some xs:=(hK.cells hb1).trans hb2'
 have hop:=hb4 i o ho
 obtain ⟨kids,nodes,hx,hn,hno,hm⟩:=hop
 have hnk:∀ t,¬ kids = .tup t:=by
  rintro t rfl
  cases hn
 have hnn:=hno.at.ntup
 refine Z00 ?_
 simp [u54,u56,hi,hb2,hx,show i * 8 + 8 ≤ xs.length by omega]
 have d3:=(hc.alloc (C [.int .i64 0,.str [],.nilSlice,.int .i64 0,.int .i64 0,.int .i64 0,.nilSlice,.int .i64 0])).put 0 rfl (C [.int .i64 o.k,.str o.nm,kids,.int .i64 o.a,.int .i64 o.b,.int .i64 o.c,nodes,.int .i64 o.r])
 simp only [List.set_cons_zero] at d3
 generalize (s.alloc (.cells [.int .i64 0,.str [],.nilSlice,.int .i64 0,.int .i64 0,.int .i64 0,.nilSlice,.int .i64 0] false)).put s.next (.cells [.int .i64 o.k,.str o.nm,kids,.int .i64 o.a,.int .i64 o.b,.int .i64 o.c,nodes,.int .i64 o.r] false) = s3 at d3 ⊢
 generalize s.next = B12 at d3 ⊢
 have hB12:s3.cells B12 = some [.int .i64 o.k,.str o.nm,kids,.int .i64 o.a,.int .i64 o.b,.int .i64 o.c,nodes,.int .i64 o.r]:=d3.c 0 rfl
 have hno3:Z78 s3 nodes o.ns:=hno.keep (Zl1 d3)
 refine Z00 ?_
 simp [hB12]
 refine Z02 ?_
 refine mod_wp fun z => ?_
 simp
 have d4:=d3.sub (m':=m ++ r) (List.sublist_cons_self _ _)
 have hfr:∀ (t:PT AVal),(∀ n ∈ [1,5,7,9,52,54,55,56],PT.get (posOf n) t = PT.get (posOf n) t0)→PT.get (posOf 5) t = some (.ptr hb 0):=fun t h => (h 5 (by simp)).trans u5
 refine AM.wp_block ?_
 refine Z00 ?_
 simp
 refine AM.Z04 ?_
 by_cases z0:z = 0
 ·simp [z0]
  refine AM.wp_region ?_
  simp [u5]
  refine Z02 ?_
  refine Zv9 (ks:=[]) hH d4 (by decide) (.inl ⟨rfl,rfl⟩) (by decide) fun m' s' hH' d5 => ?_
  obtain ⟨e1,e2⟩:=Zvd hG [97] []
  simp
  exact q _ _ _ _ (fun n hn => by simp at hn; rcases hn with rfl | rfl | rfl | rfl | rfl | rfl | rfl | rfl <;> simp) e1 e2 hH' d5
 simp [z0]
 refine Z00 ?_
 simp
 refine AM.Z04 ?_
 by_cases z1:z = 1
 ·simp [z1]
  refine AM.wp_region ?_
  simp [u5,hB12]
  refine Z02 ?_
  refine tie_c hH d4 fun m' s' hH' d5 => ?_
  obtain ⟨e1,e2⟩:=Zrg hG o.a o.b o.c
  simp
  exact q _ _ _ _ (fun n hn => by simp at hn; rcases hn with rfl | rfl | rfl | rfl | rfl | rfl | rfl | rfl <;> simp) e1 e2 hH' d5
 simp [z1]
 refine Z00 ?_
 simp
 refine AM.Z04 ?_
 by_cases z2:z = 2
 ·simp [z2]
  refine AM.wp_region ?_
  simp [u5]
  refine Z02 ?_
  refine merge_c hH d4 hG.ok.toHOk fun m' s' hH' d5 => ?_
  obtain ⟨e1,e2⟩:=Zvb hG (by omega)
  simp
  exact q _ _ _ _ (fun n hn => by simp at hn; rcases hn with rfl | rfl | rfl | rfl | rfl | rfl | rfl | rfl <;> simp) e1 e2 hH' d5
 simp [z2]
 refine Z00 ?_
 simp
 refine AM.Z04 ?_
 by_cases z3:z = 3
 ·simp [z3]
  refine AM.wp_region ?_
  simp [u5]
  refine Z02 ?_
  refine sweep_c hH d4 hG.ok fun m' s' hH' d5 => ?_
  have e:=Zq4 hG
  simp
  exact q _ _ _ _ (fun n hn => by simp at hn; rcases hn with rfl | rfl | rfl | rfl | rfl | rfl | rfl | rfl <;> simp) e.good e.len hH' d5
 simp [z3]
 refine Z00 ?_
 simp
 refine AM.Z04 ?_
 by_cases z4:z = 4
 ·simp [z4]
  refine AM.wp_region ?_
  simp [u5]
  refine Z02 ?_
  refine pack_c hH d4 hG.ok fun Bo m' s' hH' d5 => ?_
  have e:=Zt8 hG
  simp
  exact q _ _ _ _ (fun n hn => by simp at hn; rcases hn with rfl | rfl | rfl | rfl | rfl | rfl | rfl | rfl <;> simp) e.good e.len hH' (d5.sub (List.sublist_cons_self _ _))
 simp [z4]
 refine Z00 ?_
 simp
 refine AM.Z04 ?_
 by_cases z5:z = 5
 ·simp [z5]
  refine AM.wp_region ?_
  simp [u5,hB12]
  refine Z02 ?_
  refine put_c hH d4 hG.ok.toHOk hno3 (fun nd hnd => by have:=hoS.2 nd hnd; unfold Zjp at this; omega) (by have:=hoS.1; omega) fun m' s' hH' d5 => ?_
  have e:=Zra hG o.ns o.r
  simp
  exact q _ _ _ _ (fun n hn => by simp at hn; rcases hn with rfl | rfl | rfl | rfl | rfl | rfl | rfl | rfl <;> simp) e.good e.len hH' d5
 simp [z5]
 refine AM.wp_region ?_
 simp [u5,hB12]
 refine Z02 ?_
 refine Zux hH d4 fun m' s' hH' d5 => ?_
 obtain ⟨e1,e2⟩:=Zng hG o.a
 simp
 exact q _ _ _ _ (fun n hn => by simp at hn; rcases hn with rfl | rfl | rfl | rfl | rfl | rfl | rfl | rfl <;> simp) e1 e2 hH' d5
end
theorem Zot (bs:List Int):(Zej bs).nx = 0:=by
 unfold Zej
 rfl
section
variable {s:St} {Q:AVal→St→Prop}
theorem Zty {bv lv:AVal} {bs:List Int} {os:List OpV} (hw:s.Wf) (hB:Z36 s (fun _ => False) bv bs) (hO:Z8g s lv os) (q:∀ s',Q (.bool true) s'):Z0c Tryz.prog 3 [bv,lv] s Q:=by
 have hbt1:=hB.ntup
 have hlt1:=hO.ntup
 have hln:=hO.len
 have c0:=Ctx.start (fun _ => False) hw
 refine Z08 (Z0d (by decide)) fi3 rfl (by decide) rfl ?_
 refine Z00 ?_
 simp
 refine AM.wp_seq ?_
 refine Z00 ?_
 by_cases h12:12 < os.length
 ·have h12':(12:Int) < os.length:=by omega
  simp [hln,h12,h12']
  refine AM.Z04 ?_
  simp
  refine Z00 ?_
  simp
  refine Z02 ?_
  refine Zbo Zg2 ?_
  simp
  refine AM.wp_ret ?_
  simp
  exact q _
 have h12':¬ (12:Int) < os.length:=by omega
 simp [hln,h12,h12']
 refine Z02 ?_
 refine Znu hw (by omega) hO fun b s1 hk1 hS => ?_
 have c1:=c0.keeps hk1
 simp [h12,h12']
 refine AM.Z04 ?_
 cases b with
 | true =>
  simp
  refine Z00 ?_
  simp
  refine Z02 ?_
  refine Zbo Zg2 ?_
  simp
  refine AM.wp_ret ?_
  simp
  exact q _
 | false =>
 have hS:=hS rfl
 simp
 refine AM.wp_skip ?_
 simp
 refine Z00 ?_
 simp
 refine Z02 ?_
 refine Zur hB c1 fun B1 s2 c2 => ?_
 simp
 refine Z02 ?_
 refine Zn9 hB c2 (by rw [Zot]; decide) (by decide) (by decide) fun hb m1 s3 hH1 c3 => ?_
 have c4:=c3.sub (m':=m1 ++ []) (List.sublist_cons_self _ _)
 simp
 refine Z00 ?_
 simp
 refine Z02 ?_
 refine Zur hB c4 fun B2 s4 c5 => ?_
 simp
 refine Z02 ?_
 refine Zn9 hB c5 (by rw [Zot]; decide) (by decide) (by decide) fun tb m2 s5 hH2 c6 => ?_
 have c7:=c6.sub (m':=m2 ++ (m1 ++ [])) (List.sublist_cons_self _ _)
 obtain ⟨hG,hl4,hl16⟩:=Zsa bs (cells:=16) (by decide) (Zej bs)
 generalize (Z9s bs 16 (Zej bs)).1 = cs at hH1 hH2 hG hl4 hl16
 have hl:cs.length ≤ 16:=by omega
 have hk4:∀ c ∈ cs,c.kids.length ≤ 1000:=fun c hc => by have:=hG.ok.toHOk.1 c hc; omega
 have c8:=c7.perm (m':=m1 ++ (m2 ++ [])) (Z0n fun y => by
  simp only [Z0i,Z0z]
  omega)
 simp
 refine AM.wp_seq ?_
 refine Z00 ?_
 simp
 refine Z02 ?_
 refine Zrc c8.wf (Zgw hH1 c8) (Zgw hH2 c7) hk4 fun s6 b hk6 hbb => ?_
 have hbt:b = true:=hbb.2 rfl
 subst hbt
 simp
 refine AM.Z04 ?_
 simp
 refine AM.wp_skip ?_
 simp
 refine Z00 ?_
 simp
 refine Z02 ?_
 refine save_c hH1 (Zgf.nil _) (r:=m2 ++ []) (c8.keeps hk6) hG.ok.toHOk (by decide) (fun h => by cases h) fun _ vs m3 mv s7 hH3 hV c9 => ?_
 simp only [List.nil_append,List.length_nil] at hV ⊢
 simp
 refine AM.wp_seq ?_
 refine Z00 ?_
 simp
 refine AM.Z04 ?_
 simp
 refine AM.wp_skip ?_
 simp
 refine AM.wp_seq ?_
 refine Z00 ?_
 simp
 refine AM.wp_block ?_
 refine AM.wp_loop (fun x t s' => ∃ (i:Nat) (m:Lets),i ≤ 2∧x = 2 - i∧PT.get (posOf 1) t = some lv∧PT.get (posOf 5) t = some (.ptr hb 0)∧PT.get (posOf 7) t = some (.ptr tb 0)∧PT.get (posOf 9) t = some (.int .i64 0)∧PT.get (posOf 52) t = some (.int .i64 i) ∧
   Z26 hb vs cs m∧Ctx s (fun _ => False) (m ++ (mv ++ (m2 ++ []))) s') 2 ⟨0,m3,by simp,by simp,by simp,by simp,by simp,by simp,by simp,hH3,c9⟩ ?_
 rintro x t s' ⟨i,m,hi,rfl,t1,t5,t7,t9,t52,hH,d⟩
 refine Z00 ?_
 simp [t52]
 refine AM.wp_seq ?_
 refine AM.Z04 ?_
 by_cases hlt:i < 2
 ·have hlt':(i:Int) < 2:=by omega
  have hwr:IntKind.wrap .i64 ((i:Int) + 1) = ((i + 1:Nat):Int):=by rw [IntWalk.i64_in _ (by omega)]; omega
  simp [hlt']
  refine AM.wp_skip ?_
  simp
  refine AM.wp_seq ?_
  refine AM.wp_block ?_
  refine AM.wp_seq ?_
  refine Z00 ?_
  simp [t1,hln]
  refine AM.wp_block ?_
  refine AM.wp_loop (fun x t s' => ∃ (j:Nat) (c:List CV) (m:Lets),j ≤ os.length∧x = os.length - j∧PT.get (posOf 1) t = some lv∧PT.get (posOf 5) t = some (.ptr hb 0)∧PT.get (posOf 7) t = some (.ptr tb 0)∧PT.get (posOf 9) t = some (.int .i64 0)∧PT.get (posOf 52) t = some (.int .i64 i) ∧
    PT.get (posOf 54) t = some lv∧PT.get (posOf 55) t = some (.int .i64 os.length)∧PT.get (posOf 56) t = some (.int .i64 j)∧HG c∧c.length = cs.length ∧
    Z26 hb vs c m∧Ctx s (fun _ => False) (m ++ (mv ++ (m2 ++ []))) s') os.length ⟨0,cs,m,by simp,by simp,by simp [t1],by simp [t5],by simp [t7],by simp [t9],by simp [t52],by simp,by simp,by simp,hG,rfl,hH,d⟩ ?_
  rintro x t s' ⟨j,c,m,hj,rfl,t1,t5,t7,t9,t52,t54,t55,t56,hGc,hcl,hH,d⟩
  refine Z00 ?_
  simp [t55,t56]
  refine AM.wp_seq ?_
  refine AM.Z04 ?_
  by_cases hjl:j < os.length
  ·have hjr:IntKind.wrap .i64 ((j:Int) + 1) = ((j + 1:Nat):Int):=by rw [IntWalk.i64_in _ (by omega)]; omega
   simp [hjl]
   refine AM.wp_skip ?_
   simp
   refine AM.wp_seq ?_
   refine AM.wp_block ?_
   refine bk_op hGc (by omega) hH d hO hS hjl (by simp [t5]) (by simp [t54]) (by simp [t56]) fun t' s2 c' m' hF hG' hl' hH' d' => ?_
   simp only [andThen]
   have w1:=(hF 1 (by simp)).trans (by simp [t1]:_ = some lv)
   have w5:=(hF 5 (by simp)).trans (by simp [t5]:_ = some (.ptr hb 0))
   have w7:=(hF 7 (by simp)).trans (by simp [t7]:_ = some (.ptr tb 0))
   have w9:=(hF 9 (by simp)).trans (by simp [t9]:_ = some (.int .i64 0))
   have w52:=(hF 52 (by simp)).trans (by simp [t52]:_ = some (.int .i64 i))
   have w54:=(hF 54 (by simp)).trans (by simp [t54]:_ = some lv)
   have w55:=(hF 55 (by simp)).trans (by simp [t55]:_ = some (.int .i64 os.length))
   have w56:=(hF 56 (by simp)).trans (by simp [t56]:_ = some (.int .i64 j))
   refine AM.wp_region ?_
   simp [w56,hjr]
   exact ⟨os.length - (j + 1),by omega,j + 1,by omega,by omega,by simp [w1],by simp [w5],by simp [w7],by simp [w9],by simp [w52],by simp [w54],by simp [w55],by simp,c',hG',hl'.trans hcl,m',hH',by simpa using d'⟩
  ·simp [hjl]
   refine AM.wp_exit ?_
   simp
   refine Z00 ?_
   simp [t5,t9]
   refine Z02 ?_
   refine Ztx (i:=0) (L:=[cs]) (mv:=mv) (r:=m2 ++ []) hH (by rw [hcl]; exact hV) d (fun c hc => by simp at hc; subst hc; exact hG.ok.toHOk) (by simp) (fun h => by simp at h) fun c1 m4 s2 _ he hH4 d4 => ?_
   simp at he
   subst he
   simp [t5,t7]
   refine Z02 ?_
   have d5:=d4.perm (m':=m2 ++ (mv ++ (m4 ++ []))) (Z0n fun y => by
    simp only [Z0i,Z0z]
    omega)
   refine Zrc d4.wf (Zgw hH4 d4) (Zgw hH2 d5) hk4 fun s6 b hk6 hbb => ?_
   have hbt:b = true:=hbb.2 rfl
   subst hbt
   simp
   refine AM.Z04 ?_
   simp
   refine AM.wp_skip ?_
   simp
   refine AM.wp_region ?_
   simp [t52,hwr]
   exact ⟨2 - (i + 1),by omega,i + 1,by omega,by omega,by simp [t1],by simp [t5],by simp [t7],by simp [t9],by simp,m4,hH4,by simpa using d4.keeps hk6⟩
 ·have hlt':¬ (i:Int) < 2:=by omega
  simp [hlt']
  refine AM.wp_exit ?_
  simp
  refine Z00 ?_
  simp [t5,t9]
  refine Z02 ?_
  refine Ztx (i:=1) (L:=[cs]) (mv:=mv) (r:=m2 ++ []) hH hV d (fun c hc => by simp at hc; subst hc; exact hG.ok.toHOk) (by simp) (fun _ s2 d2 => ?_) (fun c1 m4 s2 _ he hH4 d4 => by simp at he)
  simp
  refine Z02 ?_
  refine Zbo Zg2 ?_
  simp
  refine AM.wp_ret ?_
  simp
  exact q _
end
end Go.Proofs
end
