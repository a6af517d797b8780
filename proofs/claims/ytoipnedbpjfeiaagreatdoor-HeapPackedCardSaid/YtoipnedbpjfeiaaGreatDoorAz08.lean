/- Parts of the proof: Pck1, Mgd2, Lst, Can2, Fnd1, Fnd2, Fin, Put1, Hp1, Hp2, Hp3, Tgt, Hp4, Hp5, Hp6, Hp7. -/
import Derived.Test.YtoipnedbpjfeiaaGreatDoorAz07
set_option linter.all false
set_option linter.unusedSectionVars false
set_option linter.unusedSimpArgs false
set_option linter.unusedVariables false
section
open Go Go.AM
namespace Go.Proofs
set_option maxRecDepth 100000
def outL (n:Nat) (v:List Nat):List Int:=(List.range n).map fun a => if a ∈ v then (v.idxOf a:Int) else -1
def pick {α:Type} (l:List α) (d:α) (v:List Nat):List α:=v.map fun a => (l[a]?).getD d
def Z1p (cs:List CV) (v:List Nat):List CV:=pick cs Z27 v ++ List.replicate (cs.length - v.length) Z27
def Z2q (n:Nat) (V:List AVal) (v:List Nat):List AVal:=pick V .nilSlice v ++ List.replicate (n - v.length) .nilSlice
def Zb6 (cs:List CV):List Int × List CV:=(outL cs.length (Z0o cs),Z42 (outL cs.length (Z0o cs)) (Z1p cs (Z0o cs)))
theorem Z6i (n:Nat) (v:List Nat):(outL n v).length = n:=by simp [outL]
theorem Z7g {n a:Nat} (v:List Nat) (h:a < n):(outL n v)[a]? = some (if a ∈ v then (v.idxOf a:Int) else -1):=by
 unfold outL
 rw [List.getElem?_map,List.getElem?_range h]
 rfl
theorem Zwm {n a:Nat} {v:List Nat} (h:a < n) (hv:a ∉ v):(outL n v).set a (v.length:Int) = outL n (v ++ [a]):=by
 refine List.ext_getElem? fun j => ?_
 rw [List.getElem?_set]
 by_cases hj:j < n
 ·rw [Z7g _ hj,Z7g _ hj]
  by_cases e:a = j
  ·subst e
   rw [if_pos rfl,Z6i,if_pos h,if_pos (by simp),List.idxOf_append,if_neg hv]
   simp
  ·rw [if_neg e]
   have e':¬ j = a:=fun h => e h.symm
   by_cases hm:j ∈ v
   ·rw [if_pos hm,if_pos (by simp [hm]),List.idxOf_append,if_pos hm]
   ·rw [if_neg hm,if_neg (by simp [hm,e'])]
 ·have h1:(outL n v)[j]? = none:=List.getElem?_eq_none (by rw [Z6i]; omega)
  have h2:(outL n (v ++ [a]))[j]? = none:=List.getElem?_eq_none (by rw [Z6i]; omega)
  rw [h1,h2]
  split
  ·rename_i e
   subst e
   omega
  ·rfl
theorem Zlf {α:Type} (l:List α) (d:α) (v:List Nat) (a:Nat):pick l d (v ++ [a]) = pick l d v ++ [(l[a]?).getD d]:=by simp [pick]
theorem Z6j {α:Type} (l:List α) (d:α) (v:List Nat):(pick l d v).length = v.length:=by simp [pick]
theorem Zq8 {α:Type} (x:List α) (d y:α) (n:Nat) (h:x.length < n):(x ++ List.replicate (n - x.length) d).set x.length y = (x ++ [y]) ++ List.replicate (n - (x.length + 1)) d:=by
 have e:n - x.length = (n - (x.length + 1)) + 1:=by omega
 rw [e,List.replicate_succ,List.set_append_right _ _ (Nat.le_refl _),Nat.sub_self,List.set_cons_zero]
 simp
theorem Zcl {cs:List CV} {v:List Nat} (h:v.length ≤ cs.length):(Z1p cs v).length = cs.length:=by
 unfold Z1p
 rw [List.length_append,Z6j,List.length_replicate]
 omega
theorem Zuq {n:Nat} {V:List AVal} {v:List Nat} (h:v.length ≤ n):(Z2q n V v).length = n:=by
 unfold Z2q
 rw [List.length_append,Z6j,List.length_replicate]
 omega
theorem Zs3 {cs:List CV} {v:List Nat} {a:Nat} {c:CV} (h:v.length < cs.length) (hc:cs[a]? = some c):(Z1p cs v).set v.length c = Z1p cs (v ++ [a]):=by
 have:=Zq8 (pick cs Z27 v) Z27 c cs.length (by rw [Z6j]; exact h)
 rw [Z6j] at this
 unfold Z1p
 rw [this,Zlf,hc,List.length_append]
 rfl
theorem Zs4 {n:Nat} {V:List AVal} {v:List Nat} {a:Nat} {kv:AVal} (h:v.length < n) (hc:V[a]? = some kv):(Z2q n V v).set v.length kv = Z2q n V (v ++ [a]):=by
 have:=Zq8 (pick V .nilSlice v) .nilSlice kv n (by rw [Z6j]; exact h)
 rw [Z6j] at this
 unfold Z2q
 rw [this,Zlf,hc,List.length_append]
 rfl
theorem Z0v.pick:∀ {v:List Nat} {K:List (List Int)} {V:List AVal} {m:Lets},Z0v K V m→v.Nodup→(∀ a ∈ v,a < K.length)→∃ m1 d,Z0v (pick K [] v) (pick V .nilSlice v) m1∧m.Perm (m1 ++ d)
 | [],K,V,m,h,_,_ => ⟨[],m,rfl,by simp⟩
 | a :: v,K,V,m,h,hn,hlt => by
  rw [List.nodup_cons] at hn
  have ha:=hlt a (by simp)
  obtain ⟨kv,m1,m2,g1,g2,g3,g4⟩:=h.at (i:=a) (ks:=K[a]) (List.getElem?_eq_getElem ha)
  have h2:=g4 [] .nilSlice [] (.inl ⟨rfl,rfl,rfl⟩)
  obtain ⟨m3,d,e1,e2⟩:=Z0v.pick (v:=v) h2 hn.2 (fun x hx => by simpa using hlt x (by simp [hx]))
  have hk:Go.Proofs.pick (K.set a []) [] v = Go.Proofs.pick K [] v:=by
   unfold Go.Proofs.pick
   refine List.map_congr_left fun x hx => ?_
   rw [List.getElem?_set_ne (show a ≠ x from fun e => hn.1 (e.symm ▸ hx))]
  have hv:Go.Proofs.pick (V.set a .nilSlice) .nilSlice v = Go.Proofs.pick V .nilSlice v:=by
   unfold Go.Proofs.pick
   refine List.map_congr_left fun x hx => ?_
   rw [List.getElem?_set_ne (show a ≠ x from fun e => hn.1 (e.symm ▸ hx))]
  rw [hk,hv] at e1
  refine ⟨m1 ++ m3,d,⟨m1,m3,List.Perm.refl _,?_,e1⟩,?_⟩
  ·show RowR ((V[a]?).getD .nilSlice) ((K[a]?).getD []) m1
   rw [List.getElem?_eq_getElem ha,g1]
   exact g2
  ·refine Z0m fun x => ?_
   have i1:=Z4b g3 x
   have i2:=Z4b e2 x
   simp only [Z0e,Z0w] at i1 i2 ⊢
   omega
theorem Z0v.nils:∀ {K:List (List Int)} {V:List AVal} {m:Lets} (k:Nat),Z0v K V m→Z0v (K ++ List.replicate k []) (V ++ List.replicate k .nilSlice) m
 | K,V,m,0,h => by simpa using h
 | K,V,m,k + 1,h => by
  have:=(Z0v.nils k h).snoc (mk:=[]) (ks:=[]) (kv:=.nilSlice) (.inl ⟨rfl,rfl,rfl⟩)
  rw [List.replicate_succ',List.replicate_succ',← List.append_assoc,← List.append_assoc]
  simpa using this
theorem Zs2 (cs:List CV) (v:List Nat):(Z1p cs v).map CV.kids = pick (cs.map CV.kids) [] v ++ List.replicate (cs.length - v.length) []:=by
 unfold Z1p pick
 rw [List.map_append,List.map_map,List.map_replicate]
 congr 1
 refine List.map_congr_left fun a _ => ?_
 simp only [Function.comp,List.getElem?_map]
 cases cs[a]? <;> rfl
theorem Ztu (l:List RC) (i:Nat) (c:RC) (h:i < l.length):lay (encs l) (i * 4) [.bool c.taken,.str c.name,c.kv,.int .i64 c.held] = encs (l.set i c):=Zbs l i c h
theorem Zwo {s0 s:St} {W:Pos→Prop} {cs:List CV} {V:List AVal} {vs:AVal} {a:Nat} {v:List Nat} {B7 B4 Bo B6 pn B1 hb p:Pos} {pre r:Lets} {Q:AVal→St→Prop} (hV:V.length = cs.length) (hmax:cs.length ≤ 400)
  (hc:Ctx s0 W (pre ++ ((B7,C [.int .i64 v.length]) :: (B4,C [.slice Bo 0 cs.length (.lim cs.length)]) :: (Bo,C (ints (outL cs.length v))) :: (B6,C [.slice pn 0 cs.length (.lim cs.length)]) :: (pn,C (encs (rcs (Z1p cs v) (Z2q cs.length V v)))) :: (B1,C [.ptr hb 0]) :: (hb,C [.slice p 0 cs.length (.lim cs.length),vs]) :: (p,C (encs (rcs cs V))) :: r)) s)
  (ha:a < cs.length) (hav:a ∉ v) (hvn:v.Nodup) (hvlt:∀ y ∈ v,y < cs.length)
  (hkv:∀ (i:Nat) kv,V[i]? = some kv→kv.cells = [kv]∧∀ t,¬ kv = .tup t)
  (q:∀ s',Ctx s0 W (pre ++ ((B7,C [.int .i64 (v ++ [a]).length]) :: (B4,C [.slice Bo 0 cs.length (.lim cs.length)]) :: (Bo,C (ints (outL cs.length (v ++ [a])))) :: (B6,C [.slice pn 0 cs.length (.lim cs.length)]) :: (pn,C (encs (rcs (Z1p cs (v ++ [a])) (Z2q cs.length V (v ++ [a]))))) :: (B1,C [.ptr hb 0]) :: (hb,C [.slice p 0 cs.length (.lim cs.length),vs]) :: (p,C (encs (rcs cs V))) :: r)) s'→Q (.tup []) s') :
  Z0d Tryz.prog 65 [.int .i64 a,.ptr B7 0,.ptr B4 0,.ptr B1 0,.ptr B6 0] s Q:=by
 have hvl:v.length < cs.length:=by
  have:=Z22 (n:=cs.length) (v:=v ++ [a]) (by rw [List.nodup_append]; exact ⟨hvn,by simp,by rintro x hx y hy rfl; simp at hy; exact hav (hy ▸ hx)⟩) (by intro y hy; rcases List.mem_append.1 hy with hy | hy; exact hvlt y hy; simp at hy; omega)
  simp at this
  omega
 have hc0:Ctx s0 W ((B7,C [.int .i64 v.length]) :: (B4,C [.slice Bo 0 cs.length (.lim cs.length)]) :: (Bo,C (ints (outL cs.length v))) :: (B6,C [.slice pn 0 cs.length (.lim cs.length)]) :: (pn,C (encs (rcs (Z1p cs v) (Z2q cs.length V v)))) :: (B1,C [.ptr hb 0]) :: (hb,C [.slice p 0 cs.length (.lim cs.length),vs]) :: (p,C (encs (rcs cs V))) :: (pre ++ r)) s:=hc.perm (Z0m fun x => by
  simp only [Z0h,Z0e]
  omega)
 have hcd:cs[a]? = some cs[a]:=List.getElem?_eq_getElem ha
 obtain ⟨kv,hkv0⟩:∃ kv,V[a]? = some kv:=⟨_,List.getElem?_eq_getElem (by omega)⟩
 obtain ⟨hkc,hkt⟩:=hkv a kv hkv0
 have hseg:=Zhj _ a _ (Z2b hcd hkv0)
 simp only [RC.enc] at hseg
 have hle:a * 4 + 4 ≤ (encs (rcs cs V)).length:=by rw [Z38,Z29 hV]; omega
 have hrl:(rcs (Z1p cs v) (Z2q cs.length V v)).length = cs.length:=by rw [Z29 (by rw [Zcl (by omega),Zuq (by omega)]),Zcl (by omega)]
 have hle2:v.length * 4 + 4 ≤ (encs (rcs (Z1p cs v) (Z2q cs.length V v))).length:=by rw [Z38,hrl]; omega
 have hlay:=Ztu (rcs (Z1p cs v) (Z2q cs.length V v)) v.length ⟨cs[a].taken,cs[a].name,kv,cs[a].held⟩ (by omega)
 rw [Z8r (d:=cs[a]),Zs3 hvl hcd,Zs4 hvl hkv0] at hlay
 have hlay2:=Z6e (outL cs.length v) a (v.length:Int) (by rw [Z6i]; exact ha)
 rw [Zwm ha hav] at hlay2
 have hol:(outL cs.length v).length = cs.length:=Z6i _ _
 have hwr:IntKind.wrap .i64 ((v.length:Int) + 1) = (((v ++ [a]).length:Nat):Int):=by rw [List.length_append,List.length_singleton,IntWalk.i64_in _ (by omega)]; omega
 generalize outL cs.length v = ov at hc0 hlay2 hol
 generalize hov':outL cs.length (v ++ [a]) = ov' at hlay2 q
 refine Z07 (Z0g (by decide)) fi65 rfl (by decide) rfl ?_
 refine Z00 ?_
 have hle3:a + 1 ≤ ov.length:=by omega
 simp [lay] at hlay2
 simp [hc0.c 0 rfl,hc0.c 1 rfl,hc0.o 2 rfl,ha,hle3]
 rw [hlay2]
 have c1:=hc0.put 2 rfl (C (ints ov'))
 simp only [List.set_cons_succ,List.set_cons_zero] at c1
 generalize s.put Bo (.cells (List.map (fun k => .int .i64 k) ov') false) = s1 at c1 ⊢
 refine Z00 ?_
 generalize hpc:encs (rcs (Z1p cs v) (Z2q cs.length V v)) = pcs at c1 hle2 hlay
 have hvl':(v.length:Int) < (cs.length:Int):=by omega
 simp [lay] at hlay
 simp [c1.c 0 rfl,c1.c 3 rfl,c1.c 5 rfl,c1.c 6 rfl,c1.c 7 rfl,c1.o 4 rfl,ha,hvl,hvl',hle,hseg,hle2,hkc,hkt]
 rw [hlay]
 have c2:=c1.put 4 rfl (C (encs (rcs (Z1p cs (v ++ [a])) (Z2q cs.length V (v ++ [a])))))
 simp only [List.set_cons_succ,List.set_cons_zero] at c2
 generalize s1.put pn (.cells (encs (rcs (Z1p cs (v ++ [a])) (Z2q cs.length V (v ++ [a])))) false) = s2 at c2 ⊢
 refine AM.wp_region ?_
 simp [c2.c 0 rfl,c2.o 0 rfl,hwr,-List.length_append]
 have c3:=c2.put 0 rfl (C [.int .i64 ((v ++ [a]).length:Nat)])
 simp only [List.set_cons_zero] at c3
 refine q _ (c3.perm (Z0m fun x => by
  simp only [Z0h,Z0e]
  omega))
theorem Zud {s:St} {nds:List ND} {Nv Lv Cv:AVal} {L:List Nat} {cls:List Int} {M:Nat} {Q:AVal→St→Prop} (hw:s.Wf) (hN:Z1h s Nv nds) (hL:Z0f s Lv (nats L)) (hC:Z0f s Cv cls)
  (hn:nds.length ≤ 1000) (hLl:L.length ≤ 1000) (hcl:cls.length = nds.length) (hlt:∀ a ∈ L,a < nds.length)
  (hk:∀ (a:Nat) nd,nds[a]? = some nd→nd.2.length ≤ 4∧∀ k ∈ nd.2,0 ≤ k∧k < nds.length) (hnm:∀ (a:Nat) nd,a ∈ L→nds[a]? = some nd→nd.1 ≠ [])
  (hord:∀ (j a:Nat),L[j]? = some a→∃ c:Nat,cls[a]? = some (c:Int)∧c ≤ (outF cls nds (L.take j)).length) (hM:(outF cls nds L).length = M)
  (q:∀ Bn mn s',Zi8 Bn (outF cls nds L) mn→Ctx s (fun _ => False) mn s'→Q (.agg [.slice Bn 0 M (.lim M),.int .i64 0]) s'):Z0d Tryz.prog 111 [Nv,Lv,Cv,.int .i64 M] s Q:=by
 have hML:M ≤ L.length:=by rw [← hM]; exact Znj _ _ _
 have hz1:M ≤ Z0k:=by unfold Z0k; omega
 have hz2:M * 40 ≤ Z0k:=by unfold Z0k; omega
 have hNt:=hN.ntup
 have hLt:=hL.ntup
 have hCt:=hC.ntup
 refine Z07 (Z0g (by decide)) fi111 rfl (by decide) rfl ?_
 refine Z00 ?_
 simp
 have d0:=(Ctx.start (fun _ => False) hw).alloc (C [.nilSlice,.int .i64 0])
 generalize s.alloc (.cells [.nilSlice,.int .i64 0] false) = s1 at d0 ⊢
 generalize s.next = B8 at d0 ⊢
 refine Z00 ?_
 simp [hz1,hz2]
 have hz0:(List.replicate M [AVal.str [],.nilSlice]).flatten = Z0l (padF M []) (List.replicate M .nilSlice):=by
  simp [padF,Z0l,penc,List.zipWith_replicate,List.flatMap]
 rw [hz0]
 have d1:=d0.alloc (C (Z0l (padF M []) (List.replicate M .nilSlice)))
 generalize s1.alloc (.cells (Z0l (padF M []) (List.replicate M .nilSlice)) false) = s2 at d1 ⊢
 generalize s1.next = Bn at d1 ⊢
 have d2:=(d1.alloc (C [.nilSlice,.int .i64 0])).put 0 rfl (C [.slice Bn 0 M (.lim M),.int .i64 0])
 simp only [List.set_cons_zero] at d2
 generalize (s2.alloc (.cells [.nilSlice,.int .i64 0] false)).put s2.next (.cells [.slice Bn 0 M (.lim M),.int .i64 0] false) = s3 at d2 ⊢
 generalize s2.next = B9 at d2 ⊢
 have hR0:Z0v ((padF M []).map Prod.snd) (List.replicate M .nilSlice) []:=by
  have:=Z0v.nils (K:=[]) (V:=[]) (m:=[]) M rfl
  simpa [padF] using this
 have d3:Ctx s (fun _ => False) ((B9,C [.slice Bn 0 M (.lim M),.int .i64 0]) :: (B8,C [.nilSlice,.int .i64 0]) :: (Bn,C (Z0l (padF M []) (List.replicate M .nilSlice))) :: []) s3:=d2.perm (Z0m fun x => by
  simp only [Z0h,Z0w]
  omega)
 refine AM.wp_seq ?_
 refine Z00 ?_
 simp [hLt,hL.len]
 refine AM.wp_block ?_
 refine AM.wp_loop (fun k t s' => ∃ (j:Nat) (V:List AVal) (mr:Lets),j ≤ L.length∧k = L.length - j∧PT.get (posOf 0) t = some Nv∧PT.get (posOf 2) t = some Cv∧PT.get (posOf 8) t = some (.ptr B8 0)∧PT.get (posOf 9) t = some (.ptr B9 0) ∧
   PT.get (posOf 18) t = some Lv∧PT.get (posOf 19) t = some (.int .i64 L.length)∧PT.get (posOf 20) t = some (.int .i64 j)∧Z0v ((padF M (outF cls nds (L.take j))).map Prod.snd) V mr ∧
   Ctx s (fun _ => False) ((B9,C [.slice Bn 0 M (.lim M),.int .i64 0]) :: (B8,C [.nilSlice,.int .i64 0]) :: (Bn,C (Z0l (padF M (outF cls nds (L.take j))) V)) :: mr) s') L.length
  ⟨0,List.replicate M .nilSlice,[],by simp,by simp,by simp,by simp,by simp,by simp,by simp,by simp,by simp,by simpa [outF] using hR0,by simpa [outF] using d3⟩ ?_
 rintro k t s' ⟨j,V,mr,hj,rfl,t0,t2,t8,t9,t18,t19,t20,hR,d⟩
 refine Z00 ?_
 simp [t19,t20]
 refine AM.wp_seq ?_
 refine AM.Z04 ?_
 by_cases hlt':j < L.length
 ·have hwr:IntKind.wrap .i64 ((j:Int) + 1) = ((j + 1:Nat):Int):=by rw [IntWalk.i64_in _ (by omega)]; omega
  obtain ⟨a,ha⟩:∃ a,L[j]? = some a:=⟨_,List.getElem?_eq_getElem hlt'⟩
  have haL:=List.mem_of_getElem? ha
  have han:=hlt a haL
  obtain ⟨nd,hnd⟩:∃ nd,nds[a]? = some nd:=⟨_,List.getElem?_eq_getElem han⟩
  obtain ⟨c,hc,hcle⟩:=hord j a ha
  have hnx:=Zlb (cls:=cls) (nds:=nds) ha
  have hst:Z2h cls nds (outF cls nds (L.take j)) a = if (c:Int) < (outF cls nds (L.take j)).length then outF cls nds (L.take j) else outF cls nds (L.take j) ++ [Z3y cls nd]:=by
   unfold Z2h
   rw [hc,hnd]
  rw [hst] at hnx
  have hmono:=Zfw cls nds L (j + 1)
  have hmono0:=Zfw cls nds L j
  obtain ⟨hk4,hkin⟩:=hk a nd hnd
  have hndn:=hnm a nd haL hnd
  have hnames:∀ x ∈ outF cls nds (L.take j),x.1 ≠ []:=fun x hx => by
   obtain ⟨b,nd',h1,h2,rfl⟩:=Ze8 hx
   exact hnm b nd' (List.mem_of_mem_take h1) h2
  have hpl:(padF M (outF cls nds (L.take j))).length = M:=Zwq (by omega)
  have hVl:V.length = M:=by have:=hR.len; simpa [hpl] using this
  have hcM:c < M:=by
   by_cases h:(c:Int) < (outF cls nds (L.take j)).length
   ·omega
   ·rw [if_neg h] at hnx
    rw [hnx] at hmono
    simp at hmono
    omega
  have hel:=Z6a (ns:=padF M (outF cls nds (L.take j))) (V:=V) (by omega)
  rcases hL with ⟨_,e0⟩ | ⟨bl,ol,cl,cellsl,rfl,hbl,hcsl,hlel,hell⟩
  ·have:L = []:=by simpa using e0
   rw [this] at hlt'
   simp at hlt'
  rw [List.length_map] at t18
  have hgl:=hell j (a:Int) (by rw [List.getElem?_map,ha]; rfl)
  rcases hC with ⟨_,e0⟩ | ⟨bx,ox,cx,cellsx,rfl,hbx,hcsx,hlex,helx⟩
  ·rw [e0] at hc
   simp at hc
  have hgx:=helx a (c:Int) hc
  have hax:a < cls.length:=by omega
  rcases hN with ⟨_,e0⟩ | ⟨bn,on,cn,cellsn,rfl,hbn,hcsn,hlen,heln⟩
  ·rw [e0] at hnd
   simp at hnd
  obtain ⟨hgn,kv,hgk,hkv⟩:=heln a _ hnd
  have rl:∀ {m:Lets} {s'':St},Ctx s (fun _ => False) m s''→s''.cells bl = some cellsl:=fun d => (d.Z0i.cells hbl).trans hcsl
  have rx:∀ {m:Lets} {s'':St},Ctx s (fun _ => False) m s''→s''.cells bx = some cellsx:=fun d => (d.Z0i.cells hbx).trans hcsx
  have rn:∀ {m:Lets} {s'':St},Ctx s (fun _ => False) m s''→s''.cells bn = some cellsn:=fun d => (d.Z0i.cells hbn).trans hcsn
  simp [hlt']
  refine AM.wp_skip ?_
  simp
  refine AM.wp_seq ?_
  refine AM.wp_block ?_
  refine Z00 ?_
  simp [t18,t20,hlt',rl d,hgl]
  refine Z00 ?_
  simp [t2,t9,hax,rx d,hgx,d.c 0 rfl,hcM]
  refine AM.wp_seq ?_
  by_cases hx:(c:Int) < (outF cls nds (L.take j)).length
  ·rw [if_pos hx] at hnx
   obtain ⟨x,hxx⟩:∃ x,(outF cls nds (L.take j))[c]? = some x:=⟨_,List.getElem?_eq_getElem (by omega)⟩
   have hxn:=hnames x (List.mem_of_getElem? hxx)
   obtain ⟨kv',g1,_⟩:=hR.each (i:=c) (ks:=x.2) (by rw [List.getElem?_map,Znl hxx]; rfl)
   obtain ⟨e1,_⟩:=Z7c (Znl (M:=M) hxx) g1
   refine Z00 ?_
   simp [d.c 2 rfl,e1]
   refine AM.Z04 ?_
   simp [hxn]
   refine AM.wp_exit ?_
   simp
   refine AM.wp_region ?_
   simp [t20,hwr]
   refine ⟨L.length - (j + 1),by omega,j + 1,by omega,by omega,by simp [t0],by simp [t2],by simp [t8],by simp [t9],by simp [t18],by simp [t19],by simp,V,mr,by rw [hnx]; exact hR,by rw [hnx]; exact d⟩
  ·rw [if_neg hx] at hnx
   have hce:c = (outF cls nds (L.take j)).length:=by omega
   generalize hout:outF cls nds (L.take j) = out at *
   subst hce
   have hnew:=Zwr (l:=out) hcM
   obtain ⟨kv0,m1,m2,g1,g2,g3,g4⟩:=hR.at (i:=out.length) (ks:=[]) (by rw [List.getElem?_map,hnew]; rfl)
   obtain rfl:m1 = []:=by
    rcases g2 with ⟨_,_,h⟩ | ⟨_,_,h,_⟩
    ·exact h
    ·exact (h rfl).elim
   obtain ⟨e1,e2⟩:=Z7c hnew g1
   refine Z00 ?_
   simp [d.c 2 rfl,e1]
   refine AM.Z04 ?_
   simp
   refine AM.wp_skip ?_
   simp
   have hl1:=Zro nd.1 nd.2 hnew g1
   have hb1:out.length * 2 + 1 ≤ (Z0l (padF M out) V).length:=by omega
   refine Z00 ?_
   simp [t0,han,rn d,hgn,d.o 2 rfl,hb1]
   simp [lay] at hl1
   rw [hl1]
   have d1:=d.put 2 rfl (C (Z0l ((padF M out).set out.length nd) V))
   simp only [List.set_cons_succ,List.set_cons_zero] at d1
   generalize s'.put Bn (.cells (Z0l ((padF M out).set out.length nd) V) false) = s4 at d1 ⊢
   have hn1:((padF M out).set out.length nd)[out.length]? = some nd:=by rw [List.getElem?_set_self (by omega)]
   have hset:=Znm nd hcM
   generalize hn2:(padF M out).set out.length nd = ns1 at d1 hn1 ⊢
   have hkt:=hkv.ntup
   have hz3:nd.2.length ≤ Z0k:=by unfold Z0k; omega
   have hz4:nd.2.length * 8 ≤ Z0k:=by unfold Z0k; omega
   have hl2:=Zrp (.slice s4.next 0 nd.2.length (.lim nd.2.length)) hn1 g1
   have hel1:(Z0l ns1 V).length = 2 * M:=by
    have e:ns1.length = M:=by rw [← hn2]; simp [hpl]
    rw [Z6a (by omega),e]
   have hb2:out.length * 2 + 1 + 1 ≤ (Z0l ns1 V).length:=by omega
   have d2:=(d1.alloc (C (List.replicate nd.2.length (.int .i64 0))))
   refine Z00 ?_
   simp [t0,han,rn d1,hgk,hkt,hkv.len,hz3,hz4,d2.o 3 rfl,hb2]
   simp [lay] at hl2
   rw [hl2]
   have d3:=d2.put 3 rfl (C (Z0l ns1 (V.set out.length (.slice s4.next 0 nd.2.length (.lim nd.2.length)))))
   simp only [List.set_cons_succ,List.set_cons_zero] at d3
   generalize (s4.alloc (.cells (List.replicate nd.2.length (.int .i64 0)) false)).put Bn (.cells (Z0l ns1 (V.set out.length (.slice s4.next 0 nd.2.length (.lim nd.2.length)))) false) = s5 at d3 ⊢
   generalize s4.next = Bk at d3 ⊢
   have hV2:(V.set out.length (AVal.slice Bk 0 nd.2.length (.lim nd.2.length)))[out.length]? = some (.slice Bk 0 nd.2.length (.lim nd.2.length)):=by rw [List.getElem?_set_self (by omega)]
   have hel2:(Z0l ns1 (V.set out.length (.slice Bk 0 nd.2.length (.lim nd.2.length)))).length = 2 * M:=by
    have e:ns1.length = M:=by rw [← hn2]; simp [hpl]
    rw [Z6a (by simp; omega),e]
   obtain ⟨_,e3⟩:=Z7c hn1 hV2
   have d4:Ctx s (fun _ => False) ((B9,C [.slice Bn 0 M (.lim M),.int .i64 0]) :: (B8,C [.nilSlice,.int .i64 0]) :: (Bn,C (Z0l ns1 (V.set out.length (.slice Bk 0 nd.2.length (.lim nd.2.length))))) :: (Bk,C (List.replicate nd.2.length (.int .i64 0))) :: mr) s5:=d3.perm (Z0m fun x => by
    simp only [Z0h]
    omega)
   generalize hV2e:V.set out.length (AVal.slice Bk 0 nd.2.length (.lim nd.2.length)) = V2 at hV2 hel2 e3 d4 ⊢
   refine AM.wp_seq ?_
   refine AM.wp_region ?_
   simp [t0,han,rn d4,hgk,hkt,d4.c 2 rfl,e3]
   refine Zqu (pre:=[(B9,C [.slice Bn 0 M (.lim M),.int .i64 0]),(B8,C [.nilSlice,.int .i64 0]),(Bn,C (Z0l ns1 V2))]) (r:=mr) (ks:=nd.2) (kv:=kv) (c:=.lim nd.2.length) (by simpa using d4) (by simp) (by simp) (hkv.keep d4.Z0i) fun _ s6 d5 => ?_
   simp only [List.cons_append,List.nil_append] at d5
   refine Z00 ?_
   simp [d5.c 2 rfl,e3]
   refine AM.wp_block ?_
   refine AM.wp_loop (fun k t s' => ∃ i:Nat,i ≤ nd.2.length∧k = nd.2.length - i∧PT.get (posOf 0) t = some (.slice bn on nds.length cn)∧PT.get (posOf 2) t = some (.slice bx ox cls.length cx)∧PT.get (posOf 8) t = some (.ptr B8 0)∧PT.get (posOf 9) t = some (.ptr B9 0) ∧
     PT.get (posOf 18) t = some (.slice bl ol L.length cl)∧PT.get (posOf 19) t = some (.int .i64 L.length)∧PT.get (posOf 20) t = some (.int .i64 j)∧PT.get (posOf 12) t = some (.ptr Bn (out.length * 2)) ∧
     PT.get (posOf 67) t = some (.slice Bk 0 nd.2.length (.lim nd.2.length))∧PT.get (posOf 68) t = some (.int .i64 nd.2.length)∧PT.get (posOf 69) t = some (.int .i64 i) ∧
     Ctx s (fun _ => False) ((B9,C [.slice Bn 0 M (.lim M),.int .i64 0]) :: (B8,C [.nilSlice,.int .i64 0]) :: (Bn,C (Z0l ns1 V2)) :: (Bk,C (ints (Z4h (clOf cls) nd.2 i))) :: mr) s') nd.2.length
    ⟨0,by simp,by simp,by simp [t0],by simp [t2],by simp [t8],by simp [t9],by simp [t18],by simp [t19],by simp [t20],by simp,by simp,by simp,by simp,by rw [Zqg]; exact d5⟩ ?_
   rintro k t s' ⟨i,hi,rfl,t0,t2,t8,t9,t18,t19,t20,t12,t67,t68,t69,d⟩
   refine Z00 ?_
   simp [t68,t69]
   refine AM.wp_seq ?_
   refine AM.Z04 ?_
   by_cases hilt:i < nd.2.length
   ·have hwi:IntKind.wrap .i64 ((i:Int) + 1) = ((i + 1:Nat):Int):=by rw [IntWalk.i64_in _ (by omega)]; omega
    obtain ⟨kk,hkk⟩:∃ kk,nd.2[i]? = some kk:=⟨_,List.getElem?_eq_getElem hilt⟩
    obtain ⟨hk0,hk1⟩:=hkin kk (List.mem_of_getElem? hkk)
    obtain ⟨kc,rfl⟩:∃ n:Nat,kk = (n:Int):=⟨kk.toNat,by omega⟩
    have hkc:kc < cls.length:=by omega
    obtain ⟨cc,hcc⟩:∃ cc,cls[kc]? = some cc:=⟨_,List.getElem?_eq_getElem hkc⟩
    have hto:clOf cls (kc:Int) = cc:=by unfold clOf; rw [Int.toNat_natCast,hcc]; rfl
    have hgxx:=helx kc cc hcc
    have hgm:(ints (Z4h (clOf cls) nd.2 i))[i]? = some (.int .i64 kc):=by rw [List.getElem?_map,Zss hkk]; rfl
    have hlay:lay (ints (Z4h (clOf cls) nd.2 i)) i [.int .i64 cc] = ints (Z4h (clOf cls) nd.2 (i + 1)):=by
     have:=Z6e (Z4h (clOf cls) nd.2 i) i (clOf cls kc) (by rw [Zkf]; omega)
     rw [Zqf hkk,hto] at this
     exact this
    have hml:(ints (Z4h (clOf cls) nd.2 i)).length = nd.2.length:=by simp [Zkf]
    simp [hilt]
    refine AM.wp_skip ?_
    simp
    refine AM.wp_seq ?_
    refine AM.wp_block ?_
    refine Z00 ?_
    have hown:=d.c 3 rfl
    have hown':=d.o 3 rfl
    have dd:=d.put 3 rfl (C (ints (Z4h (clOf cls) nd.2 (i + 1))))
    simp only [List.set_cons_succ,List.set_cons_zero] at dd
    generalize hmv:ints (Z4h (clOf cls) nd.2 i) = mv at hgm hlay hml hown hown' d
    have hlei:i + 1 ≤ mv.length:=by omega
    simp [t67,t69,hilt,hown,hgm]
    refine AM.wp_region ?_
    simp [t12,t67,t69,t2,hilt,d.c 2 rfl,e3,hkc,rx d,hgxx,hown',hlei]
    simp [lay] at hlay
    rw [hlay]
    refine AM.wp_region ?_
    simp [t69,hwi]
    exact ⟨nd.2.length - (i + 1),by omega,i + 1,by omega,by omega,by simp [t0],by simp [t2],by simp [t8],by simp [t9],by simp [t18],by simp [t19],by simp [t20],by simp [t12],by simp [t67],by simp [t68],by simp,dd⟩
   ·simp [hilt]
    refine AM.wp_exit ?_
    simp
    have hie:i = nd.2.length:=by omega
    subst hie
    rw [Zsr] at d
    have hcm:nd.2.map (clOf cls) = (Z3y cls nd).2:=rfl
    rw [hcm] at d
    have hset':=Znm (Z3y cls nd) hcM
    have hname:Z0l ns1 V2 = Z0l (padF M (out ++ [Z3y cls nd])) V2:=by
     refine Zou V2 ?_
     rw [← hn2,← hset',List.map_set,List.map_set]
     rfl
    rw [hname] at d
    have hfin:∃ mr',Z0v ((padF M (out ++ [Z3y cls nd])).map Prod.snd) V2 mr'∧Ctx s (fun _ => False) ((B9,C [.slice Bn 0 M (.lim M),.int .i64 0]) :: (B8,C [.nilSlice,.int .i64 0]) :: (Bn,C (Z0l (padF M (out ++ [Z3y cls nd])) V2)) :: mr') s':=by
     have g5:∀ (ks':List Int) (kv':AVal) (m1':Lets),RowR kv' ks' m1'→Z0v (((padF M out).map Prod.snd).set out.length ks') (V.set out.length kv') (m1' ++ m2):=g4
     have hms:(padF M (out ++ [Z3y cls nd])).map Prod.snd = ((padF M out).map Prod.snd).set out.length (Z3y cls nd).2:=by rw [← hset',List.map_set]
     rw [hms,← hV2e]
     rw [← hV2e] at d
     by_cases h0:nd.2 = []
     ·refine ⟨[] ++ m2,g5 _ _ [] (.inl ⟨by simp [Z3y,h0],by simp [h0],rfl⟩),(d.sub (.cons_cons _ (.cons_cons _ (.cons_cons _ (List.sublist_cons_self _ _))))).perm ?_⟩
      exact List.Perm.cons _ (List.Perm.cons _ (List.Perm.cons _ g3))
     ·refine ⟨[(Bk,C (ints (Z3y cls nd).2))] ++ m2,g5 _ _ _ (.inr ⟨Bk,.lim nd.2.length,by simpa [Z3y] using h0,by simp [Z3y],rfl⟩),d.perm ?_⟩
      exact List.Perm.cons _ (List.Perm.cons _ (List.Perm.cons _ (List.Perm.cons _ g3)))
    obtain ⟨mr',hR',d'⟩:=hfin
    refine AM.wp_region ?_
    simp [t20,hwr]
    refine ⟨L.length - (j + 1),by omega,j + 1,by omega,by omega,by simp [t0],by simp [t2],by simp [t8],by simp [t9],by simp [t18],by simp [t19],by simp,V2,mr',by rw [hnx]; exact hR',by rw [hnx]; exact d'⟩
 ·simp [hlt']
  refine AM.wp_exit ?_
  simp
  have hje:j = L.length:=by omega
  subst hje
  rw [List.take_length] at hR d
  have hpad:padF M (outF cls nds L) = outF cls nds L:=by unfold padF; rw [hM,Nat.sub_self]; simp
  rw [hpad] at hR d
  refine Z00 ?_
  simp [t8,t9,d.c 0 rfl,d.o 1 rfl]
  have e:=d.put 1 rfl (C [.slice Bn 0 M (.lim M),.int .i64 0])
  simp only [List.set_cons_succ,List.set_cons_zero] at e
  generalize s'.put B8 (.cells [.slice Bn 0 M (.lim M),.int .i64 0] false) = s4 at e ⊢
  refine AM.wp_ret ?_
  simp [t8,e.c 1 rfl]
  exact q Bn _ s4 ⟨V,mr,List.Perm.refl _,hR⟩ e.tail.tail
theorem Zca {ns:List ND} (h:GrOk ns) {roots:List Nat} (hr:∀ r ∈ roots,r < ns.length):Closed ns (bfsF (kidG ns) ns.length roots)∧(bfsF (kidG ns) ns.length roots).Nodup∧(∀ a ∈ bfsF (kidG ns) ns.length roots,a < ns.length)∧∀ r ∈ roots,r ∈ bfsF (kidG ns) ns.length roots:=by
 obtain ⟨h1,h2,h3,h4,_⟩:=Zbo (n:=ns.length) h.Zdc roots hr
 refine ⟨⟨h2,fun a ha x hx => ?_⟩,h1,h2,h4⟩
 refine ⟨(h x (List.mem_of_getElem? hx)).1,fun k hk => h3 a ha _ ?_⟩
 rw [Ze0 hx]
 exact List.mem_map.2 ⟨k,hk,rfl⟩
theorem Zf3 {ns:List ND} {root:Int} (h:Z1m ns root = 0):1 ≤ ns.length∧ns.length ≤ 60∧GrOk ns∧(∀ nd ∈ ns,Z23 nd.1 = true)∧0 ≤ root∧root < ns.length:=by
 unfold Z1m at h
 split at h
 ·cases h
 ·rename_i h1
  split at h
  ·cases h
  ·rename_i h2
   split at h
   ·cases h
   ·rename_i h3
    simp only [not_or,Bool.not_eq_false,List.all_eq_true,decide_eq_true_eq,Bool.and_eq_true] at h1 h2 h3
    exact ⟨by omega,by omega,fun nd hnd => ⟨h1.2.2 nd hnd,fun k hk => h3.2 nd hnd k hk⟩,h2,h3.1⟩
theorem Zty {nm:List UInt8} (h:Z23 nm = true):nm ≠ []:=by
 rintro rfl
 simp [Z23] at h
noncomputable def Z1c (ns:List ND) (r:Nat):List ND:=outF (clsF ns (bfsF (kidG ns) ns.length [r])) ns (bfsF (kidG ns) ns.length [r])
def Za6 (s:St) (nv:AVal) (ns:List ND):Prop:=(Z1n nv = some 0∧ns = []) ∨ ∃ p c,nv = .slice p 0 ns.length c∧NodesG s p ns
theorem Za6.keep {s s':St} {nv:AVal} {ns:List ND} (h:Za6 s nv ns) (k:Keeps s s'):Za6 s' nv ns:=by
 rcases h with h | ⟨p,c,h1,h2⟩
 ·exact .inl h
 ·exact .inr ⟨p,c,h1,h2.keep k⟩
theorem Za6.at {s:St} {nv:AVal} {ns:List ND} (h:Za6 s nv ns):Z1h s nv ns:=by
 rcases h with h | ⟨p,c,rfl,h2⟩
 ·exact .inl h
 ·exact h2.of c
theorem Zug {s:St} {p:Pos} {ns:List ND} {c:Cap} (hne:ns ≠ []) (h:Z1h s (.slice p 0 ns.length c) ns):NodesG s p ns:=by
 rcases h with ⟨_,h⟩ | ⟨b,o,c',cs,e,h1,h2,h3,h4⟩
 ·exact (hne h).elim
 ·cases e
  refine ⟨h1,cs,h2,by omega,fun i nd hi => ?_⟩
  have:=h4 i nd hi
  rwa [Nat.zero_add] at this
theorem Z39.at0 {s0 s:St} {W:Pos→Prop} {nv:AVal} {ns:List ND} {m:Lets} (h:Z39 nv ns m) (hc:Ctx s0 W m s):Za6 s nv ns:=by
 have h':=h.at hc
 rcases h with ⟨rfl,rfl,_⟩ | ⟨q,V,mr,hne,rfl,hp,hR⟩
 ·exact .inl ⟨rfl,rfl⟩
 ·exact .inr ⟨q,_,rfl,Zug hne h'⟩
theorem Zwc {s:St} {nv:AVal} {ns:List ND} {root:Int} {Q:AVal→St→Prop} (hw:s.Wf) (hN:Za6 s nv ns) (hsm:Zg7 ns) (hmax:ns.length ≤ 2 ^ 62)
  (q0:∀ s',Keeps s s'→Z1m ns root ≠ 0→Q (.tup [.agg [.nilSlice,.int .i64 0],.int .i64 (Z1m ns root)]) s')
  (q:∀ Bn mn s',Z1m ns root = 0→Zi8 Bn (Z1c ns root.toNat) mn→Ctx s (fun _ => False) mn s'→Q (.tup [.agg [.slice Bn 0 (Z1c ns root.toNat).length (.lim (Z1c ns root.toNat).length),.int .i64 0],.int .i64 0]) s') :
  Z0d Tryz.prog 67 [.agg [nv,.int .i64 root]] s Q:=by
 have hNt:=hN.at.ntup
 have hNc:=hN.at.Z97
 refine Z07 (Z0g (by decide)) fi67 rfl (by decide) rfl ?_
 refine Z00 ?_
 simp [hNt,hNc]
 have d1:=(Ctx.start (fun _ => False) hw).alloc (C [nv,.int .i64 root])
 generalize s.alloc (.cells [nv,.int .i64 root] false) = s1 at d1 ⊢
 generalize s.next = B1 at d1 ⊢
 have d2:=d1.alloc (C [.nilSlice,.int .i64 0])
 generalize s1.alloc (.cells [.nilSlice,.int .i64 0] false) = s2 at d2 ⊢
 generalize s1.next = B2 at d2 ⊢
 refine AM.wp_seq ?_
 refine Z00 ?_
 simp [d2.c 1 rfl,hNt,hNc]
 have d3:=d2.alloc (C [nv,.int .i64 root])
 generalize s2.alloc (.cells [nv,.int .i64 root] false) = s3 at d3 ⊢
 generalize s2.next = T at d3 ⊢
 have hT:Z6r s3 (.slice T 0 1 (.lim 1)) [(ns,root)]:=by
  refine .inr ⟨T,0,.lim 1,_,rfl,d3.oi 0 rfl,d3.c 0 rfl,by simp,fun i t hi => ?_⟩
  cases i with
  | succ i => simp at hi
  | zero =>
   simp at hi
   subst hi
   exact ⟨nv,rfl,rfl,hN.at.keep d3.Z0i⟩
 refine Z03 ?_
 refine Zqr d3.wf hT (by
  intro t ht
  simp at ht
  subst ht
  exact ⟨hmax,hsm⟩) (by simp) fun s4 k4 => ?_
 have d4:=d3.keeps k4
 have hcf:Z8d [(ns,root)] = Z1m ns root:=by
  unfold Z8d
  simp only [List.find?_cons,List.find?_nil]
  by_cases h:Z1m ns root = 0
  ·simp [h]
  ·simp [h]
 rw [hcf]
 simp
 refine Z00 ?_
 simp
 refine AM.Z04 ?_
 by_cases hz:Z1m ns root = 0
 ·simp [hz]
  refine AM.wp_skip ?_
  simp
  obtain ⟨o1,o2,hO,hnm,r0,r1⟩:=Zf3 hz
  obtain ⟨rt,rfl⟩:∃ n:Nat,root = (n:Int):=⟨root.toNat,by omega⟩
  rw [Int.toNat_natCast] at q
  refine Z00 ?_
  simp [d4.c 2 rfl,hNt,hNc]
  have d5:=d4.alloc (C [.int .i64 rt])
  generalize s4.alloc (.cells [.int .i64 rt] false) = s5 at d5 ⊢
  generalize s4.next = T2 at d5 ⊢
  have hr:∀ a ∈ [rt],a < ns.length:=by simp; omega
  refine Z03 ?_
  refine Zmb (roots:=[rt]) d5.wf (hN.at.keep d5.Z0i) hO (by omega) ?_ (by simp) hr fun lv mg s6 hg hx => ?_
  ·have e:=Z5u (ks:=[(rt:Int)]) d5.wf (d5.o 0 rfl) (.lim 1)
   exact e
  obtain ⟨hC,hnd,hlt,hroot⟩:=Zca hO hr
  have hLl:=Z22 hnd hlt
  unfold Z1c at q
  generalize bfsF (kidG ns) ns.length [rt] = L at hg hC hnd hlt hroot hLl q
  have d6:=d5.keeps hx.Z0i
  have hLv:Z0f s6 lv (nats L):=(hg.row.kid fun y hy => hx.own y hy).ints hx.wf
  rcases (hN.keep d6.Z0i) with ⟨_,e0⟩ | ⟨p,c0,rfl,hG⟩
  ·rw [e0] at o1
   simp at o1
  have hks:∀ (a:Nat) nd,ns[a]? = some nd→nd.2.length ≤ 4∧∀ k ∈ nd.2,0 ≤ k∧k < ns.length:=fun a nd h => hO nd (List.mem_of_getElem? h)
  have hLne:L ≠ []:=by
   rintro rfl
   simpa using hroot rt (by simp)
  obtain ⟨R,g1,g2,g3⟩:=Zoi hC hLne
  simp
  refine Z00 ?_
  simp [d6.c 3 rfl,hg.ntup]
  refine Z03 ?_
  refine Zoh d6.wf hG (by omega) hLv hC.lt (by omega) hks g1 g2 fun Bx s7 k7 _ hox => ?_
  have d7:=d6.keeps k7
  rw [Zpx hC g3,← Znk hC]
  rw [g3] at hox
  simp
  refine Z00 ?_
  simp [d7.c 3 rfl,hg.ntup]
  refine Z03 ?_
  have hcl:=Zds hC
  have hCx:Z0f s7 (.slice Bx 0 ns.length (.lim ns.length)) (clsF ns L):=by
   have:=Z5u d7.wf hox (.lim ns.length)
   rwa [hcl] at this
  refine Zud (nds:=ns) d7.wf (hN.at.keep d7.Z0i) (hLv.keep k7) hCx (by omega) (by omega) hcl hC.lt hks (fun a nd _ h => Zty (hnm nd (List.mem_of_getElem? h))) (fun j a hj => ?_) rfl fun Bn mn s8 hM hc8 => ?_
  ·have hj':=(List.getElem?_eq_some_iff.1 hj).1
   have hsp:L = L.take j ++ a :: L.drop (j + 1):=by
    have h1:=List.take_append_drop j L
    rw [List.drop_eq_getElem_cons hj'] at h1
    have h2:L[j] = a:=(List.getElem?_eq_some_iff.1 hj).2
    rw [h2] at h1
    exact h1.symm
   obtain ⟨c,e1,e2,_⟩:=Zmv hC hsp
   exact ⟨c,e1,e2⟩
  have d8:Ctx s (fun _ => False) (mn ++ [(T2,C [.int .i64 rt]),(T,C [.slice p 0 ns.length c0,.int .i64 rt]),(B2,C [.nilSlice,.int .i64 0]),(B1,C [.slice p 0 ns.length c0,.int .i64 rt])]) s8:=Ctx.on (m:=[]) (by simpa using d7) (by simpa using hc8)
  have d9:=d8.perm (m':=(B2,C [.nilSlice,.int .i64 0]) :: (mn ++ [(T2,C [.int .i64 rt]),(T,C [.slice p 0 ns.length c0,.int .i64 rt]),(B1,C [.slice p 0 ns.length c0,.int .i64 rt])])) (Z0m fun x => by
   simp only [Z0h,Z0e,Z0w]
   omega)
  simp [d9.o 0 rfl]
  have d10:=d9.put 0 rfl (C [.slice Bn 0 (outF (clsF ns L) ns L).length (.lim (outF (clsF ns L) ns L).length),.int .i64 0])
  simp only [List.set_cons_zero] at d10
  refine AM.wp_ret ?_
  simp
  exact q Bn mn _ hz hM (d10.tail.sub (List.sublist_append_left mn _))
 ·simp [hz]
  refine Z00 ?_
  simp [d4.o 1 rfl]
  have d5:=d4.put 1 rfl (C [.nilSlice,.int .i64 0])
  simp only [List.set_cons_succ,List.set_cons_zero] at d5
  refine AM.wp_ret ?_
  simp
  exact q0 _ d5.Z0i hz
theorem Zqd {nds nds':List ND} {R:Nat→Nat→Prop} (h:∀ a b,R a b→∃ x y,nds[a]? = some x∧nds'[b]? = some y∧x.1 = y.1∧x.2.length = y.2.length∧∀ (j:Nat) (k m:Int),x.2[j]? = some k→y.2[j]? = some m→R k.toNat m.toNat) :
  ∀ (d a b:Nat),R a b→unf nds d a = unf nds' d b
 | 0,a,b,_ => rfl
 | d + 1,a,b,hab => by
  obtain ⟨x,y,hx,hy,e1,e2,e3⟩:=h a b hab
  rw [Z8i hx,Z8i hy,e1]
  congr 1
  refine List.ext_getElem? fun j => ?_
  rw [List.getElem?_map,List.getElem?_map]
  by_cases hj:j < x.2.length
  ·rw [List.getElem?_eq_getElem hj,List.getElem?_eq_getElem (show j < y.2.length by omega)]
   simp only [Option.map_some]
   rw [Zqd h d _ _ (e3 j _ _ (List.getElem?_eq_getElem hj) (List.getElem?_eq_getElem (show j < y.2.length by omega)))]
  ·rw [List.getElem?_eq_none (by omega),List.getElem?_eq_none (by omega)]; rfl
theorem Zdd {nds nds':List ND} {R:Nat→Nat→Prop} (h:∀ a b,R a b→∃ x y,nds[a]? = some x∧nds'[b]? = some y∧x.1 = y.1∧x.2.length = y.2.length∧∀ (j:Nat) (k m:Int),x.2[j]? = some k→y.2[j]? = some m→R k.toNat m.toNat)
  {a b:Nat} (hab:R a b):lab nds a = lab nds' b:=funext fun d => Zqd h d a b hab
section
open Classical
variable {β:Type}
noncomputable def idxB (b:β):List β→Nat
 | [] => 0
 | x :: l => if x = b then 0 else idxB b l + 1
theorem Zpv {b:β}:∀ {l:List β},b ∈ l→idxB b l < l.length
 | [],h => by cases h
 | x :: l,h => by
  unfold idxB
  split
  ·simp
  ·rename_i hx
   rcases List.mem_cons.1 h with rfl | h
   ·exact (hx rfl).elim
   ·have:=Zpv h
    simp
    omega
theorem Zpu {b:β} {m:List β}:∀ {l:List β},b ∈ l→idxB b (l ++ m) = idxB b l
 | [],h => by cases h
 | x :: l,h => by
  rw [List.cons_append]
  unfold idxB
  split
  ·rfl
  ·rename_i hx
   rcases List.mem_cons.1 h with rfl | h
   ·exact (hx rfl).elim
   ·rw [Zpu h]
theorem Zmt {b:β} {m:List β}:∀ {l:List β},b ∉ l→idxB b (l ++ m) = l.length + idxB b m
 | [],_ => by simp
 | x :: l,h => by
  rw [List.cons_append]
  conv => lhs; unfold idxB
  split
  ·rename_i hx
   exact (h (by simp [hx])).elim
  ·rw [Zmt (fun hm => h (by simp [hm])),List.length_cons]
   omega
theorem Zmr {b:β}:∀ {l:List β},b ∈ l→l[idxB b l]? = some b
 | [],h => by cases h
 | x :: l,h => by
  unfold idxB
  split
  ·rename_i hx
   rw [hx]; rfl
  ·rename_i hx
   rcases List.mem_cons.1 h with rfl | h
   ·exact (hx rfl).elim
   ·simpa using Zmr h
theorem Zms {α μ:Type} {f:α→β} {g:α→μ} {a:α}:∀ {l:List α},(∀ e ∈ l,(f e = f a ↔ g e = g a))→idxB (f a) (l.map f) = idxB (g a) (l.map g)
 | [],_ => rfl
 | e :: l,h => by
  rw [List.map_cons,List.map_cons]
  unfold idxB
  have:=h e (by simp)
  by_cases he:f e = f a
  ·rw [if_pos he,if_pos (this.1 he)]
  ·rw [if_neg he,if_neg (fun hg => he (this.2 hg)),Zms fun x hx => h x (by simp [hx])]
noncomputable def Z56 {α:Type} (f:α→β) (l:List α):List α:=l.foldl (fun v a => if f a ∈ v.map f then v else v ++ [a]) []
theorem Z9y {α:Type} (f:α→β) (l:List α) (a:α):Z56 f (l ++ [a]) = if f a ∈ (Z56 f l).map f then Z56 f l else Z56 f l ++ [a]:=by
 unfold Z56
 rw [List.foldl_append]
 rfl
theorem Zir {α:Type} (f:α→β) (l:List α):(Z56 f l).map f = dd (l.map f):=by
 induction l using Zbk with
 | nil => rfl
 | append_singleton l a ih =>
  rw [Z9y,List.map_append,List.map_cons,List.map_nil,Zga,← ih]
  unfold addB
  split
  ·rfl
  ·rw [List.map_append]; rfl
theorem Zdx {α:Type} (f:α→β) (l:List α):∀ x ∈ Z56 f l,x ∈ l:=by
 induction l using Zbk with
 | nil => intro x hx; cases hx
 | append_singleton l a ih =>
  intro x hx
  rw [Z9y] at hx
  split at hx
  ·exact List.mem_append_left _ (ih x hx)
  ·rcases List.mem_append.1 hx with hx | hx
   ·exact List.mem_append_left _ (ih x hx)
   ·exact List.mem_append_right _ hx
theorem Zop {α μ:Type} {f:α→β} {g:α→μ} (l:List α):(∀ a ∈ l,∀ b ∈ l,(f a = f b ↔ g a = g b))→Z56 f l = Z56 g l:=by
 induction l using Zbk with
 | nil => intro _; rfl
 | append_singleton l a ih =>
  intro h
  have e:=ih fun x hx y hy => h x (by simp [hx]) y (by simp [hy])
  rw [Z9y,Z9y,← e]
  have:f a ∈ (Z56 f l).map f ↔ g a ∈ (Z56 f l).map g:=by
   rw [List.mem_map,List.mem_map]
   constructor
   ·rintro ⟨x,hx,hf⟩
    exact ⟨x,hx,(h x (by simp [Zdx f l x hx]) a (by simp)).1 hf⟩
   ·rintro ⟨x,hx,hf⟩
    exact ⟨x,hx,(h x (by simp [Zdx f l x hx]) a (by simp)).2 hf⟩
  by_cases hm:f a ∈ (Z56 f l).map f
  ·rw [if_pos hm,if_pos (this.1 hm)]
  ·rw [if_neg hm,if_neg (fun hg => hm (this.2 hg))]
theorem Zw7 {α μ:Type} {f:α→β} {g:α→μ} {l:List α} (h:∀ a ∈ l,∀ b ∈ l,(f a = f b ↔ g a = g b)) {a:α} (ha:a ∈ l):idxB (f a) (dd (l.map f)) = idxB (g a) (dd (l.map g)):=by
 rw [← Zir f l,← Zir g l,← Zop l h]
 exact Zms fun e he => h e (Zdx f l e he) a ha
end
theorem Zkx (f:Nat→Key):∀ (L:List Nat) (D:List Key),Z16 f D L = Z2v D (L.map f)
 | [],D => rfl
 | a :: L,D => by
  show Z16 f (addK D (f a)) L = Z2v (addB D (f a)) (L.map f)
  rw [Zkx f L]
  congr 1
  unfold addK addB
  by_cases h:f a ∈ D
  ·rw [if_pos h,if_pos h]
  ·rw [if_neg h,if_neg h]
theorem Zix {b:Key}:∀ (l:List Key),l.idxOf b = idxB b l
 | [] => rfl
 | x :: l => by
  rw [List.idxOf_cons]
  unfold idxB
  by_cases h:x = b
  ·rw [if_pos h]; simp [h]
  ·rw [if_neg h,← Zix l]
   have:(x == b) = false:=by simpa using h
   rw [this]
   rfl
theorem Zjt {nds:List ND} {L:List Nat} (hC:Closed nds L) {a:Nat} (ha:a ∈ L):(clsF nds L)[a]? = some ((idxB (lab nds a) (dd (L.map (lab nds))):Nat):Int):=by
 obtain ⟨f,hf,hs⟩:=Zmf hC
 rw [hf a ha,Zix,Zkx]
 have:idxB (f a) (dd (L.map f)) = idxB (lab nds a) (dd (L.map (lab nds))):=Zw7 (fun x hx y hy => (hs x hx y hy).trans (Zki hC hx hy)) ha
 rw [← this]
 rfl
noncomputable def canN (D:List Lab) (b:Lab):ND:=(lname b,(Zgg b).map fun x => ((idxB x D:Nat):Int))
noncomputable def canD (D:List Lab):List ND:=D.map (canN D)
theorem Zuf {nds:List ND} {L:List Nat} (hC:Closed nds L) {a:Nat} {nd:ND} (ha:a ∈ L) (h:nds[a]? = some nd):Z3y (clsF nds L) nd = canN (dd (L.map (lab nds))) (lab nds a):=by
 unfold Z3y canN
 rw [Zcf h,Z8n h,List.map_map]
 congr 1
 refine List.map_congr_left fun k hk => ?_
 rw [Zjt hC ((hC.kids a ha nd h).2 k hk)]
 rfl
theorem Zk5 {nds:List ND} {L:List Nat} (hC:Closed nds L):outF (clsF nds L) nds L = canD (dd (L.map (lab nds))):=by
 have key:∀ (P S:List Nat),L = P ++ S→outF (clsF nds L) nds P = (dd (P.map (lab nds))).map (canN (dd (L.map (lab nds)))):=by
  intro P
  induction P using Zbk with
  | nil => intro S _; rfl
  | append_singleton P x ih =>
   intro S hS
   have ihp:=ih (x :: S) (by rw [hS]; simp)
   have hx:x ∈ L:=by rw [hS]; simp
   have hnd:nds[x]? = some (nds[x]'(hC.lt x hx)):=List.getElem?_eq_getElem _
   have e1:outF (clsF nds L) nds (P ++ [x]) = Z2h (clsF nds L) nds (outF (clsF nds L) nds P) x:=by unfold outF; rw [List.foldl_append]; rfl
   rw [e1,ihp]
   unfold Z2h
   rw [Zjt hC hx,hnd]
   simp only
   rw [Zuf hC hx hnd]
   obtain ⟨T,hT⟩:=Zc4 ((x :: S).map (lab nds)) (dd (P.map (lab nds)))
   have hD:dd (L.map (lab nds)) = dd (P.map (lab nds)) ++ T:=by
    rw [hS,List.append_assoc,List.map_append,Zf8]
    exact hT
   rw [List.map_append,List.map_cons,List.map_nil,Zga,List.length_map]
   unfold addB
   by_cases hm:lab nds x ∈ dd (P.map (lab nds))
   ·rw [if_pos hm,hD,Zpu hm,if_pos (by have:=Zpv hm; omega)]
   ·rw [if_neg hm]
    have:¬ ((idxB (lab nds x) (dd (L.map (lab nds))):Nat):Int) < ((dd (P.map (lab nds))).length:Nat):=by
     rw [hD,Zmt hm]
     omega
    rw [if_neg this,List.map_append]
    rfl
 exact key L [] (by simp)
noncomputable def canT (g:Nat) (b:Lab):List ND:=canD (runL Zgg g [b] 0)
theorem Zpf {K:Nat→List Nat} {nds:List ND} {n r g:Nat} (hK:∀ a,a < n→∀ k ∈ K a,k < n) {P:Nat→Prop} (hP:∀ a,P a→∀ k ∈ K a,P k) (hκ:∀ a,P a→∃ nd,nds[a]? = some nd∧K a = nd.2.map Int.toNat) (hr:r < n) (hPr:P r) (hg:n + 1 ≤ g) :
  dd ((bfsF K n [r]).map (lab nds)) = runL Zgg g [lab nds r] 0:=by
 have h1:bfsF K n [r] = runB K (n + 1) [r] 0:=rfl
 have h2:dd ([r].map (lab nds)) = [lab nds r]:=by simp [dd,Z2v,addB]
 rw [h1]
 have:=run_lab (f:=lab nds) (κ:=Zgg) hK hP (fun a ha => by
  obtain ⟨nd,e1,e2⟩:=hκ a ha
  rw [Z8n e1,e2,List.map_map]
  rfl) (n + 1) [r] 0 g (by simp) (by simpa using hr) (by simpa using hPr) (by omega) (by simpa [dd,Z2v] using hg) (by intro x a hx; omega) (by simp)
 rw [this,h2]
 rfl
theorem Ze1 {cs:List CV} (h:HOk2 cs) {i g:Nat} (hi:Z08 cs (i:Int) = true) (hg:cs.length + 1 ≤ g):Z1w cs i = canT g (lab (Z0j cs) i):=by
 obtain ⟨hC,_⟩:=Z8v h (roots:=[i]) (by simpa using hi)
 unfold Z1w canT
 rw [Zk5 hC]
 congr 1
 refine Zpf h.Zgf (P:=fun a => Z08 cs (a:Int) = true) (fun a ha => Zjy h.toHOk ha) (fun a ha => ?_) (Z1g hi) hi hg
 obtain ⟨_,d,hd,ht,_⟩:=Z1z ha
 rw [Int.toNat_natCast] at hd
 refine ⟨_,Z2k hd,?_⟩
 unfold kidN
 rw [Z1a hd,if_pos ht]
theorem Zrh {ns:List ND} (h:GrOk ns) {r g:Nat} (hr:r < ns.length) (hg:ns.length + 1 ≤ g):Z1c ns r = canT g (lab ns r):=by
 obtain ⟨hC,_⟩:=Zca h (roots:=[r]) (by simpa using hr)
 unfold Z1c canT
 rw [Zk5 hC]
 congr 1
 exact Zpf h.Zdc (P:=fun a => a < ns.length) h.Zdc (fun a ha => ⟨_,List.getElem?_eq_getElem ha,Ze0 (List.getElem?_eq_getElem ha)⟩) hr hr hg
theorem Zu9 {cs cs':List CV} (h:HOk2 cs) (h':HOk2 cs') {i i':Nat} (hi:Z08 cs (i:Int) = true) (hi':Z08 cs' (i':Int) = true) (hl:lab (Z0j cs) i = lab (Z0j cs') i'):Z1w cs i = Z1w cs' i':=by
 rw [Ze1 h hi (g:=cs.length + cs'.length + 1) (by omega),Ze1 h' hi' (g:=cs.length + cs'.length + 1) (by omega),hl]
theorem Zlu {cs:List CV} {ns:List ND} (h:HOk2 cs) (h':GrOk ns) {i r:Nat} (hi:Z08 cs (i:Int) = true) (hr:r < ns.length) (hl:lab (Z0j cs) i = lab ns r):Z1w cs i = Z1c ns r:=by
 rw [Ze1 h hi (g:=cs.length + ns.length + 1) (by omega),Zrh h' hr (g:=cs.length + ns.length + 1) (by omega),hl]
def Z5n (n:Nat) (nd:ND):ND:=(nd.1,nd.2.map fun k => (n:Int) + k)
def bigG (cs:List CV) (ts:List ND):List ND:=Z0j cs ++ ts.map (Z5n cs.length)
def bigL (cs:List CV) (ts:List ND):List Nat:=Z1r cs cs.length ++ (List.range ts.length).map fun i => cs.length + i
noncomputable def Z24 (cs:List CV) (ts:List ND):List Int:=(List.range ts.length).map fun i => Z4e (fun d => decide (((clsF (bigG cs ts) (bigL cs ts))[cs.length + i]?).getD 0 = d)) ((clsF (bigG cs ts) (bigL cs ts)).take cs.length)
theorem Zbp (cs:List CV) (ts:List ND):(bigG cs ts).length = cs.length + ts.length:=by simp [bigG,Z13]
theorem Zew {cs:List CV} {ts:List ND} {a:Nat} (h:a < cs.length):(bigG cs ts)[a]? = (Z0j cs)[a]?:=by
 unfold bigG
 rw [List.getElem?_append_left (by rw [Z13]; exact h)]
theorem Zex {cs:List CV} {ts:List ND} (i:Nat):(bigG cs ts)[cs.length + i]? = (ts[i]?).map (Z5n cs.length):=by
 unfold bigG
 rw [List.getElem?_append_right (by rw [Z13]; omega),Z13,List.getElem?_map]
 congr 2
 omega
theorem Z9m {cs:List CV} {ts:List ND} {a:Nat}:a ∈ bigL cs ts ↔ (a < cs.length∧Z08 cs (a:Int) = true) ∨ (cs.length ≤ a∧a < cs.length + ts.length):=by
 unfold bigL
 rw [List.mem_append,Z5l]
 refine or_congr Iff.rfl ?_
 simp only [List.mem_map,List.mem_range]
 constructor
 ·rintro ⟨i,hi,rfl⟩
  omega
 ·rintro ⟨h1,h2⟩
  exact ⟨a - cs.length,by omega,by omega⟩
theorem Zt2 {cs:List CV} {ts:List ND} (hO:HOk cs) (hT:GrOk ts):Closed (bigG cs ts) (bigL cs ts)∧∀ (a:Nat) nd,(bigG cs ts)[a]? = some nd→nd.2.length ≤ 4∧∀ k ∈ nd.2,0 ≤ k∧k < (bigG cs ts).length:=by
 have hg:∀ (a:Nat) nd,(bigG cs ts)[a]? = some nd→(a < cs.length∧(Z0j cs)[a]? = some nd) ∨ (cs.length ≤ a∧∃ x,ts[a - cs.length]? = some x∧nd = Z5n cs.length x):=by
  intro a nd h
  by_cases ha:a < cs.length
  ·rw [Zew ha] at h
   exact .inl ⟨ha,h⟩
  ·obtain ⟨i,rfl⟩:∃ i,a = cs.length + i:=⟨a - cs.length,by omega⟩
   rw [Zex] at h
   cases hx:ts[i]? with
   | none => rw [hx] at h; cases h
   | some x =>
    rw [hx] at h
    refine .inr ⟨by omega,x,by rw [Nat.add_sub_cancel_left]; exact hx,?_⟩
    simpa using h.symm
 refine ⟨⟨fun a ha => ?_,fun a ha x hx => ?_⟩,fun a nd h => ?_⟩
 ·rw [Zbp]
  rcases Z9m.1 ha with h | h <;> omega
 ·rcases hg a x hx with ⟨h1,h2⟩ | ⟨h1,y,h2,rfl⟩
  ·have hcl:=hO.closed
   have ham:a ∈ Z1r cs cs.length:=by
    rcases Z9m.1 ha with h | h
    ·exact Z5l.2 h
    ·omega
   obtain ⟨h4,hk⟩:=hcl.kids a ham x h2
   refine ⟨h4,fun k hkm => ?_⟩
   exact List.mem_append_left _ (hk k hkm)
  ·obtain ⟨h4,hk⟩:=hT y (List.mem_of_getElem? h2)
   refine ⟨by simpa [Z5n] using h4,fun k hkm => ?_⟩
   obtain ⟨k',hk',rfl⟩:=List.mem_map.1 hkm
   obtain ⟨k0,k1⟩:=hk k' hk'
   exact Z9m.2 (.inr (by omega))
 ·rw [Zbp]
  rcases hg a nd h with ⟨h1,h2⟩ | ⟨h1,y,h2,rfl⟩
  ·obtain ⟨g1,g2⟩:=hO.Zdy a nd h2
   refine ⟨g1,fun k hk => ?_⟩
   obtain ⟨k0,k1⟩:=g2 k hk
   rw [Z13] at k1
   omega
  ·obtain ⟨h4,hk⟩:=hT y (List.mem_of_getElem? h2)
   refine ⟨by simpa [Z5n] using h4,fun k hkm => ?_⟩
   obtain ⟨k',hk',rfl⟩:=List.mem_map.1 hkm
   obtain ⟨k0,k1⟩:=hk k' hk'
   omega
section
variable {sc s:St} {fr:FI} {t0:PT AVal} {n:Nat} {r:Lets} {Q:Ex→PT AVal→St→Prop}
theorem Zr8 {B9 B10:Pos} {nm:List UInt8} {kv0:AVal} {ks:List Int} (hk:Z0f sc kv0 ks) (h4:ks.length ≤ 4) (hn:n ≤ 400) (hin:∀ k ∈ ks,0 ≤ k∧k < 1000)
  (hc:Ctx sc (fun _ => False) ((B10,C [.str nm,.nilSlice]) :: (B9,C [.str nm,kv0]) :: r) s) (t7:PT.get (posOf 7) t0 = some (.int .i64 n)) (t9:PT.get (posOf 9) t0 = some (.ptr B9 0)) (t10:PT.get (posOf 10) t0 = some (.ptr B10 0))
  (q:∀ t s' kv mg,Fr [12,35,36,37,38] t0 t→Z1s kv (ks.map fun k => (n:Int) + k) mg→Ctx sc (fun _ => False) ((B10,C [.str nm,kv]) :: (B9,C [.str nm,kv0]) :: (mg ++ r)) s'→Q .normal t s'):wp Tryz.prog Ztk fr t0 s Q:=by
 have hkt:=hk.ntup
 refine Z00 ?_
 simp [t9,hc.c 1 rfl,hkt,hk.len]
 refine AM.wp_block ?_
 refine AM.wp_loop (fun m t s' => ∃ (j:Nat) (kv:AVal) (mg:Lets),j ≤ ks.length∧m = ks.length - j∧Fr [12,35,36,37,38] t0 t∧PT.get (posOf 35) t = some kv0∧PT.get (posOf 36) t = some (.int .i64 ks.length)∧PT.get (posOf 37) t = some (.int .i64 j) ∧
   Z1s kv ((ks.take j).map fun k => (n:Int) + k) mg∧Ctx sc (fun _ => False) ((B10,C [.str nm,kv]) :: (B9,C [.str nm,kv0]) :: (mg ++ r)) s') ks.length ⟨0,.nilSlice,[],by simp,by simp,?_,by simp,by simp,by simp,.inl ⟨by simp,rfl,rfl⟩,hc⟩ ?_
 ·intro y hy
  simp at hy
  simp [hy]
 rintro m t s' ⟨j,kv,mg,hj,rfl,hF,t35,t36,t37,hg,hc'⟩
 refine Z00 ?_
 simp [t36,t37]
 refine AM.wp_seq ?_
 refine AM.Z04 ?_
 by_cases hlt:j < ks.length
 ·have hwr:IntKind.wrap .i64 ((j:Int) + 1) = ((j + 1:Nat):Int):=by rw [IntWalk.i64_in _ (by omega)]; omega
  obtain ⟨k,hkk⟩:∃ k,ks[j]? = some k:=⟨_,List.getElem?_eq_getElem hlt⟩
  obtain ⟨k0,k1⟩:=hin k (List.mem_of_getElem? hkk)
  have hwk:IntKind.wrap .i64 ((n:Int) + k) = (n:Int) + k:=IntWalk.i64_in _ (by omega)
  have u7:=(hF 7 (by simp)).trans t7
  have u10:=(hF 10 (by simp)).trans t10
  rcases hk.keep hc'.Z0i with ⟨_,h0⟩ | ⟨b5,o5,c5,cells5,rfl,hb5,hcs5,hle5,hel5⟩
  ·rw [h0] at hlt
   simp at hlt
  have hgk:=hel5 _ _ hkk
  simp [hlt]
  refine AM.wp_skip ?_
  simp
  refine AM.wp_seq ?_
  refine AM.wp_block ?_
  refine Z00 ?_
  simp [t35,t37,hlt,hcs5,hgk]
  refine AM.wp_region ?_
  have hns:s'.obj s'.next = none:=hc'.wf _ (Z0a _)
  simp [u7,u10,hc'.c 0 rfl,hg.ntup,hg.cells,hns,hwk,Z1t,srcP]
  have d2:=hc'.alloc (C [.int .i64 (n + k)])
  generalize s'.alloc (.cells [.int .i64 (n + k)] false) = sB at d2 ⊢
  generalize s'.next = T at d2 ⊢
  refine Z61 (pre:=[(T,C [.int .i64 (n + k)]),(B10,C [.str nm,kv]),(B9,C [.str nm,.slice b5 o5 ks.length c5])]) d2 hg (by simp; omega) fun kv' mg' sC hg' d3 => ?_
  simp only [List.cons_append,List.nil_append] at d3
  simp [hg'.ntup,hg'.cells,d3.o 1 rfl]
  have d4:=(d3.put 1 rfl (C [.str nm,kv'])).tail
  simp only [List.set_cons_zero,List.set_cons_succ] at d4
  have hnx:((ks.take j).map fun k => (n:Int) + k) ++ [(n:Int) + k] = (ks.take (j + 1)).map fun k => (n:Int) + k:=by
   rw [List.take_add_one,hkk,List.map_append]
   simp
  rw [hnx] at hg'
  refine AM.wp_region ?_
  simp [t37,hwr]
  refine ⟨ks.length - (j + 1),by omega,j + 1,by omega,by omega,?_,by simp [t35],by simp [t36],by simp,kv',mg',by simpa using hg',d4⟩
  intro y hy
  simp at hy
  simp [hy]
  exact hF y (by simp [hy])
 ·simp [hlt]
  refine AM.wp_exit ?_
  simp
  have hje:j = ks.length:=by omega
  subst hje
  rw [List.take_length] at hg
  refine q _ s' kv mg ?_ hg hc'
  intro y hy
  simp at hy
  simp [hy]
  exact hF y (by simp [hy])
theorem Zxe {s0:St} {W:Pos→Prop} {q:Pos} {cells:List AVal} {m:Nat} {cp:Cap} {a b:AVal} {Q:AVal→St→Prop} (h:Ctx s0 W ((q,C cells) :: r) s) (hl:cells.length = 2 * m) (h1:1 ≤ m) (hm:m ≤ 1000) (hcp:cp = .lim m ∨ cp = .opn 2)
  (qq:∀ q' s',Ctx s0 W ((q',C (cells ++ [a,b])) :: r) s'→Q (.slice q' 0 (m + 1) (.opn 2)) s'):appP (2,40) (.slice q 0 m cp) [a,b] 1 s Q:=by
 have ht:List.take (m * 2) (List.drop 0 cells) = cells:=by rw [List.drop_zero]; exact List.take_of_length_le (by omega)
 rcases hcp with rfl | rfl
 ·simp only [appP,Z4j]
  rw [if_neg (by decide),if_neg (by omega),if_neg (by omega),h.c 0 rfl]
  refine ⟨by omega,by unfold Z0k; omega,?_⟩
  rw [ht]
  exact qq _ _ ((h.alloc (C (cells ++ [a,b]))).sub (.cons_cons _ (.cons _ (List.Sublist.refl _))))
 ·simp only [appP,Z4j]
  rw [if_neg (by decide)]
  refine ⟨trivial,?_⟩
  rw [h.o 0 rfl]
  simp only [Z10]
  rw [if_neg (by omega),if_neg (by omega)]
  refine ⟨by omega,by unfold Z0k; omega,?_⟩
  rw [ht]
  exact qq _ _ ((h.put0 .dead).tail.alloc (C (cells ++ [a,b])))
end
def Z41 (n:Nat) (ts:List ND) (i:Nat):List ND:=(ts.take i).map (Z5n n)
theorem Zjh {n i:Nat} {ts:List ND} {nd:ND} (h:ts[i]? = some nd):Z41 n ts (i + 1) = Z41 n ts i ++ [Z5n n nd]:=by
 unfold Z41
 rw [List.take_add_one,h]
 simp
theorem graph_c {s0 s:St} {p:Pos} {cs:List CV} {V:List AVal} {m:Lets} {Q:AVal→St→Prop} (hc:Ctx s0 (fun _ => False) m s) (hp:s0.Old p) (hpc:s0.cells p = some (encs (rcs cs V))) (hV:V.length = cs.length) (h4:cs.length ≤ 400)
  (hK:∀ j c,(rcs cs V)[j]? = some c→Z0f s0 c.kv (Z12 cs j))
  (q:∀ pn lv mg Vg s',Z1s lv (nats (Z1r cs cs.length)) mg→Vg.length = cs.length→(∀ (i:Nat) nd kv,(Z0j cs)[i]? = some nd→Vg[i]? = some kv→Z0f s0 kv nd.2)→Ctx s0 (fun _ => False) ((pn,C (Z0l (Z0j cs) Vg)) :: (mg ++ m)) s'→Q (.tup [.slice pn 0 cs.length (.lim cs.length),lv]) s') :
  Z0d Tryz.prog 54 [.agg [.slice p 0 cs.length (.lim cs.length)]] s Q:=by
 have hl:=Z29 hV
 have htk:=tak_rcs hV cs.length
 have hget:∀ (i:Nat) (c:CV),cs[i]? = some c→∃ kv,V[i]? = some kv∧(rcs cs V)[i]? = some ⟨c.taken,c.name,kv,c.held⟩:=fun i c hi => by
  have hlt:=(List.getElem?_eq_some_iff.1 hi).1
  have hv:V[i]? = some (V[i]'(by omega)):=List.getElem?_eq_getElem _
  exact ⟨_,hv,Z2b hi hv⟩
 generalize rcs cs V = l at hpc hK hl htk hget
 rw [← hl]
 refine Zkv hc.wf (hc.Z0i.old hp) ((hc.Z0i.cells hp).trans hpc) (by omega) (fun j c hj => (hK j c hj).keep hc.Z0i) fun pn lv s3 k3 hpn hox hlv _ _ => ?_
 rw [hl] at hox hlv ⊢
 rw [htk] at hlv
 have hel:∀ (i:Nat) (c:CV),cs[i]? = some c→∃ kv,(nlI l cs.length)[i]? = some (if c.taken = true then (c.name,kv) else ([],.nilSlice))∧Z0f s0 kv c.kids:=by
  intro i c hi
  obtain ⟨kv,g1,g2⟩:=hget i c hi
  refine ⟨kv,?_,?_⟩
  ·rw [Z8p g2]
   have hlt:=(List.getElem?_eq_some_iff.1 hi).1
   simp [hlt]
  ·have:=hK i _ g2
   rwa [Z1a hi] at this
 have hPl:(nlI l cs.length).length = cs.length:=by rw [Z6u,hl]
 generalize nlI l cs.length = P at hox hel hPl
 have hP:penc P = Z0l (Z0j cs) (P.map Prod.snd):=by
  unfold Z0l
  congr 1
  refine List.ext_getElem? fun i => ?_
  by_cases hi:i < cs.length
  ·obtain ⟨kv,g1,_⟩:=hel i _ (List.getElem?_eq_getElem hi)
   rw [List.getElem?_zipWith,Z2k (List.getElem?_eq_getElem hi),List.getElem?_map,g1]
   split <;> rfl
  ·rw [List.getElem?_eq_none (by omega),List.getElem?_eq_none (by simp [Z13]; omega)]
 rw [hP] at hox
 have hVg:∀ (i:Nat) nd kv,(Z0j cs)[i]? = some nd→(P.map Prod.snd)[i]? = some kv→Z0f s0 kv nd.2:=by
  intro i nd kv hnd hkv
  have hi:i < cs.length:=by have:=(List.getElem?_eq_some_iff.1 hnd).1; rwa [Z13] at this
  obtain ⟨kv',g1,g2⟩:=hel i _ (List.getElem?_eq_getElem hi)
  rw [Z2k (List.getElem?_eq_getElem hi)] at hnd
  rw [List.getElem?_map,g1] at hkv
  by_cases ht:cs[i].taken = true
  ·simp [ht] at hnd hkv
   subst hnd hkv
   exact g2
  ·simp [ht] at hnd hkv
   subst hnd hkv
   exact .inl ⟨rfl,rfl⟩
 have c1:=hc.made k3 hpn (St.Z2w hox)
 rcases hlv with ⟨rfl,h0⟩ | ⟨q',rfl,h0,h5,h6,h7⟩
 ·exact q pn .nilSlice [] _ s3 (.inl ⟨by rw [h0]; rfl,rfl,rfl⟩) (by simp [hPl]) hVg (by simpa using c1)
 ·have hq:(q',C (ints (nats (Z1r cs cs.length)))).1 ∉ (((pn,C (Z0l (Z0j cs) (P.map Prod.snd))) :: m).map (·.1)):=by
   rw [List.map_cons,List.mem_cons]
   rintro (h | h)
   ·exact h7 h
   ·exact hc.Zuh h6 h
  have hobj:s3.obj q' = some (C (ints (nats (Z1r cs cs.length)))):=by
   have:=St.Z2w h5
   rw [this]
   simp [ints]
  have c2:=c1.add (b:=q') (x:=C (ints (nats (Z1r cs cs.length)))) hobj (fun ho => h6 (hc.Z0i.old ho)) hq
  refine q pn _ [(q',C (ints (nats (Z1r cs cs.length))))] _ s3 (.inr ⟨q',by simpa using h0,by simp,rfl⟩) (by simp [hPl]) hVg (c2.perm (List.Perm.swap _ _ _))
def capI (n:Nat):Nat→Cap
 | 0 => .lim n
 | _ + 1 => .opn 2
theorem capI_or (n i:Nat):capI n i = .lim (n + i) ∨ capI n i = .opn 2:=by
 cases i with
 | zero => exact .inl rfl
 | succ i => exact .inr rfl
theorem seg2 {cs:List AVal} {o:Nat} {a b:AVal} (h1:cs[o]? = some a) (h2:cs[o + 1]? = some b):(cs.drop o).take 2 = [a,b]∧o + 2 ≤ cs.length:=by
 obtain ⟨g1,e1⟩:=List.getElem?_eq_some_iff.1 h1
 obtain ⟨g2,e2⟩:=List.getElem?_eq_some_iff.1 h2
 refine ⟨?_,by omega⟩
 rw [List.drop_eq_getElem_cons g1,List.drop_eq_getElem_cons g2,e1,e2]
 rfl
theorem Zw1 {s:St} {p:Pos} {cs:List CV} {V:List AVal} {nv:AVal} {ts:List ND} {root:Int} {Q:AVal→St→Prop} (hw:s.Wf) (hp:s.Old p) (hpc:s.cells p = some (encs (rcs cs V))) (hV:V.length = cs.length) (h1:1 ≤ cs.length) (h4:cs.length ≤ 400)
  (hK:∀ j c,(rcs cs V)[j]? = some c→Z0f s c.kv (Z12 cs j)) (hO:HOk cs) (hN:Z1h s nv ts) (hT:GrOk ts) (hl1:1 ≤ ts.length) (hl2:ts.length ≤ 60)
  (q:∀ Bo s',Keeps s s'→¬ s.Old Bo→s'.own Bo = some (ints (Z24 cs ts))→Q (.slice Bo 0 ts.length (.lim ts.length)) s'):Z0d Tryz.prog 68 [.agg [.slice p 0 cs.length (.lim cs.length)],.agg [nv,.int .i64 root]] s Q:=by
 have hNt:=hN.ntup
 have hNc:=hN.Z97
 have hl:=Z29 hV
 refine Z07 (Z0g (by decide)) fi68 rfl (by decide) rfl ?_
 refine Z00 ?_
 simp [hNt,hNc]
 have d1:=(Ctx.start (fun _ => False) hw).alloc (C [.slice p 0 cs.length (.lim cs.length)])
 generalize s.alloc (.cells [.slice p 0 cs.length (.lim cs.length)] false) = s1 at d1 ⊢
 generalize s.next = B2 at d1 ⊢
 have d2:=d1.alloc (C [nv,.int .i64 root])
 generalize s1.alloc (.cells [nv,.int .i64 root] false) = s2 at d2 ⊢
 generalize s1.next = B3 at d2 ⊢
 refine Z00 ?_
 simp [d2.c 1 rfl]
 refine Z03 ?_
 refine graph_c d2 hp hpc hV h4 hK fun pn lv mg Vg s3 hg hVg hVk d3 => ?_
 simp
 refine Z00 ?_
 simp
 have d4:Ctx s (fun _ => False) ((pn,C (Z0l (Z0j cs ++ Z41 cs.length ts 0) (Vg ++ []))) :: (B3,C [nv,.int .i64 root]) :: ([] ++ (mg ++ []))) s3:=by
  have:=d3.perm (m':=(B2,C [.slice p 0 cs.length (.lim cs.length)]) :: (pn,C (Z0l (Z0j cs) Vg)) :: (B3,C [nv,.int .i64 root]) :: mg) (Z0m fun x => by
   simp only [Z0h,Z0e,Z0w]
   omega)
  simpa [Z41] using this.tail
 refine AM.wp_seq ?_
 refine Z00 ?_
 simp [d4.c 1 rfl,hNt,hN.len]
 refine AM.wp_block ?_
 refine AM.wp_loop (fun k t s' => ∃ (i:Nat) (qn:Pos) (lv:AVal) (Vk:List AVal) (mk mg:Lets),i ≤ ts.length∧k = ts.length - i∧PT.get (posOf 3) t = some (.ptr B3 0)∧PT.get (posOf 5) t = some (.slice qn 0 (cs.length + i) (capI cs.length i))∧PT.get (posOf 6) t = some lv∧PT.get (posOf 7) t = some (.int .i64 cs.length) ∧
   PT.get (posOf 24) t = some nv∧PT.get (posOf 25) t = some (.int .i64 ts.length)∧PT.get (posOf 26) t = some (.int .i64 i)∧Z1s lv (nats (Z1r cs cs.length ++ (List.range i).map fun x => cs.length + x)) mg∧Z0v ((Z41 cs.length ts i).map Prod.snd) Vk mk ∧
   Ctx s (fun _ => False) ((qn,C (Z0l (Z0j cs ++ Z41 cs.length ts i) (Vg ++ Vk))) :: (B3,C [nv,.int .i64 root]) :: (mk ++ (mg ++ []))) s') ts.length
  ⟨0,pn,lv,[],[],mg,by simp,by simp,by simp,by simp [capI],by simp,by simp,by simp,by simp,by simp,by simpa using hg,by simp [Z41,Z0v],d4⟩ ?_
 rintro k t s' ⟨i,qn,lv,Vk,mk,mg,hi,rfl,t3,t5,t6,t7,t24,t25,t26,hg,hR,d⟩
 refine Z00 ?_
 simp [t25,t26]
 refine AM.wp_seq ?_
 refine AM.Z04 ?_
 by_cases hlt:i < ts.length
 ·have hwr:IntKind.wrap .i64 ((i:Int) + 1) = ((i + 1:Nat):Int):=by rw [IntWalk.i64_in _ (by omega)]; omega
  have hwn:IntKind.wrap .i64 ((cs.length:Int) + i) = ((cs.length + i:Nat):Int):=by rw [IntWalk.i64_in _ (by omega)]; omega
  obtain ⟨nd,hnd⟩:∃ nd,ts[i]? = some nd:=⟨_,List.getElem?_eq_getElem hlt⟩
  obtain ⟨hk4,hkin⟩:=hT nd (List.mem_of_getElem? hnd)
  rcases hN with ⟨_,e0⟩ | ⟨bn,on,cn,cellsn,rfl,hbn,hcsn,hlen,heln⟩
  ·rw [e0] at hnd
   simp at hnd
  have rn:∀ {m:Lets} {s'':St},Ctx s (fun _ => False) m s''→s''.cells bn = some cellsn:=fun d => (d.Z0i.cells hbn).trans hcsn
  obtain ⟨hgn,kv,hgk,hkv⟩:=heln i nd hnd
  have hkt:=hkv.ntup
  have hkc:=hkv.Z97
  obtain ⟨hsg,hsl⟩:=seg2 hgn hgk
  have hmin:min 2 (cellsn.length - (on + i * 2)) = 2:=by omega
  simp [hlt]
  refine AM.wp_skip ?_
  simp
  refine AM.wp_seq ?_
  refine AM.wp_block ?_
  refine Z00 ?_
  simp [t24,t26,hlt,rn d,hsl,hmin,hsg]
  have e1:=(d.alloc (C [.str [],.nilSlice])).put 0 rfl (C [.str nd.1,kv])
  simp only [List.set_cons_zero] at e1
  generalize (s'.alloc (.cells [.str [],.nilSlice] false)).put s'.next (.cells [.str nd.1,kv] false) = s4 at e1 ⊢
  generalize s'.next = B9 at e1 ⊢
  refine Z00 ?_
  simp [e1.c 0 rfl]
  have e2:=(e1.alloc (C [.str [],.nilSlice])).put 0 rfl (C [.str nd.1,.nilSlice])
  simp only [List.set_cons_zero] at e2
  generalize (s4.alloc (.cells [.str [],.nilSlice] false)).put s4.next (.cells [.str nd.1,.nilSlice] false) = s5 at e2 ⊢
  generalize s4.next = B10 at e2 ⊢
  refine AM.wp_seq ?_
  refine Zr8 (n:=cs.length) hkv hk4 h4 (fun k hk => by have:=hkin k hk; omega) e2 (by simp [t7]) (by simp) (by simp) fun t2 s6 kv2 mk2 hF2 hg2 e3 => ?_
  have u3:PT.get (posOf 3) t2 = some (.ptr B3 0):=(hF2 3 (by simp)).trans (by simp [t3])
  have u5:PT.get (posOf 5) t2 = some (.slice qn 0 (cs.length + i) (capI cs.length i)):=(hF2 5 (by simp)).trans (by simp [t5])
  have u6:PT.get (posOf 6) t2 = some lv:=(hF2 6 (by simp)).trans (by simp [t6])
  have u7:PT.get (posOf 7) t2 = some (.int .i64 cs.length):=(hF2 7 (by simp)).trans (by simp [t7])
  have u8:PT.get (posOf 8) t2 = some (.int .i64 i):=(hF2 8 (by simp)).trans (by simp)
  have u10:PT.get (posOf 10) t2 = some (.ptr B10 0):=(hF2 10 (by simp)).trans (by simp)
  have u24:PT.get (posOf 24) t2 = some (.slice bn on ts.length cn):=(hF2 24 (by simp)).trans (by simp [t24])
  have u25:PT.get (posOf 25) t2 = some (.int .i64 ts.length):=(hF2 25 (by simp)).trans (by simp [t25])
  have u26:PT.get (posOf 26) t2 = some (.int .i64 i):=(hF2 26 (by simp)).trans (by simp [t26])
  simp
  refine AM.wp_region ?_
  simp [u5,u6,u7,u8,u10,e3.c 0 rfl,hg2.ntup,hg2.cells,Z1t,srcP]
  have e4:=e3.alloc (C [.str nd.1,kv2])
  generalize s6.alloc (.cells [.str nd.1,kv2] false) = s7 at e4 ⊢
  generalize s6.next = T at e4 ⊢
  have hVk':Vk.length = i:=by
   have:=hR.len
   simpa [Z41,Nat.min_eq_left hi] using this
  have hVV:(Vg ++ Vk).length = (Z0j cs ++ Z41 cs.length ts i).length:=by simp [hVg,hVk',Z13,Z41,Nat.min_eq_left hi]
  have hcl:(Z0l (Z0j cs ++ Z41 cs.length ts i) (Vg ++ Vk)).length = 2 * (cs.length + i):=by
   rw [Z6a hVV]
   simp [Z13,Z41,Nat.min_eq_left hi]
  have e5:=e4.perm (m':=(qn,C (Z0l (Z0j cs ++ Z41 cs.length ts i) (Vg ++ Vk))) :: (B3,C [.slice bn on ts.length cn,.int .i64 root]) :: (mk2 ++ (mk ++ mg)) ++ [(T,C [.str nd.1,kv2]),(B10,C [.str nd.1,kv2]),(B9,C [.str nd.1,kv])]) (Z0m fun x => by
   simp only [Z0h,Z0e,Z0w]
   omega)
  have e6:=e5.sub (m':=(qn,C (Z0l (Z0j cs ++ Z41 cs.length ts i) (Vg ++ Vk))) :: (B3,C [.slice bn on ts.length cn,.int .i64 root]) :: (mk2 ++ (mk ++ mg))) (List.sublist_append_left _ _)
  refine Zxe e6 hcl (by omega) (by omega) (capI_or _ _) fun qn' s8 e7 => ?_
  have hsn:Z0l (Z0j cs ++ Z41 cs.length ts i) (Vg ++ Vk) ++ [.str nd.1,kv2] = Z0l (Z0j cs ++ Z41 cs.length ts (i + 1)) (Vg ++ (Vk ++ [kv2])):=by
   have:=Zj6 hVV (Z5n cs.length nd) kv2
   rw [List.append_assoc,← Zjh hnd,List.append_assoc] at this
   exact this.symm
  rw [hsn] at e7
  have e8:=e7.alloc (C [.int .i64 (cs.length + i:Nat)])
  rw [hwn]
  generalize s8.alloc (.cells [.int .i64 (cs.length + i:Nat)] false) = s9 at e8 ⊢
  generalize s8.next = T2 at e8 ⊢
  have e9:=e8.tail.perm (m':=[(qn',C (Z0l (Z0j cs ++ Z41 cs.length ts (i + 1)) (Vg ++ (Vk ++ [kv2])))),(B3,C [.slice bn on ts.length cn,.int .i64 root])] ++ (mg ++ (mk ++ mk2))) (Z0m fun x => by
   simp only [Z0h,Z0e,Z0w]
   omega)
  have hll:(Z1r cs cs.length).length ≤ cs.length:=Nat.le_trans (List.length_filter_le _ _) (by simp)
  refine Z61 e9 hg (by simp; omega) fun lv' mg' s10 hg' e10 => ?_
  have hg'':Z1s lv' (nats (Z1r cs cs.length ++ (List.range (i + 1)).map fun x => cs.length + x)) mg':=by
   have:nats (Z1r cs cs.length ++ (List.range (i + 1)).map fun x => cs.length + x) = nats (Z1r cs cs.length ++ (List.range i).map fun x => cs.length + x) ++ [((cs.length + i:Nat):Int)]:=by
    rw [List.range_succ]
    simp
   rw [this]
   exact hg'
  have hR':Z0v ((Z41 cs.length ts (i + 1)).map Prod.snd) (Vk ++ [kv2]) (mk ++ mk2):=by
   rw [Zjh hnd,List.map_append]
   exact hR.snoc hg2.row
  refine AM.wp_region ?_
  simp [u26,hwr]
  refine ⟨ts.length - (i + 1),by omega,i + 1,by omega,by omega,u3,qn',⟨rfl,by omega,rfl⟩,u7,u24,u25,by omega,Vk ++ [kv2],mk ++ mk2,mg',by simpa using hg'',hR',?_⟩
  refine e10.perm (Z0m fun x => ?_)
  simp only [Z0h,Z0e,Z0w]
  omega
 ·simp [hlt]
  refine AM.wp_exit ?_
  simp
  have hie:i = ts.length:=by omega
  subst hie
  have htl:Z41 cs.length ts ts.length = ts.map (Z5n cs.length):=by simp [Z41]
  rw [htl] at hR d
  have hVk':Vk.length = ts.length:=by
   have:=hR.len
   simpa using this
  have hVV:(Vg ++ Vk).length = (Z0j cs ++ ts.map (Z5n cs.length)).length:=by simp [hVg,hVk',Z13]
  have hbl:=Zbp cs ts
  have hNG:NodesG s' qn (bigG cs ts):=by
   refine ⟨d.oi 0 rfl,_,d.c 0 rfl,by rw [Z6a hVV]; simp [bigG],fun j nd hnd => ?_⟩
   have hj:j < cs.length + ts.length:=by have:=(List.getElem?_eq_some_iff.1 hnd).1; omega
   have hv:(Vg ++ Vk)[j]? = some ((Vg ++ Vk)[j]'(by simp; omega)):=List.getElem?_eq_getElem _
   obtain ⟨g1,g2⟩:=Z7c hnd hv
   refine ⟨g1,_,g2,?_⟩
   generalize (Vg ++ Vk)[j]'(by simp; omega) = kv at hv
   by_cases hjn:j < cs.length
   ·rw [Zew hjn] at hnd
    rw [List.getElem?_append_left (by omega)] at hv
    exact (hVk j nd kv hnd hv).keep d.Z0i
   ·obtain ⟨x,rfl⟩:∃ x,j = cs.length + x:=⟨j - cs.length,by omega⟩
    rw [Zex] at hnd
    rw [List.getElem?_append_right (by omega),hVg,Nat.add_sub_cancel_left] at hv
    obtain ⟨kv',r1,r2⟩:=hR.each (i:=x) (ks:=nd.2) (by rw [List.map_map,List.getElem?_map]; rw [← Option.map_map,hnd]; rfl)
    rw [hv] at r1
    cases r1
    rcases r2 with ⟨r3,r4⟩ | ⟨q',c',r3,r4,r5⟩
    ·exact .inl ⟨r4,r3⟩
    ·rw [r4]
     exact Z5u d.wf (Z14 (d.own (q',C (ints nd.2)) (by simp [r5]))) c'
  obtain ⟨hC,hks⟩:=Zt2 hO hT
  have hLi:Z0f s' lv (nats (bigL cs ts)):=(hg.row.kid fun y hy => d.own y (by simp [hy])).ints d.wf
  have hll:(Z1r cs cs.length).length ≤ cs.length:=Nat.le_trans (List.length_filter_le _ _) (by simp)
  have hbL:(bigL cs ts).length ≤ 1000:=by simp [bigL]; omega
  have hlt':=hg.ntup
  refine Z00 ?_
  simp [t5,t6]
  refine Z03 ?_
  refine Zkn hbl d.wf hNG (by omega) hLi hbL hC hks fun Bx s4 k4 hBx hox => ?_
  have hcl:=Zds hC
  simp only [Z24] at q
  generalize clsF (bigG cs ts) (bigL cs ts) = cls at hox hcl q
  have e1:=d.made k4 hBx (St.Z2w hox)
  rw [hbl] at hcl
  simp
  have hz3:ts.length ≤ Z0k:=by unfold Z0k; omega
  have hz4:ts.length * 8 ≤ Z0k:=by unfold Z0k; omega
  refine Z00 ?_
  simp [t3,e1.c 2 rfl,hNt,hN.len,hz3,hz4]
  have e2:=e1.alloc (C (List.replicate ts.length (.int .i64 0)))
  have hBo:¬ s.Old s4.next:=fun ho => Z0a s4 (e1.Z0i.old ho)
  generalize s4.alloc (.cells (List.replicate ts.length (.int .i64 0)) false) = s5 at e2 ⊢
  generalize s4.next = Bo at e2 hBo ⊢
  refine AM.wp_seq ?_
  refine Z00 ?_
  simp
  have e3:=e2.sub (m':=(Bo,C (List.replicate ts.length (.int .i64 0))) :: (Bx,C (ints cls)) :: []) (.cons_cons _ (.cons_cons _ (List.nil_sublist _)))
  have hz0:List.replicate ts.length (AVal.int .i64 0) = ints (((List.range ts.length).map fun i => Z4e (fun d => decide ((cls[cs.length + i]?).getD 0 = d)) (cls.take cs.length)).take 0 ++ List.replicate (ts.length - 0) 0):=by simp [ints]
  generalize hres:((List.range ts.length).map fun i => Z4e (fun d => decide ((cls[cs.length + i]?).getD 0 = d)) (cls.take cs.length)) = res at hz0 q
  have hresl:res.length = ts.length:=by rw [← hres]; simp
  rw [hz0] at e3
  refine AM.wp_block ?_
  refine AM.wp_loop (fun k t s' => ∃ i:Nat,i ≤ ts.length∧k = ts.length - i∧PT.get (posOf 7) t = some (.int .i64 cs.length)∧PT.get (posOf 13) t = some (.slice Bx 0 (cs.length + ts.length) (.lim (cs.length + ts.length)))∧PT.get (posOf 14) t = some (.slice Bo 0 ts.length (.lim ts.length)) ∧
    PT.get (posOf 69) t = some (.int .i64 ts.length)∧PT.get (posOf 70) t = some (.int .i64 i)∧Ctx s (fun _ => False) ((Bo,C (ints (res.take i ++ List.replicate (ts.length - i) 0))) :: (Bx,C (ints cls)) :: []) s') ts.length
   ⟨0,by simp,by simp,by simp [t7],by simp,by simp,by simp,by simp,e3⟩ ?_
  rintro k t s' ⟨i,hi,rfl,t7,t13,t14,t69,t70,d⟩
  refine Z00 ?_
  simp [t69,t70]
  refine AM.wp_seq ?_
  refine AM.Z04 ?_
  by_cases hlt:i < ts.length
  ·have hwr:IntKind.wrap .i64 ((i:Int) + 1) = ((i + 1:Nat):Int):=by rw [IntWalk.i64_in _ (by omega)]; omega
   have hwn:IntKind.wrap .i64 ((cs.length:Int) + i) = ((cs.length + i:Nat):Int):=by rw [IntWalk.i64_in _ (by omega)]; omega
   obtain ⟨cc,hcc⟩:∃ cc,cls[cs.length + i]? = some cc:=⟨_,List.getElem?_eq_getElem (by omega)⟩
   have hgc:(ints cls)[cs.length + i]? = some (.int .i64 cc):=by rw [List.getElem?_map,hcc]; rfl
   simp [hlt]
   refine AM.wp_skip ?_
   simp
   refine AM.wp_seq ?_
   refine AM.wp_block ?_
   refine Z00 ?_
   simp [t70]
   refine AM.wp_region ?_
   simp [t7,t13,t14]
   refine Znd (a:=0) (b:=cs.length) (off:=0) (n:=cs.length + ts.length) (c:=cs.length + ts.length) (p:=Bx) (by simp) rfl ⟨.i64,by simp⟩ (by omega) (by omega) ?_
   rw [if_neg (by omega),hwn]
   have hlt2:((cs.length + i:Nat):Int) < (cs.length:Int) + ts.length:=by omega
   have hlt3:(0:Int) ≤ ((cs.length + i:Nat):Int):=by omega
   simp only [Nat.zero_mul,Nat.add_zero,Nat.zero_add,Nat.sub_zero,Int.toNat_natCast,Nat.mul_one]
   refine ⟨hlt3,hlt2,?_⟩
   rw [d.c 1 rfl]
   simp only [Z10,hgc]
   have hIx:Z0f s' (.slice Bx 0 cs.length (.lim (cs.length + ts.length))) (cls.take cs.length):=by
    refine .inr ⟨Bx,0,.lim (cs.length + ts.length),ints cls,?_,d.oi 1 rfl,d.c 1 rfl,?_,fun j k hk => ?_⟩
    ·rw [List.length_take,hcl,Nat.min_eq_left (by omega)]
    ·simp
     omega
    ·rw [List.getElem?_take] at hk
     split at hk
     ·rw [Nat.zero_add,List.getElem?_map,hk]
      rfl
     ·cases hk
   refine Z03 ?_
   refine Zrf hIx (by rw [List.length_take]; omega) ?_
   have hri:res[i]? = some (Z4e (fun d => decide (cc = d)) (cls.take cs.length)):=by
    rw [← hres,List.getElem?_map,List.getElem?_range hlt]
    simp [hcc]
   generalize Z4e (fun d => decide (cc = d)) (cls.take cs.length) = vv at hri ⊢
   have hnx:(res.take i ++ List.replicate (ts.length - i) 0).set i vv = res.take (i + 1) ++ List.replicate (ts.length - (i + 1)) 0:=by
    have hln:(res.take i).length = i:=by rw [List.length_take]; omega
    rw [List.set_append_right _ _ (by omega),hln,Nat.sub_self]
    have e:ts.length - i = (ts.length - (i + 1)) + 1:=by omega
    rw [e,List.replicate_succ,List.set_cons_zero,List.take_add_one,hri]
    simp
   have hln:(res.take i ++ List.replicate (ts.length - i) 0).length = ts.length:=by
    rw [List.length_append,List.length_take,List.length_replicate]
    omega
   have hlay:lay (ints (res.take i ++ List.replicate (ts.length - i) 0)) i [.int .i64 vv] = ints (res.take (i + 1) ++ List.replicate (ts.length - (i + 1)) 0):=by
    have:=Z6e (res.take i ++ List.replicate (ts.length - i) 0) i vv (by omega)
    rw [hnx] at this
    exact this
   have hown:=d.o 0 rfl
   have dd:=d.put 0 rfl (C (ints (res.take (i + 1) ++ List.replicate (ts.length - (i + 1)) 0)))
   simp only [List.set_cons_zero] at dd
   have hlen:i + 1 ≤ (ints (res.take i ++ List.replicate (ts.length - i) 0)).length:=by rw [List.length_map]; omega
   generalize ints (res.take i ++ List.replicate (ts.length - i) 0) = mv at hlay hown hlen
   generalize hY:ints (res.take (i + 1) ++ List.replicate (ts.length - (i + 1)) 0) = Y at hlay dd
   simp [lay] at hlay
   simp [hlt,hown,hlen]
   rw [hlay]
   refine AM.wp_region ?_
   simp [t70,hwr]
   exact ⟨ts.length - (i + 1),by omega,i + 1,by omega,by omega,by simp [t7],by simp [t13],by simp [t14],by simp [t69],by simp,by rw [← hY] at dd ⊢; simpa [ints] using dd⟩
  ·simp [hlt]
   refine AM.wp_exit ?_
   simp
   have hie:i = ts.length:=by omega
   subst hie
   have hrt:res.take ts.length ++ List.replicate (ts.length - ts.length) 0 = res:=by
    rw [Nat.sub_self,← hresl,List.take_length]
    simp
   rw [hrt] at d
   refine Z00 ?_
   simp [t14]
   refine AM.wp_ret ?_
   simp
   exact q Bo s' d.Z0i hBo (d.o 0 rfl)
theorem Zfh {ns:List ND} {r:Nat} (hO:GrOk ns) (hr:r < ns.length):GrOk (Z1c ns r)∧1 ≤ (Z1c ns r).length∧(Z1c ns r).length ≤ ns.length:=by
 have hr':∀ a ∈ [r],a < ns.length:=by simpa using hr
 obtain ⟨hC,hnd,hlt,hroot⟩:=Zca hO hr'
 unfold Z1c
 generalize bfsF (kidG ns) ns.length [r] = L at hC hnd hlt hroot
 have hm:(outF (clsF ns L) ns L).length = Zj2 ns L:=Znk hC
 refine ⟨fun x hx => ?_,?_,?_⟩
 ·obtain ⟨a,nd,h1,h2,rfl⟩:=Ze8 hx
  refine ⟨by simpa [Z3y] using (hO nd (List.mem_of_getElem? h2)).1,fun k hk => ?_⟩
  obtain ⟨k',hk',rfl⟩:=List.mem_map.1 hk
  obtain ⟨_,hkin⟩:=hC.kids a h1 nd h2
  obtain ⟨c,e1,e2⟩:=Zf5 hC (hkin k' hk')
  rw [e1]
  simp only [Option.getD_some]
  omega
 ·rcases hroot r (by simp) with h
  obtain ⟨c,e1,e2⟩:=Zf5 hC h
  omega
 ·have:=Znj (clsF ns L) ns L
  have:=Z22 hnd hlt
  omega
theorem Ziu (cs:List CV) (ts:List ND):(Z24 cs ts).length = ts.length:=by simp [Z24]
def Z3e (L:List ND) (th:List Int) (cs:List CV):Nat→Option (List CV × List Int)
 | 0 => some (cs,th)
 | i + 1 => match Z3e L th cs i with
  | none => none
  | some x => if 0 ≤ (th[i]?).getD 0 then some x else if Z5j x.1 < 0 then none else some (x.1.set (Z5j x.1).toNat ⟨true,((L[i]?).getD ([],[])).1,[],0⟩,x.2.set i (Z5j x.1))
def Z1v (f:List Int) (ks:List Int):List Int:=ks.map fun k => (f[k.toNat]?).getD 0
def setK (cs:List CV) (a:Nat) (ks:List Int):List CV:=match cs[a]? with
 | some c => cs.set a { c with kids:=ks }
 | none => cs
def Z26 (L:List ND) (th f:List Int) (cs:List CV):Nat→List CV
 | 0 => cs
 | i + 1 => if 0 ≤ (th[i]?).getD 0 then Z26 L th f cs i else setK (Z26 L th f cs i) ((f[i]?).getD 0).toNat (Z1v f ((L[i]?).getD ([],[])).2)
theorem Zx1 (cs:List CV) (a:Nat) (ks:List Int):(setK cs a ks).length = cs.length:=by
 unfold setK; split <;> simp
theorem Z8l (L:List ND) (th f:List Int) (cs:List CV):∀ i,(Z26 L th f cs i).length = cs.length
 | 0 => rfl
 | i + 1 => by
  unfold Z26
  split
  ·exact Z8l L th f cs i
  ·rw [Zx1,Z8l L th f cs i]
theorem Zqm {L:List ND} {th:List Int} {cs:List CV} {i:Nat} (h:Z3e L th cs i = none):∀ j,i ≤ j→Z3e L th cs j = none:=by
 intro j hj
 induction j with
 | zero =>
  have:i = 0:=by omega
  subst this
  exact h
 | succ j ih =>
  by_cases e:i = j + 1
  ·subst e; exact h
  ·unfold Z3e
   rw [ih (by omega)]
noncomputable def putF (cs:List CV) (ns:List ND) (root:Int):Int × Int × List CV :=
 if Z1m ns root ≠ 0 then (0,Z1m ns root,cs) else
 if (0:Int) ≤ ((Z24 cs (Z1c ns root.toNat))[0]?).getD (0:Int) then (((Z24 cs (Z1c ns root.toNat))[0]?).getD (0:Int),(0:Int),cs) else
 match Z3e (Z1c ns root.toNat) (Z24 cs (Z1c ns root.toNat)) cs (Z1c ns root.toNat).length with
 | none => (0,12,cs)
 | some (c,f) => ((f[0]?).getD (0:Int),(0:Int),Z26 (Z1c ns root.toNat) (Z24 cs (Z1c ns root.toNat)) f c (Z1c ns root.toNat).length)
theorem Z9z (cs:List CV):Z5j cs = -1 ∨ ∃ (i:Nat) (c:CV),Z5j cs = i∧cs[i]? = some c∧c.taken = false:=by
 unfold Z5j
 split
 ·rename_i i h
  obtain ⟨h1,h2,_⟩:=List.findIdx?_eq_some_iff_getElem.1 h
  exact .inr ⟨i,cs[i],rfl,List.getElem?_eq_getElem h1,by simpa using h2⟩
 ·exact .inl rfl
structure AllI (L:List ND) (th:List Int) (cs c:List CV) (V:List AVal) (f:List Int) (i:Nat):Prop where
 len:c.length = cs.length
 flen:f.length = L.length
 cell:∀ j,j < i→(th[j]?).getD 0 < 0→∃ (a:Nat) (d:CV),f[j]? = some (a:Int)∧c[a]? = some d∧d.taken = true∧d.kids = []∧V[a]? = some .nilSlice
 inj:∀ j j',j < i→j' < i→(th[j]?).getD 0 < 0→(th[j']?).getD 0 < 0→f[j]? = f[j']?→j = j'
theorem AllI.zero {L:List ND} {th:List Int} {cs:List CV} {V:List AVal} (h:th.length = L.length):AllI L th cs cs V th 0 :=
 ⟨rfl,h,fun j hj => by omega,fun j j' hj => by omega⟩
theorem AllI.skip {L:List ND} {th f:List Int} {cs c:List CV} {V:List AVal} {i:Nat} (h:AllI L th cs c V f i) (hi:0 ≤ (th[i]?).getD 0):AllI L th cs c V f (i + 1):=by
 refine ⟨h.len,h.flen,fun j hj hn => ?_,fun j j' hj hj' hn hn' e => ?_⟩
 ·by_cases e:j = i
  ·subst e; omega
  ·exact h.cell j (by omega) hn
 ·by_cases e1:j = i
  ·subst e1; omega
  ·by_cases e2:j' = i
   ·subst e2; omega
   ·exact h.inj j j' (by omega) (by omega) hn hn' e
theorem AllI.next {L:List ND} {th f:List Int} {cs c:List CV} {V:List AVal} {i a:Nat} {nm:List UInt8} {d:CV} (h:AllI L th cs c V f i) (hV:V.length = cs.length) (hi:i < L.length) (ha:c[a]? = some d) (hf:d.taken = false) :
  AllI L th cs (c.set a ⟨true,nm,[],0⟩) (V.set a .nilSlice) (f.set i a) (i + 1):=by
 have hal:a < c.length:=(List.getElem?_eq_some_iff.1 ha).1
 have hne:∀ {b:Nat} {x:CV},c[b]? = some x→x.taken = true→a ≠ b:=by
  rintro b x hx ht rfl
  rw [ha] at hx
  cases hx
  rw [hf] at ht
  cases ht
 have hfi:i < f.length:=by rw [h.flen]; exact hi
 refine ⟨by rw [List.length_set]; exact h.len,by rw [List.length_set]; exact h.flen,fun j hj hn => ?_,fun j j' hj hj' hn hn' e => ?_⟩
 ·by_cases e:j = i
  ·subst e
   have hav:a < V.length:=by rw [hV,← h.len]; exact hal
   exact ⟨a,⟨true,nm,[],0⟩,by simp [hfi],by simp [hal],rfl,rfl,by simp [hav]⟩
  ·obtain ⟨b,x,h1,h2,h3,h4,h5⟩:=h.cell j (by omega) hn
   have:=hne h2 h3
   exact ⟨b,x,by rw [List.getElem?_set_ne (by omega)]; exact h1,by rw [List.getElem?_set_ne this]; exact h2,h3,h4,by rw [List.getElem?_set_ne this]; exact h5⟩
 ·by_cases e1:j = i
  ·by_cases e2:j' = i
   ·omega
   ·exfalso
    subst e1
    obtain ⟨b,x,h1,h2,h3,_⟩:=h.cell j' (by omega) hn'
    rw [List.getElem?_set_ne (show j ≠ j' by omega),h1] at e
    simp [hfi] at e
    exact hne h2 h3 (by omega)
  ·by_cases e2:j' = i
   ·exfalso
    subst e2
    obtain ⟨b,x,h1,h2,h3,_⟩:=h.cell j (by omega) hn
    rw [List.getElem?_set_ne (show j' ≠ j by omega),h1] at e
    simp [hfi] at e
    exact hne h2 h3 (by omega)
   ·rw [List.getElem?_set_ne (show i ≠ j by omega),List.getElem?_set_ne (show i ≠ j' by omega)] at e
    exact h.inj j j' (by omega) (by omega) hn hn' e
structure FilI (L:List ND) (th c0l:List Int) (c:List CV) (V:List AVal) (i:Nat):Prop where
 cell:∀ j,i ≤ j→j < L.length→(th[j]?).getD 0 < 0→∃ (a:Nat) (d:CV),c0l[j]? = some (a:Int)∧c[a]? = some d∧d.kids = []∧V[a]? = some .nilSlice
 inj:∀ j j',j < L.length→j' < L.length→(th[j]?).getD 0 < 0→(th[j']?).getD 0 < 0→c0l[j]? = c0l[j']?→j = j'
theorem AllI.fil {L:List ND} {th f:List Int} {cs c:List CV} {V:List AVal} (h:AllI L th cs c V f L.length):FilI L th f c V 0 :=
 ⟨fun j _ hj hn => by
  obtain ⟨a,d,h1,h2,_,h4,h5⟩:=h.cell j hj hn
  exact ⟨a,d,h1,h2,h4,h5⟩,h.inj⟩
theorem FilI.skip {L:List ND} {th f:List Int} {c:List CV} {V:List AVal} {i:Nat} (h:FilI L th f c V i):FilI L th f c V (i + 1) :=
 ⟨fun j hj => h.cell j (by omega),h.inj⟩
theorem FilI.next {L:List ND} {th f:List Int} {c:List CV} {V:List AVal} {i a:Nat} {d:CV} {kv:AVal} (h:FilI L th f c V i) (hi:i < L.length) (hn:(th[i]?).getD 0 < 0) (ha:f[i]? = some (a:Int)):FilI L th f (c.set a d) (V.set a kv) (i + 1):=by
 refine ⟨fun j hj hl hm => ?_,h.inj⟩
 obtain ⟨b,x,h1,h2,h3,h4⟩:=h.cell j (by omega) hl hm
 have:a ≠ b:=by
  rintro rfl
  have:=h.inj i j hi hl hn hm (by rw [ha,h1])
  omega
 exact ⟨b,x,h1,by rw [List.getElem?_set_ne this]; exact h2,h3,by rw [List.getElem?_set_ne this]; exact h4⟩
noncomputable abbrev lb (cs:List CV) (a:Nat):Lab:=lab (Z0j cs) a
theorem cls_not {nds:List ND} {L:List Nat} {a:Nat} (hC:Closed nds L) (ha:a < nds.length) (h:a ∉ L):(clsF nds L)[a]? = some (-1):=by
 obtain ⟨R,h1,_⟩:=Z9d hC
 rw [h1]
 exact Zfp nds L R a ha h
theorem Zqt {nds:List ND} {L:List Nat} {a b:Nat} (hC:Closed nds L) (ha:a ∈ L) (hb:b ∈ L):(clsF nds L)[a]? = (clsF nds L)[b]? ↔ lab nds a = lab nds b:=(Zdr hC ha hb).trans (Zki hC ha hb)
theorem Zk1 {cs:List CV} {a:Nat}:a ∈ Z1r cs cs.length ↔ Z08 cs (a:Int) = true:=by
 rw [Z5l]
 exact ⟨fun h => h.2,fun h => ⟨Z1g h,h⟩⟩
theorem Z60 {cs:List CV} {a:Nat} (ha:Z08 cs (a:Int) = true):∃ c,cs[a]? = some c∧c.taken = true∧(Z0j cs)[a]? = some (c.name,c.kids):=by
 obtain ⟨_,d,hd,ht,_⟩:=Z1z ha
 rw [Int.toNat_natCast] at hd
 refine ⟨d,hd,ht,?_⟩
 rw [Z2k hd,if_pos ht]
theorem Zfg {cs:List CV} (h:HOk cs) {a:Nat} {c:CV} {k:Int} (hc:cs[a]? = some c) (ht:c.taken = true) (hk:k ∈ c.kids):Z08 cs ((k.toNat:Nat):Int) = true∧0 ≤ k:=by
 have h1:=h.kids c (List.mem_of_getElem? hc) ht k hk
 have h0:=(Z1z h1).1
 rw [Int.toNat_of_nonneg h0]
 exact ⟨h1,h0⟩
theorem Zm7 {cs:List CV} (ts:List ND) (hO:HOk cs) {a:Nat} (ha:Z08 cs (a:Int) = true):lab (bigG cs ts) a = lb cs a:=by
 refine Zdd (R:=fun x y => x = y∧Z08 cs (x:Int) = true) ?_ ⟨rfl,ha⟩
 rintro x y ⟨rfl,hx⟩
 obtain ⟨c,h1,h2,h3⟩:=Z60 hx
 refine ⟨_,_,by rw [Zew (Z1g hx)]; exact h3,h3,rfl,rfl,fun j k m hk hm => ?_⟩
 rw [hk] at hm
 cases hm
 exact ⟨rfl,(Zfg hO h1 h2 (List.mem_of_getElem? hk)).1⟩
theorem Zm8 (cs:List CV) {ts:List ND} (hT:GrOk ts) {i:Nat} (hi:i < ts.length):lab (bigG cs ts) (cs.length + i) = lab ts i:=by
 refine Zdd (R:=fun x y => x = cs.length + y∧y < ts.length) ?_ ⟨rfl,hi⟩
 rintro x y ⟨rfl,hy⟩
 have hg:ts[y]? = some ts[y]:=List.getElem?_eq_getElem hy
 refine ⟨Z5n cs.length ts[y],ts[y],by rw [Zex,hg]; rfl,hg,rfl,by simp [Z5n],fun j k m hk hm => ?_⟩
 have hm2:(Z5n cs.length ts[y]).2[j]? = some ((cs.length:Int) + m):=by
  unfold Z5n
  simp only
  rw [List.getElem?_map,hm]
  rfl
 rw [hm2] at hk
 cases hk
 have:=(hT _ (List.getElem_mem hy)).2 m (List.mem_of_getElem? hm)
 omega
theorem Ziw {cs:List CV} {ts:List ND} (hO:HOk cs) (hT:GrOk ts) {i:Nat} (hi:i < ts.length):∃ v:Int,(Z24 cs ts)[i]? = some v ∧
  ((v = -1∧∀ j:Nat,Z08 cs (j:Int) = true→lb cs j ≠ lab ts i) ∨ ∃ j:Nat,v = j∧Z08 cs (j:Int) = true∧lb cs j = lab ts i∧∀ j',j' < j→Z08 cs (j':Int) = true→lb cs j' ≠ lab ts i):=by
 obtain ⟨hC,_⟩:=Zt2 hO hT
 have hmn:cs.length + i ∈ bigL cs ts:=Z9m.2 (.inr (by omega))
 have hc:=Zjt hC hmn
 have hcl:(clsF (bigG cs ts) (bigL cs ts)).length = cs.length + ts.length:=by rw [Zds hC,Zbp]
 have hmc:∀ j:Nat,Z08 cs (j:Int) = true→j ∈ bigL cs ts:=fun j hj => Z9m.2 (.inl ⟨Z1g hj,hj⟩)
 have hkey:∀ j:Nat,j < cs.length→((clsF (bigG cs ts) (bigL cs ts))[j]? = (clsF (bigG cs ts) (bigL cs ts))[cs.length + i]? ↔ Z08 cs (j:Int) = true∧lb cs j = lab ts i):=by
  intro j hj
  by_cases ht:Z08 cs (j:Int) = true
  ·rw [Zqt hC (hmc j ht) hmn,Zm7 ts hO ht,Zm8 cs hT hi]
   exact ⟨fun e => ⟨ht,e⟩,fun e => e.2⟩
  ·have hn:j ∉ bigL cs ts:=fun hm => by
    rcases Z9m.1 hm with ⟨_,h⟩ | ⟨h,_⟩
    ·exact ht h
    ·omega
   rw [cls_not hC (by rw [Zbp]; omega) hn,hc]
   constructor
   ·intro e
    injection e with e
    omega
   ·intro e
    exact (ht e.1).elim
 generalize hcls:clsF (bigG cs ts) (bigL cs ts) = cls at hc hcl hkey
 generalize hx:((idxB (lab (bigG cs ts) (cs.length + i)) (dd ((bigL cs ts).map (lab (bigG cs ts)))):Nat):Int) = x at hc
 have hv:(Z24 cs ts)[i]? = some (Z4e (fun d => decide (x = d)) (cls.take cs.length)):=by
  unfold Z24
  rw [List.getElem?_map,List.getElem?_range hi,hcls]
  simp only [Option.map_some]
  rw [hc]
  rfl
 refine ⟨_,hv,?_⟩
 have hat:∀ (j:Nat) (d:Int),(cls.take cs.length)[j]? = some d→j < cs.length∧cls[j]? = some d:=by
  intro j d h
  rw [List.getElem?_take] at h
  split at h
  ·exact ⟨by assumption,h⟩
  ·cases h
 by_cases hex:∃ j,j < cs.length∧cls[j]? = some x
 ·-- the least such place
  have hmin:∃ j,j < cs.length∧cls[j]? = some x∧∀ j',j' < j→cls[j']? ≠ some x:=by
   obtain ⟨j,h1,h2⟩:=hex
   revert h1 h2
   refine Nat.strongRecOn (motive:=fun j => j < cs.length→cls[j]? = some x→_) j fun n ih h1 h2 => ?_
   by_cases hl:∃ j',j' < n∧cls[j']? = some x
   ·obtain ⟨j',h3,h4⟩:=hl
    exact ih j' h3 (by omega) h4
   ·exact ⟨n,h1,h2,fun j' hj' e => hl ⟨j',hj',e⟩⟩
  obtain ⟨j,h1,h2,h3⟩:=hmin
  have e:Z4e (fun d => decide (x = d)) (cls.take cs.length) = j:=Zfe (i:=j) (k:=x) (fun j' d hj hd => by
   obtain ⟨_,h5⟩:=hat j' d hd
   simp only [decide_eq_false_iff_not]
   rintro rfl
   exact h3 j' hj h5) (by rw [List.getElem?_take,if_pos h1]; exact h2) (by simp)
  rw [e]
  obtain ⟨t1,t2⟩:=(hkey j h1).1 (h2.trans hc.symm)
  refine .inr ⟨j,rfl,t1,t2,fun j' hj' ht' e' => h3 j' hj' ?_⟩
  rw [(hkey j' (by omega)).2 ⟨ht',e'⟩,hc]
 ·have e:Z4e (fun d => decide (x = d)) (cls.take cs.length) = -1:=Zcw fun j d _ hd => by
   obtain ⟨h4,h5⟩:=hat j d hd
   simp only [decide_eq_false_iff_not]
   rintro rfl
   exact hex ⟨j,h4,h5⟩
  rw [e]
  refine .inl ⟨rfl,fun j hj e' => hex ⟨j,Z1g hj,?_⟩⟩
  rw [(hkey j (Z1g hj)).2 ⟨hj,e'⟩,hc]
theorem Zu8 {ns:List ND} (h:GrOk ns) {r:Nat} (hr:r < ns.length):lab (Z1c ns r) 0 = lab ns r:=by
 obtain ⟨hC,hnd,hlt,hroot⟩:=Zca h (roots:=[r]) (by simpa using hr)
 have hpre:∃ w,bfsF (kidG ns) ns.length [r] = r :: w:=by
  have h1:bfsF (kidG ns) ns.length [r] = runB (kidG ns) (ns.length + 1) [r] 0:=rfl
  obtain ⟨w,hw⟩:=Z7i (kidG ns) (ns.length + 1) [r] 0
  exact ⟨w,by rw [h1,hw]; rfl⟩
 have hL:Z1c ns r = canD (dd ((bfsF (kidG ns) ns.length [r]).map (lab ns))):=Zk5 hC
 generalize bfsF (kidG ns) ns.length [r] = L at hC hroot hpre hL
 rw [hL]
 obtain ⟨w,rfl⟩:=hpre
 have hD0:(dd ((r :: w).map (lab ns)))[0]? = some (lab ns r):=by
  have e:dd ((r :: w).map (lab ns)) = Z2v [lab ns r] (w.map (lab ns)):=by
   show Z2v (addB [] (lab ns r)) (w.map (lab ns)) = _
   congr 1
  obtain ⟨T,hT⟩:=Zc4 (w.map (lab ns)) [lab ns r]
  rw [e,hT]
  rfl
 generalize hD:dd ((r :: w).map (lab ns)) = D at hD0
 refine Zdd (R:=fun x y => D[x]? = some (lab ns y)∧y ∈ r :: w) ?_ ⟨hD0,by simp⟩
 rintro x y ⟨hx,hy⟩
 have hg:ns[y]? = some (ns[y]'(hC.lt y hy)):=List.getElem?_eq_getElem _
 refine ⟨canN D (lab ns y),_,by unfold canD; rw [List.getElem?_map,hx]; rfl,hg,by unfold canN; rw [Zcf hg],by unfold canN; rw [Z8n hg]; simp,fun j k m hk hm => ?_⟩
 have hmL:=(hC.kids y hy _ hg).2 m (List.mem_of_getElem? hm)
 unfold canN at hk
 simp only at hk
 rw [Z8n hg,List.map_map,List.getElem?_map,hm] at hk
 simp only [Option.map_some,Option.some.injEq,Function.comp] at hk
 rw [← hk,Int.toNat_natCast]
 refine ⟨Zmr ?_,hmL⟩
 rw [← hD]
 exact Zj3.2 (List.mem_map.2 ⟨m.toNat,hmL,rfl⟩)
theorem Zwb {nds nds':List ND} {a b:Nat} {x y:ND} (hx:nds[a]? = some x) (hy:nds'[b]? = some y) (h:lab nds a = lab nds' b) :
  x.1 = y.1∧x.2.length = y.2.length∧∀ (j:Nat) (k m:Int),x.2[j]? = some k→y.2[j]? = some m→lab nds k.toNat = lab nds' m.toNat:=by
 have h1:=Zcf hx
 have h2:=Z8n hx
 rw [h,Zcf hy] at h1
 rw [h,Z8n hy] at h2
 refine ⟨h1.symm,by simpa using (congrArg List.length h2).symm,fun j k m hk hm => ?_⟩
 have:=congrArg (fun l => l[j]?) h2
 simpa [hk,hm] using this.symm
def Zd5 (T:Int→Bool) (c:CV):Prop:=c = Z27 ∨ (c.taken = true∧c.kids.length ≤ 4∧(∀ k ∈ c.kids,T k = true)∧Z23 c.name = true∧0 ≤ c.held∧c.held ≤ 1000)
def HG (cs:List CV):Prop:=∀ c ∈ cs,Zd5 (Z08 cs) c
theorem HG.ok {cs:List CV} (h:HG cs):HOk2 cs:=by
 refine ⟨⟨fun c hc => ?_,fun c hc ht => ?_⟩,fun c hc ht => ?_⟩
 ·rcases h c hc with rfl | ⟨_,h4,_⟩
  ·simp [Z27]
  ·exact h4
 ·rcases h c hc with rfl | ⟨_,_,h4,_⟩
  ·simp [Z27]
  ·exact h4
 ·rcases h c hc with rfl | ⟨h4,_⟩
  ·rfl
  ·rw [h4] at ht
   cases ht
theorem Zd5.mono {T T':Int→Bool} {c:CV} (h:Zd5 T c) (hT:∀ k,T k = true→T' k = true):Zd5 T' c:=by
 rcases h with h | ⟨h1,h2,h3,h4⟩
 ·exact .inl h
 ·exact .inr ⟨h1,h2,fun k hk => hT k (h3 k hk),h4⟩
theorem HG.set {cs:List CV} {i:Nat} {d:CV} (h:HG cs) (hT:∀ k,Z08 cs k = true→Z08 (cs.set i d) k = true) (hd:Zd5 (Z08 (cs.set i d)) d):HG (cs.set i d):=by
 intro c hc
 rcases List.mem_or_eq_of_mem_set hc with hc | rfl
 ·exact (h c hc).mono hT
 ·exact hd
theorem Zct {cs:List CV} {i:Nat} {d:CV} (hi:i < cs.length) (k:Int):Z08 (cs.set i d) k = if k = (i:Int) then d.taken else Z08 cs k:=by
 unfold Z08
 by_cases h:k = (i:Int)
 ·subst h
  simp [hi]
 ·rw [if_neg h]
  by_cases h0:0 ≤ k
  ·have:i ≠ k.toNat:=by omega
   rw [List.getElem?_set_ne this]
  ·simp [h0]
theorem Zo3 {cs:List CV} {a:Nat} {d e:CV} (h:HG cs) (ha:cs[a]? = some d) (hd:d.taken = false) (he:e.taken = true) (hk:Zd5 (Z08 (cs.set a e)) e):HG (cs.set a e)∧(∀ k,Z08 cs k = true→Z08 (cs.set a e) k = true):=by
 have hal:a < cs.length:=(List.getElem?_eq_some_iff.1 ha).1
 have hT:∀ k,Z08 cs k = true→Z08 (cs.set a e) k = true:=fun k hk => by
  rw [Zct hal]
  split
  ·exact he
  ·exact hk
 exact ⟨h.set hT hk,hT⟩
theorem mkF_ok {cs:List CV} (h:HG cs) (nm:List UInt8) (ks:List Int):HG (mkF cs nm ks).2.2∧(mkF cs nm ks).2.2.length = cs.length:=by
 unfold mkF
 split
 ·exact ⟨h,rfl⟩
 ·rename_i h1
  split
  ·exact ⟨h,rfl⟩
  ·rename_i h2
   split
   ·exact ⟨h,rfl⟩
   ·rename_i h3
    split
    ·exact ⟨h,rfl⟩
    ·rename_i h4
     rcases Z9z cs with hf | ⟨a,d,hf,ha,hd⟩
     ·omega
     ·rw [hf]
      simp only [Int.toNat_natCast,List.length_set,and_true]
      have hal:a < cs.length:=(List.getElem?_eq_some_iff.1 ha).1
      refine (Zo3 (e:=⟨true,nm,ks,0⟩) h ha hd rfl (.inr ⟨rfl,by show ks.length ≤ 4; omega,fun k hk => ?_,by simpa using h1,Int.le_refl 0,by show (0:Int) ≤ 1000; decide⟩)).1
      rw [Zct hal]
      split
      ·rfl
      ·simp only [Bool.not_eq_false,List.all_eq_true] at h3
       exact h3 k hk
theorem Zjl {cs:List CV} {i:Nat} {c d:CV} (hc:cs[i]? = some c) (ht:d.taken = c.taken) (k:Int):Z08 (cs.set i d) k = Z08 cs k:=by
 have hi:i < cs.length:=(List.getElem?_eq_some_iff.1 hc).1
 rw [Zct hi]
 split
 ·rename_i h
  rw [h,Z1l hc,ht]
 ·rfl
theorem tieF_ok {cs:List CV} (h:HG cs) (i j k:Int):HG (tieF cs i j k).2∧(tieF cs i j k).2.length = cs.length:=by
 unfold tieF
 split
 ·rename_i h1
  obtain ⟨e1,e2,e3,e4⟩:=h1
  obtain ⟨_,d,hd,ht,_⟩:=Z1z e1
  rw [hd]
  simp only [List.length_set,and_true]
  have hT:=Zjl (cs:=cs) (d:={ d with kids:=d.kids.set j.toNat k }) hd rfl
  refine h.set (fun x hx => by rw [hT]; exact hx) ?_
  rcases h d (List.mem_of_getElem? hd) with h2 | ⟨g1,g2,g3,g4⟩
  ·rw [h2] at ht
   cases ht
  ·refine .inr ⟨g1,by simpa using g2,fun x hx => ?_,g4⟩
   rw [hT]
   rcases List.mem_or_eq_of_mem_set hx with hx | rfl
   ·exact g3 x hx
   ·exact e2
 ·exact ⟨h,rfl⟩
theorem setH_ok {cs:List CV} (h:HG cs) {i:Nat} {x:Int} (hx:0 ≤ x∧x ≤ 1000) (ht:Z08 cs (i:Int) = true):HG (setH cs i x):=by
 unfold setH
 split
 ·rename_i c hc
  have hT:=Zjl (cs:=cs) (d:={ c with held:=x }) hc rfl
  refine h.set (fun y hy => by rw [hT]; exact hy) ?_
  rw [Z1l hc] at ht
  rcases h c (List.mem_of_getElem? hc) with h2 | ⟨g1,g2,g3,g4,_⟩
  ·rw [h2] at ht
   cases ht
  ·exact .inr ⟨g1,g2,fun y hy => by rw [hT]; exact g3 y hy,g4,hx.1,hx.2⟩
 ·exact h
theorem Zw6 {cs:List CV} (h:HG cs) (i:Int):HG (Z7p cs i).2∧(Z7p cs i).2.length = cs.length:=by
 unfold Z7p
 split
 ·exact ⟨h,rfl⟩
 ·rename_i h1
  have h1:Z08 cs i = true:=by simpa using h1
  obtain ⟨h0,d,hd,ht,_⟩:=Z1z h1
  rw [hd]
  simp only
  split
  ·exact ⟨h,rfl⟩
  ·rename_i h2
   refine ⟨?_,Zo1 _ _ _⟩
   rcases h d (List.mem_of_getElem? hd) with h3 | ⟨g1,g2,g3,g4,g5,g6⟩
   ·rw [h3] at ht
    cases ht
   ·rw [IntWalk.i64_in _ (by omega)]
    exact setH_ok h (by omega) (by rw [Int.toNat_of_nonneg h0]; exact h1)
structure AllP (L:List ND) (th:List Int) (cs c:List CV) (f:List Int) (i:Nat):Prop where
 len:c.length = cs.length
 flen:f.length = L.length
 good:HG c
 keep:∀ a:Nat,Z08 cs (a:Int) = true→c[a]? = cs[a]?
 mono:∀ k,Z08 cs k = true→Z08 c k = true
 cell:∀ (j:Nat) (nd:ND),j < i→L[j]? = some nd→(th[j]?).getD 0 < 0→∃ a:Nat,f[j]? = some (a:Int)∧Z08 cs (a:Int) = false∧c[a]? = some ⟨true,nd.1,[],0⟩
 inj:∀ (j j':Nat),j < i→j' < i→(th[j]?).getD 0 < 0→(th[j']?).getD 0 < 0→f[j]? = f[j']?→j = j'
 rest:∀ j,(i ≤ j ∨ 0 ≤ (th[j]?).getD 0)→f[j]? = th[j]?
 only:∀ a:Nat,Z08 c (a:Int) = true→Z08 cs (a:Int) = true ∨ ∃ j,j < i∧(th[j]?).getD 0 < 0∧f[j]? = some (a:Int)
theorem Zhd {L:List ND} {th:List Int} {cs:List CV} (h:HG cs) (hth:th.length = L.length) (hnm:∀ nd ∈ L,Z23 nd.1 = true):∀ (i:Nat),i ≤ L.length→∀ c f,Z3e L th cs i = some (c,f)→AllP L th cs c f i
 | 0,_,c,f,e => by
  simp only [Z3e,Option.some.injEq,Prod.mk.injEq] at e
  obtain ⟨rfl,rfl⟩:=e
  exact ⟨rfl,hth,h,fun _ _ => rfl,fun _ h => h,fun j nd hj => by omega,fun j j' hj => by omega,fun _ _ => rfl,fun a ha => .inl ha⟩
 | i + 1,hi,c,f,e => by
  unfold Z3e at e
  cases hp:Z3e L th cs i with
  | none => rw [hp] at e; cases e
  | some x =>
   obtain ⟨c0,f0⟩:=x
   have H:=Zhd h hth hnm i (by omega) c0 f0 hp
   rw [hp] at e
   simp only at e
   by_cases ht:0 ≤ (th[i]?).getD 0
   ·rw [if_pos ht] at e
    cases e
    refine ⟨H.len,H.flen,H.good,H.keep,H.mono,fun j nd hj hnd hn => ?_,fun j j' hj hj' hn hn' e => ?_,fun j hj => ?_,fun a ha => ?_⟩
    ·by_cases e:j = i
     ·subst e; omega
     ·exact H.cell j nd (by omega) hnd hn
    ·by_cases e1:j = i
     ·subst e1; omega
     ·by_cases e2:j' = i
      ·subst e2; omega
      ·exact H.inj j j' (by omega) (by omega) hn hn' e
    ·refine H.rest j ?_
     rcases hj with hj | hj
     ·exact .inl (by omega)
     ·exact .inr hj
    ·rcases H.only a ha with h | ⟨j,h1,h2,h3⟩
     ·exact .inl h
     ·exact .inr ⟨j,by omega,h2,h3⟩
   ·rw [if_neg ht] at e
    rcases Z9z c0 with hf | ⟨a,d,hf,ha,hd⟩
    ·rw [hf] at e
     rw [if_pos (by omega)] at e
     cases e
    ·rw [hf,if_neg (by omega)] at e
     simp only [Option.some.injEq,Prod.mk.injEq,Int.toNat_natCast] at e
     obtain ⟨rfl,rfl⟩:=e
     have hil:i < L.length:=hi
     obtain ⟨nd0,hnd0⟩:∃ nd,L[i]? = some nd:=⟨_,List.getElem?_eq_getElem hil⟩
     rw [hnd0]
     simp only [Option.getD_some]
     have hal:a < c0.length:=(List.getElem?_eq_some_iff.1 ha).1
     have hfi:i < f0.length:=by rw [H.flen]; exact hil
     have hna:Z08 c0 (a:Int) = false:=by rw [Z1l ha]; exact hd
     have hncs:Z08 cs (a:Int) = false:=by
      cases hq:Z08 cs (a:Int) with
      | false => rfl
      | true => rw [H.mono _ hq] at hna; cases hna
     have hgn:=hnm nd0 (List.mem_of_getElem? hnd0)
     obtain ⟨hg1,hT⟩:=Zo3 (e:=⟨true,nd0.1,[],0⟩) H.good ha hd rfl (.inr ⟨rfl,Nat.zero_le 4,by simp,hgn,Int.le_refl 0,by show (0:Int) ≤ 1000; decide⟩)
     have hne:∀ {b:Nat} {nm:List UInt8},c0[b]? = some ⟨true,nm,[],0⟩→a ≠ b:=by
      rintro b nm hb rfl
      rw [ha] at hb
      cases hb
      cases hd
     have hnef:∀ (j:Nat),j < i→(th[j]?).getD 0 < 0→f0[j]? ≠ some (a:Int):=by
      intro j hj hn e
      obtain ⟨nd,hnd⟩:∃ nd,L[j]? = some nd:=⟨_,List.getElem?_eq_getElem (by omega)⟩
      obtain ⟨b,h1,_,h3⟩:=H.cell j nd hj hnd hn
      rw [h1] at e
      have:a = b:=by
       injection e with e
       omega
      exact hne h3 this
     refine ⟨by rw [List.length_set]; exact H.len,by rw [List.length_set]; exact H.flen,hg1,fun b hb => ?_,fun k hk => hT k (H.mono k hk),fun j nd hj hnd hn => ?_,fun j j' hj hj' hn hn' e => ?_,fun j hj => ?_,fun b hb => ?_⟩
     ·rw [List.getElem?_set_ne]
      ·exact H.keep b hb
      ·rintro rfl
       rw [hncs] at hb
       cases hb
     ·by_cases e:j = i
      ·subst e
       rw [hnd0] at hnd
       cases hnd
       exact ⟨a,by simp [hfi],hncs,by simp [hal]⟩
      ·obtain ⟨b,h1,h2,h3⟩:=H.cell j nd (by omega) hnd hn
       exact ⟨b,by rw [List.getElem?_set_ne (by omega)]; exact h1,h2,by rw [List.getElem?_set_ne (hne h3)]; exact h3⟩
     ·by_cases e1:j = i
      ·by_cases e2:j' = i
       ·omega
       ·exfalso
        subst e1
        rw [List.getElem?_set_ne (show j ≠ j' by omega)] at e
        simp only [List.getElem?_set_self hfi] at e
        exact hnef j' (by omega) hn' e.symm
      ·by_cases e2:j' = i
       ·exfalso
        subst e2
        rw [List.getElem?_set_ne (show j' ≠ j by omega)] at e
        simp only [List.getElem?_set_self hfi] at e
        exact hnef j (by omega) hn e
       ·rw [List.getElem?_set_ne (show i ≠ j by omega),List.getElem?_set_ne (show i ≠ j' by omega)] at e
        exact H.inj j j' (by omega) (by omega) hn hn' e
     ·by_cases e:j = i
      ·subst e
       rcases hj with hj | hj
       ·omega
       ·exact (ht hj).elim
      ·rw [List.getElem?_set_ne (by omega)]
       refine H.rest j ?_
       rcases hj with hj | hj
       ·exact .inl (by omega)
       ·exact .inr hj
     ·rw [Zct hal] at hb
      split at hb
      ·rename_i e
       have:b = a:=by omega
       subst this
       exact .inr ⟨i,by omega,by omega,by simp [hfi]⟩
      ·rcases H.only b hb with h | ⟨j,h1,h2,h3⟩
       ·exact .inl h
       ·exact .inr ⟨j,by omega,h2,by rw [List.getElem?_set_ne (by omega)]; exact h3⟩
theorem Zhm {L:List ND} {th f:List Int} {cs c:List CV} {l:Nat} (hl:L.length = l) (H:AllP L th cs c f l):∀ i,i ≤ l→∀ a:Nat,
  ((∀ j,j < l→(th[j]?).getD 0 < 0→f[j]? ≠ some (a:Int))→(Z26 L th f c i)[a]? = c[a]?) ∧
  ∀ (j:Nat) (nd:ND),L[j]? = some nd→(th[j]?).getD 0 < 0→f[j]? = some (a:Int)→(Z26 L th f c i)[a]? = some ⟨true,nd.1,if j < i then Z1v f nd.2 else [],0⟩
 | 0,_,a => by
  refine ⟨fun _ => rfl,fun j nd hnd hn hf => ?_⟩
  obtain ⟨b,h1,_,h3⟩:=H.cell j nd (by rw [← hl]; exact (List.getElem?_eq_some_iff.1 hnd).1) hnd hn
  rw [hf] at h1
  have:a = b:=by
   injection h1 with h1
   omega
  subst this
  rw [if_neg (by omega)]
  exact h3
 | i + 1,hi,a => by
  obtain ⟨g1,g2⟩:=Zhm hl H i (by omega) a
  have hil:i < L.length:=by omega
  obtain ⟨nd0,hnd0⟩:∃ nd,L[i]? = some nd:=⟨_,List.getElem?_eq_getElem hil⟩
  unfold Z26
  by_cases ht:0 ≤ (th[i]?).getD 0
  ·rw [if_pos ht]
   refine ⟨g1,fun j nd hnd hn hf => ?_⟩
   rw [g2 j nd hnd hn hf]
   have:j ≠ i:=by rintro rfl; omega
   by_cases e:j < i
   ·rw [if_pos e,if_pos (by omega)]
   ·rw [if_neg e,if_neg (by omega)]
  ·rw [if_neg ht]
   obtain ⟨b,h1,_,_⟩:=H.cell i nd0 (by omega) hnd0 (by omega)
   have h2b:=(Zhm hl H i (by omega) b).2 i nd0 hnd0 (by omega) h1
   rw [if_neg (by omega)] at h2b
   rw [h1,hnd0]
   simp only [Option.getD_some,Int.toNat_natCast]
   unfold setK
   rw [h2b]
   simp only
   have hbl:b < (Z26 L th f c i).length:=(List.getElem?_eq_some_iff.1 h2b).1
   refine ⟨fun hno => ?_,fun j nd hnd hn hf => ?_⟩
   ·rw [List.getElem?_set_ne]
    ·exact g1 hno
    ·rintro rfl
     exact hno i (by omega) (by omega) h1
   ·by_cases e:j = i
    ·subst e
     rw [hf] at h1
     have:a = b:=by
      injection h1 with h1
      omega
     subst this
     rw [hnd0] at hnd
     cases hnd
     rw [List.getElem?_set_self hbl,if_pos (by omega)]
    ·have hab:b ≠ a:=by
      rintro rfl
      exact e (H.inj j i (by rw [← hl]; exact (List.getElem?_eq_some_iff.1 hnd).1) (by omega) hn (by omega) (hf.trans h1.symm))
     rw [List.getElem?_set_ne hab,g2 j nd hnd hn hf]
     by_cases e2:j < i
     ·rw [if_pos e2,if_pos (by omega)]
     ·rw [if_neg e2,if_neg (by omega)]
structure Grown (cs c:List CV):Prop where
 good:HG c
 len:c.length = cs.length
 keep:∀ a:Nat,Z08 cs (a:Int) = true→c[a]? = cs[a]?
 new:∀ (a:Nat) (d:CV),Z08 cs (a:Int) = false→c[a]? = some d→d.held = 0
theorem HG.free0 {cs:List CV} (h:HG cs) {a:Nat} {d:CV} (hd:cs[a]? = some d) (ht:Z08 cs (a:Int) = false):d = Z27:=by
 rw [Z1l hd] at ht
 rcases h d (List.mem_of_getElem? hd) with e | ⟨e,_⟩
 ·exact e
 ·rw [ht] at e; cases e
theorem Grown.refl {cs:List CV} (h:HG cs):Grown cs cs:=⟨h,rfl,fun _ _ => rfl,fun a d ht hd => by rw [h.free0 hd ht]; rfl⟩
theorem Zmy {ns:List ND} (h:GrOk ns) {r:Nat} (hr:r < ns.length) {P:List UInt8→Prop} (hn:∀ nd ∈ ns,P nd.1):∀ nd ∈ Z1c ns r,P nd.1:=by
 intro nd hnd
 unfold Z1c at hnd
 obtain ⟨a,x,_,h2,rfl⟩:=Ze8 hnd
 exact hn x (List.mem_of_getElem? h2)
structure PutOk (cs:List CV) (L:List ND) (th f:List Int) (c:List CV):Prop extends Grown cs c where
 at':∀ j,j < L.length→∃ a:Nat,f[j]? = some (a:Int)∧Z08 c (a:Int) = true∧lb c a = lab L j
 only:∀ a:Nat,Z08 c (a:Int) = true→Z08 cs (a:Int) = true ∨ ∃ j,j < L.length∧(th[j]?).getD 0 < 0∧f[j]? = some (a:Int)
theorem fill_ok {cs c:List CV} {L:List ND} {f:List Int} (hG:HG cs) (hL:GrOk L) (hnm:∀ nd ∈ L,Z23 nd.1 = true) (H:AllP L (Z24 cs L) cs c f L.length):PutOk cs L (Z24 cs L) f (Z26 L (Z24 cs L) f c L.length):=by
 have hO:=hG.ok
 have hA:=fun i hi a => Zhm (c:=c) rfl H i hi a
 have hlen:(Z26 L (Z24 cs L) f c L.length).length = c.length:=Z8l _ _ _ _ _
 have hfr:∀ (a:Nat),((∀ j,j < L.length→((Z24 cs L)[j]?).getD 0 < 0→f[j]? ≠ some (a:Int))→(Z26 L (Z24 cs L) f c L.length)[a]? = c[a]?) ∧
   ∀ (j:Nat) (nd:ND),L[j]? = some nd→((Z24 cs L)[j]?).getD 0 < 0→f[j]? = some (a:Int)→(Z26 L (Z24 cs L) f c L.length)[a]? = some ⟨true,nd.1,Z1v f nd.2,0⟩:=fun a => by
  obtain ⟨g1,g2⟩:=hA L.length (Nat.le_refl _) a
  refine ⟨g1,fun j nd hnd hn hf => ?_⟩
  rw [g2 j nd hnd hn hf,if_pos (List.getElem?_eq_some_iff.1 hnd).1]
 generalize Z26 L (Z24 cs L) f c L.length = e at hfr hlen
 clear hA
 have hat:∀ j,j < L.length→(((Z24 cs L)[j]?).getD 0 < 0∧∃ a nd,f[j]? = some ((a:Nat):Int)∧Z08 cs (a:Int) = false∧L[j]? = some nd∧e[a]? = some ⟨true,nd.1,Z1v f nd.2,0⟩) ∨
   (0 ≤ ((Z24 cs L)[j]?).getD 0∧∃ a:Nat,f[j]? = some (a:Int)∧Z08 cs (a:Int) = true∧lb cs a = lab L j):=by
  intro j hj
  obtain ⟨v,hv,h⟩:=Ziw hO.toHOk hL hj
  rcases h with ⟨rfl,_⟩ | ⟨a,rfl,h1,h2,_⟩
  ·left
   have hn:((Z24 cs L)[j]?).getD 0 < 0:=by rw [hv]; decide
   obtain ⟨nd,hnd⟩:∃ nd,L[j]? = some nd:=⟨_,List.getElem?_eq_getElem hj⟩
   obtain ⟨a,g1,g2,_⟩:=H.cell j nd hj hnd hn
   exact ⟨hn,a,nd,g1,g2,hnd,(hfr a).2 j nd hnd hn g1⟩
  ·right
   have hn:0 ≤ ((Z24 cs L)[j]?).getD 0:=by rw [hv]; simp
   refine ⟨hn,a,?_,h1,h2⟩
   rw [H.rest j (.inr hn),hv]
 have hold:∀ a:Nat,Z08 cs (a:Int) = true→e[a]? = cs[a]?:=by
  intro a ha
  rw [(hfr a).1,H.keep a ha]
  intro j hj hn hf
  rcases hat j hj with ⟨_,b,nd,g1,g2,_⟩ | ⟨h0,_⟩
  ·rw [hf] at g1
   have:a = b:=by
    injection g1 with g1
    omega
   subst this
   rw [ha] at g2
   cases g2
  ·omega
 have htk:∀ j,j < L.length→∃ a:Nat,f[j]? = some (a:Int)∧Z08 e (a:Int) = true:=by
  intro j hj
  rcases hat j hj with ⟨_,a,nd,g1,_,_,g4⟩ | ⟨_,a,g1,g2,_⟩
  ·exact ⟨a,g1,by rw [Z1l g4]⟩
  ·obtain ⟨d,hd,ht,_⟩:=Z60 g2
   exact ⟨a,g1,by rw [Z1l ((hold a g2).trans hd)]; exact ht⟩
 have hmono:∀ k,Z08 cs k = true→Z08 e k = true:=by
  intro k hk
  have h0:=(Z1z hk).1
  obtain ⟨x,rfl⟩:∃ x:Nat,k = x:=⟨k.toNat,by omega⟩
  obtain ⟨d,hd,ht,_⟩:=Z60 hk
  rw [Z1l ((hold x hk).trans hd)]
  exact ht
 have hsame:∀ (a:Nat) (x:CV),c[a]? = some x→x.taken = false→e[a]? = c[a]?:=by
  intro a x hx ht
  refine (hfr a).1 fun j hj hn hf => ?_
  obtain ⟨nd,hnd⟩:∃ nd,L[j]? = some nd:=⟨_,List.getElem?_eq_getElem hj⟩
  obtain ⟨b,g1,_,g3⟩:=H.cell j nd hj hnd hn
  rw [hf] at g1
  have:a = b:=by
   injection g1 with g1
   omega
  subst this
  rw [hx] at g3
  cases g3
  cases ht
 have hgood:HG e:=by
  intro d hd
  obtain ⟨a,ha⟩:=List.getElem?_of_mem hd
  have hal:a < c.length:=by rw [← hlen]; exact (List.getElem?_eq_some_iff.1 ha).1
  have hca:c[a]? = some c[a]:=List.getElem?_eq_getElem hal
  cases ht:c[a].taken with
  | false =>
   rw [hsame a _ hca ht,hca] at ha
   cases ha
   rcases H.good _ (List.getElem_mem hal) with h | ⟨h,_⟩
   ·exact .inl h
   ·rw [ht] at h; cases h
  | true =>
   rcases H.only a (by rw [Z1l hca]; exact ht) with h | ⟨j,hj,hn,hf⟩
   ·rw [hold a h] at ha
    exact (hG d (List.mem_of_getElem? ha)).mono hmono
   ·obtain ⟨nd,hnd⟩:∃ nd,L[j]? = some nd:=⟨_,List.getElem?_eq_getElem hj⟩
    rw [(hfr a).2 j nd hnd hn hf] at ha
    cases ha
    obtain ⟨hk4,hkin⟩:=hL nd (List.mem_of_getElem? hnd)
    refine .inr ⟨rfl,by simpa [Z1v] using hk4,fun k hk => ?_,hnm nd (List.mem_of_getElem? hnd),Int.le_refl 0,by show (0:Int) ≤ 1000; decide⟩
    obtain ⟨m,hm,rfl⟩:=List.mem_map.1 hk
    have:=hkin m hm
    obtain ⟨b,g1,g2⟩:=htk m.toNat (by omega)
    rw [g1]
    exact g2
 have hGr:Grown cs e:=⟨hgood,hlen.trans H.len,hold,fun a d hna had => by
  have hal:a < c.length:=by rw [← hlen]; exact (List.getElem?_eq_some_iff.1 had).1
  have hca:c[a]? = some c[a]:=List.getElem?_eq_getElem hal
  cases ht:c[a].taken with
  | false =>
   rw [hsame a _ hca ht,hca] at had
   cases had
   rcases H.good _ (List.getElem_mem hal) with h | ⟨h,_⟩
   ·rw [h]; rfl
   ·rw [ht] at h; cases h
  | true =>
   rcases H.only a (by rw [Z1l hca]; exact ht) with h | ⟨j,hj,hn,hf⟩
   ·rw [hna] at h; cases h
   ·obtain ⟨nd,hnd⟩:∃ nd,L[j]? = some nd:=⟨_,List.getElem?_eq_getElem hj⟩
    rw [(hfr a).2 j nd hnd hn hf] at had
    cases had
    rfl⟩
 refine ⟨hGr,fun j hj => ?_,fun a ha => ?_⟩
 ·obtain ⟨a,g1,g2⟩:=htk j hj
  refine ⟨a,g1,g2,?_⟩
  refine Zdd (R:=fun x y => y < L.length∧(f[y]? = some (x:Int) ∨ (Z08 cs (x:Int) = true∧lb cs x = lab L y))) ?_ ⟨hj,.inl g1⟩
  rintro x y ⟨hy,hxy⟩
  have hg:L[y]? = some L[y]:=List.getElem?_eq_getElem hy
  have hkin:=(hL _ (List.getElem_mem hy)).2
  have hold':Z08 cs (x:Int) = true→lb cs x = lab L y→∃ u v,(Z0j e)[x]? = some u∧L[y]? = some v∧u.1 = v.1∧u.2.length = v.2.length ∧
    ∀ (j:Nat) (k m:Int),u.2[j]? = some k→v.2[j]? = some m→m.toNat < L.length∧(f[m.toNat]? = some ((k.toNat:Nat):Int) ∨ (Z08 cs ((k.toNat:Nat):Int) = true∧lb cs k.toNat = lab L m.toNat)):=by
   intro hx hl
   obtain ⟨d,h1,h2,h3⟩:=Z60 hx
   obtain ⟨e1,e2,e3⟩:=Zwb h3 hg hl
   refine ⟨_,_,by rw [Z2k ((hold x hx).trans h1),if_pos h2],hg,e1,e2,fun j k m hk hm => ⟨?_,.inr ⟨?_,e3 j k m hk hm⟩⟩⟩
   ·have:=hkin m (List.mem_of_getElem? hm)
    omega
   ·exact (Zfg hO.toHOk h1 h2 (List.mem_of_getElem? hk)).1
  rcases hxy with hf | ⟨hx,hl⟩
  ·rcases hat y hy with ⟨hn,b,nd,k1,k2,k3,k4⟩ | ⟨h0,b,k1,k2,k3⟩
   ·rw [hf] at k1
    have:x = b:=by
     injection k1 with k1
     omega
    subst this
    rw [hg] at k3
    cases k3
    refine ⟨(L[y].1,Z1v f L[y].2),L[y],by rw [Z2k k4,if_pos rfl],hg,rfl,by simp [Z1v],fun j k m hk hm => ?_⟩
    have hm':=hkin m (List.mem_of_getElem? hm)
    refine ⟨by omega,.inl ?_⟩
    obtain ⟨z,z1,z2⟩:=htk m.toNat (by omega)
    unfold Z1v at hk
    simp only at hk
    rw [List.getElem?_map,hm] at hk
    simp only [Option.map_some,Option.some.injEq] at hk
    rw [z1] at hk
    simp only [Option.getD_some] at hk
    rw [← hk,z1]
    simp
   ·rw [hf] at k1
    have:x = b:=by
     injection k1 with k1
     omega
    subst this
    exact hold' k2 k3
  ·exact hold' hx hl
 ·have hal:a < c.length:=by rw [← hlen]; exact Z1g ha
  have hca:c[a]? = some c[a]:=List.getElem?_eq_getElem hal
  cases ht:c[a].taken with
  | false =>
   obtain ⟨d,hd,hdt,_⟩:=Z60 ha
   rw [hsame a _ hca ht,hca] at hd
   cases hd
   rw [ht] at hdt
   cases hdt
  | true => exact H.only a (by rw [Z1l hca]; exact ht)
theorem Zr9 {cs:List CV} (h:Z5j cs < 0):∀ c ∈ cs,c.taken = true:=by
 intro c hc
 unfold Z5j at h
 split at h
 ·omega
 ·rename_i hn
  have:=List.findIdx?_eq_none_iff.1 hn c hc
  simpa using this
theorem Zv5 {cs:List CV} {a:Nat} {d e:CV} (ha:cs[a]? = some d) (hd:d.taken = false) (he:e.taken = true):Z1k (cs.set a e) = Z1k cs + 1:=by
 have hal:a < cs.length:=(List.getElem?_eq_some_iff.1 ha).1
 have h1:cs[a] = d:=(List.getElem?_eq_some_iff.1 ha).2
 unfold Z1k
 rw [List.countP_set hal,h1,hd,he]
 simp
theorem Zsf {cs:List CV} (h:∀ c ∈ cs,c.taken = true):Z1k cs = cs.length:=by
 unfold Z1k
 exact List.countP_eq_length.2 h
theorem Zdo {L:List ND} {th:List Int} {cs:List CV}:∀ (i:Nat) c f,Z3e L th cs i = some (c,f)→Z1k cs ≤ Z1k c∧Z1k c ≤ Z1k cs + i
 | 0,c,f,e => by
  simp only [Z3e,Option.some.injEq,Prod.mk.injEq] at e
  obtain ⟨rfl,rfl⟩:=e
  omega
 | i + 1,c,f,e => by
  unfold Z3e at e
  cases hp:Z3e L th cs i with
  | none => rw [hp] at e; cases e
  | some x =>
   obtain ⟨c0,f0⟩:=x
   obtain ⟨h1,h2⟩:=Zdo i c0 f0 hp
   rw [hp] at e
   simp only at e
   by_cases ht:0 ≤ (th[i]?).getD 0
   ·rw [if_pos ht] at e
    cases e
    omega
   ·rw [if_neg ht] at e
    rcases Z9z c0 with hf | ⟨a,d,hf,ha,hd⟩
    ·rw [hf] at e
     rw [if_pos (by omega)] at e
     cases e
    ·rw [hf,if_neg (by omega)] at e
     simp only [Option.some.injEq,Prod.mk.injEq,Int.toNat_natCast] at e
     obtain ⟨rfl,rfl⟩:=e
     rw [Zv5 (e:=⟨true,((L[i]?).getD ([],[])).1,[],0⟩) ha hd rfl]
     omega
theorem Zi9 {L:List ND} {th:List Int} {cs:List CV} (h:HG cs) (hth:th.length = L.length) (hnm:∀ nd ∈ L,Z23 nd.1 = true):∀ (i:Nat),i ≤ L.length→Z3e L th cs i = none→cs.length < Z1k cs + i
 | 0,_,e => by cases e
 | i + 1,hi,e => by
  unfold Z3e at e
  cases hp:Z3e L th cs i with
  | none =>
   have:=Zi9 h hth hnm i (by omega) hp
   omega
  | some x =>
   obtain ⟨c0,f0⟩:=x
   have H:=Zhd h hth hnm i (by omega) c0 f0 hp
   obtain ⟨h1,h2⟩:=Zdo i c0 f0 hp
   rw [hp] at e
   simp only at e
   by_cases ht:0 ≤ (th[i]?).getD 0
   ·rw [if_pos ht] at e
    cases e
   ·rw [if_neg ht] at e
    by_cases hf:Z5j c0 < 0
    ·have:=Zsf (Zr9 hf)
     have:=H.len
     omega
    ·rw [if_neg hf] at e
     cases e
theorem Zdw (L:List ND) (th f:List Int) (cs:List CV):∀ i,Z1k (Z26 L th f cs i) = Z1k cs
 | 0 => rfl
 | i + 1 => by
  unfold Z26
  split
  ·exact Zdw L th f cs i
  ·rw [← Zdw L th f cs i]
   unfold setK
   split
   ·rename_i c hc
    obtain ⟨hl,h1⟩:=List.getElem?_eq_some_iff.1 hc
    unfold Z1k
    rw [List.countP_set hl,h1]
    have:0 < List.countP (fun c => c.taken) (Z26 L th f cs i) ∨ c.taken = false:=by
     cases ht:c.taken with
     | false => exact .inr rfl
     | true => exact .inl (List.countP_pos_iff.2 ⟨c,List.mem_of_getElem? hc,ht⟩)
    rcases this with h | h
    ·cases ht:c.taken <;> simp <;> omega
    ·simp [h]
   ·rfl
inductive PutIs (cs:List CV) (ns:List ND) (r:Nat) (x:Int × Int × List CV):Prop where
 | full (h:x = (0,12,cs)) (hno:∀ j:Nat,Z08 cs (j:Int) = true→lb cs j ≠ lab ns r) (hs:cs.length < Z1k cs + (Z1c ns r).length)
 | there (a:Nat) (h:x = ((a:Int),0,cs)) (ht:Z08 cs (a:Int) = true) (hl:lb cs a = lab ns r) (hm:∀ j:Nat,j < a→Z08 cs (j:Int) = true→lb cs j ≠ lab ns r)
 | fresh (a:Nat) (f:List Int) (c:List CV) (h:x = ((a:Int),0,c)) (hp:PutOk cs (Z1c ns r) (Z24 cs (Z1c ns r)) f c) (hf:f[0]? = some (a:Int)) (ht:Z08 c (a:Int) = true) (hl:lb c a = lab ns r) (hno:∀ j:Nat,Z08 cs (j:Int) = true→lb cs j ≠ lab ns r)
   (hs:Z1k cs ≤ Z1k c∧Z1k c ≤ Z1k cs + (Z1c ns r).length)
theorem Zut {cs:List CV} {ns:List ND} {root:Int} (hG:HG cs) (hz:Z1m ns root = 0):PutIs cs ns root.toNat (putF cs ns root):=by
 obtain ⟨o1,o2,hGO,hnm,r0,r1⟩:=Zf3 hz
 have hr:root.toNat < ns.length:=by omega
 obtain ⟨hGL,hL1,hL2⟩:=Zfh (r:=root.toNat) hGO hr
 have hll:=Zu8 hGO hr
 have hnL:=Zmy (P:=fun x => Z23 x = true) hGO hr hnm
 have hfl:=Ziu cs (Z1c ns root.toNat)
 obtain ⟨v,hv,hvs⟩:=Ziw hG.ok.toHOk hGL (i:=0) (by omega)
 have hP:putF cs ns root = if 0 ≤ v then ((v,(0:Int),cs):Int × Int × List CV) else match Z3e (Z1c ns root.toNat) (Z24 cs (Z1c ns root.toNat)) cs (Z1c ns root.toNat).length with
  | none => ((0:Int),(12:Int),cs)
  | some (c,f) => ((f[0]?).getD (0:Int),(0:Int),Z26 (Z1c ns root.toNat) (Z24 cs (Z1c ns root.toNat)) f c (Z1c ns root.toNat).length):=by
  unfold putF
  rw [if_neg (by simpa using hz),hv]
  simp only [Option.getD_some] <;> rfl
 rw [hP]
 rw [hll] at hvs
 rcases hvs with ⟨rfl,hno⟩ | ⟨a,rfl,h1,h2,h3⟩
 ·rw [if_neg (by decide)]
  cases hal:Z3e (Z1c ns root.toNat) (Z24 cs (Z1c ns root.toNat)) cs (Z1c ns root.toNat).length with
  | none => exact .full rfl hno (Zi9 hG hfl hnL _ (Nat.le_refl _) hal)
  | some x =>
   obtain ⟨c,f⟩:=x
   have H:=Zhd hG hfl hnL _ (Nat.le_refl _) c f hal
   have hp:=fill_ok hG hGL hnL H
   obtain ⟨a,g1,g2,g3⟩:=hp.at' 0 (by omega)
   rw [hll] at g3
   refine .fresh a f _ ?_ hp g1 g2 g3 hno ?_
   ·simp only
    rw [g1]
    rfl
   ·rw [Zdw]
    exact Zdo _ c f hal
 ·rw [if_pos (by omega)]
  exact .there a rfl h1 h2 h3
theorem Zwt {cs:List CV} {ns:List ND} {root:Int} (hz:Z1m ns root ≠ 0):putF cs ns root = (0,Z1m ns root,cs):=by
 unfold putF
 rw [if_pos hz]
theorem putF_ok {cs:List CV} (hG:HG cs) (ns:List ND) (root:Int):Grown cs (putF cs ns root).2.2:=by
 by_cases hz:Z1m ns root = 0
 ·rcases Zut hG hz with ⟨h,_,_⟩ | ⟨a,h,_,_,_⟩ | ⟨a,f,c,h,hp,_,_,_,_,_⟩
  ·rw [h]; exact Grown.refl hG
  ·rw [h]; exact Grown.refl hG
  ·rw [h]; exact hp.toGrown
 ·rw [Zwt hz]
  exact Grown.refl hG
def Zcc (cs:List CV) (a:Nat):Int:=match cs[a]? with
 | some c => c.held
 | none => 0
theorem Zab {cs:List CV} {a:Nat} {c:CV} (h:cs[a]? = some c):Zcc cs a = c.held:=by unfold Zcc; rw [h]
theorem Zbx {cs:List CV} (hO:HOk2 cs):Closed (Z0j cs) (Z0o cs)∧(∀ a ∈ Z0o cs,Z08 cs (a:Int) = true)∧(∀ a ∈ Z0o cs,∀ k ∈ kidN cs a,k ∈ Z0o cs)∧∀ a:Nat,Z08 cs (a:Int) = true→0 < Zcc cs a→a ∈ Z0o cs:=by
 have hr:∀ r ∈ (Z0p cs cs.length).map Int.toNat,Z08 cs (r:Int) = true:=by
  intro r hr
  obtain ⟨k,hk,rfl⟩:=List.mem_map.1 hr
  obtain ⟨h0,_,h2⟩:=Z4o hk
  rwa [Int.toNat_of_nonneg h0]
 obtain ⟨h1,_,h3,h4⟩:=Z8v hO hr
 refine ⟨h1,h3,fun a ha k hk => ?_,fun a ha hh => h4 a ?_⟩
 ·obtain ⟨d,hd,ht,hg⟩:=Z60 (h3 a ha)
  unfold kidN at hk
  rw [Z1a hd] at hk
  obtain ⟨x,hx,rfl⟩:=List.mem_map.1 hk
  exact (h1.kids a ha _ hg).2 x hx
 ·refine List.mem_map.2 ⟨(a:Int),?_,by simp⟩
  unfold Z0p
  refine List.mem_map.2 ⟨a,List.mem_filter.2 ⟨Zk1.2 ha,?_⟩,rfl⟩
  obtain ⟨d,hd,_⟩:=Z60 ha
  rw [Zab hd] at hh
  rw [hd]
  simpa using hh
theorem Zmq {cs:List CV} (h:HOk cs):GrOk (Z0j cs):=by
 intro nd hnd
 obtain ⟨a,ha⟩:=List.getElem?_of_mem hnd
 exact h.Zdy a nd ha
theorem Zri {cs:List CV} (h:HOk2 cs) {i:Nat} (hi:Z08 cs (i:Int) = true):Z1w cs i = Z1c (Z0j cs) i :=
 Zlu h (Zmq h.toHOk) hi (by rw [Z13]; exact Z1g hi) rfl
theorem Z94 {cs:List CV} (h:HG cs) (hl:cs.length ≤ 60) {i:Nat} (hi:Z08 cs (i:Int) = true):GrOk (Z1w cs i)∧1 ≤ (Z1w cs i).length∧(Z1w cs i).length ≤ 60∧∀ nd ∈ Z1w cs i,Z23 nd.1 = true:=by
 have hO:=h.ok
 have hlt:=Z1g hi
 obtain ⟨h1,h2,h3⟩:=Zfh (Zmq hO.toHOk) (r:=i) (by rw [Z13]; exact hlt)
 rw [← Zri hO hi] at h1 h2 h3
 rw [Z13] at h3
 refine ⟨h1,h2,by omega,fun nd hnd => ?_⟩
 unfold Z1w at hnd
 obtain ⟨a,x,ha,hx,rfl⟩:=Ze8 hnd
 obtain ⟨_,_,h6,_⟩:=Z8v hO (roots:=[i]) (by simpa using hi)
 obtain ⟨d,hd,ht,hg⟩:=Z60 (h6 a ha)
 rw [hg] at hx
 cases hx
 rcases h d (List.mem_of_getElem? hd) with e | ⟨_,_,_,e,_⟩
 ·rw [e] at ht; cases ht
 ·exact e
theorem Zpt {cs:List CV} (h:HG cs) (hl:cs.length ≤ 60) {i:Nat} (hi:Z08 cs (i:Int) = true):getF cs (i:Int) = (0,Z1w cs i):=by
 obtain ⟨_,_,h3,_⟩:=Z94 h hl hi
 unfold getF
 rw [if_neg (by rw [hi]; decide),if_neg (by rw [Int.toNat_natCast]; omega),Int.toNat_natCast]
section
variable {K K':Nat→List Nat} {v:List Nat} {n:Nat}
theorem Zej {x:Nat} {l w:List Nat} {y:Nat} (h:l ++ w = v.take y) (hx:l.length = x):l = v.take x∧x ≤ y:=by
 have hlen:=congrArg List.length h
 rw [List.length_append,List.length_take] at hlen
 have h1:=congrArg (List.take x) h
 rw [List.take_left' hx,List.take_take] at h1
 have:min x y = x:=by omega
 rw [this] at h1
 exact ⟨h1,by omega⟩
theorem Zmu (hn:v.Nodup) {x a:Nat} (ha:a ∈ v):a ∈ v.take x ↔ v.idxOf a < x:=by
 have h1:=List.idxOf_lt_length_of_mem ha
 constructor
 ·intro h
  obtain ⟨j,hj,e⟩:=List.mem_iff_getElem.1 h
  rw [List.length_take] at hj
  rw [List.getElem_take] at e
  have:v.idxOf a = j:=by rw [← e]; exact List.Nodup.idxOf_getElem hn j (by omega)
  omega
 ·intro h
  rw [List.mem_iff_getElem]
  exact ⟨v.idxOf a,by rw [List.length_take]; omega,by rw [List.getElem_take]; exact List.getElem_idxOf h1⟩
theorem addR (hn:v.Nodup) {y:Nat} (hy:y ≤ v.length):∀ (ks:List Nat) (x:Nat),x ≤ v.length→(∀ k ∈ ks,k ∈ v)→Z0c (v.take x) ks = v.take y→Z0c (List.range x) (ks.map v.idxOf) = List.range y
 | [],x,hx,_,h => by
  have hlen:=congrArg List.length h
  simp [Z0c] at hlen
  have:x = y:=by omega
  subst this
  rfl
 | k :: ks,x,hx,hk,h => by
  have hkv:=hk k (by simp)
  have hi:=Zmu hn (x:=x) hkv
  show Z0c (addN (List.range x) (v.idxOf k)) (ks.map v.idxOf) = _
  have h:Z0c (addN (v.take x) k) ks = v.take y:=h
  by_cases hm:k ∈ v.take x
  ·have e1:addN (v.take x) k = v.take x:=by unfold addN; rw [if_pos hm]
   have e2:addN (List.range x) (v.idxOf k) = List.range x:=by unfold addN; rw [if_pos (List.mem_range.2 (hi.1 hm))]
   rw [e1] at h
   rw [e2]
   exact addR hn hy ks x hx (fun z hz => hk z (by simp [hz])) h
  ·have e1:addN (v.take x) k = v.take x ++ [k]:=by unfold addN; rw [if_neg hm]
   rw [e1] at h
   obtain ⟨w,hw⟩:=Z5d ks (v.take x ++ [k])
   obtain ⟨h2,h3⟩:=Zej (x:=x + 1) (hw.symm.trans h) (by rw [List.length_append,List.length_take,List.length_singleton]; omega)
   have hxl:x < v.length:=by omega
   have hkx:v.idxOf k = x:=by
    have h4:(v.take x ++ [k])[x]? = some k:=by
     rw [List.getElem?_append_right (by rw [List.length_take]; omega),List.length_take]
     simp [Nat.min_eq_left hx]
    rw [h2,List.getElem?_take,if_pos (by omega)] at h4
    obtain ⟨h5,h6⟩:=List.getElem?_eq_some_iff.1 h4
    rw [← h6]
    exact List.Nodup.idxOf_getElem hn x h5
   have e2:addN (List.range x) (v.idxOf k) = List.range (x + 1):=by
    unfold addN
    rw [if_neg (fun h => hm (hi.2 (List.mem_range.1 h))),hkx,List.range_succ]
   rw [h2] at h
   rw [e2]
   exact addR hn hy ks (x + 1) (by omega) (fun z hz => hk z (by simp [hz])) h
theorem runR (hn:v.Nodup) (hK:∀ a ∈ v,∀ k ∈ K a,k ∈ v) (hK':∀ j a,v[j]? = some a→K' j = (K a).map v.idxOf) {y:Nat} (hy:y ≤ v.length):∀ (c x i:Nat),x ≤ v.length→runB K c (v.take x) i = v.take y→runB K' c (List.range x) i = List.range y
 | 0,x,i,hx,h => by
  have hlen:=congrArg List.length h
  simp [runB] at hlen
  have:x = y:=by omega
  subst this
  rfl
 | c + 1,x,i,hx,h => by
  unfold runB at h ⊢
  by_cases hi:i < x
  ·have h1:(v.take x)[i]? = some (v[i]'(by omega)):=by rw [List.getElem?_take,if_pos hi,List.getElem?_eq_getElem (by omega)]
   have h2:(List.range x)[i]? = some i:=List.getElem?_range hi
   rw [h1] at h
   rw [h2]
   simp only at h ⊢
   have hvi:v[i]? = some (v[i]'(by omega)):=List.getElem?_eq_getElem _
   generalize v[i]'(by omega) = a at h hvi
   have ha:=List.mem_of_getElem? hvi
   obtain ⟨w,hw⟩:=Z7i K c (Z0c (v.take x) (K a)) (i + 1)
   obtain ⟨h3,h4⟩:=Zej (x:=(Z0c (v.take x) (K a)).length) (hw.symm.trans h) rfl
   have:=addR hn (y:=(Z0c (v.take x) (K a)).length) (by omega) (K a) x hx (hK a ha) h3
   rw [hK' i a hvi,this]
   rw [h3] at h
   exact runR hn hK hK' hy c _ (i + 1) (by omega) h
  ·have h1:(v.take x)[i]? = none:=by rw [List.getElem?_take,if_neg hi]
   have h2:(List.range x)[i]? = none:=List.getElem?_eq_none (by rw [List.length_range]; omega)
   rw [h1] at h
   rw [h2]
   simp only at h ⊢
   have hlen:=congrArg List.length h
   simp at hlen
   have:x = y:=by omega
   subst this
   rfl
def Shut (K:Nat→List Nat) (v:List Nat) (t:Nat):Prop:=∀ a ∈ v.take t,∀ k ∈ K a,k ∈ v.take t
theorem Zi0 (hn:v.Nodup) (hlt:∀ a ∈ v,a < n) (hKn:∀ a,a < n→∀ k ∈ K a,k < n):∀ (rs:List Nat) (t0:Nat),t0 ≤ v.length→Shut K v t0→(∀ r ∈ rs,r < n)→rs.foldl (fun v r => runB K (n + 1 - v.length) (addN v r) v.length) (v.take t0) = v →
  ∀ t,t0 ≤ t→t < v.length→Shut K v t→(∃ a,v[t]? = some a∧a ∈ rs)∧∃ t2,t < t2∧t2 ≤ v.length∧Shut K v t2∧runB K (n + 1 - t) (v.take (t + 1)) t = v.take t2
 | [],t0,h0,hs0,_,hf,t,h1,h2,hs => by
  have hf:v.take t0 = v:=hf
  have:=congrArg List.length hf
  rw [List.length_take] at this
  omega
 | r :: rs,t0,h0,hs0,hrn,hf,t,h1,h2,hs => by
  have hf:rs.foldl (fun v r => runB K (n + 1 - v.length) (addN v r) v.length) (runB K (n + 1 - (v.take t0).length) (addN (v.take t0) r) (v.take t0).length) = v:=hf
  have hl0:(v.take t0).length = t0:=by rw [List.length_take]; omega
  rw [hl0] at hf
  by_cases hm:r ∈ v.take t0
  ·have e1:addN (v.take t0) r = v.take t0:=by unfold addN; rw [if_pos hm]
   rw [e1,Zcq (by omega)] at hf
   obtain ⟨⟨a,g1,g2⟩,g3⟩:=Zi0 hn hlt hKn rs t0 h0 hs0 (fun x hx => hrn x (by simp [hx])) hf t h1 h2 hs
   exact ⟨⟨a,g1,by simp [g2]⟩,g3⟩
  ·have e1:addN (v.take t0) r = v.take t0 ++ [r]:=by unfold addN; rw [if_neg hm]
   rw [e1] at hf
   have hpre:∀ (rs w:List Nat),∃ z,rs.foldl (fun v r => runB K (n + 1 - v.length) (addN v r) v.length) w = w ++ z:=by
    intro rs
    induction rs with
    | nil => exact fun w => ⟨[],by simp⟩
    | cons r rs ih =>
     intro w
     obtain ⟨z1,hz1⟩:=Zdn w r
     obtain ⟨z2,hz2⟩:=Z7i K (n + 1 - w.length) (addN w r) w.length
     obtain ⟨z3,hz3⟩:=ih (runB K (n + 1 - w.length) (addN w r) w.length)
     exact ⟨z1 ++ z2 ++ z3,by rw [List.foldl_cons,hz3,hz2,hz1]; simp⟩
   obtain ⟨z,hz⟩:=hpre rs (runB K (n + 1 - t0) (v.take t0 ++ [r]) t0)
   rw [hf] at hz
   obtain ⟨h3,h4⟩:=Zej (v:=v) (x:=(runB K (n + 1 - t0) (v.take t0 ++ [r]) t0).length) (y:=v.length) (l:=runB K (n + 1 - t0) (v.take t0 ++ [r]) t0) (w:=z) (by rw [← hz,List.take_length]) rfl
   generalize ht1:(runB K (n + 1 - t0) (v.take t0 ++ [r]) t0).length = t1 at h3 h4
   obtain ⟨z',hz'⟩:=Z7i K (n + 1 - t0) (v.take t0 ++ [r]) t0
   obtain ⟨h5,h6⟩:=Zej (x:=t0 + 1) (hz'.symm.trans h3) (by rw [List.length_append,hl0]; rfl)
   have hr0:v[t0]? = some r:=by
    have:(v.take t0 ++ [r])[t0]? = some r:=by
     rw [List.getElem?_append_right (by omega),hl0]
     simp
    rw [h5,List.getElem?_take,if_pos (by omega)] at this
    exact this
   have hsub:∀ a ∈ v.take (t0 + 1),a < n:=fun a ha => hlt a (List.mem_of_mem_take ha)
   have hs1:Shut K v t1:=by
    unfold Shut
    rw [← h3]
    refine Zd3 hKn (n + 1 - t0) (v.take t0 ++ [r]) t0 ?_ ?_ (by
     have:=Z22 hn hlt
     omega) ?_
    ·rw [h5]
     exact List.Nodup.sublist (List.take_sublist _ _) hn
    ·rw [h5]
     exact hsub
    ·intro j a hj ha k hk
     rw [List.getElem?_append_left (by omega)] at ha
     exact List.mem_append_left _ (hs0 a (List.mem_of_getElem? ha) k hk)
   rw [h5] at h3
   by_cases htt:t < t1
   ·have:t = t0:=by
     rcases Nat.lt_or_ge t0 t with hlt' | hge
     ·exfalso
      have hall:∀ a ∈ runB K (n + 1 - t0) (v.take (t0 + 1)) t0,a ∈ v.take t:=Zi1 (P:=fun a => a ∈ v.take t) (fun a ha k hk => hs a ha k hk) _ _ _ (fun a ha => by
       obtain ⟨j,hj,e⟩:=List.mem_iff_getElem.1 ha
       rw [List.length_take] at hj
       rw [List.getElem_take] at e
       rw [List.mem_iff_getElem]
       exact ⟨j,by rw [List.length_take]; omega,by rw [List.getElem_take]; exact e⟩)
      rw [h3] at hall
      have hvt:v[t]'h2 ∈ v.take t1:=by
       rw [List.mem_iff_getElem]
       exact ⟨t,by rw [List.length_take]; omega,by rw [List.getElem_take]⟩
      have:=(Zmu hn (List.getElem_mem h2)).1 (hall _ hvt)
      rw [List.Nodup.idxOf_getElem hn t h2] at this
      omega
     ·omega
    subst this
    exact ⟨⟨r,hr0,by simp⟩,t1,htt,h4,hs1,h3⟩
   ·have hft:rs.foldl (fun v r => runB K (n + 1 - v.length) (addN v r) v.length) (v.take t1) = v:=by rw [← h3,← h5]; exact hf
    obtain ⟨⟨a,g1,g2⟩,g3⟩:=Zi0 hn hlt hKn rs t1 h4 hs1 (fun x hx => hrn x (by simp [hx])) hft t (by omega) h2 hs
    exact ⟨⟨a,g1,by simp [g2]⟩,g3⟩
theorem Zt1 {roots S:List Nat} (hKn:∀ a,a < n→∀ k ∈ K a,k < n) (hr:∀ r ∈ roots,r < n) (hv:bfsF K n roots = v) (hK':∀ j a,v[j]? = some a→K' j = (K a).map v.idxOf) (hS:S.Pairwise (· < ·)) (hSm:∀ j,j ∈ S ↔ ∃ r ∈ roots,v.idxOf r = j):bfsF K' n S = List.range v.length:=by
 obtain ⟨b1,b2,b3,b4,_⟩:=Zbo hKn roots hr
 rw [hv] at b1 b2 b3 b4
 have hf0:roots.foldl (fun v r => runB K (n + 1 - v.length) (addN v r) v.length) (v.take 0) = v:=by rw [List.take_zero]; exact hv
 have hat:=fun t => Zi0 b1 b2 hKn roots 0 (Nat.zero_le _) (fun a ha => by simp at ha) hr hf0 t (Nat.zero_le _)
 have key:∀ (S:List Nat) (t:Nat),t ≤ v.length→Shut K v t→S.Pairwise (· < ·)→(∀ j ∈ S,∃ r ∈ roots,v.idxOf r = j)→(∀ r ∈ roots,v.idxOf r < t ∨ v.idxOf r ∈ S)→S.foldl (fun v r => runB K' (n + 1 - v.length) (addN v r) v.length) (List.range t) = List.range v.length:=by
  intro S
  induction S with
  | nil =>
   intro t ht hs _ _ h2
   have:t = v.length:=by
    rcases Nat.lt_or_ge t v.length with h | h
    ·obtain ⟨⟨a,g1,g2⟩,_⟩:=hat t h hs
     rcases h2 a g2 with h3 | h3
     ·obtain ⟨h4,h5⟩:=List.getElem?_eq_some_iff.1 g1
      rw [← h5,List.Nodup.idxOf_getElem b1 t h4] at h3
      omega
     ·cases h3
    ·omega
   subst this
   rfl
  | cons r S ih =>
   intro t ht hs hp h1 h2
   rw [List.pairwise_cons] at hp
   rw [List.foldl_cons,List.length_range]
   by_cases hrt:r < t
   ·have e1:addN (List.range t) r = List.range t:=by unfold addN; rw [if_pos (List.mem_range.2 hrt)]
    rw [e1,Zcq (by rw [List.length_range]; omega)]
    refine ih t ht hs hp.2 (fun j hj => h1 j (by simp [hj])) fun x hx => ?_
    rcases h2 x hx with h3 | h3
    ·exact .inl h3
    ·rcases List.mem_cons.1 h3 with h3 | h3
     ·left; omega
     ·exact .inr h3
   ·obtain ⟨x,hx,hxr⟩:=h1 r (by simp)
    have hrl:r < v.length:=by rw [← hxr]; exact List.idxOf_lt_length_of_mem (b4 x hx)
    obtain ⟨⟨a,g1,g2⟩,t2,g3,g4,g5,g6⟩:=hat t (by omega) hs
    have hrt2:r = t:=by
     obtain ⟨h4,h5⟩:=List.getElem?_eq_some_iff.1 g1
     have h6:v.idxOf a = t:=by rw [← h5]; exact List.Nodup.idxOf_getElem b1 t h4
     rcases h2 a g2 with h3 | h3
     ·omega
     ·rw [h6] at h3
      rcases List.mem_cons.1 h3 with h3 | h3
      ·exact h3.symm
      ·have:=hp.1 t h3
       omega
    subst hrt2
    have e1:addN (List.range r) r = List.range (r + 1):=by
     unfold addN
     rw [if_neg (by simp),List.range_succ]
    rw [e1,runR b1 b3 hK' g4 (n + 1 - r) (r + 1) r (by omega) g6]
    refine ih t2 g4 g5 hp.2 (fun j hj => h1 j (by simp [hj])) fun x hx => ?_
    rcases h2 x hx with h3 | h3
    ·left; omega
    ·rcases List.mem_cons.1 h3 with h3 | h3
     ·left; omega
     ·exact .inr h3
 exact key S 0 (Nat.zero_le _) (fun a ha => by simp at ha) hS (fun j hj => (hSm j).1 hj) fun r hr => .inr ((hSm _).2 ⟨r,hr,rfl⟩)
end
theorem Zhn {cs:List CV} {k:Int}:k ∈ Z0p cs cs.length ↔ 0 ≤ k∧Z08 cs k = true∧0 < Zcc cs k.toNat:=by
 unfold Z0p
 rw [List.mem_map]
 constructor
 ·rintro ⟨j,hj,rfl⟩
  obtain ⟨h1,h2⟩:=List.mem_filter.1 hj
  have h3:=Zk1.1 h1
  obtain ⟨d,hd,_⟩:=Z60 h3
  rw [hd] at h2
  rw [Int.toNat_natCast,Zab hd]
  exact ⟨by omega,h3,by simpa using h2⟩
 ·rintro ⟨h0,h1,h2⟩
  obtain ⟨j,rfl⟩:∃ j:Nat,k = j:=⟨k.toNat,by omega⟩
  rw [Int.toNat_natCast] at h2
  obtain ⟨d,hd,_⟩:=Z60 h1
  rw [Zab hd] at h2
  refine ⟨j,List.mem_filter.2 ⟨Zk1.2 h1,?_⟩,rfl⟩
  rw [hd]
  simpa using h2
theorem Zgy (cs:List CV):((Z0p cs cs.length).map Int.toNat).Pairwise (· < ·):=by
 unfold Z0p
 rw [List.map_map]
 have h2:(((Z1r cs cs.length).filter fun j => match cs[j]? with | some c => decide (0 < c.held) | none => false)).Pairwise (· < ·):=by
  unfold Z1r
  exact (List.pairwise_lt_range.sublist List.filter_sublist).sublist List.filter_sublist
 generalize ((Z1r cs cs.length).filter fun j => match cs[j]? with | some c => decide (0 < c.held) | none => false) = l at h2
 have:l.map (Int.toNat ∘ fun (j:Nat) => (j:Int)) = l:=by
  have:(Int.toNat ∘ fun (j:Nat) => (j:Int)) = id:=by funext j; simp
  rw [this,List.map_id]
 rw [this]
 exact h2
structure PackIs (cs c:List CV) (v:List Nat):Prop where
 good:HG c
 len:c.length = cs.length
 nodup:v.Nodup
 mem:∀ a ∈ v,Z08 cs (a:Int) = true
 kids:∀ a ∈ v,∀ k ∈ kidN cs a,k ∈ v
 cell:∀ (j a:Nat),v[j]? = some a→∃ d,cs[a]? = some d∧d.taken = true∧c[j]? = some { d with kids:=d.kids.map fun k => ((v.idxOf k.toNat:Nat):Int) }
 free:∀ j,v.length ≤ j→j < cs.length→c[j]? = some Z27
theorem Zjb {cs:List CV} (hG:HG cs):PackIs cs (Zb6 cs).2 (Z0o cs):=by
 obtain ⟨r1,r2,r3,r4⟩:=Zbx hG.ok
 have hnd:(Z0o cs).Nodup:=(Z8v hG.ok (roots:=(Z0p cs cs.length).map Int.toNat) (fun r hr => by
  obtain ⟨k,hk,rfl⟩:=List.mem_map.1 hr
  obtain ⟨h0,_,h2⟩:=Z4o hk
  rwa [Int.toNat_of_nonneg h0])).2.1
 show PackIs cs (Z42 (outL cs.length (Z0o cs)) (Z1p cs (Z0o cs))) (Z0o cs)
 generalize Z0o cs = v at r1 r2 r3 r4 hnd
 have hvn:v.length ≤ cs.length:=Z22 hnd fun a ha => Z1g (r2 a ha)
 have hcell:∀ (j a:Nat),v[j]? = some a→∃ d,cs[a]? = some d∧d.taken = true∧(Z42 (outL cs.length v) (Z1p cs v))[j]? = some { d with kids:=d.kids.map fun k => ((v.idxOf k.toNat:Nat):Int) }:=by
  intro j a hj
  have ha:=List.mem_of_getElem? hj
  have hjl:=(List.getElem?_eq_some_iff.1 hj).1
  obtain ⟨d,hd,ht,_⟩:=Z60 (r2 a ha)
  refine ⟨d,hd,ht,?_⟩
  have h1:(Z1p cs v)[j]? = some d:=by
   unfold Z1p
   rw [List.getElem?_append_left (by rw [Z6j]; exact hjl)]
   unfold pick
   rw [List.getElem?_map,hj]
   simp [hd]
  rw [Zau h1,if_pos ht]
  congr 1
  have:d.kids.map (toP (outL cs.length v)) = d.kids.map fun k => ((v.idxOf k.toNat:Nat):Int):=List.map_congr_left fun k hk => by
   have hkv:k.toNat ∈ v:=r3 a ha _ (by unfold kidN; rw [Z1a hd]; exact List.mem_map.2 ⟨k,hk,rfl⟩)
   unfold toP
   rw [Z7g v (Z1g (r2 _ hkv)),if_pos hkv]
   rfl
  rw [this]
 have hfree:∀ j,v.length ≤ j→j < cs.length→(Z42 (outL cs.length v) (Z1p cs v))[j]? = some Z27:=by
  intro j h1 h2
  have h3:(Z1p cs v)[j]? = some Z27:=by
   unfold Z1p
   rw [List.getElem?_append_right (by rw [Z6j]; exact h1),Z6j,List.getElem?_replicate,if_pos (by omega)]
  rw [Zau h3]
  rfl
 have hlen:(Z42 (outL cs.length v) (Z1p cs v)).length = cs.length:=by rw [Z8s,Zcl hvn]
 generalize Z42 (outL cs.length v) (Z1p cs v) = c at hcell hfree hlen
 refine ⟨fun x hx => ?_,hlen,hnd,r2,r3,hcell,hfree⟩
 obtain ⟨j,hj⟩:=List.getElem?_of_mem hx
 have hjl:j < cs.length:=by rw [← hlen]; exact (List.getElem?_eq_some_iff.1 hj).1
 by_cases hjv:j < v.length
 ·have hja:v[j]? = some v[j]:=List.getElem?_eq_getElem hjv
  obtain ⟨d,hd,ht,hc⟩:=hcell j _ hja
  rw [hj] at hc
  cases hc
  rcases hG d (List.mem_of_getElem? hd) with e | ⟨g1,g2,g3,g4⟩
  ·rw [e] at ht; cases ht
  ·refine .inr ⟨g1,by simpa using g2,fun k hk => ?_,g4⟩
   obtain ⟨k',hk',rfl⟩:=List.mem_map.1 hk
   have hkv:k'.toNat ∈ v:=r3 _ (List.getElem_mem hjv) _ (by unfold kidN; rw [Z1a hd]; exact List.mem_map.2 ⟨k',hk',rfl⟩)
   have h5:=List.idxOf_lt_length_of_mem hkv
   obtain ⟨e,_,he,hce⟩:=hcell (v.idxOf k'.toNat) k'.toNat (by rw [List.getElem?_eq_getElem h5,List.getElem_idxOf h5])
   rw [Z1l hce]
   exact he
 ·rw [hfree j (by omega) hjl] at hj
  cases hj
  exact .inl rfl
section
variable {cs c:List CV} {v:List Nat}
theorem PackIs.le (h:PackIs cs c v):v.length ≤ cs.length:=Z22 h.nodup fun a ha => Z1g (h.mem a ha)
theorem PackIs.take (h:PackIs cs c v) (j:Nat):Z08 c (j:Int) = true ↔ j < v.length:=by
 constructor
 ·intro ht
  have hl:=Z1g ht
  rw [h.len] at hl
  rcases Nat.lt_or_ge j v.length with h1 | h1
  ·exact h1
  ·rw [Z1l (h.free j h1 hl)] at ht
   cases ht
 ·intro hj
  obtain ⟨d,_,ht,hc⟩:=h.cell j _ (List.getElem?_eq_getElem hj)
  rw [Z1l hc]
  exact ht
theorem PackIs.lab (hG:HG cs) (h:PackIs cs c v) {j a:Nat} (hj:v[j]? = some a):lb c j = lb cs a:=by
 refine Zdd (R:=fun x y => v[x]? = some y) ?_ hj
 intro x y hxy
 obtain ⟨d,hd,ht,hc⟩:=h.cell x y hxy
 refine ⟨(d.name,d.kids.map fun k => ((v.idxOf k.toNat:Nat):Int)),(d.name,d.kids),by rw [Z2k hc,if_pos ht],by rw [Z2k hd,if_pos ht],rfl,by simp,fun i k m hk hm => ?_⟩
 simp only at hk hm
 rw [List.getElem?_map,hm] at hk
 cases hk
 have hmv:m.toNat ∈ v:=h.kids y (List.mem_of_getElem? hxy) _ (by unfold kidN; rw [Z1a hd]; exact List.mem_map.2 ⟨m,List.mem_of_getElem? hm,rfl⟩)
 have h5:=List.idxOf_lt_length_of_mem hmv
 rw [Int.toNat_natCast,List.getElem?_eq_getElem h5,List.getElem_idxOf h5]
theorem PackIs.held (h:PackIs cs c v) {j a:Nat} (hj:v[j]? = some a):Zcc c j = Zcc cs a:=by
 obtain ⟨d,hd,_,hc⟩:=h.cell j a hj
 rw [Zab hd,Zab hc]
theorem PackIs.size (h:PackIs cs c v):Z1k c = v.length:=by
 have hle:=h.le
 have e:c = c.take v.length ++ c.drop v.length:=(List.take_append_drop _ _).symm
 unfold Z1k
 rw [e,List.countP_append]
 have h1:List.countP (fun c => c.taken) (c.take v.length) = (c.take v.length).length:=by
  rw [List.countP_eq_length]
  intro x hx
  obtain ⟨j,hj,ex⟩:=List.mem_iff_getElem.1 hx
  rw [List.length_take] at hj
  rw [List.getElem_take] at ex
  have:=(h.take j).2 (by omega)
  rw [Z1l (c:=x) (by rw [List.getElem?_eq_getElem (by omega),ex])] at this
  exact this
 have h2:List.countP (fun c => c.taken) (c.drop v.length) = 0:=by
  rw [List.countP_eq_zero]
  intro x hx
  obtain ⟨j,hj,ex⟩:=List.mem_iff_getElem.1 hx
  rw [List.length_drop,h.len] at hj
  rw [List.getElem_drop] at ex
  have:=h.free (v.length + j) (by omega) (by omega)
  rw [List.getElem?_eq_getElem (by rw [h.len]; omega),ex] at this
  cases this
  decide
 rw [h1,h2,List.length_take,h.len]
 omega
theorem PackIs.Z0o (hG:HG cs) (h:PackIs cs c (Z0o cs)):Go.Proofs.Z0o c = List.range (Go.Proofs.Z0o cs).length:=by
 have hKn:=hG.ok.Zgf
 unfold Go.Proofs.Z0o at h ⊢
 rw [h.len]
 refine Zt1 (K:=kidN cs) (K':=kidN c) (v:=bfsF (kidN cs) cs.length ((Z0p cs cs.length).map Int.toNat)) (n:=cs.length) (roots:=(Z0p cs cs.length).map Int.toNat) (S:=(Z0p c cs.length).map Int.toNat) hKn ?_ rfl ?_ ?_ ?_
 ·intro r hr
  obtain ⟨k,hk,rfl⟩:=List.mem_map.1 hr
  obtain ⟨h0,_,h2⟩:=Z4o hk
  exact Z1g (by rwa [Int.toNat_of_nonneg h0])
 ·intro j a hj
  obtain ⟨d,hd,ht,hc⟩:=h.cell j a hj
  have e1:kidN c j = (Z12 c j).map Int.toNat:=rfl
  have e2:kidN cs a = (Z12 cs a).map Int.toNat:=rfl
  rw [e1,e2,Z1a hd,Z1a hc,List.map_map,List.map_map]
  exact List.map_congr_left fun k hk => by simp
 ·rw [← h.len]
  exact Zgy c
 ·intro j
  have hin:∀ k:Int,k ∈ Z0p c cs.length ↔ 0 ≤ k∧Z08 c k = true∧0 < Zcc c k.toNat:=fun k => by rw [← h.len]; exact Zhn
  constructor
  ·intro hj
   obtain ⟨k,hk,rfl⟩:=List.mem_map.1 hj
   obtain ⟨h0,h1,h2⟩:=(hin k).1 hk
   obtain ⟨j,rfl⟩:∃ j:Nat,k = j:=⟨k.toNat,by omega⟩
   rw [Int.toNat_natCast] at h2 ⊢
   have hjl:=(h.take j).1 h1
   have hja:=List.getElem?_eq_getElem hjl
   rw [h.held hja] at h2
   refine ⟨_,List.mem_map.2 ⟨_,Zhn.2 ⟨?_,h.mem _ (List.getElem_mem hjl),by rw [Int.toNat_natCast]; exact h2⟩,Int.toNat_natCast _⟩,List.Nodup.idxOf_getElem h.nodup j hjl⟩
   omega
  ·rintro ⟨r,hr,rfl⟩
   obtain ⟨k,hk,rfl⟩:=List.mem_map.1 hr
   obtain ⟨h0,h1,h2⟩:=Zhn.1 hk
   have hkv:k.toNat ∈ bfsF (kidN cs) cs.length ((Z0p cs cs.length).map Int.toNat):=(Zbx hG.ok).2.2.2 k.toNat (by rw [Int.toNat_of_nonneg h0]; exact h1) h2
   have h5:=List.idxOf_lt_length_of_mem hkv
   refine List.mem_map.2 ⟨((List.idxOf k.toNat (bfsF (kidN cs) cs.length ((Z0p cs cs.length).map Int.toNat)):Nat):Int),(hin _).2 ⟨by omega,(h.take _).2 h5,?_⟩,Int.toNat_natCast _⟩
   rw [Int.toNat_natCast,h.held (j:=List.idxOf k.toNat (bfsF (kidN cs) cs.length ((Z0p cs cs.length).map Int.toNat))) (a:=k.toNat) (by rw [List.getElem?_eq_getElem h5,List.getElem_idxOf h5])]
   exact h2
theorem PackIs.again (hG:HG cs) (h:PackIs cs c (Go.Proofs.Z0o cs)):Zb6 c = (outL cs.length (List.range (Go.Proofs.Z0o cs).length),c):=by
 have hr:=h.Z0o hG
 have h2:=Zjb h.good
 have h1:(Zb6 c).1 = outL cs.length (List.range (Go.Proofs.Z0o cs).length):=by
  show outL c.length (Go.Proofs.Z0o c) = _
  rw [hr,h.len]
 rw [hr] at h2
 have h3:(Zb6 c).2 = c:=by
  refine List.ext_getElem? fun j => ?_
  by_cases hj:j < (Go.Proofs.Z0o cs).length
  ·obtain ⟨d,hd,ht,hc⟩:=h2.cell j j (List.getElem?_range hj)
   rw [hc,hd]
   congr 1
   have hk:d.kids.map (fun k => (((List.range (Go.Proofs.Z0o cs).length).idxOf k.toNat:Nat):Int)) = d.kids:=by
    have:∀ k ∈ d.kids,(((List.range (Go.Proofs.Z0o cs).length).idxOf k.toNat:Nat):Int) = k:=fun k hk => by
     obtain ⟨k1,k0⟩:=Zfg h.good.ok.toHOk hd ht hk
     have hkl:=(h.take k.toNat).1 k1
     have:(List.range (Go.Proofs.Z0o cs).length).idxOf k.toNat = k.toNat:=by
      have:=List.Nodup.idxOf_getElem (xs:=List.range (Go.Proofs.Z0o cs).length) List.nodup_range k.toNat (by rw [List.length_range]; exact hkl)
      rwa [List.getElem_range] at this
     rw [this]
     omega
    exact (List.map_congr_left this).trans (by simp)
   rw [hk]
  ·by_cases hjn:j < cs.length
   ·rw [h.free j (by omega) hjn,h2.free j (by rw [List.length_range]; omega) (by rw [h.len]; exact hjn)]
   ·rw [List.getElem?_eq_none (by rw [h2.len,h.len]; omega),List.getElem?_eq_none (by rw [h.len]; omega)]
 exact Prod.ext h1 h3
theorem PackIs.swept (hG:HG cs) (h:PackIs cs c (Go.Proofs.Z0o cs)):(Zc1 c).1 = 0:=by
 have hr:=h.Z0o hG
 show ((Z3t c (Go.Proofs.Z0o c) c.length).length:Int) = 0
 have:Z3t c (Go.Proofs.Z0o c) c.length = []:=by
  refine List.eq_nil_iff_forall_not_mem.2 fun k hk => ?_
  obtain ⟨h0,_,h1,h2⟩:=Zlo.1 hk
  rw [hr] at h2
  refine h2 (List.mem_range.2 ((h.take k.toNat).1 ?_))
  rwa [Int.toNat_of_nonneg h0]
 rw [this]
 rfl
theorem PackIs.used (h:PackIs cs c v):(outL cs.length v).countP (fun k => decide (0 ≤ k)) = v.length:=by
 unfold outL
 rw [List.countP_map]
 have h1:List.countP ((fun k:Int => decide (0 ≤ k)) ∘ fun a => if a ∈ v then (v.idxOf a:Int) else -1) (List.range cs.length) = List.countP (fun a => decide (a ∈ v)) (List.range cs.length):=by
  refine List.countP_congr fun a _ => ?_
  simp only [Function.comp]
  by_cases ha:a ∈ v
  ·simp [ha]
  ·simp [ha]
 rw [h1,List.countP_eq_length_filter]
 have hp:((List.range cs.length).filter fun a => decide (a ∈ v)).Perm v:=by
  refine (List.perm_ext_iff_of_nodup (List.Nodup.sublist List.filter_sublist List.nodup_range) h.nodup).2 fun a => ?_
  rw [List.mem_filter,List.mem_range,decide_eq_true_eq]
  exact ⟨fun hx => hx.2,fun hx => ⟨Z1g (h.mem a hx),hx⟩⟩
 exact hp.length_eq
end
end Go.Proofs
end
