/- Parts of the proof: AC3, AC4, AC5, Ord, Mgd, Swp, Grw, PermC, Sav, MovP, Pck1, Mgd2, Lst, Fnd1, Fnd2, Fin, Put1, Put2, Put3, Put4, Kit1. -/
import Derived.Test.YtoipnedbpjfeiaaDoorAt07
set_option linter.all false
set_option linter.unusedSectionVars false
set_option linter.unusedSimpArgs false
set_option linter.unusedVariables false
section
open Go Go.AM
namespace Go.Proofs
set_option maxRecDepth 100000
theorem Zw4 {fr:FI} {s0 s:St} {t0:PT AVal} {p Bn Bx Bm:Pos} {nds:List (List UInt8 × List Int)} {now:List Int} {c0 c1 c2:Cap} {Lv:AVal} {L:List Nat} {Q:Ex→PT AVal→St→Prop}
  (hN:NodesG s0 p nds) (hk0:Keeps s0 s) (hw:s.Wf) (hL:Z0g s0 Lv (L.map fun (a:Nat) => (a:Int))) (hLn:∀ a ∈ L,a < nds.length) (hLl:L.length ≤ 1000)
  (hkids:∀ (a:Nat) nd,nds[a]? = some nd→nd.2.length ≤ 4∧∀ k ∈ nd.2,0 ≤ k∧k < nds.length) (hlen:now.length = nds.length)
  (h0:PT.get (posOf 0) t0 = some (.slice p 0 nds.length c0)) (h1:PT.get (posOf 1) t0 = some Lv) (h5:PT.get (posOf 6) t0 = some (.slice Bn 0 nds.length c1)) (h7:PT.get (posOf 8) t0 = some (.slice Bx 0 nds.length c2)) (h9:PT.get (posOf 10) t0 = some (.map Bm))
  (hBn:s.cells Bn = some (now.map fun k => .int .i64 k)) (hob:s.Old Bn) (hBx:s.own Bx = some ((List.replicate nds.length (-1)).map fun k => .int .i64 k)) (hBm:s.obj Bm = some (.map [] 0))
  (hnx:Bn ≠ Bx) (hnm:Bn ≠ Bm) (hxm:Bx ≠ Bm) (hfx:¬ s0.Old Bx) (hfm:¬ s0.Old Bm)
  (q:∀ t s',Fr [12,13,14,15,16,17,34,35,36,37,40,41,42,43,44,45,46,47,48,49,50,51,56,57,58,59,78] t0 t→Same [Bx,Bm] s s' →
   s'.own Bx = some ((Z0t now nds L).2.map fun k => .int .i64 k)→s'.obj Bm = some (.map (Z1d 0 (Z0t now nds L).1) (Z0t now nds L).1.length)→Q .normal t s'):wp Tryd.prog Zu2 fr t0 s Q:=by
 have hoX:s.Old Bx:=Z0b hw hBx
 have hoM:s.Old Bm:=Z3r hw hBm
 have hLlen:=(hL.keep hk0).len
 have hLt:=hL.ntup
 simp at hLlen
 have hf:∀ b ∈ [Bx,Bm],¬ s0.Old b:=by
  intro b hb
  simp at hb
  rcases hb with rfl | rfl
  ·exact hfx
  ·exact hfm
 refine Z00 ?_
 simp [h1,hLlen]
 refine AM.wp_block ?_
 refine AM.wp_loop (fun m t s' => ∃ i:Nat,i ≤ L.length∧m = L.length - i∧Fr [12,13,14,15,16,17,34,35,36,37,40,41,42,43,44,45,46,47,48,49,50,51,56,57,58,59,78] t0 t∧PT.get (posOf 34) t = some Lv∧PT.get (posOf 35) t = some (.int .i64 L.length)∧PT.get (posOf 36) t = some (.int .i64 i)∧Same [Bx,Bm] s s' ∧
  s'.own Bx = some ((Z0t now nds (L.take i)).2.map fun k => .int .i64 k)∧s'.obj Bm = some (.map (Z1d 0 (Z0t now nds (L.take i)).1) (Z0t now nds (L.take i)).1.length)) L.length ⟨0,by simp,by simp,?_,by simp,by simp,by simp,Same.refl _ _,?_,?_⟩ ?_
 ·intro y hy
  simp at hy
  simp [hy]
 ·simpa [Z0t] using hBx
 ·simpa [Z0t,Z1d] using hBm
 rintro m t s' ⟨i,hi,rfl,hF,t33,t34,t35,hS,hX,hM⟩
 refine Z00 ?_
 simp [t34,t35]
 refine AM.wp_seq ?_
 refine AM.Z04 ?_
 by_cases hlt:i < L.length
 ·obtain ⟨a,ha⟩:∃ a,L[i]? = some a:=⟨_,List.getElem?_eq_getElem hlt⟩
  have han:a < nds.length:=hLn a (List.mem_of_getElem? ha)
  obtain ⟨nd,hnd⟩:∃ nd,nds[a]? = some nd:=⟨_,List.getElem?_eq_getElem han⟩
  obtain ⟨h4,hin⟩:=hkids a nd hnd
  have hwr:IntKind.wrap .i64 ((i:Int) + 1) = ((i + 1:Nat):Int):=by rw [IntWalk.i64_in _ (by omega)]; omega
  have hkeep:Keeps s0 s':=Same.keeps hk0 hS hf
  have hal:(L.map fun (a:Nat) => (a:Int))[i]? = some (a:Int):=by rw [List.getElem?_map,ha]; rfl
  have hkey:keyA now nds a = sgK now nd 4:=by unfold keyA; rw [hnd]
  have htk:L.take (i + 1) = L.take i ++ [a]:=by
   rw [List.take_add_one,ha]
   rfl
  have hrd:Z0t now nds (L.take (i + 1)) = Z54 now nds (Z0t now nds (L.take i)) a:=by
   unfold Z0t
   rw [htk,List.foldl_append]
   rfl
  rcases hL.keep hkeep with ⟨_,e0⟩ | ⟨b,o,c,ks,rfl,hb,hks,hle2,hel2⟩
  ·have:(L.map fun (a:Nat) => (a:Int)).length = 0:=by rw [e0]; rfl
   rw [List.length_map] at this
   omega
  have hg:=hel2 i a hal
  simp at t33
  simp [hlt]
  refine AM.wp_skip ?_
  simp
  refine AM.wp_seq ?_
  refine AM.wp_block ?_
  refine Z00 ?_
  simp [t33,t35,hlt,hks,hg]
  refine Zw1 (c0:=c0) (c1:=c1) (c2:=c2) (D:=(Z0t now nds (L.take i)).1) (nxt:=(Z0t now nds (L.take i)).2) hN hkeep (hS.wf hw) hnd h4 hin hlen ?_ ?_ ?_ ?_ ?_ ?_ ((hS.cells (by simp [hnx,hnm]) hob).trans hBn) (hS.old hob) hX hM ?_ hnx hnm hxm hfx hfm fun t2 s2 hF2 hS2 hX2 hM2 => ?_
  ·rw [Z0t,Zbk]
   simp
  ·simp
   exact (hF 0 (by simp)).trans h0
  ·simp
  ·simp
   exact (hF 6 (by simp)).trans h5
  ·simp
   exact (hF 8 (by simp)).trans h7
  ·simp
   exact (hF 10 (by simp)).trans h9
  ·exact Zd9 _ _ (fun a ha => hLn a (List.mem_of_mem_take ha)) (by simp)
  have g33:PT.get (posOf 34) t2 = some (.slice b o L.length c):=(hF2 34 (by simp)).trans (by simp [t33])
  have g34:PT.get (posOf 35) t2 = some (.int .i64 L.length):=(hF2 35 (by simp)).trans (by simp [t34])
  have g35:PT.get (posOf 36) t2 = some (.int .i64 i):=(hF2 36 (by simp)).trans (by simp [t35])
  simp
  refine AM.wp_region ?_
  simp [g35,hwr]
  refine ⟨L.length - (i + 1),by omega,i + 1,by omega,by omega,?_,by simp [g33],by simp [g34],by simp,hS.trans hS2,?_,?_⟩
  ·intro y hy
   simp at hy
   simp [hy]
   rw [hF2 y (by simp [hy])]
   simp [hy]
   exact hF y (by simp [hy])
  ·rw [hrd,hX2,← hkey]
   rfl
  ·rw [hrd,hM2,← hkey]
   rfl
 ·simp [hlt]
  refine AM.wp_exit ?_
  simp
  have hie:i = L.length:=by omega
  subst hie
  rw [List.take_length] at hX hM
  refine q _ s' ?_ hS hX hM
  intro y hy
  simp at hy
  simp [hy]
  exact hF y (by simp [hy])
def cnA (nds:List (List UInt8 × List Int)) (L:List Nat):Nat→Nat
 | 0 => 1
 | r + 1 => cntI nds L (r + 1)
theorem Zpg {s:St} {p:Pos} {nds:List (List UInt8 × List Int)} {c0:Cap} {Lv:AVal} {L:List Nat} {R:Nat} {Q:AVal→St→Prop}
  (hw:s.Wf) (hN:NodesG s p nds) (hn:nds.length ≤ 1000) (hL:Z0g s Lv (L.map fun (a:Nat) => (a:Int))) (hLn:∀ a ∈ L,a < nds.length) (hLl:L.length ≤ 1000)
  (hkids:∀ (a:Nat) nd,nds[a]? = some nd→nd.2.length ≤ 4∧∀ k ∈ nd.2,0 ≤ k∧k < nds.length)
  (hR:∀ r,r < R→cntI nds L (r + 1) ≠ cnA nds L r) (hE:cntI nds L (R + 1) = cnA nds L R)
  (q:∀ Bx s',Keeps s s'→¬ s.Old Bx→s'.own Bx = some ((nowI nds L (R + 1)).map fun k => .int .i64 k)→Q (.tup [.slice Bx 0 nds.length (.lim nds.length),.int .i64 (cntI nds L (R + 1):Nat)]) s'):Z0e Tryd.prog 70 [.slice p 0 nds.length c0,Lv] s Q:=by
 have hLt:=hL.ntup
 refine Z08 (Z0i (by decide)) fi70 rfl (by decide) rfl ?_
 refine Z00 ?_
 simp
 refine Z00 ?_
 have hs1:nds.length * 8 ≤ Z0l:=by unfold Z0l; omega
 have hs2:nds.length ≤ Z0l:=by unfold Z0l; omega
 simp [hs1,hs2]
 have hK1:Keeps s (s.alloc (.cells (List.replicate nds.length (.int .i64 0)) false)):=Keeps.alloc _ _
 have hX1:(s.alloc (.cells (List.replicate nds.length (.int .i64 0)) false)).own s.next = some ((nowI nds L 0).map fun k => .int .i64 k):=by simp [nowI]
 have hf1:¬ s.Old s.next:=Z09 s
 have ho1:(s.alloc (.cells (List.replicate nds.length (.int .i64 0)) false)).Old s.next:=Z18 _ _
 generalize s.alloc (.cells (List.replicate nds.length (.int .i64 0)) false) = s1 at hK1 hX1 ho1 ⊢
 generalize s.next = B1 at hX1 hf1 ho1 ⊢
 refine Z00 ?_
 simp
 refine AM.wp_block ?_
 refine AM.wp_loop (fun m t s' => ∃ (r:Nat) (Bn:Pos),r ≤ R∧m = R - r∧PT.get (posOf 0) t = some (.slice p 0 nds.length c0)∧PT.get (posOf 1) t = some Lv∧PT.get (posOf 6) t = some (.slice Bn 0 nds.length (.lim nds.length))∧PT.get (posOf 7) t = some (.int .i64 (cnA nds L r:Nat))∧Keeps s s'∧¬ s.Old Bn∧s'.Old Bn ∧
  s'.own Bn = some ((nowI nds L r).map fun k => .int .i64 k)) R ⟨0,B1,by simp,by simp,by simp,by simp,by simp,by simp [cnA],hK1,hf1,ho1,hX1⟩ ?_
 rintro m t s' ⟨r,Bn,hr,rfl,t0,t1,t5,t6,hk,hfn,hon,hXn⟩
 refine AM.wp_block ?_
 refine Z00 ?_
 simp [t0,hs1,hs2]
 have hw':s'.Wf:=hk.wf hw
 have hK2:Keeps s' (s'.alloc (.cells (List.replicate nds.length (.int .i64 0)) false)):=Keeps.alloc _ _
 have hX2:(s'.alloc (.cells (List.replicate nds.length (.int .i64 0)) false)).own s'.next = some ((List.replicate nds.length (0:Int)).map fun k => .int .i64 k):=by simp
 have hfx:¬ s.Old s'.next:=fun h => Z09 s' (hk.old h)
 have hnx:Bn ≠ s'.next:=ne_next hon
 have hfx':¬ s'.Old s'.next:=Z09 s'
 generalize s'.alloc (.cells (List.replicate nds.length (.int .i64 0)) false) = s2 at hK2 hX2 ⊢
 generalize s'.next = Bx at hX2 hfx hnx hfx' ⊢
 have hw2:s2.Wf:=hK2.wf hw'
 refine AM.wp_seq ?_
 refine Zw2 (n:=nds.length) (Bx:=Bx) (c2:=.lim nds.length) hw2 hn (by simp) hX2 fun t3 s3 hF3 hS3 hX3 => ?_
 have hw3:s3.Wf:=hS3.wf hw2
 have hk3:Keeps s' s3:=Same.keeps hK2 hS3 (by simpa using hfx')
 have g0:PT.get (posOf 0) t3 = some (.slice p 0 nds.length c0):=(hF3 0 (by simp)).trans (by simp [t0])
 have g1:PT.get (posOf 1) t3 = some Lv:=(hF3 1 (by simp)).trans (by simp [t1])
 have g5:PT.get (posOf 6) t3 = some (.slice Bn 0 nds.length (.lim nds.length)):=(hF3 6 (by simp)).trans (by simp [t5])
 have g6:PT.get (posOf 7) t3 = some (.int .i64 (cnA nds L r:Nat)):=(hF3 7 (by simp)).trans (by simp [t6])
 have g7:PT.get (posOf 8) t3 = some (.slice Bx 0 nds.length (.lim nds.length)):=(hF3 8 (by simp)).trans (by simp)
 simp
 refine Z00 ?_
 simp
 have hK4:Keeps s3 (s3.alloc (.map [] 0)):=Keeps.alloc _ _
 have hM4:(s3.alloc (.map [] 0)).obj s3.next = some (.map [] 0):=Z4u _ _
 have hoX3:s3.Old Bx:=Z0b hw3 hX3
 have hfm:¬ s.Old s3.next:=fun h => Z09 s3 (hk3.old (hk.old h))
 have hnm:Bn ≠ s3.next:=ne_next (hk3.old hon)
 have hxm:Bx ≠ s3.next:=ne_next hoX3
 generalize s3.alloc (.map [] 0) = s4 at hK4 hM4 ⊢
 generalize s3.next = Bm at hM4 hfm hnm hxm ⊢
 have hw4:s4.Wf:=hK4.wf hw3
 have hk4:Keeps s s4:=(hk.trans hk3).trans hK4
 have hX4:s4.own Bx = some ((List.replicate nds.length (-1:Int)).map fun k => .int .i64 k):=(hK4.own hoX3).trans hX3
 have hN4:s4.own Bn = some ((nowI nds L r).map fun k => .int .i64 k):=(hK4.own (hk3.old hon)).trans ((hk3.own hon).trans hXn)
 refine AM.wp_seq ?_
 refine Zw4 (p:=p) (Bn:=Bn) (Bx:=Bx) (Bm:=Bm) (c0:=c0) (c1:=.lim nds.length) (c2:=.lim nds.length) (now:=nowI nds L r) (Lv:=Lv) (L:=L) hN hk4 hw4 hL hLn hLl hkids (Z6s nds L r) (by simp [g0]) (by simp [g1]) (by simp [g5]) (by simp [g7]) (by simp) (Z0a hN4) (hK4.old (hk3.old hon)) hX4 hM4 hnx hnm hxm hfx hfm fun t5' s5 hF5 hS5 hX5 hM5 => ?_
 have hk5:Keeps s s5:=Same.keeps hk4 hS5 (by
  intro b hb
  simp at hb
  rcases hb with rfl | rfl
  ·exact hfx
  ·exact hfm)
 have j0:PT.get (posOf 0) t5' = some (.slice p 0 nds.length c0):=(hF5 0 (by simp)).trans (by simp [g0])
 have j1:PT.get (posOf 1) t5' = some Lv:=(hF5 1 (by simp)).trans (by simp [g1])
 have j6:PT.get (posOf 7) t5' = some (.int .i64 (cnA nds L r:Nat)):=(hF5 7 (by simp)).trans (by simp [g6])
 have j7:PT.get (posOf 8) t5' = some (.slice Bx 0 nds.length (.lim nds.length)):=(hF5 8 (by simp)).trans (by simp [g7])
 have j9:PT.get (posOf 10) t5' = some (.map Bm):=(hF5 10 (by simp)).trans (by simp)
 have hcnt:(Z0t (nowI nds L r) nds L).1.length = cntI nds L (r + 1):=rfl
 simp
 refine AM.wp_seq ?_
 refine Z00 ?_
 simp [j9]
 refine Z7u hM5 ?_
 rw [entsFrom_len,hcnt]
 by_cases he:cntI nds L (r + 1) = cnA nds L r
 ·have hrR:r = R:=by
   rcases Nat.lt_or_ge r R with h | h
   ·exact (hR r h he).elim
   ·omega
  subst hrR
  simp [j6,he]
  refine AM.Z04 ?_
  simp
  refine Z00 ?_
  simp [j7,j6]
  refine AM.wp_ret ?_
  simp
  rw [← he]
  exact q Bx s5 hk5 hfx hX5
 ·have hrR:r < R:=by
   rcases Nat.lt_or_ge r R with h | h
   ·exact h
   ·have:r = R:=by omega
    subst this
    exact (he hE).elim
  have he':¬ ((cntI nds L (r + 1):Nat):Int) = (cnA nds L r:Nat):=by omega
  have hcn:cnA nds L (r + 1) = cntI nds L (r + 1):=rfl
  simp [j6,he,he']
  refine AM.Z04 ?_
  simp
  refine AM.wp_skip ?_
  simp
  refine AM.wp_region ?_
  simp [j7,j9]
  refine Z7u hM5 ?_
  rw [entsFrom_len,hcnt]
  simp
  refine ⟨R - (r + 1),by omega,r + 1,by omega,rfl,by simp [j0],by simp [j1],rfl,hk5,hfx,Z0b (hk5.wf hw) hX5,hX5⟩
def Z1a (f:Nat→Key) (D:List Key) (L:List Nat):List Key:=L.foldl (fun D a => addK D (f a)) D
theorem Zck {now:List Int} {nds:List ND}:∀ (L:List Nat) (x:List Key × List Int),(L.foldl (Z54 now nds) x).1 = Z1a (keyA now nds) x.1 L
 | [],x => rfl
 | a :: L,x => by
  rw [List.foldl_cons,Zck L]
  rfl
theorem Zlm {f g:Nat→Key}:∀ (L E:List Nat) (D D':List Key),(∀ a ∈ E ++ L,∀ b ∈ E ++ L,(f a = f b ↔ g a = g b))→D.length = D'.length→(∀ e ∈ E,f e ∈ D∧g e ∈ D'∧D.idxOf (f e) = D'.idxOf (g e))→(∀ k ∈ D,∃ e ∈ E,f e = k)→(∀ k ∈ D',∃ e ∈ E,g e = k) →
  (Z1a f D L).length = (Z1a g D' L).length∧∀ e ∈ E ++ L,(Z1a f D L).idxOf (f e) = (Z1a g D' L).idxOf (g e)
 | [],E,D,D',_,hl,he,_,_ => ⟨hl,fun e h => (he e (by simpa using h)).2.2⟩
 | a :: L,E,D,D',hk,hl,he,hD,hD' => by
  have hmem:f a ∈ D ↔ g a ∈ D':=by
   constructor
   ·intro h
    obtain ⟨e,h1,h2⟩:=hD _ h
    have:=(hk e (by simp [h1]) a (by simp)).1 h2
    rw [← this]
    exact (he e h1).2.1
   ·intro h
    obtain ⟨e,h1,h2⟩:=hD' _ h
    have:=(hk e (by simp [h1]) a (by simp)).2 h2
    rw [← this]
    exact (he e h1).1
  have:=Zlm (f:=f) (g:=g) L (E ++ [a]) (addK D (f a)) (addK D' (g a)) (by simpa using hk) (by
   unfold addK
   by_cases h:f a ∈ D
   ·rw [if_pos h,if_pos (hmem.1 h)]
    exact hl
   ·rw [if_neg h,if_neg (fun h' => h (hmem.2 h'))]
    simp [hl]) (by
   intro e h
   rcases List.mem_append.1 h with h | h
   ·obtain ⟨h1,h2,h3⟩:=he e h
    exact ⟨Zdv h1,Zdv h2,by rw [Zdu h1,Zdu h2,h3]⟩
   ·simp at h
    subst h
    refine ⟨Zbz _ _,Zbz _ _,?_⟩
    unfold addK
    by_cases h:f e ∈ D
    ·rw [if_pos h,if_pos (hmem.1 h)]
     obtain ⟨e',h1,h2⟩:=hD _ h
     have h3:=(hk e' (by simp [h1]) e (by simp)).1 h2
     rw [← h2,← h3]
     exact (he e' h1).2.2
    ·rw [if_neg h,if_neg (fun h' => h (hmem.2 h')),List.idxOf_append,if_neg h,List.idxOf_append,if_neg (fun h' => h (hmem.2 h'))]
     simp [hl]) (by
   intro k hk'
   unfold addK at hk'
   split at hk'
   ·obtain ⟨e,h1,h2⟩:=hD k hk'
    exact ⟨e,by simp [h1],h2⟩
   ·rcases List.mem_append.1 hk' with h | h
    ·obtain ⟨e,h1,h2⟩:=hD k h
     exact ⟨e,by simp [h1],h2⟩
    ·simp at h
     exact ⟨a,by simp,h.symm⟩) (by
   intro k hk'
   unfold addK at hk'
   split at hk'
   ·obtain ⟨e,h1,h2⟩:=hD' k hk'
    exact ⟨e,by simp [h1],h2⟩
   ·rcases List.mem_append.1 hk' with h | h
    ·obtain ⟨e,h1,h2⟩:=hD' k h
     exact ⟨e,by simp [h1],h2⟩
    ·simp at h
     exact ⟨a,by simp,h.symm⟩)
  simpa [Z1a] using this
section
variable {nds:List ND} {L:List Nat} (hC:Closed nds L)
include hC
theorem Zx0 {r1 r2:Nat} (h:∀ a ∈ L,∀ b ∈ L,(sim nds (r1 + 1) a b ↔ sim nds (r2 + 1) a b)):nowI nds L (r1 + 1) = nowI nds L (r2 + 1)∧cntI nds L (r1 + 1) = cntI nds L (r2 + 1):=by
 have hk:=Zlm (f:=keyA (nowI nds L r1) nds) (g:=keyA (nowI nds L r2) nds) L [] [] [] (by
  intro a ha b hb
  simp at ha hb
  rw [Z68 hC r1 a b ha hb,Z68 hC r2 a b ha hb]
  exact h a ha b hb) rfl (by simp) (by simp) (by simp)
 have e1:(Z0t (nowI nds L r1) nds L).1 = Z1a (keyA (nowI nds L r1) nds) [] L:=Zck L _
 have e2:(Z0t (nowI nds L r2) nds L).1 = Z1a (keyA (nowI nds L r2) nds) [] L:=Zck L _
 refine ⟨List.ext_getElem? fun j => ?_,?_⟩
 ·by_cases hj:j < nds.length
  ·by_cases hm:j ∈ L
   ·show (Z0t (nowI nds L r1) nds L).2[j]? = (Z0t (nowI nds L r2) nds L).2[j]?
    rw [Za0 hm hj,Za0 hm hj,e1,e2]
    have:=hk.2 j (by simpa using hm)
    rw [this]
   ·rw [Zfw nds L r1 j hj hm,Zfw nds L r2 j hj hm]
  ·rw [List.getElem?_eq_none (by rw [Z6s]; omega),List.getElem?_eq_none (by rw [Z6s]; omega)]
 ·show (Z0t (nowI nds L r1) nds L).1.length = (Z0t (nowI nds L r2) nds L).1.length
  rw [e1,e2]
  exact hk.1
theorem Zph (hne:L ≠ []):∃ R,(∀ r,r < R→cntI nds L (r + 1) ≠ cnA nds L r)∧cntI nds L (R + 1) = cnA nds L R∧nowI nds L (R + 1) = clsF nds L:=by
 obtain ⟨R,h1,h2,h3⟩:=Z9m hC
 have hpos:cntI nds L 1 ≠ 0:=by
  rw [Z5h]
  cases L with
  | nil => exact (hne rfl).elim
  | cons a L => simp [news]
 cases R with
 | zero => exact (hpos h2).elim
 | succ R =>
  by_cases h1':cntI nds L 1 = 1
  ·refine ⟨0,by simp,h1',?_⟩
   rw [h1]
   have hone:∀ a ∈ L,∀ b ∈ L,sim nds 1 a b:=by
    rw [Z5h] at h1'
    intro a ha b hb
    refine (Z68 hC 0 a b ha hb).1 ?_
    have:=Zfu (f:=keyA (nowI nds L 0) nds) (g:=fun _:Nat => (0:Nat)) L [] (fun _ _ _ _ _ => rfl) (by
     rw [h1']
     cases L with
     | nil => exact (hne rfl).elim
     | cons c L =>
      have key:∀ (L E:List Nat),E ≠ []→news (fun _:Nat => (0:Nat)) E L = 0:=by
       intro L
       induction L with
       | nil => intro E _; rfl
       | cons x L ih =>
        intro E hE
        have h2:=ih (E ++ [x]) (by simp)
        cases E with
        | nil => exact (hE rfl).elim
        | cons y E =>
         simp only [news]
         rw [h2]
         simp
      simp only [news]
      rw [key L ([] ++ [c]) (by simp)]
      simp) (by simp) a (by simpa using ha) b (by simpa using hb) rfl
    exact this
   refine (Zx0 hC (r1:=0) (r2:=R + 1) fun a ha b hb => ?_).1
   constructor
   ·intro _
    have hall:∀ r a b,a ∈ L→b ∈ L→sim nds r a b:=by
     intro r
     induction r with
     | zero => intro a b _ _; trivial
     | succ r ih =>
      intro a b ha hb
      obtain ⟨x,y,hx,hy,e1,e2,_⟩:=hone a ha b hb
      exact ⟨x,y,hx,hy,e1,e2,fun j k m hk hm => ih _ _ ((hC.kids a ha x hx).2 k (List.mem_of_getElem? hk)) ((hC.kids b hb y hy).2 m (List.mem_of_getElem? hm))⟩
    exact hall _ a b ha hb
   ·intro _
    exact hone a ha b hb
  ·refine ⟨R + 1,?_,h2,h1.symm⟩
   intro r hr
   cases r with
   | zero => exact h1'
   | succ r => exact h3 (r + 1) hr
noncomputable def Zjq (nds:List ND) (L:List Nat):Nat:=news (fun a => (clsF nds L)[a]?) [] L
theorem Zqw {R:Nat} (h:nowI nds L (R + 1) = clsF nds L):cntI nds L (R + 1) = Zjq nds L:=by
 rw [Z5h]
 unfold Zjq
 rw [← h]
 have hiff:∀ a ∈ L,∀ b ∈ L,(keyA (nowI nds L R) nds a = keyA (nowI nds L R) nds b ↔ (nowI nds L (R + 1))[a]? = (nowI nds L (R + 1))[b]?):=fun a ha b hb => by
  rw [Z68 hC R a b ha hb,Z9x hC (R + 1) a b ha hb]
 have h1:=Zau (f:=keyA (nowI nds L R) nds) (g:=fun a => (nowI nds L (R + 1))[a]?) L [] (fun a ha b hb h => (hiff a (by simpa using ha) b (by simpa using hb)).1 h)
 have h2:=Zau (f:=fun a => (nowI nds L (R + 1))[a]?) (g:=keyA (nowI nds L R) nds) L [] (fun a ha b hb h => (hiff a (by simpa using ha) b (by simpa using hb)).2 h)
 omega
theorem Zfe {a:Nat} (ha:a ∈ L):∃ c:Nat,(clsF nds L)[a]? = some (c:Int)∧c < Zjq nds L:=by
 obtain ⟨R,h1,h2,h3⟩:=Z9m hC
 have hm:=Zqw hC h1.symm
 rw [h1]
 refine ⟨_,Za0 ha (hC.lt a ha),?_⟩
 rw [← hm]
 show _ < (Z0t (nowI nds L R) nds L).1.length
 exact List.idxOf_lt_length_of_mem (Zcv L _ a ha)
end
theorem Zbw {α:Type} {motive:List α→Prop} (nil:motive []) (append_singleton:∀ (l:List α) (a:α),motive l→motive (l ++ [a])) (l:List α):motive l:=by
 have:∀ r:List α,motive r.reverse:=by
  intro r
  induction r with
  | nil => exact nil
  | cons a r ih =>
   rw [List.reverse_cons]
   exact append_singleton _ a ih
 have h:=this l.reverse
 rwa [List.reverse_reverse] at h
theorem Zb3 (f:Nat→Key) (D:List Key) (P S:List Nat):Z1a f D (P ++ S) = Z1a f (Z1a f D P) S:=by
 unfold Z1a
 rw [List.foldl_append]
theorem Zbc (f:Nat→Key):∀ (S:List Nat) (D:List Key),∃ T,Z1a f D S = D ++ T
 | [],D => ⟨[],by simp [Z1a]⟩
 | a :: S,D => by
  obtain ⟨T,h⟩:=Zbc f S (addK D (f a))
  have h1:Z1a f D (a :: S) = Z1a f (addK D (f a)) S:=rfl
  rw [h1,h]
  unfold addK
  split
  ·exact ⟨T,rfl⟩
  ·exact ⟨[f a] ++ T,by simp⟩
theorem Zjm (f:Nat→Key):∀ (S:List Nat) (D:List Key) (k:Key),k ∈ Z1a f D S ↔ k ∈ D ∨ ∃ a ∈ S,f a = k
 | [],D,k => by simp [Z1a]
 | a :: S,D,k => by
  have h1:Z1a f D (a :: S) = Z1a f (addK D (f a)) S:=rfl
  rw [h1,Zjm f S]
  have h2:k ∈ addK D (f a) ↔ k ∈ D ∨ f a = k:=by
   unfold addK
   split
   ·rename_i h
    constructor
    ·exact .inl
    ·rintro (h' | rfl)
     ·exact h'
     ·exact h
   ·simp [eq_comm]
  rw [h2]
  constructor
  ·rintro ((h | h) | ⟨b,hb,h⟩)
   ·exact .inl h
   ·exact .inr ⟨a,by simp,h⟩
   ·exact .inr ⟨b,by simp [hb],h⟩
  ·rintro (h | ⟨b,hb,h⟩)
   ·exact .inl (.inl h)
   ·rcases List.mem_cons.1 hb with rfl | hb
    ·exact .inl (.inr h)
    ·exact .inr ⟨b,hb,h⟩
theorem Zn5 {nds:List ND} {L:List Nat} (hC:Closed nds L):∃ f:Nat→Key,(∀ a ∈ L,(clsF nds L)[a]? = some ((Z1a f [] L).idxOf (f a):Nat))∧∀ a ∈ L,∀ b ∈ L,(f a = f b ↔ ∀ r,sim nds r a b):=by
 obtain ⟨R,h1,h2,_⟩:=Z9m hC
 refine ⟨keyA (nowI nds L R) nds,fun a ha => ?_,fun a ha b hb => ?_⟩
 ·have e1:(Z0t (nowI nds L R) nds L).1 = Z1a (keyA (nowI nds L R) nds) [] L:=Zck L _
  rw [h1,← e1]
  exact Za0 ha (hC.lt a ha)
 ·rw [← Zh9 hC h2 ha hb,Z9x hC (R + 1) a b ha hb,← Z68 hC R a b ha hb]
theorem Zno {nds:List ND} {L P S:List Nat} {a:Nat} (hC:Closed nds L) (hL:L = P ++ a :: S) :
  ∃ c:Nat,(clsF nds L)[a]? = some (c:Int)∧c ≤ (outF (clsF nds L) nds P).length∧(c < (outF (clsF nds L) nds P).length ↔ ∃ e ∈ P,∀ r,sim nds r e a):=by
 obtain ⟨f,hf0,hs⟩:=Zn5 hC
 have hf:∀ x ∈ L,(clsF nds L)[x]? = some (((Z1a f [] L).idxOf (f x):Nat):Int):=hf0
 have ha:a ∈ L:=by rw [hL]; simp
 have hPL:∀ x ∈ P,x ∈ L:=fun x hx => by rw [hL]; simp [hx]
 have key:∀ (P' Q':List Nat),P = P' ++ Q'→(outF (clsF nds L) nds P').length = (Z1a f [] P').length:=by
  intro P'
  induction P' using Zbw with
  | nil => intro Q' _; rfl
  | append_singleton P' x ih =>
   intro Q' hQ
   have ihp:=ih (x :: Q') (by rw [hQ]; simp)
   have hx:x ∈ L:=hPL x (by rw [hQ]; simp)
   have hnd:nds[x]? = some (nds[x]'(hC.lt x hx)):=List.getElem?_eq_getElem _
   have e1:outF (clsF nds L) nds (P' ++ [x]) = Z2k (clsF nds L) nds (outF (clsF nds L) nds P') x:=by unfold outF; rw [List.foldl_append]; rfl
   have e2:Z1a f [] (P' ++ [x]) = addK (Z1a f [] P') (f x):=by rw [Zb3]; rfl
   rw [e1,e2]
   unfold Z2k
   rw [hf x hx,hnd]
   simp only
   obtain ⟨T,hT⟩:=Zbc f (x :: (Q' ++ a :: S)) (Z1a f [] P')
   have hLx:L = P' ++ x :: (Q' ++ a :: S):=by rw [hL,hQ]; simp
   have hk:Z1a f [] L = Z1a f [] P' ++ T:=by rw [hLx,Zb3]; exact hT
   rw [hk,List.idxOf_append]
   unfold addK
   by_cases hm:f x ∈ Z1a f [] P'
   ·rw [if_pos hm,if_pos hm,if_pos (by have:=List.idxOf_lt_length_of_mem hm; omega)]
    exact ihp
   ·rw [if_neg hm,if_neg hm,if_neg (by omega)]
    simp [ihp]
 have hlen:=key P [] (by simp)
 obtain ⟨T,hT⟩:=Zbc f (a :: S) (Z1a f [] P)
 have hk:Z1a f [] L = Z1a f [] P ++ T:=by rw [hL,Zb3]; exact hT
 refine ⟨_,hf a ha,?_⟩
 rw [hlen,hk,List.idxOf_append]
 have hmem:f a ∈ Z1a f [] P ↔ ∃ e ∈ P,∀ r,sim nds r e a:=by
  rw [Zjm]
  constructor
  ·rintro (h | ⟨e,he,h⟩)
   ·cases h
   ·exact ⟨e,he,(hs e (hPL e he) a ha).1 h⟩
  ·rintro ⟨e,he,h⟩
   exact .inr ⟨e,he,(hs e (hPL e he) a ha).2 h⟩
 by_cases hm:f a ∈ Z1a f [] P
 ·rw [if_pos hm]
  have:=List.idxOf_lt_length_of_mem hm
  exact ⟨by omega,⟨fun _ => hmem.1 hm,fun _ => this⟩⟩
 ·rw [if_neg hm]
  have hz:T.idxOf (f a) = 0:=by
   have h1:Z1a f (Z1a f [] P) (a :: S) = Z1a f (addK (Z1a f [] P) (f a)) S:=rfl
   obtain ⟨T',hT'⟩:=Zbc f S (addK (Z1a f [] P) (f a))
   rw [h1,hT'] at hT
   unfold addK at hT
   rw [if_neg hm,List.append_assoc] at hT
   have:=List.append_cancel_left hT
   rw [← this]
   simp
  rw [hz]
  refine ⟨by omega,⟨fun h => by omega,fun h => (hm (hmem.2 h)).elim⟩⟩
theorem Zoh {nds:List ND} {L:List Nat} (hC:Closed nds L):(outF (clsF nds L) nds L).length = Zjq nds L:=by
 have hb:∀ a ∈ L,∃ c:Nat,(clsF nds L)[a]? = some (c:Int):=fun a ha => by
  obtain ⟨c,h,_⟩:=Zfe hC ha
  exact ⟨c,h⟩
 have key:∀ (P S:List Nat),L = P ++ S→(outF (clsF nds L) nds P).length = news (fun a => (clsF nds L)[a]?) [] P:=by
  intro P
  induction P using Zbw with
  | nil => intro S _; rfl
  | append_singleton P x ih =>
   intro S hS
   have ihp:=ih (x :: S) (by rw [hS]; simp)
   obtain ⟨c,hc,h1,h2⟩:=Zno (P:=P) (a:=x) (S:=S) hC (by rw [hS]; simp)
   have hx:x ∈ L:=by rw [hS]; simp
   have e1:outF (clsF nds L) nds (P ++ [x]) = Z2k (clsF nds L) nds (outF (clsF nds L) nds P) x:=by unfold outF; rw [List.foldl_append]; rfl
   have hnd:nds[x]? = some (nds[x]'(hC.lt x hx)):=List.getElem?_eq_getElem _
   have hap:∀ (P E:List Nat) (y:Nat) (f:Nat→Option Int),news f E (P ++ [y]) = news f E P + (if (E ++ P).any (fun e => decide (f e = f y)) = true then 0 else 1):=by
    intro P
    induction P with
    | nil => intro E y f; simp [news]
    | cons z P ih =>
     intro E y f
     have:=ih (E ++ [z]) y f
     simp only [List.cons_append,news]
     rw [this]
     have e:(E ++ [z] ++ P) = E ++ z :: P:=by simp
     rw [e]
     omega
   rw [hap,e1,← ihp]
   unfold Z2k
   rw [hc,hnd]
   simp only
   have hany:([] ++ P).any (fun e => decide ((clsF nds L)[e]? = (clsF nds L)[x]?)) = true ↔ ∃ e ∈ P,∀ r,sim nds r e x:=by
    simp only [List.nil_append,List.any_eq_true,decide_eq_true_eq]
    constructor
    ·rintro ⟨e,he,h⟩
     exact ⟨e,he,(Ze1 hC (by rw [hS]; simp [he]) hx).1 h⟩
    ·rintro ⟨e,he,h⟩
     exact ⟨e,he,(Ze1 hC (by rw [hS]; simp [he]) hx).2 h⟩
   rw [hc] at hany
   by_cases hlt:c < (outF (clsF nds L) nds P).length
   ·rw [if_pos (hany.2 (h2.1 hlt)),if_pos (by omega)]
    omega
   ·rw [if_neg (fun h => hlt (h2.2 (hany.1 h))),if_neg (by omega)]
    simp
 exact key L [] (by simp)
end Go.Proofs
end
section
open Go Go.AM
namespace Go.AM
theorem Zv5 {P:Program} {γ:RO→Option AVal} {s:St} {Q:AVal→St→Prop} {es ox:Nat} {x y:RO} {bx:Pos} {cx:Cap} {yv:AVal}
  (hx:γ x = some (.slice bx ox 0 cx)) (hy:γ y = some yv) (hs:Z1q yv = some 0) (h:Q (.int .i64 0) s):opP P (.copy (some es) x y) γ s Q:=by
 refine ⟨_,_,fun rec K hK => ?_,h⟩
 refine Z01.2 ⟨_,hx,Z01.2 ⟨_,hy,?_⟩⟩
 cases yv <;> cases hs <;> exact hK
end Go.AM
namespace Go.Proofs
set_option maxRecDepth 100000
def clOf (cls:List Int) (k:Int):Int:=(cls[k.toNat]?).getD 0
def Z4k (f:Int→Int) (ks:List Int) (j:Nat):List Int:=(ks.take j).map f ++ ks.drop j
theorem Zrg (f:Int→Int) (ks:List Int):Z4k f ks 0 = ks:=by simp [Z4k]
theorem Zl8 (f:Int→Int) (ks:List Int) (j:Nat):(Z4k f ks j).length = ks.length:=by
 simp [Z4k]
 omega
theorem Zt9 (f:Int→Int) (ks:List Int):Z4k f ks ks.length = ks.map f:=by simp [Z4k]
theorem Zta {f:Int→Int} {ks:List Int} {j:Nat} {k:Int} (h:ks[j]? = some k):(Z4k f ks j)[j]? = some k:=by
 have hj:=(List.getElem?_eq_some_iff.1 h).1
 unfold Z4k
 rw [List.getElem?_append_right (by simp; omega)]
 have e:j - ((ks.take j).map f).length = 0:=by simp; omega
 rw [e,List.getElem?_drop]
 simpa using h
theorem Zrf {f:Int→Int} {ks:List Int} {j:Nat} {k:Int} (h:ks[j]? = some k):(Z4k f ks j).set j (f k) = Z4k f ks (j + 1):=by
 have hj:=(List.getElem?_eq_some_iff.1 h).1
 unfold Z4k
 have hl:((ks.take j).map f).length = j:=by simp; omega
 rw [List.set_append_right _ _ (by omega),hl,Nat.sub_self,List.take_add_one,h]
 have hd:ks.drop j = k :: ks.drop (j + 1):=by
  rw [List.drop_eq_getElem_cons hj]
  have:ks[j] = k:=(List.getElem?_eq_some_iff.1 h).2
  rw [this]
 rw [hd]
 simp
theorem Zm4:∀ (l:List (List UInt8 × AVal)) (i:Nat) (c:List UInt8 × AVal) (nm:List UInt8),l[i]? = some c→lay (penc l) (i * 2) [.str nm] = penc (l.set i (nm,c.2))
 | [],i,c,nm,h => by simp at h
 | d :: l,0,c,nm,h => by
  simp at h
  subst h
  simp [lay,penc]
 | d :: l,i + 1,c,nm,h => by
  have ih:=Zm4 l i c nm (by simpa using h)
  have e:penc (d :: l) = [.str d.1,d.2] ++ penc l:=rfl
  have e2:penc ((d :: l).set (i + 1) (nm,c.2)) = [.str d.1,d.2] ++ penc (l.set i (nm,c.2)):=rfl
  rw [e,e2,← ih]
  have e3:(i + 1) * 2 = i * 2 + 2:=by omega
  rw [e3]
  simp [lay]
theorem Zm5:∀ (l:List (List UInt8 × AVal)) (i:Nat) (c:List UInt8 × AVal) (kv:AVal),l[i]? = some c→lay (penc l) (i * 2 + 1) [kv] = penc (l.set i (c.1,kv))
 | [],i,c,nm,h => by simp at h
 | d :: l,0,c,nm,h => by
  simp at h
  subst h
  simp [lay,penc]
 | d :: l,i + 1,c,nm,h => by
  have ih:=Zm5 l i c nm (by simpa using h)
  have e:penc (d :: l) = [.str d.1,d.2] ++ penc l:=rfl
  have e2:penc ((d :: l).set (i + 1) (c.1,nm)) = [.str d.1,d.2] ++ penc (l.set i (c.1,nm)):=rfl
  rw [e,e2,← ih]
  have e3:(i + 1) * 2 + 1 = i * 2 + 1 + 2:=by omega
  rw [e3]
  simp [lay]
theorem Zpe:∀ (ns:List ND) (V:List AVal) (i:Nat) (nm:List UInt8) (ks:List Int) (kv:AVal),V[i]? = some kv→(List.zipWith (fun nd kv => (nd.1,kv)) ns V).set i (nm,kv) = List.zipWith (fun (nd:ND) kv => (nd.1,kv)) (ns.set i (nm,ks)) V
 | [],V,i,nm,ks,kv,h => by simp
 | n :: ns,[],i,nm,ks,kv,h => by simp at h
 | n :: ns,v :: V,0,nm,ks,kv,h => by simp at h; subst h; simp
 | n :: ns,v :: V,i + 1,nm,ks,kv,h => by
  have:=Zpe ns V i nm ks kv (by simpa using h)
  simpa using this
theorem Zpf:∀ (ns:List ND) (V:List AVal) (i:Nat) (nd:ND) (kv:AVal),ns[i]? = some nd→(List.zipWith (fun (nd:ND) kv => (nd.1,kv)) ns V).set i (nd.1,kv) = List.zipWith (fun (nd:ND) kv => (nd.1,kv)) ns (V.set i kv)
 | [],V,i,nm,kv,h => by simp at h
 | n :: ns,[],i,nm,kv,h => by simp
 | n :: ns,v :: V,0,nm,kv,h => by simp at h; subst h; simp
 | n :: ns,v :: V,i + 1,nm,kv,h => by
  have:=Zpf ns V i nm kv (by simpa using h)
  simpa using this
theorem Zjs {ns:List ND} {V:List AVal} {i:Nat} {nd:ND} {kv:AVal} (nm:List UInt8) (ks:List Int) (h1:ns[i]? = some nd) (h2:V[i]? = some kv):lay (Z0c ns V) (i * 2) [.str nm] = Z0c (ns.set i (nm,ks)) V:=by
 unfold Z0c
 rw [Zm4 _ i (nd.1,kv) nm (by simp [List.getElem?_zipWith,h1,h2]),Zpe ns V i nm ks kv h2]
theorem Zjt {ns:List ND} {V:List AVal} {i:Nat} {nd:ND} {kv:AVal} (kv':AVal) (h1:ns[i]? = some nd) (h2:V[i]? = some kv):lay (Z0c ns V) (i * 2 + 1) [kv'] = Z0c ns (V.set i kv'):=by
 unfold Z0c
 rw [Zm5 _ i (nd.1,kv) kv' (by simp [List.getElem?_zipWith,h1,h2]),Zpf ns V i nd kv' h1]
def Zby (Bn:Pos) (ns:List ND) (m:Lets):Prop:=∃ V mr,m.Perm ((Bn,C (Z0c ns V)) :: mr)∧Z12 (ns.map Prod.snd) V mr
theorem Zby.at {s0 s:St} {W:Pos→Prop} {Bn:Pos} {ns:List ND} {m:Lets} (h:Zby Bn ns m) (c:Cap) (hc:Ctx s0 W m s):Z1o s (.slice Bn 0 ns.length c) ns:=by
 obtain ⟨V,mr,hp,hR⟩:=h
 have hc':=hc.perm hp
 have hV:V.length = ns.length:=by simpa using hR.len
 refine .inr ⟨Bn,0,c,_,rfl,hc'.oi 0 rfl,hc'.c 0 rfl,by rw [Z4r hV]; omega,fun i nd hi => ?_⟩
 obtain ⟨kv,g1,g2⟩:=hR.each (i:=i) (ks:=nd.2) (by rw [List.getElem?_map,hi]; rfl)
 obtain ⟨e1,e2⟩:=Z6i hi g1
 rw [Nat.zero_add]
 refine ⟨e1,kv,e2,?_⟩
 rcases g2 with ⟨e3,e4⟩ | ⟨q',c',e3,e4,e5⟩
 ·exact .inl ⟨e4,e3⟩
 ·rw [e4]
  exact Z4f hc'.wf (Z0y (hc'.own _ (List.mem_cons_of_mem _ e5))) c'
theorem Zek {cls:List Int} {nds:List ND}:∀ {l:List Nat} {x:ND},x ∈ outF cls nds l→∃ a nd,a ∈ l∧nds[a]? = some nd∧x = Z42 cls nd:=by
 have key:∀ (l:List Nat) (out:List ND) (x:ND),x ∈ l.foldl (Z2k cls nds) out→x ∈ out ∨ ∃ a nd,a ∈ l∧nds[a]? = some nd∧x = Z42 cls nd:=by
  intro l
  induction l with
  | nil => intro out x h; exact .inl h
  | cons a l ih =>
   intro out x h
   rcases ih _ x h with h | ⟨b,nd,h1,h2,h3⟩
   ·unfold Z2k at h
    split at h
    ·rename_i c nd hc hnd
     split at h
     ·exact .inl h
     ·rcases List.mem_append.1 h with h | h
      ·exact .inl h
      ·exact .inr ⟨a,nd,by simp,hnd,by simpa using h⟩
    ·exact .inl h
   ·exact .inr ⟨b,nd,by simp [h1],h2,h3⟩
 intro l x h
 rcases key l [] x h with h | h
 ·cases h
 ·exact h
def padF (M:Nat) (l:List ND):List ND:=l ++ List.replicate (M - l.length) ([],[])
theorem Zoj {M:Nat} {l:List ND} (h:l.length ≤ M):(padF M l).length = M:=by
 simp [padF]
 omega
theorem Zx4 {M:Nat} {l:List ND} (h:l.length < M):(padF M l)[l.length]? = some ([],[]):=by
 unfold padF
 rw [List.getElem?_append_right (Nat.le_refl _),Nat.sub_self,List.getElem?_replicate,if_pos (by omega)]
theorem Zok {M:Nat} {l:List ND} {i:Nat} {x:ND} (h:l[i]? = some x):(padF M l)[i]? = some x:=by
 unfold padF
 rw [List.getElem?_append_left (List.getElem?_eq_some_iff.1 h).1]
 exact h
theorem Zol {M:Nat} {l:List ND} (x:ND) (h:l.length < M):(padF M l).set l.length x = padF M (l ++ [x]):=by
 unfold padF
 rw [List.set_append_right _ _ (Nat.le_refl _),Nat.sub_self]
 have e:M - l.length = (M - (l ++ [x]).length) + 1:=by simp; omega
 rw [e,List.replicate_succ,List.set_cons_zero]
 simp
theorem Zpw {ns ns':List ND} (V:List AVal) (h:ns.map Prod.fst = ns'.map Prod.fst):Z0c ns V = Z0c ns' V:=by
 have key:∀ l:List ND,List.zipWith (fun (nd:ND) kv => (nd.1,kv)) l V = List.zipWith (fun (n:List UInt8) kv => (n,kv)) (l.map Prod.fst) V:=fun l => by rw [List.zipWith_map_left]
 unfold Z0c
 rw [key,key,h]
theorem Zwn {cs:List AVal} {o:Nat} {ks:List Int} (hl:o + ks.length ≤ cs.length) (h:∀ i k,ks[i]? = some k→cs[o + i]? = some (.int .i64 k)):(cs.drop o).take ks.length = ints ks:=by
 refine List.ext_getElem? fun i => ?_
 rw [List.getElem?_take,List.getElem?_drop,List.getElem?_map]
 by_cases hi:i < ks.length
 ·rw [if_pos hi,h i _ (List.getElem?_eq_getElem hi),List.getElem?_eq_getElem hi]
  rfl
 ·rw [if_neg hi,List.getElem?_eq_none (by omega)]
  rfl
theorem Zrp {P:Program} {γ:RO→Option AVal} {s0 s:St} {W:Pos→Prop} {Q:AVal→St→Prop} {pre r:Lets} {x y:RO} {Bk:Pos} {kv:AVal} {ks:List Int} {c:Cap}
  (hc:Ctx s0 W (pre ++ (Bk,C (List.replicate ks.length (.int .i64 0))) :: r) s) (hx:γ x = some (.slice Bk 0 ks.length c)) (hy:γ y = some kv) (hk:Z0g s kv ks)
  (q:∀ v s',Ctx s0 W (pre ++ (Bk,C (ints ks)) :: r) s'→Q v s'):opP P (.copy (some 1) x y) γ s Q:=by
 by_cases h0:ks = []
 ·subst h0
  exact Zv5 hx hy hk.len (q _ _ hc)
 ·have hl:ks.length ≠ 0:=by simpa using h0
  rcases hk with ⟨_,e⟩ | ⟨b,o,c',cs,rfl,hb,hcs,hle,hel⟩
  ·exact (h0 e).elim
  ·have hk0:s.own Bk = some (List.replicate ks.length (.int .i64 0)):=Z0y (hc.own (Bk,C _) (by simp))
   refine Zo9 (ox:=0) (o:=o) hx hy hl hk0 hcs (by omega) (by simp) ?_
   rw [Nat.mul_one,Zwn hle hel]
   have e:lay (List.replicate ks.length (AVal.int .i64 0)) 0 (ints ks) = ints ks:=by simp [lay]
   rw [e]
   have hi:(pre ++ (Bk,C (List.replicate ks.length (.int .i64 0))) :: r)[pre.length]? = some (Bk,C (List.replicate ks.length (.int .i64 0))):=by simp
   have:=hc.put pre.length hi (C (ints ks))
   rw [List.set_append_right _ _ (Nat.le_refl _),Nat.sub_self,List.set_cons_zero] at this
   exact q _ _ this
end Go.Proofs
end
section
open Go Go.AM
namespace Go.Proofs
set_option maxRecDepth 100000
def StateR (p:Pos) (cs:List CV) (m:Lets):Prop:=∃ V mr,m.Perm ((p,C (encs (rcs cs V))) :: mr)∧Z12 (cs.map CV.kids) V mr
theorem own_c {s0 s:St} {W:Pos→Prop} {p:Pos} {cs:List CV} {V:List AVal} {base:Lets} {Q:AVal→St→Prop} (hc:Ctx s0 W base s) (hV:V.length = cs.length) (h1:1 ≤ cs.length) (h4:cs.length ≤ 400) (hk4:∀ c ∈ cs,c.kids.length ≤ 1000)
  (hp:(p,C (encs (rcs cs V))) ∈ base) {mr:Lets} (hR:Z12 (cs.map CV.kids) V mr) (hmr:∀ x ∈ mr,x ∈ base)
  (q:∀ pn mn s',StateR pn cs mn→Ctx s0 W (mn ++ base) s'→Q (.agg [.slice pn 0 cs.length (.lim cs.length)]) s'):Z0e Tryd.prog 51 [.agg [.slice p 0 cs.length (.lim cs.length)]] s Q:=by
 have hl:=Z2c hV
 obtain ⟨r1,r2,r3⟩:=Z80 (p:=p) (cs:=cs) (V:=V) hc hp hR hmr
 refine own_w (K:=Z11 cs) hl hc.wf r1 r2 h1 h4 (fun j c hj => ?_) fun pn kvs s5 k5 hpn hopn hOwn => ?_
 ·have hlt:j < cs.length:=by have:=(List.getElem?_eq_some_iff.1 hj).1; rwa [hl] at this
  obtain ⟨kv,g1,g2⟩:=r3 j _ (List.getElem?_eq_getElem hlt)
  rw [Z26 (List.getElem?_eq_getElem hlt) g1] at hj
  cases hj
  rw [Z1v (List.getElem?_eq_getElem hlt)]
  exact ⟨g2,hk4 _ (List.getElem_mem hlt)⟩
 rw [Zql hV] at hopn
 obtain ⟨mk,hRk,hok,hnk,hfk⟩:=Zoi hOwn
 generalize (List.range cs.length).map kvs = V' at hRk hopn
 have c5:=(hc.made k5 hpn (St.Z2e hopn)).addL (m:=mk) hok hnk (fun x hx ho => ((hfk x hx).1 (hc.old ho)).elim) (fun x hx => by
  rw [List.map_cons,List.mem_cons]
  rintro (e | hm)
  ·exact (hfk x hx).2 e
  ·obtain ⟨y,hy,e⟩:=List.mem_map.1 hm
   exact (hfk x hx).1 (e ▸ hc.ob hy))
 refine q pn ((pn,C (encs (rcs cs V'))) :: mk) s5 ⟨V',mk,List.Perm.refl _,hRk⟩ (c5.perm ?_)
 exact List.perm_middle
end Go.Proofs
end
section
open Go Go.AM
namespace Go.Proofs
open Classical in
noncomputable def one (x a:Pos × AObj):Nat:=if x = a then 1 else 0
noncomputable def cnt:Lets→Pos × AObj→Nat
 | [],_ => 0
 | x :: l,a => one x a + cnt l a
theorem Z1e (a:Pos × AObj):cnt [] a = 0:=rfl
theorem Z0j (x a:Pos × AObj) (l:Lets):cnt (x :: l) a = one x a + cnt l a:=rfl
theorem Z0k (a:Pos × AObj):∀ (l m:Lets),cnt (l ++ m) a = cnt l a + cnt m a
 | [],m => by simp [cnt]
 | x :: l,m => by rw [List.cons_append,Z0j,Z0j,Z0k a l m]; omega
theorem Z6o {l m:Lets} (h:l.Perm m) (a:Pos × AObj):cnt l a = cnt m a:=by
 induction h with
 | nil => rfl
 | cons x _ ih => rw [Z0j,Z0j,ih]
 | swap x y l => rw [Z0j,Z0j,Z0j,Z0j]; omega
 | trans _ _ h1 h2 => rw [h1,h2]
theorem Zqk {x:Pos × AObj}:∀ {l:Lets},0 < cnt l x→x ∈ l
 | [],h => by simp [cnt] at h
 | y :: l,h => by
  rw [Z0j] at h
  by_cases e:y = x
  ·simp [e]
  ·have:one y x = 0:=by unfold one; rw [if_neg e]
   rw [this,Nat.zero_add] at h
   exact List.mem_cons_of_mem _ (Zqk h)
theorem Zo1 (x:Pos × AObj):one x x = 1:=by unfold one; rw [if_pos rfl]
theorem Z0o:∀ {l m:Lets},(∀ a,cnt l a = cnt m a)→l.Perm m
 | [],m,h => by
  cases m with
  | nil => exact List.Perm.refl _
  | cons x m =>
   have:=h x
   rw [Z0j,Zo1] at this
   simp [cnt] at this
   omega
 | x :: l,m,h => by
  have hx:x ∈ m:=Zqk (by rw [← h x,Z0j,Zo1]; omega)
  obtain ⟨i,hi⟩:=List.getElem?_of_mem hx
  have hp:=Z8f m i x hi
  have:l.Perm (m.eraseIdx i):=Z0o fun a => by
   have h1:=h a
   have h2:=Z6o hp a
   rw [Z0j] at h1 h2
   omega
  exact (List.Perm.cons x this).trans hp.symm
end Go.Proofs
end
section
open Go Go.AM
namespace Go.Proofs
set_option maxRecDepth 100000
theorem Z12.nils:∀ {K:List (List Int)} {V:List AVal} {m:Lets} (k:Nat),Z12 K V m→Z12 (K ++ List.replicate k []) (V ++ List.replicate k .nilSlice) m
 | K,V,m,0,h => by simpa using h
 | K,V,m,k + 1,h => by
  have:=(Z12.nils k h).snoc (mk:=[]) (ks:=[]) (kv:=.nilSlice) (.inl ⟨rfl,rfl,rfl⟩)
  rw [List.replicate_succ',List.replicate_succ',← List.append_assoc,← List.append_assoc]
  simpa using this
theorem Zuu {s:St} {nds:List ND} {Nv Lv Cv:AVal} {L:List Nat} {cls:List Int} {M:Nat} {Q:AVal→St→Prop} (hw:s.Wf) (hN:Z1o s Nv nds) (hL:Z0g s Lv (nats L)) (hC:Z0g s Cv cls)
  (hn:nds.length ≤ 1000) (hLl:L.length ≤ 1000) (hcl:cls.length = nds.length) (hlt:∀ a ∈ L,a < nds.length)
  (hk:∀ (a:Nat) nd,nds[a]? = some nd→nd.2.length ≤ 4∧∀ k ∈ nd.2,0 ≤ k∧k < nds.length) (hnm:∀ (a:Nat) nd,a ∈ L→nds[a]? = some nd→nd.1 ≠ [])
  (hord:∀ (j a:Nat),L[j]? = some a→∃ c:Nat,cls[a]? = some (c:Int)∧c ≤ (outF cls nds (L.take j)).length) (hM:(outF cls nds L).length = M)
  (q:∀ Bn mn s',Zby Bn (outF cls nds L) mn→Ctx s (fun _ => False) mn s'→Q (.agg [.slice Bn 0 M (.lim M),.int .i64 0]) s'):Z0e Tryd.prog 71 [Nv,Lv,Cv,.int .i64 M] s Q:=by
 have hML:M ≤ L.length:=by rw [← hM]; exact Zog _ _ _
 have hz1:M ≤ Z0l:=by unfold Z0l; omega
 have hz2:M * 40 ≤ Z0l:=by unfold Z0l; omega
 have hNt:=hN.ntup
 have hLt:=hL.ntup
 have hCt:=hC.ntup
 refine Z08 (Z0i (by decide)) fi71 rfl (by decide) rfl ?_
 refine Z00 ?_
 simp
 have d0:=(Ctx.start (fun _ => False) hw).alloc (C [.nilSlice,.int .i64 0])
 generalize s.alloc (.cells [.nilSlice,.int .i64 0] false) = s1 at d0 ⊢
 generalize s.next = B8 at d0 ⊢
 refine Z00 ?_
 simp [hz1,hz2]
 have hz0:(List.replicate M [AVal.str [],.nilSlice]).flatten = Z0c (padF M []) (List.replicate M .nilSlice):=by
  simp [padF,Z0c,penc,List.zipWith_replicate,List.flatMap]
 rw [hz0]
 have d1:=d0.alloc (C (Z0c (padF M []) (List.replicate M .nilSlice)))
 generalize s1.alloc (.cells (Z0c (padF M []) (List.replicate M .nilSlice)) false) = s2 at d1 ⊢
 generalize s1.next = Bn at d1 ⊢
 have d2:=(d1.alloc (C [.nilSlice,.int .i64 0])).put 0 rfl (C [.slice Bn 0 M (.lim M),.int .i64 0])
 simp only [List.set_cons_zero] at d2
 generalize (s2.alloc (.cells [.nilSlice,.int .i64 0] false)).put s2.next (.cells [.slice Bn 0 M (.lim M),.int .i64 0] false) = s3 at d2 ⊢
 generalize s2.next = B9 at d2 ⊢
 have hR0:Z12 ((padF M []).map Prod.snd) (List.replicate M .nilSlice) []:=by
  have:=Z12.nils (K:=[]) (V:=[]) (m:=[]) M rfl
  simpa [padF] using this
 have d3:Ctx s (fun _ => False) ((B9,C [.slice Bn 0 M (.lim M),.int .i64 0]) :: (B8,C [.nilSlice,.int .i64 0]) :: (Bn,C (Z0c (padF M []) (List.replicate M .nilSlice))) :: []) s3:=d2.perm (Z0o fun x => by
  simp only [Z0j,Z1e]
  omega)
 refine AM.wp_seq ?_
 refine Z00 ?_
 simp [hLt,hL.len]
 refine AM.wp_block ?_
 refine AM.wp_loop (fun k t s' => ∃ (j:Nat) (V:List AVal) (mr:Lets),j ≤ L.length∧k = L.length - j∧PT.get (posOf 0) t = some Nv∧PT.get (posOf 2) t = some Cv∧PT.get (posOf 8) t = some (.ptr B8 0)∧PT.get (posOf 9) t = some (.ptr B9 0) ∧
   PT.get (posOf 18) t = some Lv∧PT.get (posOf 19) t = some (.int .i64 L.length)∧PT.get (posOf 20) t = some (.int .i64 j)∧Z12 ((padF M (outF cls nds (L.take j))).map Prod.snd) V mr ∧
   Ctx s (fun _ => False) ((B9,C [.slice Bn 0 M (.lim M),.int .i64 0]) :: (B8,C [.nilSlice,.int .i64 0]) :: (Bn,C (Z0c (padF M (outF cls nds (L.take j))) V)) :: mr) s') L.length
  ⟨0,List.replicate M .nilSlice,[],by simp,by simp,by simp,by simp,by simp,by simp,by simp,by simp,by simp,by simpa [outF] using hR0,by simpa [outF] using d3⟩ ?_
 rintro k t s' ⟨j,V,mr,hj,rfl,t0,t2,t8,t9,t18,t19,t20,hR,d⟩
 refine Z00 ?_
 simp [t19,t20]
 refine AM.wp_seq ?_
 refine AM.Z04 ?_
 by_cases hlt':j < L.length
 ·have hwr:IntKind.wrap .i64 ((j:Int) + 1) = ((j + 1:Nat):Int):=by rw [IntWalk.i64_in _ (by omega)]; omega
  obtain ⟨a,ha⟩:∃ a,L[j]? = some a:=⟨_,List.getElem?_eq_getElem hlt'⟩
  have haL:=List.mem_of_getElem? ha
  have han:=hlt a haL
  obtain ⟨nd,hnd⟩:∃ nd,nds[a]? = some nd:=⟨_,List.getElem?_eq_getElem han⟩
  obtain ⟨c,hc,hcle⟩:=hord j a ha
  have hnx:=Zm2 (cls:=cls) (nds:=nds) ha
  have hst:Z2k cls nds (outF cls nds (L.take j)) a = if (c:Int) < (outF cls nds (L.take j)).length then outF cls nds (L.take j) else outF cls nds (L.take j) ++ [Z42 cls nd]:=by
   unfold Z2k
   rw [hc,hnd]
  rw [hst] at hnx
  have hmono:=Zg5 cls nds L (j + 1)
  have hmono0:=Zg5 cls nds L j
  obtain ⟨hk4,hkin⟩:=hk a nd hnd
  have hndn:=hnm a nd haL hnd
  have hnames:∀ x ∈ outF cls nds (L.take j),x.1 ≠ []:=fun x hx => by
   obtain ⟨b,nd',h1,h2,rfl⟩:=Zek hx
   exact hnm b nd' (List.mem_of_mem_take h1) h2
  have hpl:(padF M (outF cls nds (L.take j))).length = M:=Zoj (by omega)
  have hVl:V.length = M:=by have:=hR.len; simpa [hpl] using this
  have hcM:c < M:=by
   by_cases h:(c:Int) < (outF cls nds (L.take j)).length
   ·omega
   ·rw [if_neg h] at hnx
    rw [hnx] at hmono
    simp at hmono
    omega
  have hel:=Z4r (ns:=padF M (outF cls nds (L.take j))) (V:=V) (by omega)
  rcases hL with ⟨_,e0⟩ | ⟨bl,ol,cl,cellsl,rfl,hbl,hcsl,hlel,hell⟩
  ·have:L = []:=by simpa using e0
   rw [this] at hlt'
   simp at hlt'
  rw [List.length_map] at t18
  have hgl:=hell j (a:Int) (by rw [List.getElem?_map,ha]; rfl)
  rcases hC with ⟨_,e0⟩ | ⟨bx,ox,cx,cellsx,rfl,hbx,hcsx,hlex,helx⟩
  ·rw [e0] at hc
   simp at hc
  have hgx:=helx a (c:Int) hc
  have hax:a < cls.length:=by omega
  rcases hN with ⟨_,e0⟩ | ⟨bn,on,cn,cellsn,rfl,hbn,hcsn,hlen,heln⟩
  ·rw [e0] at hnd
   simp at hnd
  obtain ⟨hgn,kv,hgk,hkv⟩:=heln a _ hnd
  have rl:∀ {m:Lets} {s'':St},Ctx s (fun _ => False) m s''→s''.cells bl = some cellsl:=fun d => (d.Z0h.cells hbl).trans hcsl
  have rx:∀ {m:Lets} {s'':St},Ctx s (fun _ => False) m s''→s''.cells bx = some cellsx:=fun d => (d.Z0h.cells hbx).trans hcsx
  have rn:∀ {m:Lets} {s'':St},Ctx s (fun _ => False) m s''→s''.cells bn = some cellsn:=fun d => (d.Z0h.cells hbn).trans hcsn
  simp [hlt']
  refine AM.wp_skip ?_
  simp
  refine AM.wp_seq ?_
  refine AM.wp_block ?_
  refine Z00 ?_
  simp [t18,t20,hlt',rl d,hgl]
  refine Z00 ?_
  simp [t2,t9,hax,rx d,hgx,d.c 0 rfl,hcM]
  refine AM.wp_seq ?_
  by_cases hx:(c:Int) < (outF cls nds (L.take j)).length
  ·rw [if_pos hx] at hnx
   obtain ⟨x,hxx⟩:∃ x,(outF cls nds (L.take j))[c]? = some x:=⟨_,List.getElem?_eq_getElem (by omega)⟩
   have hxn:=hnames x (List.mem_of_getElem? hxx)
   obtain ⟨kv',g1,_⟩:=hR.each (i:=c) (ks:=x.2) (by rw [List.getElem?_map,Zok hxx]; rfl)
   obtain ⟨e1,_⟩:=Z6i (Zok (M:=M) hxx) g1
   refine Z00 ?_
   simp [d.c 2 rfl,e1]
   refine AM.Z04 ?_
   simp [hxn]
   refine AM.wp_exit ?_
   simp
   refine AM.wp_region ?_
   simp [t20,hwr]
   refine ⟨L.length - (j + 1),by omega,j + 1,by omega,by omega,by simp [t0],by simp [t2],by simp [t8],by simp [t9],by simp [t18],by simp [t19],by simp,V,mr,by rw [hnx]; exact hR,by rw [hnx]; exact d⟩
  ·rw [if_neg hx] at hnx
   have hce:c = (outF cls nds (L.take j)).length:=by omega
   generalize hout:outF cls nds (L.take j) = out at *
   subst hce
   have hnew:=Zx4 (l:=out) hcM
   obtain ⟨kv0,m1,m2,g1,g2,g3,g4⟩:=hR.at (i:=out.length) (ks:=[]) (by rw [List.getElem?_map,hnew]; rfl)
   obtain rfl:m1 = []:=by
    rcases g2 with ⟨_,_,h⟩ | ⟨_,_,h,_⟩
    ·exact h
    ·exact (h rfl).elim
   obtain ⟨e1,e2⟩:=Z6i hnew g1
   refine Z00 ?_
   simp [d.c 2 rfl,e1]
   refine AM.Z04 ?_
   simp
   refine AM.wp_skip ?_
   simp
   have hl1:=Zjs nd.1 nd.2 hnew g1
   have hb1:out.length * 2 + 1 ≤ (Z0c (padF M out) V).length:=by omega
   refine Z00 ?_
   simp [t0,han,rn d,hgn,d.o 2 rfl,hb1]
   simp [lay] at hl1
   rw [hl1]
   have d1:=d.put 2 rfl (C (Z0c ((padF M out).set out.length nd) V))
   simp only [List.set_cons_succ,List.set_cons_zero] at d1
   generalize s'.put Bn (.cells (Z0c ((padF M out).set out.length nd) V) false) = s4 at d1 ⊢
   have hn1:((padF M out).set out.length nd)[out.length]? = some nd:=by rw [List.getElem?_set_self (by omega)]
   have hset:=Zol nd hcM
   generalize hn2:(padF M out).set out.length nd = ns1 at d1 hn1 ⊢
   have hkt:=hkv.ntup
   have hz3:nd.2.length ≤ Z0l:=by unfold Z0l; omega
   have hz4:nd.2.length * 8 ≤ Z0l:=by unfold Z0l; omega
   have hl2:=Zjt (.slice s4.next 0 nd.2.length (.lim nd.2.length)) hn1 g1
   have hel1:(Z0c ns1 V).length = 2 * M:=by
    have e:ns1.length = M:=by rw [← hn2]; simp [hpl]
    rw [Z4r (by omega),e]
   have hb2:out.length * 2 + 1 + 1 ≤ (Z0c ns1 V).length:=by omega
   have d2:=(d1.alloc (C (List.replicate nd.2.length (.int .i64 0))))
   refine Z00 ?_
   simp [t0,han,rn d1,hgk,hkt,hkv.len,hz3,hz4,d2.o 3 rfl,hb2]
   simp [lay] at hl2
   rw [hl2]
   have d3:=d2.put 3 rfl (C (Z0c ns1 (V.set out.length (.slice s4.next 0 nd.2.length (.lim nd.2.length)))))
   simp only [List.set_cons_succ,List.set_cons_zero] at d3
   generalize (s4.alloc (.cells (List.replicate nd.2.length (.int .i64 0)) false)).put Bn (.cells (Z0c ns1 (V.set out.length (.slice s4.next 0 nd.2.length (.lim nd.2.length)))) false) = s5 at d3 ⊢
   generalize s4.next = Bk at d3 ⊢
   have hV2:(V.set out.length (AVal.slice Bk 0 nd.2.length (.lim nd.2.length)))[out.length]? = some (.slice Bk 0 nd.2.length (.lim nd.2.length)):=by rw [List.getElem?_set_self (by omega)]
   have hel2:(Z0c ns1 (V.set out.length (.slice Bk 0 nd.2.length (.lim nd.2.length)))).length = 2 * M:=by
    have e:ns1.length = M:=by rw [← hn2]; simp [hpl]
    rw [Z4r (by simp; omega),e]
   obtain ⟨_,e3⟩:=Z6i hn1 hV2
   have d4:Ctx s (fun _ => False) ((B9,C [.slice Bn 0 M (.lim M),.int .i64 0]) :: (B8,C [.nilSlice,.int .i64 0]) :: (Bn,C (Z0c ns1 (V.set out.length (.slice Bk 0 nd.2.length (.lim nd.2.length))))) :: (Bk,C (List.replicate nd.2.length (.int .i64 0))) :: mr) s5:=d3.perm (Z0o fun x => by
    simp only [Z0j]
    omega)
   generalize hV2e:V.set out.length (AVal.slice Bk 0 nd.2.length (.lim nd.2.length)) = V2 at hV2 hel2 e3 d4 ⊢
   refine AM.wp_seq ?_
   refine AM.wp_region ?_
   simp [t0,han,rn d4,hgk,hkt,d4.c 2 rfl,e3]
   refine Zrp (pre:=[(B9,C [.slice Bn 0 M (.lim M),.int .i64 0]),(B8,C [.nilSlice,.int .i64 0]),(Bn,C (Z0c ns1 V2))]) (r:=mr) (ks:=nd.2) (kv:=kv) (c:=.lim nd.2.length) (by simpa using d4) (by simp) (by simp) (hkv.keep d4.Z0h) fun _ s6 d5 => ?_
   simp only [List.cons_append,List.nil_append] at d5
   refine Z00 ?_
   simp [d5.c 2 rfl,e3]
   refine AM.wp_block ?_
   refine AM.wp_loop (fun k t s' => ∃ i:Nat,i ≤ nd.2.length∧k = nd.2.length - i∧PT.get (posOf 0) t = some (.slice bn on nds.length cn)∧PT.get (posOf 2) t = some (.slice bx ox cls.length cx)∧PT.get (posOf 8) t = some (.ptr B8 0)∧PT.get (posOf 9) t = some (.ptr B9 0) ∧
     PT.get (posOf 18) t = some (.slice bl ol L.length cl)∧PT.get (posOf 19) t = some (.int .i64 L.length)∧PT.get (posOf 20) t = some (.int .i64 j)∧PT.get (posOf 12) t = some (.ptr Bn (out.length * 2)) ∧
     PT.get (posOf 67) t = some (.slice Bk 0 nd.2.length (.lim nd.2.length))∧PT.get (posOf 68) t = some (.int .i64 nd.2.length)∧PT.get (posOf 69) t = some (.int .i64 i) ∧
     Ctx s (fun _ => False) ((B9,C [.slice Bn 0 M (.lim M),.int .i64 0]) :: (B8,C [.nilSlice,.int .i64 0]) :: (Bn,C (Z0c ns1 V2)) :: (Bk,C (ints (Z4k (clOf cls) nd.2 i))) :: mr) s') nd.2.length
    ⟨0,by simp,by simp,by simp [t0],by simp [t2],by simp [t8],by simp [t9],by simp [t18],by simp [t19],by simp [t20],by simp,by simp,by simp,by simp,by rw [Zrg]; exact d5⟩ ?_
   rintro k t s' ⟨i,hi,rfl,t0,t2,t8,t9,t18,t19,t20,t12,t67,t68,t69,d⟩
   refine Z00 ?_
   simp [t68,t69]
   refine AM.wp_seq ?_
   refine AM.Z04 ?_
   by_cases hilt:i < nd.2.length
   ·have hwi:IntKind.wrap .i64 ((i:Int) + 1) = ((i + 1:Nat):Int):=by rw [IntWalk.i64_in _ (by omega)]; omega
    obtain ⟨kk,hkk⟩:∃ kk,nd.2[i]? = some kk:=⟨_,List.getElem?_eq_getElem hilt⟩
    obtain ⟨hk0,hk1⟩:=hkin kk (List.mem_of_getElem? hkk)
    obtain ⟨kc,rfl⟩:∃ n:Nat,kk = (n:Int):=⟨kk.toNat,by omega⟩
    have hkc:kc < cls.length:=by omega
    obtain ⟨cc,hcc⟩:∃ cc,cls[kc]? = some cc:=⟨_,List.getElem?_eq_getElem hkc⟩
    have hto:clOf cls (kc:Int) = cc:=by unfold clOf; rw [Int.toNat_natCast,hcc]; rfl
    have hgxx:=helx kc cc hcc
    have hgm:(ints (Z4k (clOf cls) nd.2 i))[i]? = some (.int .i64 kc):=by rw [List.getElem?_map,Zta hkk]; rfl
    have hlay:lay (ints (Z4k (clOf cls) nd.2 i)) i [.int .i64 cc] = ints (Z4k (clOf cls) nd.2 (i + 1)):=by
     have:=Z5z (Z4k (clOf cls) nd.2 i) i (clOf cls kc) (by rw [Zl8]; omega)
     rw [Zrf hkk,hto] at this
     exact this
    have hml:(ints (Z4k (clOf cls) nd.2 i)).length = nd.2.length:=by simp [Zl8]
    simp [hilt]
    refine AM.wp_skip ?_
    simp
    refine AM.wp_seq ?_
    refine AM.wp_block ?_
    refine Z00 ?_
    have hown:=d.c 3 rfl
    have hown':=d.o 3 rfl
    have dd:=d.put 3 rfl (C (ints (Z4k (clOf cls) nd.2 (i + 1))))
    simp only [List.set_cons_succ,List.set_cons_zero] at dd
    generalize hmv:ints (Z4k (clOf cls) nd.2 i) = mv at hgm hlay hml hown hown' d
    have hlei:i + 1 ≤ mv.length:=by omega
    simp [t67,t69,hilt,hown,hgm]
    refine AM.wp_region ?_
    simp [t12,t67,t69,t2,hilt,d.c 2 rfl,e3,hkc,rx d,hgxx,hown',hlei]
    simp [lay] at hlay
    rw [hlay]
    refine AM.wp_region ?_
    simp [t69,hwi]
    exact ⟨nd.2.length - (i + 1),by omega,i + 1,by omega,by omega,by simp [t0],by simp [t2],by simp [t8],by simp [t9],by simp [t18],by simp [t19],by simp [t20],by simp [t12],by simp [t67],by simp [t68],by simp,dd⟩
   ·simp [hilt]
    refine AM.wp_exit ?_
    simp
    have hie:i = nd.2.length:=by omega
    subst hie
    rw [Zt9] at d
    have hcm:nd.2.map (clOf cls) = (Z42 cls nd).2:=rfl
    rw [hcm] at d
    have hset':=Zol (Z42 cls nd) hcM
    have hname:Z0c ns1 V2 = Z0c (padF M (out ++ [Z42 cls nd])) V2:=by
     refine Zpw V2 ?_
     rw [← hn2,← hset',List.map_set,List.map_set]
     rfl
    rw [hname] at d
    have hfin:∃ mr',Z12 ((padF M (out ++ [Z42 cls nd])).map Prod.snd) V2 mr'∧Ctx s (fun _ => False) ((B9,C [.slice Bn 0 M (.lim M),.int .i64 0]) :: (B8,C [.nilSlice,.int .i64 0]) :: (Bn,C (Z0c (padF M (out ++ [Z42 cls nd])) V2)) :: mr') s':=by
     have g5:∀ (ks':List Int) (kv':AVal) (m1':Lets),RowR kv' ks' m1'→Z12 (((padF M out).map Prod.snd).set out.length ks') (V.set out.length kv') (m1' ++ m2):=g4
     have hms:(padF M (out ++ [Z42 cls nd])).map Prod.snd = ((padF M out).map Prod.snd).set out.length (Z42 cls nd).2:=by rw [← hset',List.map_set]
     rw [hms,← hV2e]
     rw [← hV2e] at d
     by_cases h0:nd.2 = []
     ·refine ⟨[] ++ m2,g5 _ _ [] (.inl ⟨by simp [Z42,h0],by simp [h0],rfl⟩),(d.sub (.cons_cons _ (.cons_cons _ (.cons_cons _ (List.sublist_cons_self _ _))))).perm ?_⟩
      exact List.Perm.cons _ (List.Perm.cons _ (List.Perm.cons _ g3))
     ·refine ⟨[(Bk,C (ints (Z42 cls nd).2))] ++ m2,g5 _ _ _ (.inr ⟨Bk,.lim nd.2.length,by simpa [Z42] using h0,by simp [Z42],rfl⟩),d.perm ?_⟩
      exact List.Perm.cons _ (List.Perm.cons _ (List.Perm.cons _ (List.Perm.cons _ g3)))
    obtain ⟨mr',hR',d'⟩:=hfin
    refine AM.wp_region ?_
    simp [t20,hwr]
    refine ⟨L.length - (j + 1),by omega,j + 1,by omega,by omega,by simp [t0],by simp [t2],by simp [t8],by simp [t9],by simp [t18],by simp [t19],by simp,V2,mr',by rw [hnx]; exact hR',by rw [hnx]; exact d'⟩
 ·simp [hlt']
  refine AM.wp_exit ?_
  simp
  have hje:j = L.length:=by omega
  subst hje
  rw [List.take_length] at hR d
  have hpad:padF M (outF cls nds L) = outF cls nds L:=by unfold padF; rw [hM,Nat.sub_self]; simp
  rw [hpad] at hR d
  refine Z00 ?_
  simp [t8,t9,d.c 0 rfl,d.o 1 rfl]
  have e:=d.put 1 rfl (C [.slice Bn 0 M (.lim M),.int .i64 0])
  simp only [List.set_cons_succ,List.set_cons_zero] at e
  generalize s'.put B8 (.cells [.slice Bn 0 M (.lim M),.int .i64 0] false) = s4 at e ⊢
  refine AM.wp_ret ?_
  simp [t8,e.c 1 rfl]
  exact q Bn _ s4 ⟨V,mr,List.Perm.refl _,hR⟩ e.tail.tail
theorem Zal {ns:List ND} (h:GrOk ns) {roots:List Nat} (hr:∀ r ∈ roots,r < ns.length):Closed ns (bfsF (kidG ns) ns.length roots)∧(bfsF (kidG ns) ns.length roots).Nodup∧(∀ a ∈ bfsF (kidG ns) ns.length roots,a < ns.length)∧∀ r ∈ roots,r ∈ bfsF (kidG ns) ns.length roots:=by
 obtain ⟨h1,h2,h3,h4,_⟩:=Zhx (n:=ns.length) h.Zdi roots hr
 refine ⟨⟨h2,fun a ha x hx => ?_⟩,h1,h2,h4⟩
 refine ⟨(h x (List.mem_of_getElem? hx)).1,fun k hk => h3 a ha _ ?_⟩
 rw [Zed hx]
 exact List.mem_map.2 ⟨k,hk,rfl⟩
theorem Z6g {ns:List ND} {root:Int} (h:Z0z ns root = 0):1 ≤ ns.length∧ns.length ≤ 60∧GrOk ns∧(∀ nd ∈ ns,Z1x nd.1 = true)∧0 ≤ root∧root < ns.length:=by
 unfold Z0z at h
 split at h
 ·cases h
 ·rename_i h1
  split at h
  ·cases h
  ·rename_i h2
   split at h
   ·cases h
   ·rename_i h3
    simp only [not_or,Bool.not_eq_false,List.all_eq_true,decide_eq_true_eq,Bool.and_eq_true] at h1 h2 h3
    exact ⟨by omega,by omega,fun nd hnd => ⟨h1.2.2 nd hnd,fun k hk => h3.2 nd hnd k hk⟩,h2,h3.1⟩
theorem Zuh {nm:List UInt8} (h:Z1x nm = true):nm ≠ []:=by
 rintro rfl
 simp [Z1x] at h
noncomputable def Z0v (ns:List ND) (r:Nat):List ND:=outF (clsF ns (bfsF (kidG ns) ns.length [r])) ns (bfsF (kidG ns) ns.length [r])
def Z7b (s:St) (nv:AVal) (ns:List ND):Prop:=(Z1q nv = some 0∧ns = []) ∨ ∃ p c,nv = .slice p 0 ns.length c∧NodesG s p ns
theorem Z7b.keep {s s':St} {nv:AVal} {ns:List ND} (h:Z7b s nv ns) (k:Keeps s s'):Z7b s' nv ns:=by
 rcases h with h | ⟨p,c,h1,h2⟩
 ·exact .inl h
 ·exact .inr ⟨p,c,h1,h2.keep k⟩
theorem Z7b.at {s:St} {nv:AVal} {ns:List ND} (h:Z7b s nv ns):Z1o s nv ns:=by
 rcases h with h | ⟨p,c,rfl,h2⟩
 ·exact .inl h
 ·exact h2.of c
theorem Zlw {s:St} {p:Pos} {ns:List ND} {c:Cap} (hne:ns ≠ []) (h:Z1o s (.slice p 0 ns.length c) ns):NodesG s p ns:=by
 rcases h with ⟨_,h⟩ | ⟨b,o,c',cs,e,h1,h2,h3,h4⟩
 ·exact (hne h).elim
 ·cases e
  refine ⟨h1,cs,h2,by omega,fun i nd hi => ?_⟩
  have:=h4 i nd hi
  rwa [Nat.zero_add] at this
theorem Z3n.at0 {s0 s:St} {W:Pos→Prop} {nv:AVal} {ns:List ND} {m:Lets} (h:Z3n nv ns m) (hc:Ctx s0 W m s):Z7b s nv ns:=by
 have h':=h.at hc
 rcases h with ⟨rfl,rfl,_⟩ | ⟨q,V,mr,hne,rfl,hp,hR⟩
 ·exact .inl ⟨rfl,rfl⟩
 ·exact .inr ⟨q,_,rfl,Zlw hne h'⟩
theorem Zby.at0 {s0 s:St} {W:Pos→Prop} {Bn:Pos} {ns:List ND} {m:Lets} (h:Zby Bn ns m) (c:Cap) (hc:Ctx s0 W m s) (hne:ns ≠ []):Z7b s (.slice Bn 0 ns.length c) ns :=
 .inr ⟨Bn,c,rfl,Zlw hne (h.at c hc)⟩
theorem Zi9 {s:St} {nv:AVal} {ns:List ND} {root:Int} {Q:AVal→St→Prop} (hw:s.Wf) (hN:Z7b s nv ns) (hsm:Zbo ns) (hmax:ns.length ≤ 2 ^ 62)
  (q0:∀ s',Keeps s s'→Z0z ns root ≠ 0→Q (.tup [.agg [.nilSlice,.int .i64 0],.int .i64 (Z0z ns root)]) s')
  (q:∀ Bn mn s',Z0z ns root = 0→Zby Bn (Z0v ns root.toNat) mn→Ctx s (fun _ => False) mn s'→Q (.tup [.agg [.slice Bn 0 (Z0v ns root.toNat).length (.lim (Z0v ns root.toNat).length),.int .i64 0],.int .i64 0]) s') :
  Z0e Tryd.prog 23 [.agg [nv,.int .i64 root]] s Q:=by
 have hNt:=hN.at.ntup
 have hNc:=hN.at.Z9f
 refine Z08 (Z0i (by decide)) fi23 rfl (by decide) rfl ?_
 refine Z00 ?_
 simp [hNt,hNc]
 have d1:=(Ctx.start (fun _ => False) hw).alloc (C [nv,.int .i64 root])
 generalize s.alloc (.cells [nv,.int .i64 root] false) = s1 at d1 ⊢
 generalize s.next = B1 at d1 ⊢
 have d2:=d1.alloc (C [.nilSlice,.int .i64 0])
 generalize s1.alloc (.cells [.nilSlice,.int .i64 0] false) = s2 at d2 ⊢
 generalize s1.next = B2 at d2 ⊢
 refine AM.wp_seq ?_
 refine Z00 ?_
 simp [d2.c 1 rfl,hNt,hNc]
 have d3:=d2.alloc (C [nv,.int .i64 root])
 generalize s2.alloc (.cells [nv,.int .i64 root] false) = s3 at d3 ⊢
 generalize s2.next = T at d3 ⊢
 have hT:Z70 s3 (.slice T 0 1 (.lim 1)) [(ns,root)]:=by
  refine .inr ⟨T,0,.lim 1,_,rfl,d3.oi 0 rfl,d3.c 0 rfl,by simp,fun i t hi => ?_⟩
  cases i with
  | succ i => simp at hi
  | zero =>
   simp at hi
   subst hi
   exact ⟨nv,rfl,rfl,hN.at.keep d3.Z0h⟩
 refine Z02 ?_
 refine Zrn d3.wf hT (by
  intro t ht
  simp at ht
  subst ht
  exact ⟨hmax,hsm⟩) (by simp) fun s4 k4 => ?_
 have d4:=d3.keeps k4
 have hcf:Z8g [(ns,root)] = Z0z ns root:=by
  unfold Z8g
  simp only [List.find?_cons,List.find?_nil]
  by_cases h:Z0z ns root = 0
  ·simp [h]
  ·simp [h]
 rw [hcf]
 simp
 refine Z00 ?_
 simp
 refine AM.Z04 ?_
 by_cases hz:Z0z ns root = 0
 ·simp [hz]
  refine AM.wp_skip ?_
  simp
  obtain ⟨o1,o2,hO,hnm,r0,r1⟩:=Z6g hz
  obtain ⟨rt,rfl⟩:∃ n:Nat,root = (n:Int):=⟨root.toNat,by omega⟩
  rw [Int.toNat_natCast] at q
  refine Z00 ?_
  simp [d4.c 2 rfl,hNt,hNc]
  have d5:=d4.alloc (C [.int .i64 rt])
  generalize s4.alloc (.cells [.int .i64 rt] false) = s5 at d5 ⊢
  generalize s4.next = T2 at d5 ⊢
  have hr:∀ a ∈ [rt],a < ns.length:=by simp; omega
  refine Z02 ?_
  refine Zn2 (roots:=[rt]) d5.wf (hN.at.keep d5.Z0h) hO (by omega) ?_ (by simp) hr fun lv mg s6 hg hx => ?_
  ·have e:=Z4f (ks:=[(rt:Int)]) d5.wf (d5.o 0 rfl) (.lim 1)
   exact e
  obtain ⟨hC,hnd,hlt,hroot⟩:=Zal hO hr
  have hLl:=Z2o hnd hlt
  unfold Z0v at q
  generalize bfsF (kidG ns) ns.length [rt] = L at hg hC hnd hlt hroot hLl q
  have d6:=d5.keeps hx.Z0h
  have hLv:Z0g s6 lv (nats L):=(hg.row.kid fun y hy => hx.own y hy).ints hx.wf
  rcases (hN.keep d6.Z0h) with ⟨_,e0⟩ | ⟨p,c0,rfl,hG⟩
  ·rw [e0] at o1
   simp at o1
  have hks:∀ (a:Nat) nd,ns[a]? = some nd→nd.2.length ≤ 4∧∀ k ∈ nd.2,0 ≤ k∧k < ns.length:=fun a nd h => hO nd (List.mem_of_getElem? h)
  have hLne:L ≠ []:=by
   rintro rfl
   simpa using hroot rt (by simp)
  obtain ⟨R,g1,g2,g3⟩:=Zph hC hLne
  simp
  refine Z00 ?_
  simp [d6.c 3 rfl,hg.ntup]
  refine Z02 ?_
  refine Zpg d6.wf hG (by omega) hLv hC.lt (by omega) hks g1 g2 fun Bx s7 k7 _ hox => ?_
  have d7:=d6.keeps k7
  rw [Zqw hC g3,← Zoh hC]
  rw [g3] at hox
  simp
  refine Z00 ?_
  simp [d7.c 3 rfl,hg.ntup]
  refine Z02 ?_
  have hcl:=Z9n hC
  have hCx:Z0g s7 (.slice Bx 0 ns.length (.lim ns.length)) (clsF ns L):=by
   have:=Z4f d7.wf hox (.lim ns.length)
   rwa [hcl] at this
  refine Zuu (nds:=ns) d7.wf (hN.at.keep d7.Z0h) (hLv.keep k7) hCx (by omega) (by omega) hcl hC.lt hks (fun a nd _ h => Zuh (hnm nd (List.mem_of_getElem? h))) (fun j a hj => ?_) rfl fun Bn mn s8 hM hc8 => ?_
  ·have hj':=(List.getElem?_eq_some_iff.1 hj).1
   have hsp:L = L.take j ++ a :: L.drop (j + 1):=by
    have h1:=List.take_append_drop j L
    rw [List.drop_eq_getElem_cons hj'] at h1
    have h2:L[j] = a:=(List.getElem?_eq_some_iff.1 hj).2
    rw [h2] at h1
    exact h1.symm
   obtain ⟨c,e1,e2,_⟩:=Zno hC hsp
   exact ⟨c,e1,e2⟩
  have d8:Ctx s (fun _ => False) (mn ++ [(T2,C [.int .i64 rt]),(T,C [.slice p 0 ns.length c0,.int .i64 rt]),(B2,C [.nilSlice,.int .i64 0]),(B1,C [.slice p 0 ns.length c0,.int .i64 rt])]) s8:=Ctx.on (m:=[]) (by simpa using d7) (by simpa using hc8)
  have d9:=d8.perm (m':=(B2,C [.nilSlice,.int .i64 0]) :: (mn ++ [(T2,C [.int .i64 rt]),(T,C [.slice p 0 ns.length c0,.int .i64 rt]),(B1,C [.slice p 0 ns.length c0,.int .i64 rt])])) (Z0o fun x => by
   simp only [Z0j,Z0k,Z1e]
   omega)
  simp [d9.o 0 rfl]
  have d10:=d9.put 0 rfl (C [.slice Bn 0 (outF (clsF ns L) ns L).length (.lim (outF (clsF ns L) ns L).length),.int .i64 0])
  simp only [List.set_cons_zero] at d10
  refine AM.wp_ret ?_
  simp
  exact q Bn mn _ hz hM (d10.tail.sub (List.sublist_append_left mn _))
 ·simp [hz]
  refine Z00 ?_
  simp [d4.o 1 rfl]
  have d5:=d4.put 1 rfl (C [.nilSlice,.int .i64 0])
  simp only [List.set_cons_succ,List.set_cons_zero] at d5
  refine AM.wp_ret ?_
  simp
  exact q0 _ d5.Z0h hz
def Z5r (n:Nat) (nd:ND):ND:=(nd.1,nd.2.map fun k => (n:Int) + k)
def bigG (cs:List CV) (ts:List ND):List ND:=Z0f cs ++ ts.map (Z5r cs.length)
def bigL (cs:List CV) (ts:List ND):List Nat:=Z19 cs cs.length ++ (List.range ts.length).map fun i => cs.length + i
noncomputable def Z1p (cs:List CV) (ts:List ND):List Int:=(List.range ts.length).map fun i => Z3b (fun d => decide (((clsF (bigG cs ts) (bigL cs ts))[cs.length + i]?).getD 0 = d)) ((clsF (bigG cs ts) (bigL cs ts)).take cs.length)
theorem Zc1 (cs:List CV) (ts:List ND):(bigG cs ts).length = cs.length + ts.length:=by simp [bigG,Z0u]
theorem Zf6 {cs:List CV} {ts:List ND} {a:Nat} (h:a < cs.length):(bigG cs ts)[a]? = (Z0f cs)[a]?:=by
 unfold bigG
 rw [List.getElem?_append_left (by rw [Z0u]; exact h)]
theorem Zf7 {cs:List CV} {ts:List ND} (i:Nat):(bigG cs ts)[cs.length + i]? = (ts[i]?).map (Z5r cs.length):=by
 unfold bigG
 rw [List.getElem?_append_right (by rw [Z0u]; omega),Z0u,List.getElem?_map]
 congr 2
 omega
theorem Z9v {cs:List CV} {ts:List ND} {a:Nat}:a ∈ bigL cs ts ↔ (a < cs.length∧Z06 cs (a:Int) = true) ∨ (cs.length ≤ a∧a < cs.length + ts.length):=by
 unfold bigL
 rw [List.mem_append,Z5o]
 refine or_congr Iff.rfl ?_
 simp only [List.mem_map,List.mem_range]
 constructor
 ·rintro ⟨i,hi,rfl⟩
  omega
 ·rintro ⟨h1,h2⟩
  exact ⟨a - cs.length,by omega,by omega⟩
theorem Ztf {cs:List CV} {ts:List ND} (hO:HOk cs) (hT:GrOk ts):Closed (bigG cs ts) (bigL cs ts)∧∀ (a:Nat) nd,(bigG cs ts)[a]? = some nd→nd.2.length ≤ 4∧∀ k ∈ nd.2,0 ≤ k∧k < (bigG cs ts).length:=by
 have hg:∀ (a:Nat) nd,(bigG cs ts)[a]? = some nd→(a < cs.length∧(Z0f cs)[a]? = some nd) ∨ (cs.length ≤ a∧∃ x,ts[a - cs.length]? = some x∧nd = Z5r cs.length x):=by
  intro a nd h
  by_cases ha:a < cs.length
  ·rw [Zf6 ha] at h
   exact .inl ⟨ha,h⟩
  ·obtain ⟨i,rfl⟩:∃ i,a = cs.length + i:=⟨a - cs.length,by omega⟩
   rw [Zf7] at h
   cases hx:ts[i]? with
   | none => rw [hx] at h; cases h
   | some x =>
    rw [hx] at h
    refine .inr ⟨by omega,x,by rw [Nat.add_sub_cancel_left]; exact hx,?_⟩
    simpa using h.symm
 refine ⟨⟨fun a ha => ?_,fun a ha x hx => ?_⟩,fun a nd h => ?_⟩
 ·rw [Zc1]
  rcases Z9v.1 ha with h | h <;> omega
 ·rcases hg a x hx with ⟨h1,h2⟩ | ⟨h1,y,h2,rfl⟩
  ·have hcl:=hO.closed
   have ham:a ∈ Z19 cs cs.length:=by
    rcases Z9v.1 ha with h | h
    ·exact Z5o.2 h
    ·omega
   obtain ⟨h4,hk⟩:=hcl.kids a ham x h2
   refine ⟨h4,fun k hkm => ?_⟩
   exact List.mem_append_left _ (hk k hkm)
  ·obtain ⟨h4,hk⟩:=hT y (List.mem_of_getElem? h2)
   refine ⟨by simpa [Z5r] using h4,fun k hkm => ?_⟩
   obtain ⟨k',hk',rfl⟩:=List.mem_map.1 hkm
   obtain ⟨k0,k1⟩:=hk k' hk'
   exact Z9v.2 (.inr (by omega))
 ·rw [Zc1]
  rcases hg a nd h with ⟨h1,h2⟩ | ⟨h1,y,h2,rfl⟩
  ·obtain ⟨g1,g2⟩:=hO.Z97 a nd h2
   refine ⟨g1,fun k hk => ?_⟩
   obtain ⟨k0,k1⟩:=g2 k hk
   rw [Z0u] at k1
   omega
  ·obtain ⟨h4,hk⟩:=hT y (List.mem_of_getElem? h2)
   refine ⟨by simpa [Z5r] using h4,fun k hkm => ?_⟩
   obtain ⟨k',hk',rfl⟩:=List.mem_map.1 hkm
   obtain ⟨k0,k1⟩:=hk k' hk'
   omega
section
variable {sc s:St} {fr:FI} {t0:PT AVal} {n:Nat} {r:Lets} {Q:Ex→PT AVal→St→Prop}
theorem Zs4 {B9 B10:Pos} {nm:List UInt8} {kv0:AVal} {ks:List Int} (hk:Z0g sc kv0 ks) (h4:ks.length ≤ 4) (hn:n ≤ 400) (hin:∀ k ∈ ks,0 ≤ k∧k < 1000)
  (hc:Ctx sc (fun _ => False) ((B10,C [.str nm,.nilSlice]) :: (B9,C [.str nm,kv0]) :: r) s) (t7:PT.get (posOf 7) t0 = some (.int .i64 n)) (t9:PT.get (posOf 9) t0 = some (.ptr B9 0)) (t10:PT.get (posOf 10) t0 = some (.ptr B10 0))
  (q:∀ t s' kv mg,Fr [12,35,36,37,38] t0 t→Z1t kv (ks.map fun k => (n:Int) + k) mg→Ctx sc (fun _ => False) ((B10,C [.str nm,kv]) :: (B9,C [.str nm,kv0]) :: (mg ++ r)) s'→Q .normal t s'):wp Tryd.prog Ztw fr t0 s Q:=by
 have hkt:=hk.ntup
 refine Z00 ?_
 simp [t9,hc.c 1 rfl,hkt,hk.len]
 refine AM.wp_block ?_
 refine AM.wp_loop (fun m t s' => ∃ (j:Nat) (kv:AVal) (mg:Lets),j ≤ ks.length∧m = ks.length - j∧Fr [12,35,36,37,38] t0 t∧PT.get (posOf 35) t = some kv0∧PT.get (posOf 36) t = some (.int .i64 ks.length)∧PT.get (posOf 37) t = some (.int .i64 j) ∧
   Z1t kv ((ks.take j).map fun k => (n:Int) + k) mg∧Ctx sc (fun _ => False) ((B10,C [.str nm,kv]) :: (B9,C [.str nm,kv0]) :: (mg ++ r)) s') ks.length ⟨0,.nilSlice,[],by simp,by simp,?_,by simp,by simp,by simp,.inl ⟨by simp,rfl,rfl⟩,hc⟩ ?_
 ·intro y hy
  simp at hy
  simp [hy]
 rintro m t s' ⟨j,kv,mg,hj,rfl,hF,t35,t36,t37,hg,hc'⟩
 refine Z00 ?_
 simp [t36,t37]
 refine AM.wp_seq ?_
 refine AM.Z04 ?_
 by_cases hlt:j < ks.length
 ·have hwr:IntKind.wrap .i64 ((j:Int) + 1) = ((j + 1:Nat):Int):=by rw [IntWalk.i64_in _ (by omega)]; omega
  obtain ⟨k,hkk⟩:∃ k,ks[j]? = some k:=⟨_,List.getElem?_eq_getElem hlt⟩
  obtain ⟨k0,k1⟩:=hin k (List.mem_of_getElem? hkk)
  have hwk:IntKind.wrap .i64 ((n:Int) + k) = (n:Int) + k:=IntWalk.i64_in _ (by omega)
  have u7:=(hF 7 (by simp)).trans t7
  have u10:=(hF 10 (by simp)).trans t10
  rcases hk.keep hc'.Z0h with ⟨_,h0⟩ | ⟨b5,o5,c5,cells5,rfl,hb5,hcs5,hle5,hel5⟩
  ·rw [h0] at hlt
   simp at hlt
  have hgk:=hel5 _ _ hkk
  simp [hlt]
  refine AM.wp_skip ?_
  simp
  refine AM.wp_seq ?_
  refine AM.wp_block ?_
  refine Z00 ?_
  simp [t35,t37,hlt,hcs5,hgk]
  refine AM.wp_region ?_
  have hns:s'.obj s'.next = none:=hc'.wf _ (Z09 _)
  simp [u7,u10,hc'.c 0 rfl,hg.ntup,hg.cells,hns,hwk,Z1w,srcP]
  have d2:=hc'.alloc (C [.int .i64 (n + k)])
  generalize s'.alloc (.cells [.int .i64 (n + k)] false) = sB at d2 ⊢
  generalize s'.next = T at d2 ⊢
  refine Z65 (pre:=[(T,C [.int .i64 (n + k)]),(B10,C [.str nm,kv]),(B9,C [.str nm,.slice b5 o5 ks.length c5])]) d2 hg (by simp; omega) fun kv' mg' sC hg' d3 => ?_
  simp only [List.cons_append,List.nil_append] at d3
  simp [hg'.ntup,hg'.cells,d3.o 1 rfl]
  have d4:=(d3.put 1 rfl (C [.str nm,kv'])).tail
  simp only [List.set_cons_zero,List.set_cons_succ] at d4
  have hnx:((ks.take j).map fun k => (n:Int) + k) ++ [(n:Int) + k] = (ks.take (j + 1)).map fun k => (n:Int) + k:=by
   rw [List.take_add_one,hkk,List.map_append]
   simp
  rw [hnx] at hg'
  refine AM.wp_region ?_
  simp [t37,hwr]
  refine ⟨ks.length - (j + 1),by omega,j + 1,by omega,by omega,?_,by simp [t35],by simp [t36],by simp,kv',mg',by simpa using hg',d4⟩
  intro y hy
  simp at hy
  simp [hy]
  exact hF y (by simp [hy])
 ·simp [hlt]
  refine AM.wp_exit ?_
  simp
  have hje:j = ks.length:=by omega
  subst hje
  rw [List.take_length] at hg
  refine q _ s' kv mg ?_ hg hc'
  intro y hy
  simp at hy
  simp [hy]
  exact hF y (by simp [hy])
theorem Zxr {s0:St} {W:Pos→Prop} {q:Pos} {cells:List AVal} {m:Nat} {cp:Cap} {a b:AVal} {Q:AVal→St→Prop} (h:Ctx s0 W ((q,C cells) :: r) s) (hl:cells.length = 2 * m) (h1:1 ≤ m) (hm:m ≤ 1000) (hcp:cp = .lim m ∨ cp = .opn 2)
  (qq:∀ q' s',Ctx s0 W ((q',C (cells ++ [a,b])) :: r) s'→Q (.slice q' 0 (m + 1) (.opn 2)) s'):appP (2,40) (.slice q 0 m cp) [a,b] 1 s Q:=by
 have ht:List.take (m * 2) (List.drop 0 cells) = cells:=by rw [List.drop_zero]; exact List.take_of_length_le (by omega)
 rcases hcp with rfl | rfl
 ·simp only [appP,Z5l]
  rw [if_neg (by decide),if_neg (by omega),if_neg (by omega),h.c 0 rfl]
  refine ⟨by omega,by unfold Z0l; omega,?_⟩
  rw [ht]
  exact qq _ _ ((h.alloc (C (cells ++ [a,b]))).sub (.cons_cons _ (.cons _ (List.Sublist.refl _))))
 ·simp only [appP,Z5l]
  rw [if_neg (by decide)]
  refine ⟨trivial,?_⟩
  rw [h.o 0 rfl]
  simp only [Z17]
  rw [if_neg (by omega),if_neg (by omega)]
  refine ⟨by omega,by unfold Z0l; omega,?_⟩
  rw [ht]
  exact qq _ _ ((h.put0 .dead).tail.alloc (C (cells ++ [a,b])))
end
def Z45 (n:Nat) (ts:List ND) (i:Nat):List ND:=(ts.take i).map (Z5r n)
theorem Zk5 {n i:Nat} {ts:List ND} {nd:ND} (h:ts[i]? = some nd):Z45 n ts (i + 1) = Z45 n ts i ++ [Z5r n nd]:=by
 unfold Z45
 rw [List.take_add_one,h]
 simp
theorem Zzo {s0 s:St} {p:Pos} {cs:List CV} {V:List AVal} {m:Lets} {Q:AVal→St→Prop} (hc:Ctx s0 (fun _ => False) m s) (hp:s0.Old p) (hpc:s0.cells p = some (encs (rcs cs V))) (hV:V.length = cs.length) (h4:cs.length ≤ 400)
  (hK:∀ j c,(rcs cs V)[j]? = some c→Z0g s0 c.kv (Z11 cs j))
  (q:∀ pn lv mg Vg s',Z1t lv (nats (Z19 cs cs.length)) mg→Vg.length = cs.length→(∀ (i:Nat) nd kv,(Z0f cs)[i]? = some nd→Vg[i]? = some kv→Z0g s0 kv nd.2)→Ctx s0 (fun _ => False) ((pn,C (Z0c (Z0f cs) Vg)) :: (mg ++ m)) s'→Q (.tup [.slice pn 0 cs.length (.lim cs.length),lv]) s') :
  Z0e Tryd.prog 50 [.agg [.slice p 0 cs.length (.lim cs.length)]] s Q:=by
 have hl:=Z2c hV
 have htk:=Zl5 hV cs.length
 have hget:∀ (i:Nat) (c:CV),cs[i]? = some c→∃ kv,V[i]? = some kv∧(rcs cs V)[i]? = some ⟨c.taken,c.name,kv,c.held⟩:=fun i c hi => by
  have hlt:=(List.getElem?_eq_some_iff.1 hi).1
  have hv:V[i]? = some (V[i]'(by omega)):=List.getElem?_eq_getElem _
  exact ⟨_,hv,Z26 hi hv⟩
 generalize rcs cs V = l at hpc hK hl htk hget
 rw [← hl]
 refine Zlj hc.wf (hc.Z0h.old hp) ((hc.Z0h.cells hp).trans hpc) (by omega) (fun j c hj => (hK j c hj).keep hc.Z0h) fun pn lv s3 k3 hpn hox hlv _ _ => ?_
 rw [hl] at hox hlv ⊢
 rw [htk] at hlv
 have hel:∀ (i:Nat) (c:CV),cs[i]? = some c→∃ kv,(nlI l cs.length)[i]? = some (if c.taken = true then (c.name,kv) else ([],.nilSlice))∧Z0g s0 kv c.kids:=by
  intro i c hi
  obtain ⟨kv,g1,g2⟩:=hget i c hi
  refine ⟨kv,?_,?_⟩
  ·rw [Z8u g2]
   have hlt:=(List.getElem?_eq_some_iff.1 hi).1
   simp [hlt]
  ·have:=hK i _ g2
   rwa [Z1v hi] at this
 have hPl:(nlI l cs.length).length = cs.length:=by rw [Z72,hl]
 generalize nlI l cs.length = P at hox hel hPl
 have hP:penc P = Z0c (Z0f cs) (P.map Prod.snd):=by
  unfold Z0c
  congr 1
  refine List.ext_getElem? fun i => ?_
  by_cases hi:i < cs.length
  ·obtain ⟨kv,g1,_⟩:=hel i _ (List.getElem?_eq_getElem hi)
   rw [List.getElem?_zipWith,Z2g (List.getElem?_eq_getElem hi),List.getElem?_map,g1]
   split <;> rfl
  ·rw [List.getElem?_eq_none (by omega),List.getElem?_eq_none (by simp [Z0u]; omega)]
 rw [hP] at hox
 have hVg:∀ (i:Nat) nd kv,(Z0f cs)[i]? = some nd→(P.map Prod.snd)[i]? = some kv→Z0g s0 kv nd.2:=by
  intro i nd kv hnd hkv
  have hi:i < cs.length:=by have:=(List.getElem?_eq_some_iff.1 hnd).1; rwa [Z0u] at this
  obtain ⟨kv',g1,g2⟩:=hel i _ (List.getElem?_eq_getElem hi)
  rw [Z2g (List.getElem?_eq_getElem hi)] at hnd
  rw [List.getElem?_map,g1] at hkv
  by_cases ht:cs[i].taken = true
  ·simp [ht] at hnd hkv
   subst hnd hkv
   exact g2
  ·simp [ht] at hnd hkv
   subst hnd hkv
   exact .inl ⟨rfl,rfl⟩
 have c1:=hc.made k3 hpn (St.Z2e hox)
 rcases hlv with ⟨rfl,h0⟩ | ⟨q',rfl,h0,h5,h6,h7⟩
 ·exact q pn .nilSlice [] _ s3 (.inl ⟨by rw [h0]; rfl,rfl,rfl⟩) (by simp [hPl]) hVg (by simpa using c1)
 ·have hq:(q',C (ints (nats (Z19 cs cs.length)))).1 ∉ (((pn,C (Z0c (Z0f cs) (P.map Prod.snd))) :: m).map (·.1)):=by
   rw [List.map_cons,List.mem_cons]
   rintro (h | h)
   ·exact h7 h
   ·exact hc.Zv0 h6 h
  have hobj:s3.obj q' = some (C (ints (nats (Z19 cs cs.length)))):=by
   have:=St.Z2e h5
   rw [this]
   simp [ints]
  have c2:=c1.add (b:=q') (x:=C (ints (nats (Z19 cs cs.length)))) hobj (fun ho => h6 (hc.Z0h.old ho)) hq
  refine q pn _ [(q',C (ints (nats (Z19 cs cs.length))))] _ s3 (.inr ⟨q',by simpa using h0,by simp,rfl⟩) (by simp [hPl]) hVg (c2.perm (List.Perm.swap _ _ _))
def capI (n:Nat):Nat→Cap
 | 0 => .lim n
 | _ + 1 => .opn 2
theorem Zza (n i:Nat):capI n i = .lim (n + i) ∨ capI n i = .opn 2:=by
 cases i with
 | zero => exact .inl rfl
 | succ i => exact .inr rfl
theorem seg2 {cs:List AVal} {o:Nat} {a b:AVal} (h1:cs[o]? = some a) (h2:cs[o + 1]? = some b):(cs.drop o).take 2 = [a,b]∧o + 2 ≤ cs.length:=by
 obtain ⟨g1,e1⟩:=List.getElem?_eq_some_iff.1 h1
 obtain ⟨g2,e2⟩:=List.getElem?_eq_some_iff.1 h2
 refine ⟨?_,by omega⟩
 rw [List.drop_eq_getElem_cons g1,List.drop_eq_getElem_cons g2,e1,e2]
 rfl
theorem Zng {s:St} {p:Pos} {cs:List CV} {V:List AVal} {nv:AVal} {ts:List ND} {root:Int} {Q:AVal→St→Prop} (hw:s.Wf) (hp:s.Old p) (hpc:s.cells p = some (encs (rcs cs V))) (hV:V.length = cs.length) (h1:1 ≤ cs.length) (h4:cs.length ≤ 400)
  (hK:∀ j c,(rcs cs V)[j]? = some c→Z0g s c.kv (Z11 cs j)) (hO:HOk cs) (hN:Z1o s nv ts) (hT:GrOk ts) (hl1:1 ≤ ts.length) (hl2:ts.length ≤ 60)
  (q:∀ Bo s',Keeps s s'→¬ s.Old Bo→s'.own Bo = some (ints (Z1p cs ts))→Q (.slice Bo 0 ts.length (.lim ts.length)) s'):Z0e Tryd.prog 62 [.agg [.slice p 0 cs.length (.lim cs.length)],.agg [nv,.int .i64 root]] s Q:=by
 have hNt:=hN.ntup
 have hNc:=hN.Z9f
 have hl:=Z2c hV
 refine Z08 (Z0i (by decide)) fi62 rfl (by decide) rfl ?_
 refine Z00 ?_
 simp [hNt,hNc]
 have d1:=(Ctx.start (fun _ => False) hw).alloc (C [.slice p 0 cs.length (.lim cs.length)])
 generalize s.alloc (.cells [.slice p 0 cs.length (.lim cs.length)] false) = s1 at d1 ⊢
 generalize s.next = B2 at d1 ⊢
 have d2:=d1.alloc (C [nv,.int .i64 root])
 generalize s1.alloc (.cells [nv,.int .i64 root] false) = s2 at d2 ⊢
 generalize s1.next = B3 at d2 ⊢
 refine Z00 ?_
 simp [d2.c 1 rfl]
 refine Z02 ?_
 refine Zzo d2 hp hpc hV h4 hK fun pn lv mg Vg s3 hg hVg hVk d3 => ?_
 simp
 refine Z00 ?_
 simp
 have d4:Ctx s (fun _ => False) ((pn,C (Z0c (Z0f cs ++ Z45 cs.length ts 0) (Vg ++ []))) :: (B3,C [nv,.int .i64 root]) :: ([] ++ (mg ++ []))) s3:=by
  have:=d3.perm (m':=(B2,C [.slice p 0 cs.length (.lim cs.length)]) :: (pn,C (Z0c (Z0f cs) Vg)) :: (B3,C [nv,.int .i64 root]) :: mg) (Z0o fun x => by
   simp only [Z0j,Z0k,Z1e]
   omega)
  simpa [Z45] using this.tail
 refine AM.wp_seq ?_
 refine Z00 ?_
 simp [d4.c 1 rfl,hNt,hN.len]
 refine AM.wp_block ?_
 refine AM.wp_loop (fun k t s' => ∃ (i:Nat) (qn:Pos) (lv:AVal) (Vk:List AVal) (mk mg:Lets),i ≤ ts.length∧k = ts.length - i∧PT.get (posOf 3) t = some (.ptr B3 0)∧PT.get (posOf 5) t = some (.slice qn 0 (cs.length + i) (capI cs.length i))∧PT.get (posOf 6) t = some lv∧PT.get (posOf 7) t = some (.int .i64 cs.length) ∧
   PT.get (posOf 24) t = some nv∧PT.get (posOf 25) t = some (.int .i64 ts.length)∧PT.get (posOf 26) t = some (.int .i64 i)∧Z1t lv (nats (Z19 cs cs.length ++ (List.range i).map fun x => cs.length + x)) mg∧Z12 ((Z45 cs.length ts i).map Prod.snd) Vk mk ∧
   Ctx s (fun _ => False) ((qn,C (Z0c (Z0f cs ++ Z45 cs.length ts i) (Vg ++ Vk))) :: (B3,C [nv,.int .i64 root]) :: (mk ++ (mg ++ []))) s') ts.length
  ⟨0,pn,lv,[],[],mg,by simp,by simp,by simp,by simp [capI],by simp,by simp,by simp,by simp,by simp,by simpa using hg,by simp [Z45,Z12],d4⟩ ?_
 rintro k t s' ⟨i,qn,lv,Vk,mk,mg,hi,rfl,t3,t5,t6,t7,t24,t25,t26,hg,hR,d⟩
 refine Z00 ?_
 simp [t25,t26]
 refine AM.wp_seq ?_
 refine AM.Z04 ?_
 by_cases hlt:i < ts.length
 ·have hwr:IntKind.wrap .i64 ((i:Int) + 1) = ((i + 1:Nat):Int):=by rw [IntWalk.i64_in _ (by omega)]; omega
  have hwn:IntKind.wrap .i64 ((cs.length:Int) + i) = ((cs.length + i:Nat):Int):=by rw [IntWalk.i64_in _ (by omega)]; omega
  obtain ⟨nd,hnd⟩:∃ nd,ts[i]? = some nd:=⟨_,List.getElem?_eq_getElem hlt⟩
  obtain ⟨hk4,hkin⟩:=hT nd (List.mem_of_getElem? hnd)
  rcases hN with ⟨_,e0⟩ | ⟨bn,on,cn,cellsn,rfl,hbn,hcsn,hlen,heln⟩
  ·rw [e0] at hnd
   simp at hnd
  have rn:∀ {m:Lets} {s'':St},Ctx s (fun _ => False) m s''→s''.cells bn = some cellsn:=fun d => (d.Z0h.cells hbn).trans hcsn
  obtain ⟨hgn,kv,hgk,hkv⟩:=heln i nd hnd
  have hkt:=hkv.ntup
  have hkc:=hkv.Z9f
  obtain ⟨hsg,hsl⟩:=seg2 hgn hgk
  have hmin:min 2 (cellsn.length - (on + i * 2)) = 2:=by omega
  simp [hlt]
  refine AM.wp_skip ?_
  simp
  refine AM.wp_seq ?_
  refine AM.wp_block ?_
  refine Z00 ?_
  simp [t24,t26,hlt,rn d,hsl,hmin,hsg]
  have e1:=(d.alloc (C [.str [],.nilSlice])).put 0 rfl (C [.str nd.1,kv])
  simp only [List.set_cons_zero] at e1
  generalize (s'.alloc (.cells [.str [],.nilSlice] false)).put s'.next (.cells [.str nd.1,kv] false) = s4 at e1 ⊢
  generalize s'.next = B9 at e1 ⊢
  refine Z00 ?_
  simp [e1.c 0 rfl]
  have e2:=(e1.alloc (C [.str [],.nilSlice])).put 0 rfl (C [.str nd.1,.nilSlice])
  simp only [List.set_cons_zero] at e2
  generalize (s4.alloc (.cells [.str [],.nilSlice] false)).put s4.next (.cells [.str nd.1,.nilSlice] false) = s5 at e2 ⊢
  generalize s4.next = B10 at e2 ⊢
  refine AM.wp_seq ?_
  refine Zs4 (n:=cs.length) hkv hk4 h4 (fun k hk => by have:=hkin k hk; omega) e2 (by simp [t7]) (by simp) (by simp) fun t2 s6 kv2 mk2 hF2 hg2 e3 => ?_
  have u3:PT.get (posOf 3) t2 = some (.ptr B3 0):=(hF2 3 (by simp)).trans (by simp [t3])
  have u5:PT.get (posOf 5) t2 = some (.slice qn 0 (cs.length + i) (capI cs.length i)):=(hF2 5 (by simp)).trans (by simp [t5])
  have u6:PT.get (posOf 6) t2 = some lv:=(hF2 6 (by simp)).trans (by simp [t6])
  have u7:PT.get (posOf 7) t2 = some (.int .i64 cs.length):=(hF2 7 (by simp)).trans (by simp [t7])
  have u8:PT.get (posOf 8) t2 = some (.int .i64 i):=(hF2 8 (by simp)).trans (by simp)
  have u10:PT.get (posOf 10) t2 = some (.ptr B10 0):=(hF2 10 (by simp)).trans (by simp)
  have u24:PT.get (posOf 24) t2 = some (.slice bn on ts.length cn):=(hF2 24 (by simp)).trans (by simp [t24])
  have u25:PT.get (posOf 25) t2 = some (.int .i64 ts.length):=(hF2 25 (by simp)).trans (by simp [t25])
  have u26:PT.get (posOf 26) t2 = some (.int .i64 i):=(hF2 26 (by simp)).trans (by simp [t26])
  simp
  refine AM.wp_region ?_
  simp [u5,u6,u7,u8,u10,e3.c 0 rfl,hg2.ntup,hg2.cells,Z1w,srcP]
  have e4:=e3.alloc (C [.str nd.1,kv2])
  generalize s6.alloc (.cells [.str nd.1,kv2] false) = s7 at e4 ⊢
  generalize s6.next = T at e4 ⊢
  have hVk':Vk.length = i:=by
   have:=hR.len
   simpa [Z45,Nat.min_eq_left hi] using this
  have hVV:(Vg ++ Vk).length = (Z0f cs ++ Z45 cs.length ts i).length:=by simp [hVg,hVk',Z0u,Z45,Nat.min_eq_left hi]
  have hcl:(Z0c (Z0f cs ++ Z45 cs.length ts i) (Vg ++ Vk)).length = 2 * (cs.length + i):=by
   rw [Z4r hVV]
   simp [Z0u,Z45,Nat.min_eq_left hi]
  have e5:=e4.perm (m':=(qn,C (Z0c (Z0f cs ++ Z45 cs.length ts i) (Vg ++ Vk))) :: (B3,C [.slice bn on ts.length cn,.int .i64 root]) :: (mk2 ++ (mk ++ mg)) ++ [(T,C [.str nd.1,kv2]),(B10,C [.str nd.1,kv2]),(B9,C [.str nd.1,kv])]) (Z0o fun x => by
   simp only [Z0j,Z0k,Z1e]
   omega)
  have e6:=e5.sub (m':=(qn,C (Z0c (Z0f cs ++ Z45 cs.length ts i) (Vg ++ Vk))) :: (B3,C [.slice bn on ts.length cn,.int .i64 root]) :: (mk2 ++ (mk ++ mg))) (List.sublist_append_left _ _)
  refine Zxr e6 hcl (by omega) (by omega) (Zza _ _) fun qn' s8 e7 => ?_
  have hsn:Z0c (Z0f cs ++ Z45 cs.length ts i) (Vg ++ Vk) ++ [.str nd.1,kv2] = Z0c (Z0f cs ++ Z45 cs.length ts (i + 1)) (Vg ++ (Vk ++ [kv2])):=by
   have:=Zju hVV (Z5r cs.length nd) kv2
   rw [List.append_assoc,← Zk5 hnd,List.append_assoc] at this
   exact this.symm
  rw [hsn] at e7
  have e8:=e7.alloc (C [.int .i64 (cs.length + i:Nat)])
  rw [hwn]
  generalize s8.alloc (.cells [.int .i64 (cs.length + i:Nat)] false) = s9 at e8 ⊢
  generalize s8.next = T2 at e8 ⊢
  have e9:=e8.tail.perm (m':=[(qn',C (Z0c (Z0f cs ++ Z45 cs.length ts (i + 1)) (Vg ++ (Vk ++ [kv2])))),(B3,C [.slice bn on ts.length cn,.int .i64 root])] ++ (mg ++ (mk ++ mk2))) (Z0o fun x => by
   simp only [Z0j,Z0k,Z1e]
   omega)
  have hll:(Z19 cs cs.length).length ≤ cs.length:=Nat.le_trans (List.length_filter_le _ _) (by simp)
  refine Z65 e9 hg (by simp; omega) fun lv' mg' s10 hg' e10 => ?_
  have hg'':Z1t lv' (nats (Z19 cs cs.length ++ (List.range (i + 1)).map fun x => cs.length + x)) mg':=by
   have:nats (Z19 cs cs.length ++ (List.range (i + 1)).map fun x => cs.length + x) = nats (Z19 cs cs.length ++ (List.range i).map fun x => cs.length + x) ++ [((cs.length + i:Nat):Int)]:=by
    rw [List.range_succ]
    simp
   rw [this]
   exact hg'
  have hR':Z12 ((Z45 cs.length ts (i + 1)).map Prod.snd) (Vk ++ [kv2]) (mk ++ mk2):=by
   rw [Zk5 hnd,List.map_append]
   exact hR.snoc hg2.row
  refine AM.wp_region ?_
  simp [u26,hwr]
  refine ⟨ts.length - (i + 1),by omega,i + 1,by omega,by omega,u3,qn',⟨rfl,by omega,rfl⟩,u7,u24,u25,by omega,Vk ++ [kv2],mk ++ mk2,mg',by simpa using hg'',hR',?_⟩
  refine e10.perm (Z0o fun x => ?_)
  simp only [Z0j,Z0k,Z1e]
  omega
 ·simp [hlt]
  refine AM.wp_exit ?_
  simp
  have hie:i = ts.length:=by omega
  subst hie
  have htl:Z45 cs.length ts ts.length = ts.map (Z5r cs.length):=by simp [Z45]
  rw [htl] at hR d
  have hVk':Vk.length = ts.length:=by
   have:=hR.len
   simpa using this
  have hVV:(Vg ++ Vk).length = (Z0f cs ++ ts.map (Z5r cs.length)).length:=by simp [hVg,hVk',Z0u]
  have hbl:=Zc1 cs ts
  have hNG:NodesG s' qn (bigG cs ts):=by
   refine ⟨d.oi 0 rfl,_,d.c 0 rfl,by rw [Z4r hVV]; simp [bigG],fun j nd hnd => ?_⟩
   have hj:j < cs.length + ts.length:=by have:=(List.getElem?_eq_some_iff.1 hnd).1; omega
   have hv:(Vg ++ Vk)[j]? = some ((Vg ++ Vk)[j]'(by simp; omega)):=List.getElem?_eq_getElem _
   obtain ⟨g1,g2⟩:=Z6i hnd hv
   refine ⟨g1,_,g2,?_⟩
   generalize (Vg ++ Vk)[j]'(by simp; omega) = kv at hv
   by_cases hjn:j < cs.length
   ·rw [Zf6 hjn] at hnd
    rw [List.getElem?_append_left (by omega)] at hv
    exact (hVk j nd kv hnd hv).keep d.Z0h
   ·obtain ⟨x,rfl⟩:∃ x,j = cs.length + x:=⟨j - cs.length,by omega⟩
    rw [Zf7] at hnd
    rw [List.getElem?_append_right (by omega),hVg,Nat.add_sub_cancel_left] at hv
    obtain ⟨kv',r1,r2⟩:=hR.each (i:=x) (ks:=nd.2) (by rw [List.map_map,List.getElem?_map]; rw [← Option.map_map,hnd]; rfl)
    rw [hv] at r1
    cases r1
    rcases r2 with ⟨r3,r4⟩ | ⟨q',c',r3,r4,r5⟩
    ·exact .inl ⟨r4,r3⟩
    ·rw [r4]
     exact Z4f d.wf (Z0y (d.own (q',C (ints nd.2)) (by simp [r5]))) c'
  obtain ⟨hC,hks⟩:=Ztf hO hT
  have hLi:Z0g s' lv (nats (bigL cs ts)):=(hg.row.kid fun y hy => d.own y (by simp [hy])).ints d.wf
  have hll:(Z19 cs cs.length).length ≤ cs.length:=Nat.le_trans (List.length_filter_le _ _) (by simp)
  have hbL:(bigL cs ts).length ≤ 1000:=by simp [bigL]; omega
  have hlt':=hg.ntup
  refine Z00 ?_
  simp [t5,t6]
  refine Z02 ?_
  refine Zcf hbl d.wf hNG (by omega) hLi hbL hC hks fun Bx s4 k4 hBx hox => ?_
  have hcl:=Z9n hC
  simp only [Z1p] at q
  generalize clsF (bigG cs ts) (bigL cs ts) = cls at hox hcl q
  have e1:=d.made k4 hBx (St.Z2e hox)
  rw [hbl] at hcl
  simp
  have hz3:ts.length ≤ Z0l:=by unfold Z0l; omega
  have hz4:ts.length * 8 ≤ Z0l:=by unfold Z0l; omega
  refine Z00 ?_
  simp [t3,e1.c 2 rfl,hNt,hN.len,hz3,hz4]
  have e2:=e1.alloc (C (List.replicate ts.length (.int .i64 0)))
  have hBo:¬ s.Old s4.next:=fun ho => Z09 s4 (e1.Z0h.old ho)
  generalize s4.alloc (.cells (List.replicate ts.length (.int .i64 0)) false) = s5 at e2 ⊢
  generalize s4.next = Bo at e2 hBo ⊢
  refine AM.wp_seq ?_
  refine Z00 ?_
  simp
  have e3:=e2.sub (m':=(Bo,C (List.replicate ts.length (.int .i64 0))) :: (Bx,C (ints cls)) :: []) (.cons_cons _ (.cons_cons _ (List.nil_sublist _)))
  have hz0:List.replicate ts.length (AVal.int .i64 0) = ints (((List.range ts.length).map fun i => Z3b (fun d => decide ((cls[cs.length + i]?).getD 0 = d)) (cls.take cs.length)).take 0 ++ List.replicate (ts.length - 0) 0):=by simp [ints]
  generalize hres:((List.range ts.length).map fun i => Z3b (fun d => decide ((cls[cs.length + i]?).getD 0 = d)) (cls.take cs.length)) = res at hz0 q
  have hresl:res.length = ts.length:=by rw [← hres]; simp
  rw [hz0] at e3
  refine AM.wp_block ?_
  refine AM.wp_loop (fun k t s' => ∃ i:Nat,i ≤ ts.length∧k = ts.length - i∧PT.get (posOf 7) t = some (.int .i64 cs.length)∧PT.get (posOf 13) t = some (.slice Bx 0 (cs.length + ts.length) (.lim (cs.length + ts.length)))∧PT.get (posOf 14) t = some (.slice Bo 0 ts.length (.lim ts.length)) ∧
    PT.get (posOf 69) t = some (.int .i64 ts.length)∧PT.get (posOf 70) t = some (.int .i64 i)∧Ctx s (fun _ => False) ((Bo,C (ints (res.take i ++ List.replicate (ts.length - i) 0))) :: (Bx,C (ints cls)) :: []) s') ts.length
   ⟨0,by simp,by simp,by simp [t7],by simp,by simp,by simp,by simp,e3⟩ ?_
  rintro k t s' ⟨i,hi,rfl,t7,t13,t14,t69,t70,d⟩
  refine Z00 ?_
  simp [t69,t70]
  refine AM.wp_seq ?_
  refine AM.Z04 ?_
  by_cases hlt:i < ts.length
  ·have hwr:IntKind.wrap .i64 ((i:Int) + 1) = ((i + 1:Nat):Int):=by rw [IntWalk.i64_in _ (by omega)]; omega
   have hwn:IntKind.wrap .i64 ((cs.length:Int) + i) = ((cs.length + i:Nat):Int):=by rw [IntWalk.i64_in _ (by omega)]; omega
   obtain ⟨cc,hcc⟩:∃ cc,cls[cs.length + i]? = some cc:=⟨_,List.getElem?_eq_getElem (by omega)⟩
   have hgc:(ints cls)[cs.length + i]? = some (.int .i64 cc):=by rw [List.getElem?_map,hcc]; rfl
   simp [hlt]
   refine AM.wp_skip ?_
   simp
   refine AM.wp_seq ?_
   refine AM.wp_block ?_
   refine Z00 ?_
   simp [t70]
   refine AM.wp_region ?_
   simp [t7,t13,t14]
   refine Zoa (a:=0) (b:=cs.length) (off:=0) (n:=cs.length + ts.length) (c:=cs.length + ts.length) (p:=Bx) (by simp) rfl ⟨.i64,by simp⟩ (by omega) (by omega) ?_
   rw [if_neg (by omega),hwn]
   have hlt2:((cs.length + i:Nat):Int) < (cs.length:Int) + ts.length:=by omega
   have hlt3:(0:Int) ≤ ((cs.length + i:Nat):Int):=by omega
   simp only [Nat.zero_mul,Nat.add_zero,Nat.zero_add,Nat.sub_zero,Int.toNat_natCast,Nat.mul_one]
   refine ⟨hlt3,hlt2,?_⟩
   rw [d.c 1 rfl]
   simp only [Z17,hgc]
   have hIx:Z0g s' (.slice Bx 0 cs.length (.lim (cs.length + ts.length))) (cls.take cs.length):=by
    refine .inr ⟨Bx,0,.lim (cs.length + ts.length),ints cls,?_,d.oi 1 rfl,d.c 1 rfl,?_,fun j k hk => ?_⟩
    ·rw [List.length_take,hcl,Nat.min_eq_left (by omega)]
    ·simp
     omega
    ·rw [List.getElem?_take] at hk
     split at hk
     ·rw [Nat.zero_add,List.getElem?_map,hk]
      rfl
     ·cases hk
   refine Z02 ?_
   refine Zec hIx (by rw [List.length_take]; omega) ?_
   have hri:res[i]? = some (Z3b (fun d => decide (cc = d)) (cls.take cs.length)):=by
    rw [← hres,List.getElem?_map,List.getElem?_range hlt]
    simp [hcc]
   generalize Z3b (fun d => decide (cc = d)) (cls.take cs.length) = vv at hri ⊢
   have hnx:(res.take i ++ List.replicate (ts.length - i) 0).set i vv = res.take (i + 1) ++ List.replicate (ts.length - (i + 1)) 0:=by
    have hln:(res.take i).length = i:=by rw [List.length_take]; omega
    rw [List.set_append_right _ _ (by omega),hln,Nat.sub_self]
    have e:ts.length - i = (ts.length - (i + 1)) + 1:=by omega
    rw [e,List.replicate_succ,List.set_cons_zero,List.take_add_one,hri]
    simp
   have hln:(res.take i ++ List.replicate (ts.length - i) 0).length = ts.length:=by
    rw [List.length_append,List.length_take,List.length_replicate]
    omega
   have hlay:lay (ints (res.take i ++ List.replicate (ts.length - i) 0)) i [.int .i64 vv] = ints (res.take (i + 1) ++ List.replicate (ts.length - (i + 1)) 0):=by
    have:=Z5z (res.take i ++ List.replicate (ts.length - i) 0) i vv (by omega)
    rw [hnx] at this
    exact this
   have hown:=d.o 0 rfl
   have dd:=d.put 0 rfl (C (ints (res.take (i + 1) ++ List.replicate (ts.length - (i + 1)) 0)))
   simp only [List.set_cons_zero] at dd
   have hlen:i + 1 ≤ (ints (res.take i ++ List.replicate (ts.length - i) 0)).length:=by rw [List.length_map]; omega
   generalize ints (res.take i ++ List.replicate (ts.length - i) 0) = mv at hlay hown hlen
   generalize hY:ints (res.take (i + 1) ++ List.replicate (ts.length - (i + 1)) 0) = Y at hlay dd
   simp [lay] at hlay
   simp [hlt,hown,hlen]
   rw [hlay]
   refine AM.wp_region ?_
   simp [t70,hwr]
   exact ⟨ts.length - (i + 1),by omega,i + 1,by omega,by omega,by simp [t7],by simp [t13],by simp [t14],by simp [t69],by simp,by rw [← hY] at dd ⊢; simpa [ints] using dd⟩
  ·simp [hlt]
   refine AM.wp_exit ?_
   simp
   have hie:i = ts.length:=by omega
   subst hie
   have hrt:res.take ts.length ++ List.replicate (ts.length - ts.length) 0 = res:=by
    rw [Nat.sub_self,← hresl,List.take_length]
    simp
   rw [hrt] at d
   refine Z00 ?_
   simp [t14]
   refine AM.wp_ret ?_
   simp
   exact q Bo s' d.Z0h hBo (d.o 0 rfl)
noncomputable def findF (cs:List CV) (ns:List ND) (root:Int):Int × Int :=
 if Z0z ns root ≠ 0 then (0,Z0z ns root) else
 if ((Z1p cs (Z0v ns root.toNat))[0]?).getD 0 < 0 then (0,1) else (((Z1p cs (Z0v ns root.toNat))[0]?).getD 0,0)
theorem Z5n {ns:List ND} {r:Nat} (hO:GrOk ns) (hr:r < ns.length):GrOk (Z0v ns r)∧1 ≤ (Z0v ns r).length∧(Z0v ns r).length ≤ ns.length:=by
 have hr':∀ a ∈ [r],a < ns.length:=by simpa using hr
 obtain ⟨hC,hnd,hlt,hroot⟩:=Zal hO hr'
 unfold Z0v
 generalize bfsF (kidG ns) ns.length [r] = L at hC hnd hlt hroot
 have hm:(outF (clsF ns L) ns L).length = Zjq ns L:=Zoh hC
 refine ⟨fun x hx => ?_,?_,?_⟩
 ·obtain ⟨a,nd,h1,h2,rfl⟩:=Zek hx
  refine ⟨by simpa [Z42] using (hO nd (List.mem_of_getElem? h2)).1,fun k hk => ?_⟩
  obtain ⟨k',hk',rfl⟩:=List.mem_map.1 hk
  obtain ⟨_,hkin⟩:=hC.kids a h1 nd h2
  obtain ⟨c,e1,e2⟩:=Zfe hC (hkin k' hk')
  rw [e1]
  simp only [Option.getD_some]
  omega
 ·rcases hroot r (by simp) with h
  obtain ⟨c,e1,e2⟩:=Zfe hC h
  omega
 ·have:=Zog (clsF ns L) ns L
  have:=Z2o hnd hlt
  omega
theorem Zea (cs:List CV) (ts:List ND):(Z1p cs ts).length = ts.length:=by simp [Z1p]
theorem Zug {s0 s:St} {W:Pos→Prop} {hb:Pos} {vs:AVal} {cs:List CV} {m r:Lets} {nv:AVal} {ns:List ND} {root:Int} {Q:AVal→St→Prop} (hH:Z2t hb vs cs m) (h:Ctx s0 W (m ++ r) s) (hO:HOk cs) (hN:Z7b s nv ns) (hsm:Zbo ns) (hmax:ns.length ≤ 2 ^ 62)
  (q:∀ s',Keeps s s'→Q (.tup [.int .i64 (findF cs ns root).1,.int .i64 (findF cs ns root).2]) s'):Z0e Tryd.prog 20 [.ptr hb 0,.agg [nv,.int .i64 root]] s Q:=by
 obtain ⟨p,V,mr,hc,hR,hV,h1,h4,hP⟩:=Zbh hH h
 have hNt:=hN.at.ntup
 have hNc:=hN.at.Z9f
 have hno:cs.length ≠ 0:=by omega
 have d0:=Ctx.start (fun _ => False) hc.wf
 refine Z08 (Z0i (by decide)) fi20 rfl (by decide) rfl ?_
 refine Z00 ?_
 simp [hNt,hNc]
 have d1:=d0.alloc (C [nv,.int .i64 root])
 generalize s.alloc (.cells [nv,.int .i64 root] false) = s1 at d1 ⊢
 generalize s.next = B3 at d1 ⊢
 refine AM.wp_seq ?_
 refine Z00 ?_
 simp
 refine Z02 ?_
 refine Z75 ((d1.Z0h.cells (hc.oi 0 rfl)).trans (hc.c 0 rfl)) rfl hno ?_
 simp
 refine AM.Z04 ?_
 simp
 refine AM.wp_skip ?_
 simp
 refine AM.wp_seq ?_
 refine Z00 ?_
 simp [d1.c 0 rfl]
 refine Z02 ?_
 refine Zhy d1.wf (hN.at.keep d1.Z0h) hmax hsm fun s2 k2 => ?_
 have d2:=d1.keeps k2
 unfold findF at q
 simp
 refine Z00 ?_
 simp
 refine AM.Z04 ?_
 by_cases hz:Z0z ns root = 0
 ·rw [if_neg (by simp [hz])] at q
  simp [hz]
  refine AM.wp_skip ?_
  simp
  refine Z00 ?_
  simp [d2.c 0 rfl]
  refine Z02 ?_
  refine Zi9 d2.wf (hN.keep d2.Z0h) hsm hmax (fun _ _ hne => (hne hz).elim) fun Bn mn s3 _ hM hx => ?_
  obtain ⟨o1,o2,hGO,hnm,r0,r1⟩:=Z6g hz
  obtain ⟨hGL,hL1,hL2⟩:=Z5n (r:=root.toNat) hGO (by omega)
  generalize hLG:Z0v ns root.toNat = LG at hM hGL hL1 hL2 q
  have d3:Ctx s (fun _ => False) (mn ++ [(B3,C [nv,.int .i64 root])]) s3:=Ctx.on (m:=[]) (by simpa using d2) (by simpa using hx)
  have d4:=d3.perm (m':=(B3,C [nv,.int .i64 root]) :: mn) (Z0o fun x => by
   simp only [Z0j,Z0k,Z1e]
   omega)
  simp [d4.o 0 rfl]
  have d5:=d4.put 0 rfl (C [.slice Bn 0 LG.length (.lim LG.length),.int .i64 0])
  simp only [List.set_cons_zero] at d5
  generalize s3.put B3 (.cells [.slice Bn 0 LG.length (.lim LG.length),.int .i64 0] false) = s4 at d5 ⊢
  have hMA:=hM.at (.lim LG.length) d5.tail
  have hb4:s4.cells hb = some [.slice p 0 cs.length (.lim cs.length),vs]:=(d5.Z0h.cells (hc.oi 0 rfl)).trans (hc.c 0 rfl)
  have c4:=hc.keeps d5.Z0h
  refine Z00 ?_
  simp [hb4,d5.c 0 rfl]
  refine Z02 ?_
  have hobs:∀ j c,(rcs cs V)[j]? = some c→Z0g s4 c.kv (Z11 cs j):=by
   intro j c hj
   obtain ⟨_,_,r3⟩:=Z80 (p:=p) (cs:=cs) (V:=V) c4 (by simp) hR (fun y hy => by simp [hy])
   have hjl:j < cs.length:=by have:=(List.getElem?_eq_some_iff.1 hj).1; rwa [Z2c hV] at this
   obtain ⟨kv,e1,e2⟩:=r3 j _ (List.getElem?_eq_getElem hjl)
   rw [Z26 (List.getElem?_eq_getElem hjl) e1] at hj
   cases hj
   rw [Z1v (List.getElem?_eq_getElem hjl)]
   exact e2
  refine Zng (V:=V) d5.wf (c4.oi 1 rfl) (c4.c 1 rfl) hV h1 h4 hobs hO hMA hGL hL1 (by omega) fun Bo s5 k5 hBo hox => ?_
  have hfl:=Zea cs LG
  obtain ⟨x,hx0⟩:∃ x,(Z1p cs LG)[0]? = some x:=⟨_,List.getElem?_eq_getElem (by omega)⟩
  rw [hx0] at q
  simp only [Option.getD_some] at q
  have hg0:(ints (Z1p cs LG))[0]? = some (.int .i64 x):=by rw [List.getElem?_map,hx0]; rfl
  have hL1':0 < LG.length:=by omega
  have hcBo:s5.cells Bo = some (ints (Z1p cs LG)):=Z0a hox
  generalize ints (Z1p cs LG) = fl at hg0 hcBo
  simp [hL1',hcBo,hg0]
  have k6:=d5.Z0h.trans k5
  refine AM.wp_seq ?_
  refine Z00 ?_
  simp
  refine AM.Z04 ?_
  by_cases hx1:x < 0
  ·rw [if_pos hx1] at q
   simp [hx1]
   refine Z00 ?_
   simp
   refine AM.wp_ret ?_
   simp
   exact q _ k6
  ·rw [if_neg hx1] at q
   simp [hx1]
   refine AM.wp_skip ?_
   simp
   refine Z00 ?_
   simp
   refine AM.wp_ret ?_
   simp
   exact q _ k6
 ·rw [if_pos (by simpa using hz)] at q
  simp [hz]
  refine Z00 ?_
  simp
  refine AM.wp_ret ?_
  simp
  exact q _ d2.Z0h
def Z3l (L:List ND) (th:List Int) (cs:List CV):Nat→Option (List CV × List Int)
 | 0 => some (cs,th)
 | i + 1 => match Z3l L th cs i with
  | none => none
  | some x => if 0 ≤ (th[i]?).getD 0 then some x else if Z5k x.1 < 0 then none else some (x.1.set (Z5k x.1).toNat ⟨true,((L[i]?).getD ([],[])).1,[],0⟩,x.2.set i (Z5k x.1))
def Z1s (f:List Int) (ks:List Int):List Int:=ks.map fun k => (f[k.toNat]?).getD 0
def setK (cs:List CV) (a:Nat) (ks:List Int):List CV:=match cs[a]? with
 | some c => cs.set a { c with kids:=ks }
 | none => cs
def Z2a (L:List ND) (th f:List Int) (cs:List CV):Nat→List CV
 | 0 => cs
 | i + 1 => if 0 ≤ (th[i]?).getD 0 then Z2a L th f cs i else setK (Z2a L th f cs i) ((f[i]?).getD 0).toNat (Z1s f ((L[i]?).getD ([],[])).2)
theorem Zxd (cs:List CV) (a:Nat) (ks:List Int):(setK cs a ks).length = cs.length:=by
 unfold setK; split <;> simp
theorem Z8o (L:List ND) (th f:List Int) (cs:List CV):∀ i,(Z2a L th f cs i).length = cs.length
 | 0 => rfl
 | i + 1 => by
  unfold Z2a
  split
  ·exact Z8o L th f cs i
  ·rw [Zxd,Z8o L th f cs i]
theorem Zrk {L:List ND} {th:List Int} {cs:List CV} {i:Nat} (h:Z3l L th cs i = none):∀ j,i ≤ j→Z3l L th cs j = none:=by
 intro j hj
 induction j with
 | zero =>
  have:i = 0:=by omega
  subst this
  exact h
 | succ j ih =>
  by_cases e:i = j + 1
  ·subst e; exact h
  ·unfold Z3l
   rw [ih (by omega)]
noncomputable def putF (cs:List CV) (ns:List ND) (root:Int):Int × Int × List CV :=
 if Z0z ns root ≠ 0 then (0,Z0z ns root,cs) else
 if (0:Int) ≤ ((Z1p cs (Z0v ns root.toNat))[0]?).getD (0:Int) then (((Z1p cs (Z0v ns root.toNat))[0]?).getD (0:Int),(0:Int),cs) else
 match Z3l (Z0v ns root.toNat) (Z1p cs (Z0v ns root.toNat)) cs (Z0v ns root.toNat).length with
 | none => (0,12,cs)
 | some (c,f) => ((f[0]?).getD (0:Int),(0:Int),Z2a (Z0v ns root.toNat) (Z1p cs (Z0v ns root.toNat)) f c (Z0v ns root.toNat).length)
theorem Z88 (cs:List CV):Z5k cs = -1 ∨ ∃ (i:Nat) (c:CV),Z5k cs = i∧cs[i]? = some c∧c.taken = false:=by
 unfold Z5k
 split
 ·rename_i i h
  obtain ⟨h1,h2,_⟩:=List.findIdx?_eq_some_iff_getElem.1 h
  exact .inr ⟨i,cs[i],rfl,List.getElem?_eq_getElem h1,by simpa using h2⟩
 ·exact .inl rfl
structure AllI (L:List ND) (th:List Int) (cs c:List CV) (V:List AVal) (f:List Int) (i:Nat):Prop where
 len:c.length = cs.length
 flen:f.length = L.length
 cell:∀ j,j < i→(th[j]?).getD 0 < 0→∃ (a:Nat) (d:CV),f[j]? = some (a:Int)∧c[a]? = some d∧d.taken = true∧d.kids = []∧V[a]? = some .nilSlice
 inj:∀ j j',j < i→j' < i→(th[j]?).getD 0 < 0→(th[j']?).getD 0 < 0→f[j]? = f[j']?→j = j'
theorem AllI.zero {L:List ND} {th:List Int} {cs:List CV} {V:List AVal} (h:th.length = L.length):AllI L th cs cs V th 0 :=
 ⟨rfl,h,fun j hj => by omega,fun j j' hj => by omega⟩
theorem AllI.skip {L:List ND} {th f:List Int} {cs c:List CV} {V:List AVal} {i:Nat} (h:AllI L th cs c V f i) (hi:0 ≤ (th[i]?).getD 0):AllI L th cs c V f (i + 1):=by
 refine ⟨h.len,h.flen,fun j hj hn => ?_,fun j j' hj hj' hn hn' e => ?_⟩
 ·by_cases e:j = i
  ·subst e; omega
  ·exact h.cell j (by omega) hn
 ·by_cases e1:j = i
  ·subst e1; omega
  ·by_cases e2:j' = i
   ·subst e2; omega
   ·exact h.inj j j' (by omega) (by omega) hn hn' e
theorem AllI.next {L:List ND} {th f:List Int} {cs c:List CV} {V:List AVal} {i a:Nat} {nm:List UInt8} {d:CV} (h:AllI L th cs c V f i) (hV:V.length = cs.length) (hi:i < L.length) (ha:c[a]? = some d) (hf:d.taken = false) :
  AllI L th cs (c.set a ⟨true,nm,[],0⟩) (V.set a .nilSlice) (f.set i a) (i + 1):=by
 have hal:a < c.length:=(List.getElem?_eq_some_iff.1 ha).1
 have hne:∀ {b:Nat} {x:CV},c[b]? = some x→x.taken = true→a ≠ b:=by
  rintro b x hx ht rfl
  rw [ha] at hx
  cases hx
  rw [hf] at ht
  cases ht
 have hfi:i < f.length:=by rw [h.flen]; exact hi
 refine ⟨by rw [List.length_set]; exact h.len,by rw [List.length_set]; exact h.flen,fun j hj hn => ?_,fun j j' hj hj' hn hn' e => ?_⟩
 ·by_cases e:j = i
  ·subst e
   have hav:a < V.length:=by rw [hV,← h.len]; exact hal
   exact ⟨a,⟨true,nm,[],0⟩,by simp [hfi],by simp [hal],rfl,rfl,by simp [hav]⟩
  ·obtain ⟨b,x,h1,h2,h3,h4,h5⟩:=h.cell j (by omega) hn
   have:=hne h2 h3
   exact ⟨b,x,by rw [List.getElem?_set_ne (by omega)]; exact h1,by rw [List.getElem?_set_ne this]; exact h2,h3,h4,by rw [List.getElem?_set_ne this]; exact h5⟩
 ·by_cases e1:j = i
  ·by_cases e2:j' = i
   ·omega
   ·exfalso
    subst e1
    obtain ⟨b,x,h1,h2,h3,_⟩:=h.cell j' (by omega) hn'
    rw [List.getElem?_set_ne (show j ≠ j' by omega),h1] at e
    simp [hfi] at e
    exact hne h2 h3 (by omega)
  ·by_cases e2:j' = i
   ·exfalso
    subst e2
    obtain ⟨b,x,h1,h2,h3,_⟩:=h.cell j (by omega) hn
    rw [List.getElem?_set_ne (show j' ≠ j by omega),h1] at e
    simp [hfi] at e
    exact hne h2 h3 (by omega)
   ·rw [List.getElem?_set_ne (show i ≠ j by omega),List.getElem?_set_ne (show i ≠ j' by omega)] at e
    exact h.inj j j' (by omega) (by omega) hn hn' e
structure FilI (L:List ND) (th c0l:List Int) (c:List CV) (V:List AVal) (i:Nat):Prop where
 cell:∀ j,i ≤ j→j < L.length→(th[j]?).getD 0 < 0→∃ (a:Nat) (d:CV),c0l[j]? = some (a:Int)∧c[a]? = some d∧d.kids = []∧V[a]? = some .nilSlice
 inj:∀ j j',j < L.length→j' < L.length→(th[j]?).getD 0 < 0→(th[j']?).getD 0 < 0→c0l[j]? = c0l[j']?→j = j'
theorem AllI.fil {L:List ND} {th f:List Int} {cs c:List CV} {V:List AVal} (h:AllI L th cs c V f L.length):FilI L th f c V 0 :=
 ⟨fun j _ hj hn => by
  obtain ⟨a,d,h1,h2,_,h4,h5⟩:=h.cell j hj hn
  exact ⟨a,d,h1,h2,h4,h5⟩,h.inj⟩
theorem FilI.skip {L:List ND} {th f:List Int} {c:List CV} {V:List AVal} {i:Nat} (h:FilI L th f c V i):FilI L th f c V (i + 1) :=
 ⟨fun j hj => h.cell j (by omega),h.inj⟩
theorem FilI.next {L:List ND} {th f:List Int} {c:List CV} {V:List AVal} {i a:Nat} {d:CV} {kv:AVal} (h:FilI L th f c V i) (hi:i < L.length) (hn:(th[i]?).getD 0 < 0) (ha:f[i]? = some (a:Int)):FilI L th f (c.set a d) (V.set a kv) (i + 1):=by
 refine ⟨fun j hj hl hm => ?_,h.inj⟩
 obtain ⟨b,x,h1,h2,h3,h4⟩:=h.cell j (by omega) hl hm
 have:a ≠ b:=by
  rintro rfl
  have:=h.inj i j hi hl hn hm (by rw [ha,h1])
  omega
 exact ⟨b,x,h1,by rw [List.getElem?_set_ne this]; exact h2,h3,by rw [List.getElem?_set_ne this]; exact h4⟩
theorem Zlg:∀ (l:List RC) (i:Nat) (c:RC) (v:AVal),l[i]? = some c→lay (encs l) (i * 4 + 2) [v] = encs (l.set i { c with kv:=v })
 | [],i,c,d,h => by simp at h
 | e :: l,0,c,d,h => by
  simp at h
  subst h
  have e1:encs (e :: l) = e.enc ++ encs l:=rfl
  have e2:encs ((e :: l).set 0 { e with kv:=d }) = (RC.enc { e with kv:=d }) ++ encs l:=rfl
  rw [e1,e2]
  simp [lay,RC.enc]
 | e :: l,i + 1,c,d,h => by
  have e1:encs (e :: l) = e.enc ++ encs l:=rfl
  have e2:encs ((e :: l).set (i + 1) { c with kv:=d }) = e.enc ++ encs (l.set i { c with kv:=d }):=rfl
  have ih:=Zlg l i c d (by simpa using h)
  have hd:e.enc.length = 4:=rfl
  have e3:(i + 1) * 4 + 2 = e.enc.length + (i * 4 + 2):=by rw [hd]; omega
  rw [e1,e2,← ih]
  unfold lay
  rw [e3,List.take_length_add_append,Nat.add_assoc,List.drop_length_add_append]
  simp
theorem eq8i (k:IntKind) (a:Int):Z27 8 (.int k a) (.int k a) = true:=by
 simp [Z27]
section
variable {s0 s:St} {W:Pos→Prop} {fr:FI} {t0:PT AVal} {Q:Ex→PT AVal→St→Prop} {r:Lets}
theorem Z3t {α:Type} {l:List α} {a:Nat} {x:α} (h:l[a]? = some x):l.set a x = l:=by
 refine List.ext_getElem? fun i => ?_
 rw [List.getElem?_set]
 by_cases e:a = i
 ·subst e
  rw [if_pos rfl,h,if_pos (List.getElem?_eq_some_iff.1 h).1]
 ·rw [if_neg e]
theorem Zx9 {B9 B14 Bf pn:Pos} {nm:List UInt8} {kv0:AVal} {ks f:List Int} {cs:List CV} {V:List AVal} {a l n i:Nat} {c8:Cap} {d:CV}
  (hk:(ks = []∧Z1q kv0 = some 0) ∨ ∃ q c,ks ≠ []∧kv0 = .slice q 0 ks.length c∧(q,C (ints ks)) ∈ r)
  (h4:ks.length ≤ 4) (hin:∀ k ∈ ks,0 ≤ k∧k < l) (hn:cs.length = n) (hV:V.length = n) (ha:cs[a]? = some d) (hd:d.kids = []) (hva:V[a]? = some .nilSlice) (hfi:f[i]? = some (a:Int)) (hl:f.length = l)
  (hc:Ctx s0 W ((B14,C [.str nm,kv0]) :: (B9,C [.slice pn 0 n (.lim n)]) :: (pn,C (encs (rcs cs V))) :: (Bf,C (ints f)) :: r) s)
  (t8:PT.get (posOf 8) t0 = some (.slice Bf 0 l c8)) (t9:PT.get (posOf 9) t0 = some (.ptr B9 0)) (t13:PT.get (posOf 13) t0 = some (.int .i64 i)) (t14:PT.get (posOf 14) t0 = some (.ptr B14 0))
  (q:∀ t s' kv mg,Fr [16,90,91,92,93,96,97,98,99,100,101,102,103,104,105,106,107,108,109,110,111,112,113,114,115,116,117,118] t0 t→Z1t kv (Z1s f ks) mg →
   Ctx s0 W ((B14,C [.str nm,kv0]) :: (B9,C [.slice pn 0 n (.lim n)]) :: (pn,C (encs (rcs (cs.set a { d with kids:=Z1s f ks }) (V.set a kv)))) :: (Bf,C (ints f)) :: (mg ++ r)) s'→Q .normal t s'):wp Tryd.prog Ztn fr t0 s Q:=by
 have hkl:Z1q kv0 = some ks.length:=by
  rcases hk with ⟨h1,h2⟩ | ⟨q,c,_,h2,_⟩
  ·rw [h1,h2]; rfl
  ·rw [h2]; rfl
 have hkt:∀ t,¬ kv0 = .tup t:=by
  rintro t rfl
  cases hkl
 have hal:a < cs.length:=(List.getElem?_eq_some_iff.1 ha).1
 refine Z00 ?_
 simp [t14,hc.c 0 rfl,hkt,hkl]
 refine AM.wp_block ?_
 refine AM.wp_loop (fun m t s' => ∃ (j:Nat) (kv:AVal) (mg:Lets),j ≤ ks.length∧m = ks.length - j∧Fr [16,90,91,92,93,96,97,98,99,100,101,102,103,104,105,106,107,108,109,110,111,112,113,114,115,116,117,118] t0 t∧PT.get (posOf 90) t = some kv0∧PT.get (posOf 91) t = some (.int .i64 ks.length)∧PT.get (posOf 92) t = some (.int .i64 j) ∧
   Z1t kv (Z1s f (ks.take j)) mg∧Ctx s0 W ((B14,C [.str nm,kv0]) :: (B9,C [.slice pn 0 n (.lim n)]) :: (pn,C (encs (rcs (cs.set a { d with kids:=Z1s f (ks.take j) }) (V.set a kv)))) :: (Bf,C (ints f)) :: (mg ++ r)) s') ks.length ⟨0,.nilSlice,[],by simp,by simp,?_,by simp,by simp,by simp,.inl ⟨by simp [Z1s],rfl,rfl⟩,?_⟩ ?_
 ·intro y hy
  simp at hy
  simp [hy]
 ·have e1:cs.set a { d with kids:=Z1s f (ks.take 0) } = cs:=by
   refine Z3t ?_
   rw [ha]
   congr 1
   cases d
   simp at hd
   simp [Z1s,hd]
  rw [e1,Z3t hva]
  exact hc
 rintro m t s' ⟨j,kv,mg,hj,rfl,hF,t90,t91,t92,hg,hc'⟩
 refine Z00 ?_
 simp [t91,t92]
 refine AM.wp_seq ?_
 refine AM.Z04 ?_
 by_cases hlt:j < ks.length
 ·have hwr:IntKind.wrap .i64 ((j:Int) + 1) = ((j + 1:Nat):Int):=by rw [IntWalk.i64_in _ (by omega)]; omega
  obtain ⟨k,hkk⟩:∃ k,ks[j]? = some k:=⟨_,List.getElem?_eq_getElem hlt⟩
  obtain ⟨k0,k1⟩:=hin k (List.mem_of_getElem? hkk)
  obtain ⟨x,hx⟩:∃ x,f[k.toNat]? = some x:=⟨_,List.getElem?_eq_getElem (by omega)⟩
  have u8:=(hF 8 (by simp)).trans t8
  have u9:=(hF 9 (by simp)).trans t9
  have u13:=(hF 13 (by simp)).trans t13
  rcases hk with ⟨h0,_⟩ | ⟨q5,c5,_,rfl,hq5⟩
  ·rw [h0] at hlt
   simp at hlt
  have hcs5:s'.cells q5 = some (ints ks):=Z0a (Z0y (hc'.own (q5,C (ints ks)) (by simp [hq5])))
  have hgk:(ints ks)[j]? = some (.int .i64 k):=by rw [List.getElem?_map,hkk]; rfl
  have hgi:(ints f)[i]? = some (.int .i64 a):=by rw [List.getElem?_map,hfi]; rfl
  have hgx:(ints f)[k.toNat]? = some (.int .i64 x):=by rw [List.getElem?_map,hx]; rfl
  have hil:(i:Int) < l:=by have:=(List.getElem?_eq_some_iff.1 hfi).1; omega
  have han:(a:Int) < n:=by omega
  have hnx:Z1s f (ks.take j) ++ [x] = Z1s f (ks.take (j + 1)):=by
   unfold Z1s
   rw [List.take_add_one,hkk,List.map_append]
   simp [hx]
  have hxr:=Z26 (cs:=cs.set a { d with kids:=Z1s f (ks.take j) }) (V:=V.set a kv) (i:=a) (d:={ d with kids:=Z1s f (ks.take j) }) (kv:=kv) (by simp [hal]) (by rw [List.getElem?_set_self (by omega)])
  have hg2:(encs (rcs (cs.set a { d with kids:=Z1s f (ks.take j) }) (V.set a kv)))[a * 4 + 2]? = some kv:=Z3f _ a 2 _ hxr (by decide)
  have hlen:a * 4 + 2 + 1 ≤ (encs (rcs (cs.set a { d with kids:=Z1s f (ks.take j) }) (V.set a kv))).length:=by
   rw [Z36,Z2c (by simp [hV,hn])]
   simp
   omega
  have hlay:∀ kv',lay (encs (rcs (cs.set a { d with kids:=Z1s f (ks.take j) }) (V.set a kv))) (a * 4 + 2) [kv'] = encs (rcs (cs.set a { d with kids:=Z1s f (ks.take (j + 1)) }) (V.set a kv')):=by
   intro kv'
   rw [Zlg _ a _ kv' hxr]
   have:=Z8x (cs:=cs.set a { d with kids:=Z1s f (ks.take j) }) (V:=V.set a kv) (i:=a) (d:={ d with kids:=Z1s f (ks.take (j + 1)) }) (kv:=kv')
   rw [List.set_set,List.set_set] at this
   rw [← this]
  generalize encs (rcs (cs.set a { d with kids:=Z1s f (ks.take j) }) (V.set a kv)) = E at hc' hg2 hlen hlay
  obtain ⟨FS,hFS⟩:∃ x,x = ints f:=⟨_,rfl⟩
  rw [← hFS] at hgi hgx
  have hfl:s'.cells Bf = some FS:=by rw [hFS]; exact hc'.c 3 rfl
  generalize ints ks = KS at hcs5 hgk
  simp [hlt]
  refine AM.wp_skip ?_
  simp
  refine AM.wp_seq ?_
  refine AM.wp_block ?_
  refine Z00 ?_
  simp [t90,t92,hlt,hcs5,hgk]
  refine AM.wp_region ?_
  have hns:s'.obj s'.next = none:=hc'.wf _ (Z09 _)
  simp [u8,u9,u13,hc'.c 1 rfl,hc'.c 2 rfl,hfl,hgi,hgx,hg2,hil,han,k0,k1,hg.ntup,hg.cells,hns,Z1w,srcP]
  have d2:=hc'.alloc (C [.int .i64 x])
  generalize s'.alloc (.cells [.int .i64 x] false) = sB at d2 ⊢
  generalize s'.next = T at d2 ⊢
  refine Z65 (pre:=[(T,C [.int .i64 x]),(B14,C [.str nm,.slice q5 0 ks.length c5]),(B9,C [.slice pn 0 n (.lim n)]),(pn,C E),(Bf,C (ints f))]) d2 hg (by simp [Z1s]; omega) fun kv' mg' sC hg' d3 => ?_
  simp only [List.cons_append,List.nil_append] at d3
  have hfl3:sC.cells Bf = some FS:=by rw [hFS]; exact d3.c 4 rfl
  have hly:=hlay kv'
  simp [lay] at hly
  simp [hg'.ntup,hg'.cells,d3.o 3 rfl,d3.c 2 rfl,d3.c 3 rfl,hfl3,hgi,hgx,han,hil,hlen,eq8i,Z8n]
  rw [hly]
  have d4:=(d3.put 3 rfl (C (encs (rcs (cs.set a { d with kids:=Z1s f (ks.take (j + 1)) }) (V.set a kv'))))).tail
  simp only [List.set_cons_zero,List.set_cons_succ] at d4
  rw [hnx] at hg'
  refine AM.wp_region ?_
  simp [t92,hwr]
  refine ⟨ks.length - (j + 1),by omega,j + 1,by omega,by omega,?_,by simp [t90],by simp [t91],by simp,kv',mg',hg',d4⟩
  intro y hy
  simp at hy
  simp [hy]
  exact hF y (by simp [hy])
 ·simp [hlt]
  refine AM.wp_exit ?_
  simp
  have hje:j = ks.length:=by omega
  subst hje
  rw [List.take_length] at hg hc'
  refine q _ s' kv mg ?_ hg hc'
  intro y hy
  simp at hy
  simp [hy]
  exact hF y (by simp [hy])
theorem Zqz {L:List ND} {VL:List AVal} {mrL:Lets} (hVL:Z12 (L.map Prod.snd) VL mrL) {i:Nat} {nd:ND} (h:L[i]? = some nd):∃ kv,((Z0c L VL).drop (i * 2)).take 2 = [.str nd.1,kv]∧i * 2 + 2 ≤ (Z0c L VL).length ∧
  ((nd.2 = []∧Z1q kv = some 0) ∨ ∃ q c,nd.2 ≠ []∧kv = .slice q 0 nd.2.length c∧(q,C (ints nd.2)) ∈ mrL):=by
 obtain ⟨kv,g1,g2⟩:=hVL.each (i:=i) (ks:=nd.2) (by rw [List.getElem?_map,h]; rfl)
 obtain ⟨e1,e2⟩:=Z6i h g1
 obtain ⟨e3,e4⟩:=seg2 e1 e2
 exact ⟨kv,e3,e4,g2⟩
theorem Zx8 {B3 B9 Bo Bf Bn pn:Pos} {cs:List CV} {V0 VL:List AVal} {L:List ND} {th f:List Int} {mrL mk base:Lets} {n l:Nat} {c3 c7 c8:Cap} {rt:AVal}
  (hl:L.length = l) (hl6:l ≤ 60) (hn:cs.length = n) (hG:GrOk L) (hVL:Z12 (L.map Prod.snd) VL mrL) (hth:th.length = l) (hf:f.length = l) (hI:FilI L th f cs V0 0) (hR:Z12 (cs.map CV.kids) V0 mk)
  (t3:PT.get (posOf 3) t0 = some (.ptr B3 0)) (t7:PT.get (posOf 7) t0 = some (.slice Bo 0 l c7)) (t8:PT.get (posOf 8) t0 = some (.slice Bf 0 l c8)) (t9:PT.get (posOf 9) t0 = some (.ptr B9 0))
  (hc:Ctx s0 W ((B9,C [.slice pn 0 n (.lim n)]) :: (pn,C (encs (rcs cs V0))) :: (Bf,C (ints f)) :: (Bo,C (ints th)) :: (B3,C [.slice Bn 0 l c3,rt]) :: (Bn,C (Z0c L VL)) :: (mrL ++ (mk ++ base))) s)
  (q:∀ t s' V mk',PT.get (posOf 0) t = PT.get (posOf 0) t0→PT.get (posOf 8) t = some (.slice Bf 0 l c8)→PT.get (posOf 9) t = some (.ptr B9 0)→Z12 ((Z2a L th f cs l).map CV.kids) V mk' →
   Ctx s0 W ((B9,C [.slice pn 0 n (.lim n)]) :: (pn,C (encs (rcs (Z2a L th f cs l) V))) :: (Bf,C (ints f)) :: (Bo,C (ints th)) :: (B3,C [.slice Bn 0 l c3,rt]) :: (Bn,C (Z0c L VL)) :: (mrL ++ (mk' ++ base))) s' →
   wp Tryd.prog Zto fr t s' Q):wp Tryd.prog Zn3 fr t0 s Q:=by
 refine AM.wp_seq ?_
 refine Z00 ?_
 simp [t3,hc.c 4 rfl]
 refine AM.wp_block ?_
 refine AM.wp_loop (fun m t s' => ∃ (i:Nat) (V:List AVal) (mk':Lets),i ≤ l∧m = l - i∧PT.get (posOf 0) t = PT.get (posOf 0) t0∧PT.get (posOf 3) t = some (.ptr B3 0)∧PT.get (posOf 7) t = some (.slice Bo 0 l c7)∧PT.get (posOf 8) t = some (.slice Bf 0 l c8)∧PT.get (posOf 9) t = some (.ptr B9 0) ∧
   PT.get (posOf 77) t = some (.slice Bn 0 l c3)∧PT.get (posOf 78) t = some (.int .i64 l)∧PT.get (posOf 79) t = some (.int .i64 i)∧FilI L th f (Z2a L th f cs i) V i∧Z12 ((Z2a L th f cs i).map CV.kids) V mk' ∧
   Ctx s0 W ((B9,C [.slice pn 0 n (.lim n)]) :: (pn,C (encs (rcs (Z2a L th f cs i) V))) :: (Bf,C (ints f)) :: (Bo,C (ints th)) :: (B3,C [.slice Bn 0 l c3,rt]) :: (Bn,C (Z0c L VL)) :: (mrL ++ (mk' ++ base))) s') l
   ⟨0,V0,mk,by simp,by simp,by simp,by simp [t3],by simp [t7],by simp [t8],by simp [t9],by simp,by simp,by simp,hI,hR,hc⟩ ?_
 rintro m t s' ⟨i,V,mk',hi,rfl,e0,u3,u7,u8,u9,u77,u78,u79,hI',hR',hc'⟩
 refine Z00 ?_
 simp [u78,u79]
 refine AM.wp_seq ?_
 refine AM.Z04 ?_
 by_cases hlt:i < l
 ·have hwr:IntKind.wrap .i64 ((i:Int) + 1) = ((i + 1:Nat):Int):=by rw [IntWalk.i64_in _ (by omega)]; omega
  obtain ⟨nd,hnd⟩:∃ nd,L[i]? = some nd:=⟨_,List.getElem?_eq_getElem (by omega)⟩
  obtain ⟨x,hx⟩:∃ x,th[i]? = some x:=⟨_,List.getElem?_eq_getElem (by omega)⟩
  have hgx:(ints th)[i]? = some (.int .i64 x):=by rw [List.getElem?_map,hx]; rfl
  have hbn:s'.cells Bn = some (Z0c L VL):=hc'.c 5 rfl
  have hbo:s'.cells Bo = some (ints th):=hc'.c 3 rfl
  obtain ⟨kv,hsg,hsl,hkv⟩:=Zqz hVL hnd
  have hkt:∀ t,¬ kv = .tup t:=by
   rintro t rfl
   rcases hkv with ⟨_,h2⟩ | ⟨q,c,_,h2,_⟩
   ·cases h2
   ·cases h2
  have hmin:min 2 ((Z0c L VL).length - i * 2) = 2:=by omega
  simp [hlt]
  refine AM.wp_skip ?_
  simp
  refine AM.wp_seq ?_
  refine AM.wp_block ?_
  refine Z00 ?_
  simp [u77,u79,hlt,hbn,hsl,hmin,hsg]
  have e1:=(hc'.alloc (C [.str [],.nilSlice])).put 0 rfl (C [.str nd.1,kv])
  simp only [List.set_cons_zero] at e1
  generalize (s'.alloc (.cells [.str [],.nilSlice] false)).put s'.next (.cells [.str nd.1,kv] false) = s4 at e1 ⊢
  generalize s'.next = B14 at e1 ⊢
  have hbo4:s4.cells Bo = some (ints th):=e1.c 4 rfl
  refine AM.wp_seq ?_
  refine Z00 ?_
  simp [u7,hlt,hbo4,hgx]
  refine AM.Z04 ?_
  by_cases hx0:x < 0
  ·simp [hx0]
   refine AM.wp_skip ?_
   simp
   have hxd:(th[i]?).getD 0 < 0:=by rw [hx]; exact hx0
   obtain ⟨a,d,g1,g2,g3,g4⟩:=hI'.cell i (Nat.le_refl _) (by omega) hxd
   have hV:V.length = n:=by have:=hR'.len; rw [List.length_map,Z8o,hn] at this; exact this
   obtain ⟨hk4,hkin⟩:=hG nd (List.mem_of_getElem? hnd)
   refine Zx9 (ks:=nd.2) (f:=f) (cs:=Z2a L th f cs i) (V:=V) (a:=a) (l:=l) (n:=n) (i:=i) (d:=d) (c8:=c8) (nm:=nd.1) (kv0:=kv) (Bf:=Bf) (pn:=pn) (B9:=B9) (B14:=B14) (r:=(Bo,C (ints th)) :: (B3,C [.slice Bn 0 l c3,rt]) :: (Bn,C (Z0c L VL)) :: (mrL ++ (mk' ++ base))) ?_ hk4 (by rw [hl] at hkin; exact hkin) (by rw [Z8o,hn]) hV g2 g3 g4 g1 hf e1 (by simp [u8]) (by simp [u9]) (by simp) (by simp) fun t2 s5 kv2 mg hF2 hg2 e2 => ?_
   ·rcases hkv with h | ⟨q,c,h1,h2,h3⟩
    ·exact .inl h
    ·exact .inr ⟨q,c,h1,h2,by simp [h3]⟩
   have v0:PT.get (posOf 0) t2 = PT.get (posOf 0) t0:=(hF2 0 (by simp)).trans (by simpa using e0)
   have v3:PT.get (posOf 3) t2 = some (.ptr B3 0):=(hF2 3 (by simp)).trans (by simp [u3])
   have v7:PT.get (posOf 7) t2 = some (.slice Bo 0 l c7):=(hF2 7 (by simp)).trans (by simp [u7])
   have v8:PT.get (posOf 8) t2 = some (.slice Bf 0 l c8):=(hF2 8 (by simp)).trans (by simp [u8])
   have v9:PT.get (posOf 9) t2 = some (.ptr B9 0):=(hF2 9 (by simp)).trans (by simp [u9])
   have v77:PT.get (posOf 77) t2 = some (.slice Bn 0 l c3):=(hF2 77 (by simp)).trans (by simp [u77])
   have v78:PT.get (posOf 78) t2 = some (.int .i64 l):=(hF2 78 (by simp)).trans (by simp [u78])
   have v79:PT.get (posOf 79) t2 = some (.int .i64 i):=(hF2 79 (by simp)).trans (by simp [u79])
   have hnxt:Z2a L th f cs (i + 1) = (Z2a L th f cs i).set a { d with kids:=Z1s f nd.2 }:=by
    have:¬ 0 ≤ (th[i]?).getD 0:=by omega
    rw [Z2a,if_neg this,g1,hnd]
    unfold setK
    simp [g2]
   rw [← hnxt] at e2
   obtain ⟨kv3,m1,m2,f1,f2,f3,f4⟩:=hR'.at (i:=a) (ks:=[]) (by rw [List.getElem?_map,g2,← g3]; rfl)
   have hm1:m1 = []:=by
    rcases f2 with ⟨_,_,h⟩ | ⟨_,_,h,_⟩
    ·exact h
    ·exact (h rfl).elim
   subst hm1
   have hR2:=f4 (Z1s f nd.2) kv2 mg hg2.row
   have hmp:((Z2a L th f cs i).map CV.kids).set a (Z1s f nd.2) = (Z2a L th f cs (i + 1)).map CV.kids:=by rw [hnxt,List.map_set]
   rw [hmp] at hR2
   have hI2:=hI'.next (kv:=kv2) (d:={ d with kids:=Z1s f nd.2 }) (by omega) hxd g1
   rw [← hnxt] at hI2
   simp
   refine AM.wp_region ?_
   simp [v79,hwr]
   refine ⟨l - (i + 1),by omega,i + 1,by omega,by omega,by simpa using v0,by simp [v3],by simp [v7],by simp [v8],by simp [v9],by simp [v77],by simp [v78],by simp,V.set a kv2,hI2,mg ++ m2,hR2,?_⟩
   refine e2.tail.perm (Z0o fun y => ?_)
   have i3:=Z6o f3 y
   simp only [Z0j,Z0k,Z1e] at i3 ⊢
   omega
  ·simp [hx0]
   refine AM.wp_exit ?_
   simp
   have hnxt:Z2a L th f cs (i + 1) = Z2a L th f cs i:=by
    have:0 ≤ (th[i]?).getD 0:=by rw [hx]; show 0 ≤ x; omega
    rw [Z2a,if_pos this]
   refine AM.wp_region ?_
   simp [u79,hwr]
   refine ⟨l - (i + 1),by omega,i + 1,by omega,by omega,by simpa using e0,by simp [u3],by simp [u7],by simp [u8],by simp [u9],by simp [u77],by simp [u78],by simp,V,by rw [hnxt]; exact hI'.skip,mk',by rw [hnxt]; exact hR',?_⟩
   rw [hnxt]
   exact e1.tail
 ·simp [hlt]
  refine AM.wp_exit ?_
  simp
  have hie:i = l:=by omega
  subst hie
  exact q _ s' V mk' (by simpa using e0) (by simp [u8]) (by simp [u9]) hR' hc'
end
section
variable {s0 s:St} {W:Pos→Prop} {fr:FI} {t0:PT AVal} {Q:Ex→PT AVal→St→Prop} {r:Lets}
theorem Zx7 {B3 B9 Bo Bf Bn pn:Pos} {cs:List CV} {V0 VL:List AVal} {L:List ND} {th:List Int} {mrL mk base:Lets} {n l:Nat} {c3 c7 c8:Cap} {rt:AVal}
  (hl:L.length = l) (hl6:l ≤ 60) (hn:cs.length = n) (hn4:n ≤ 400) (hVL:Z12 (L.map Prod.snd) VL mrL) (hth:th.length = l) (hR:Z12 (cs.map CV.kids) V0 mk)
  (t3:PT.get (posOf 3) t0 = some (.ptr B3 0)) (t7:PT.get (posOf 7) t0 = some (.slice Bo 0 l c7)) (t8:PT.get (posOf 8) t0 = some (.slice Bf 0 l c8)) (t9:PT.get (posOf 9) t0 = some (.ptr B9 0))
  (hc:Ctx s0 W ((B9,C [.slice pn 0 n (.lim n)]) :: (pn,C (encs (rcs cs V0))) :: (Bf,C (ints th)) :: (Bo,C (ints th)) :: (B3,C [.slice Bn 0 l c3,rt]) :: (Bn,C (Z0c L VL)) :: (mrL ++ (mk ++ base))) s)
  (qf:∀ t s' m',Z3l L th cs l = none→PT.get (posOf 4) t = some (.int .i64 0)→PT.get (posOf 5) t = some (.int .i64 12)→Ctx s0 W (m' ++ base) s'→Q .ret t s')
  (q:∀ t s' c f V mk',Z3l L th cs l = some (c,f)→AllI L th cs c V f l→PT.get (posOf 0) t = PT.get (posOf 0) t0→PT.get (posOf 3) t = some (.ptr B3 0)→PT.get (posOf 7) t = some (.slice Bo 0 l c7)→PT.get (posOf 8) t = some (.slice Bf 0 l c8)→PT.get (posOf 9) t = some (.ptr B9 0)→Z12 (c.map CV.kids) V mk' →
   Ctx s0 W ((B9,C [.slice pn 0 n (.lim n)]) :: (pn,C (encs (rcs c V))) :: (Bf,C (ints f)) :: (Bo,C (ints th)) :: (B3,C [.slice Bn 0 l c3,rt]) :: (Bn,C (Z0c L VL)) :: (mrL ++ (mk' ++ base))) s' →
   wp Tryd.prog Zn3 fr t s' Q):wp Tryd.prog Ztm fr t0 s Q:=by
 refine AM.wp_seq ?_
 refine Z00 ?_
 simp [t3,hc.c 4 rfl]
 refine AM.wp_block ?_
 refine AM.wp_loop (fun m t s' => ∃ (i:Nat) (c:List CV) (f:List Int) (V:List AVal) (mk':Lets),i ≤ l∧m = l - i∧PT.get (posOf 0) t = PT.get (posOf 0) t0∧PT.get (posOf 3) t = some (.ptr B3 0)∧PT.get (posOf 7) t = some (.slice Bo 0 l c7)∧PT.get (posOf 8) t = some (.slice Bf 0 l c8)∧PT.get (posOf 9) t = some (.ptr B9 0) ∧
   PT.get (posOf 48) t = some (.slice Bn 0 l c3)∧PT.get (posOf 49) t = some (.int .i64 l)∧PT.get (posOf 50) t = some (.int .i64 i)∧Z3l L th cs i = some (c,f)∧AllI L th cs c V f i∧Z12 (c.map CV.kids) V mk' ∧
   Ctx s0 W ((B9,C [.slice pn 0 n (.lim n)]) :: (pn,C (encs (rcs c V))) :: (Bf,C (ints f)) :: (Bo,C (ints th)) :: (B3,C [.slice Bn 0 l c3,rt]) :: (Bn,C (Z0c L VL)) :: (mrL ++ (mk' ++ base))) s') l
   ⟨0,cs,th,V0,mk,by simp,by simp,by simp,by simp [t3],by simp [t7],by simp [t8],by simp [t9],by simp,by simp,by simp,rfl,AllI.zero (by omega),hR,hc⟩ ?_
 rintro m t s' ⟨i,c,f,V,mk',hi,rfl,e0,u3,u7,u8,u9,u48,u49,u50,hA,hI,hR',hc'⟩
 refine Z00 ?_
 simp [u49,u50]
 refine AM.wp_seq ?_
 refine AM.Z04 ?_
 by_cases hlt:i < l
 ·have hwr:IntKind.wrap .i64 ((i:Int) + 1) = ((i + 1:Nat):Int):=by rw [IntWalk.i64_in _ (by omega)]; omega
  obtain ⟨nd,hnd⟩:∃ nd,L[i]? = some nd:=⟨_,List.getElem?_eq_getElem (by omega)⟩
  obtain ⟨x,hx⟩:∃ x,th[i]? = some x:=⟨_,List.getElem?_eq_getElem (by omega)⟩
  have hgx:(ints th)[i]? = some (.int .i64 x):=by rw [List.getElem?_map,hx]; rfl
  have hbn:s'.cells Bn = some (Z0c L VL):=hc'.c 5 rfl
  obtain ⟨kv,hsg,hsl,hkv⟩:=Zqz hVL hnd
  have hkt:∀ t,¬ kv = .tup t:=by
   rintro t rfl
   rcases hkv with ⟨_,h2⟩ | ⟨q,c,_,h2,_⟩
   ·cases h2
   ·cases h2
  have hkc:kv.cells = [kv]:=by
   rcases hkv with ⟨_,h2⟩ | ⟨q,c,_,h2,_⟩
   ·cases kv <;> first | rfl | cases h2
   ·rw [h2]; rfl
  have hmin:min 2 ((Z0c L VL).length - i * 2) = 2:=by omega
  have hV:V.length = c.length:=by have:=hR'.len; simpa using this
  have hcn:c.length = n:=hI.len.trans hn
  simp [hlt]
  refine AM.wp_skip ?_
  simp
  refine AM.wp_seq ?_
  refine AM.wp_block ?_
  refine Z00 ?_
  simp [u48,u50,hlt,hbn,hsl,hmin,hsg]
  have e1:=(hc'.alloc (C [.str [],.nilSlice])).put 0 rfl (C [.str nd.1,kv])
  simp only [List.set_cons_zero] at e1
  generalize (s'.alloc (.cells [.str [],.nilSlice] false)).put s'.next (.cells [.str nd.1,kv] false) = s4 at e1 ⊢
  generalize s'.next = B11 at e1 ⊢
  have hbo4:s4.cells Bo = some (ints th):=e1.c 4 rfl
  refine AM.wp_seq ?_
  refine Z00 ?_
  simp [u7,hlt,hbo4,hgx]
  refine AM.Z04 ?_
  by_cases hx0:x < 0
  ·have hxd:¬ 0 ≤ (th[i]?).getD 0:=by rw [hx]; show ¬ 0 ≤ x; omega
   simp [hx0]
   refine AM.wp_skip ?_
   simp
   refine Z00 ?_
   simp [u9,e1.c 1 rfl]
   refine Z02 ?_
   have hl2:=Z2c hV
   rw [hcn] at hl2
   refine Zqp (e1.oi 2 rfl) (e1.c 2 rfl) hl2 hn4 fun s5 k5 => ?_
   have e2:=e1.keeps k5
   rw [Zni hV]
   simp
   refine AM.wp_seq ?_
   refine Z00 ?_
   simp
   refine AM.Z04 ?_
   rcases Z88 c with hfr | ⟨a,d,hfr,had,hdt⟩
   ·rw [hfr]
    simp
    refine Z00 ?_
    simp
    refine AM.wp_ret ?_
    simp
    refine qf _ s5 ((B11,C [.str nd.1,kv]) :: (B9,C [.slice pn 0 n (.lim n)]) :: (pn,C (encs (rcs c V))) :: (Bf,C (ints f)) :: (Bo,C (ints th)) :: (B3,C [.slice Bn 0 l c3,rt]) :: (Bn,C (Z0c L VL)) :: (mrL ++ mk')) ?_ (by simp) (by simp) (by simpa using e2)
    refine Zrk (i:=i + 1) ?_ _ (by omega)
    rw [Z3l,hA]
    simp only
    rw [if_neg hxd,if_pos (by omega)]
   ·have hal:a < c.length:=(List.getElem?_eq_some_iff.1 had).1
    rw [hfr]
    have ha0:¬ (a:Int) < 0:=by omega
    simp [ha0]
    refine AM.wp_skip ?_
    simp
    have han:(a:Int) < n:=by omega
    have hrg:a < (rcs c V).length:=by rw [hl2]; omega
    have hlay:=Ze5 (rcs c V) a ⟨true,nd.1,.nilSlice,0⟩ hrg
    have hrs:(rcs c V).set a ⟨true,nd.1,.nilSlice,0⟩ = rcs (c.set a ⟨true,nd.1,[],0⟩) (V.set a .nilSlice):=Z8x (d:=⟨true,nd.1,[],0⟩)
    rw [hrs] at hlay
    have hle:a * 4 + 4 ≤ (encs (rcs c V)).length:=by rw [Z36,hl2]; omega
    simp [lay,RC.enc] at hlay
    have hpn:s5.own pn = some (encs (rcs c V)):=e2.o 2 rfl
    refine Z00 ?_
    simp [u9,e2.c 0 rfl,e2.c 1 rfl,han,hpn,hle]
    rw [hlay]
    have e3:=e2.put 2 rfl (C (encs (rcs (c.set a ⟨true,nd.1,[],0⟩) (V.set a .nilSlice))))
    simp only [List.set_cons_zero,List.set_cons_succ] at e3
    generalize s5.put pn (.cells (encs (rcs (c.set a ⟨true,nd.1,[],0⟩) (V.set a .nilSlice))) false) = s6 at e3 ⊢
    have hfl:f.length = l:=hI.flen.trans hl
    have hbf:s6.own Bf = some (ints f):=e3.o 3 rfl
    have hlf:i + 1 ≤ (ints f).length:=by simp [hfl]; omega
    have hlay2:lay (ints f) i [.int .i64 a] = ints (f.set i a):=Z5z f i a (by omega)
    generalize hY:ints (f.set i a) = Y at hlay2
    generalize hX:ints f = X at hbf hlf hlay2
    simp [lay] at hlay2
    refine AM.wp_region ?_
    simp [u8,hlt,hbf,hlf]
    rw [hlay2]
    have e4:=e3.put 3 rfl (C Y)
    simp only [List.set_cons_zero,List.set_cons_succ] at e4
    generalize s6.put Bf (.cells Y false) = s7 at e4 ⊢
    rw [← hY] at e4
    obtain ⟨kv3,m1,m2,f1,f2,f3,f4⟩:=hR'.at (i:=a) (ks:=d.kids) (by rw [List.getElem?_map,had]; rfl)
    have hR2:=f4 [] .nilSlice [] (.inl ⟨rfl,rfl,rfl⟩)
    have hmp:(c.map CV.kids).set a [] = (c.set a ⟨true,nd.1,[],0⟩).map CV.kids:=by rw [List.map_set]
    rw [hmp] at hR2
    refine AM.wp_region ?_
    simp [u50,hwr]
    refine ⟨l - (i + 1),by omega,i + 1,by omega,by omega,by simpa using e0,by simp [u3],by simp [u7],by simp [u8],by simp [u9],by simp [u48],by simp [u49],by simp,c.set a ⟨true,nd.1,[],0⟩,f.set i a,?_,V.set a .nilSlice,hI.next (by rw [hV]; exact hI.len) (by omega) had hdt,[] ++ m2,hR2,?_⟩
    ·rw [Z3l,hA]
     simp only
     rw [if_neg hxd,hfr,if_neg (by omega),hnd]
     rfl
    ·refine (e4.tail.perm (m':=((B9,C [.slice pn 0 n (.lim n)]) :: (pn,C (encs (rcs (c.set a ⟨true,nd.1,[],0⟩) (V.set a .nilSlice)))) :: (Bf,C (ints (f.set i a))) :: (Bo,C (ints th)) :: (B3,C [.slice Bn 0 l c3,rt]) :: (Bn,C (Z0c L VL)) :: (mrL ++ (([] ++ m2) ++ base))) ++ m1) (Z0o fun y => ?_)).sub (List.sublist_append_left _ _)
     have i3:=Z6o f3 y
     simp only [Z0j,Z0k,Z1e] at i3 ⊢
     omega
  ·have hxd:0 ≤ (th[i]?).getD 0:=by rw [hx]; show 0 ≤ x; omega
   simp [hx0]
   refine AM.wp_exit ?_
   simp
   refine AM.wp_region ?_
   simp [u50,hwr]
   refine ⟨l - (i + 1),by omega,i + 1,by omega,by omega,by simpa using e0,by simp [u3],by simp [u7],by simp [u8],by simp [u9],by simp [u48],by simp [u49],by simp,c,f,?_,V,hI.skip hxd,mk',hR',e1.tail⟩
   rw [Z3l,hA]
   simp only
   rw [if_pos hxd]
 ·simp [hlt]
  refine AM.wp_exit ?_
  simp
  have hie:i = l:=by omega
  subst hie
  exact q _ s' c f V mk' hA hI (by simpa using e0) (by simp [u3]) (by simp [u7]) (by simp [u8]) (by simp [u9]) hR' hc'
end
theorem Zzu {s0 s s':St} {W:Pos→Prop} {m:Lets} {kv:AVal} {ks:List Int} (hc:Ctx s0 W m s) (k:Keeps s s') (hne:ks ≠ []) (h:KidV s' kv ks) (hf:∀ q c,kv = .slice q 0 ks.length c→¬ s.Old q∧s'.Old q):∃ q c,kv = .slice q 0 ks.length c∧Ctx s0 W ((q,C (ints ks)) :: m) s':=by
 rcases h with ⟨_,h⟩ | ⟨q,c,rfl,h⟩
 ·exact (hne h).elim
 ·exact ⟨q,c,rfl,hc.made k (hf q c rfl).1 (St.Z2e h)⟩
theorem Zmr {s0 s:St} {W:Pos→Prop} {hb:Pos} {vs:AVal} {cs:List CV} {m r:Lets} {nv:AVal} {ns:List ND} {root:Int} {Q:AVal→St→Prop} (hH:Z2t hb vs cs m) (h:Ctx s0 W (m ++ r) s) (hO:HOk cs) (hN:Z7b s nv ns) (hsm:Zbo ns) (hmax:ns.length ≤ 2 ^ 62)
  (q:∀ m' s',Z2t hb vs (putF cs ns root).2.2 m'→Ctx s0 W (m' ++ r) s'→Q (.tup [.int .i64 (putF cs ns root).1,.int .i64 (putF cs ns root).2.1]) s'):Z0e Tryd.prog 19 [.ptr hb 0,.agg [nv,.int .i64 root]] s Q:=by
 obtain ⟨p,V,mr,hc,hR,hV,h1,h4,hP⟩:=Zbh hH h
 have hNt:=hN.at.ntup
 have hNc:=hN.at.Z9f
 have hno:cs.length ≠ 0:=by omega
 have d0:=Ctx.start (fun _ => False) hc.wf
 refine Z08 (Z0i (by decide)) fi19 rfl (by decide) rfl ?_
 refine Z00 ?_
 simp [hNt,hNc]
 have d1:=d0.alloc (C [nv,.int .i64 root])
 generalize s.alloc (.cells [nv,.int .i64 root] false) = s1 at d1 ⊢
 generalize s.next = B3 at d1 ⊢
 refine AM.wp_seq ?_
 refine Z00 ?_
 simp
 refine Z02 ?_
 refine Z75 ((d1.Z0h.cells (hc.oi 0 rfl)).trans (hc.c 0 rfl)) rfl hno ?_
 simp
 refine AM.Z04 ?_
 simp
 refine AM.wp_skip ?_
 simp
 refine Z00 ?_
 simp [d1.c 0 rfl]
 refine Z02 ?_
 unfold putF at q
 refine Zi9 d1.wf (hN.keep d1.Z0h) hsm hmax (fun s2 k2 hz => ?_) fun Bn mn s2 hz hM hx => ?_
 ·rw [if_pos hz] at q
  have d2:=d1.keeps k2
  simp [d2.o 0 rfl]
  have d3:=d2.put 0 rfl (C [.nilSlice,.int .i64 0])
  simp only [List.set_cons_zero] at d3
  generalize s2.put B3 (.cells [.nilSlice,.int .i64 0] false) = s3 at d3 ⊢
  refine AM.wp_seq ?_
  refine Z00 ?_
  simp
  refine AM.Z04 ?_
  simp [hz]
  refine Z00 ?_
  simp
  refine AM.wp_ret ?_
  simp
  exact q m s3 hH (h.keeps d3.Z0h)
 ·rw [if_neg (by simpa using hz)] at q
  obtain ⟨o1,o2,hGO,hnm,r0,r1⟩:=Z6g hz
  obtain ⟨hGL,hL1,hL2⟩:=Z5n (r:=root.toNat) hGO (by omega)
  generalize hLG:Z0v ns root.toNat = L at hM hGL hL1 hL2 q
  have d3:Ctx s (fun _ => False) (mn ++ [(B3,C [nv,.int .i64 root])]) s2:=Ctx.on (m:=[]) (by simpa using d1) (by simpa using hx)
  obtain ⟨VL,mrL,hp1,hVL⟩:=id hM
  have d4:=d3.perm (m':=(B3,C [nv,.int .i64 root]) :: (Bn,C (Z0c L VL)) :: mrL) (Z0o fun x => by
   have i1:=Z6o hp1 x
   simp only [Z0j,Z0k,Z1e] at i1 ⊢
   omega)
  simp [d4.o 0 rfl]
  have d5:=d4.put 0 rfl (C [.slice Bn 0 L.length (.lim L.length),.int .i64 0])
  simp only [List.set_cons_zero] at d5
  generalize s2.put B3 (.cells [.slice Bn 0 L.length (.lim L.length),.int .i64 0] false) = s4 at d5 ⊢
  have hMA:=hM.at (.lim L.length) (d5.tail.perm hp1.symm)
  have hb4:s4.cells hb = some [.slice p 0 cs.length (.lim cs.length),vs]:=(d5.Z0h.cells (hc.oi 0 rfl)).trans (hc.c 0 rfl)
  have c4:=hc.keeps d5.Z0h
  refine AM.wp_seq ?_
  refine Z00 ?_
  simp
  refine AM.Z04 ?_
  simp
  refine AM.wp_skip ?_
  simp
  refine Z00 ?_
  simp [hb4,d5.c 0 rfl]
  refine Z02 ?_
  have hobs:∀ j c,(rcs cs V)[j]? = some c→Z0g s4 c.kv (Z11 cs j):=by
   intro j c hj
   obtain ⟨_,_,r3⟩:=Z80 (p:=p) (cs:=cs) (V:=V) c4 (by simp) hR (fun y hy => by simp [hy])
   have hjl:j < cs.length:=by have:=(List.getElem?_eq_some_iff.1 hj).1; rwa [Z2c hV] at this
   obtain ⟨kv,e1,e2⟩:=r3 j _ (List.getElem?_eq_getElem hjl)
   rw [Z26 (List.getElem?_eq_getElem hjl) e1] at hj
   cases hj
   rw [Z1v (List.getElem?_eq_getElem hjl)]
   exact e2
  refine Zng (V:=V) d5.wf (c4.oi 1 rfl) (c4.c 1 rfl) hV h1 h4 hobs hO hMA hGL hL1 (by omega) fun Bo s5 k5 hBo hox => ?_
  have hfl:=Zea cs L
  generalize Z1p cs L = th at hox hfl q
  obtain ⟨x,hx0⟩:∃ x,th[0]? = some x:=⟨_,List.getElem?_eq_getElem (by omega)⟩
  have d6:=d5.made k5 hBo (St.Z2e hox)
  have hg0:(ints th)[0]? = some (.int .i64 x):=by rw [List.getElem?_map,hx0]; rfl
  have hL1':0 < L.length:=by omega
  have hcBo:s5.cells Bo = some (ints th):=Z0a hox
  simp
  refine AM.wp_seq ?_
  refine Z00 ?_
  simp [hL1',hcBo,hg0]
  refine AM.Z04 ?_
  rw [hx0] at q
  simp only [Option.getD_some] at q
  by_cases hx1:x < 0
  ·rw [if_neg (by omega)] at q
   simp [hx1]
   refine AM.wp_skip ?_
   simp
   refine Z00 ?_
   simp
   refine Z02 ?_
   have hti:Z0g s5 (.slice Bo 0 L.length (.lim L.length)) th:=by
    have:=Z4f d6.wf hox (.lim L.length)
    rwa [hfl] at this
   refine Zhz d6.wf hti (by omega) fun kvf s6 k6 hkf hff => ?_
   obtain ⟨Bf,cf,rfl,d7⟩:=Zzu d6 k6 (by intro e; rw [e] at hfl; simp at hfl; omega) hkf hff
   rw [hfl]
   simp
   have c7:Ctx s0 W ((Bf,C (ints th)) :: (Bo,C (ints th)) :: (B3,C [.slice Bn 0 L.length (.lim L.length),.int .i64 0]) :: (Bn,C (Z0c L VL)) :: (hb,C [.slice p 0 cs.length (.lim cs.length),vs]) :: (p,C (encs (rcs cs V))) :: (mrL ++ (mr ++ r))) s6:=by
    have:=Ctx.on (s0:=s0) (W:=W) (m:=[]) (m':=(Bf,C (ints th)) :: (Bo,C (ints th)) :: (B3,C [.slice Bn 0 L.length (.lim L.length),.int .i64 0]) :: (Bn,C (Z0c L VL)) :: mrL) (r:=(hb,C [.slice p 0 cs.length (.lim cs.length),vs]) :: (p,C (encs (rcs cs V))) :: (mr ++ r)) (by simpa using hc) (by simpa using d7)
    refine this.perm (Z0o fun y => ?_)
    simp only [Z0j,Z0k,Z1e]
    omega
   refine Z00 ?_
   simp [c7.c 4 rfl]
   refine Z02 ?_
   refine own_c (p:=p) (V:=V) (mr:=mr) c7 hV h1 h4 (fun x hx => by have:=hO.kids4 x hx; omega) (by simp) hR (fun x hx => by simp [hx]) fun pn mn s7 hS c8 => ?_
   obtain ⟨V1,mk1,f1,f2⟩:=hS
   simp
   have c9:=(c8.alloc (C [.nilSlice])).put 0 rfl (C [.slice pn 0 cs.length (.lim cs.length)])
   simp only [List.set_cons_zero] at c9
   generalize (s7.alloc (.cells [.nilSlice] false)).put s7.next (.cells [.slice pn 0 cs.length (.lim cs.length)] false) = s8 at c9 ⊢
   generalize s7.next = B9 at c9 ⊢
   have c10:=c9.perm (m':=(B9,C [.slice pn 0 cs.length (.lim cs.length)]) :: (pn,C (encs (rcs cs V1))) :: (Bf,C (ints th)) :: (Bo,C (ints th)) :: (B3,C [.slice Bn 0 L.length (.lim L.length),.int .i64 0]) :: (Bn,C (Z0c L VL)) :: (mrL ++ (mk1 ++ ((hb,C [.slice p 0 cs.length (.lim cs.length),vs]) :: (p,C (encs (rcs cs V))) :: (mr ++ r))))) (Z0o fun y => by
    have i1:=Z6o f1 y
    simp only [Z0j,Z0k,Z1e] at i1 ⊢
    omega)
   refine Zx7 (l:=L.length) (n:=cs.length) (c7:=.lim L.length) (c8:=cf) rfl (by omega) rfl h4 hVL hfl f2 (by simp) (by simp) (by simp) (by simp) c10 (fun t s' m' hal t4 t5 e1 => ?_) fun t1 s9 c f V2 mk2 hal hI t0 t3 t7 t8 t9 hR2 c11 => ?_
   ·rw [hal] at q
    simp [t4,t5]
    refine q m s' hH ((e1.sub (List.sublist_append_right _ _)).perm ?_)
    refine Z0o fun y => ?_
    have i1:=Z6o hP y
    simp only [Z0j,Z0k,Z1e] at i1 ⊢
    omega
   ·rw [hal] at q
    simp only at q
    refine Zx8 (l:=L.length) (n:=cs.length) rfl (by omega) hI.len hGL hVL hfl (hI.flen) hI.fil hR2 t3 t7 t8 t9 c11 fun t2 s10 V3 mk3 v0 v8 v9 hR3 c12 => ?_
    have v0:PT.get (posOf 0) t2 = some (.ptr hb 0):=v0.trans (t0.trans (by simp))
    have hcl:(Z2a L th f c L.length).length = cs.length:=(Z8o L th f c L.length).trans hI.len
    generalize Z2a L th f c L.length = cE at hR3 c12 q hcl
    have c13:=c12.perm (m':=(B9,C [.slice pn 0 cs.length (.lim cs.length)]) :: (hb,C [.slice p 0 cs.length (.lim cs.length),vs]) :: (Bf,C (ints f)) :: (pn,C (encs (rcs cE V3))) :: ((mk3 ++ r) ++ ((Bo,C (ints th)) :: (B3,C [.slice Bn 0 L.length (.lim L.length),.int .i64 0]) :: (Bn,C (Z0c L VL)) :: (p,C (encs (rcs cs V))) :: (mrL ++ mr)))) (Z0o fun y => by
     simp only [Z0j,Z0k,Z1e]
     omega)
    obtain ⟨y,hy⟩:∃ y,f[0]? = some y:=⟨_,List.getElem?_eq_getElem (by have:=hI.flen; omega)⟩
    rw [hy] at q
    simp only [Option.getD_some] at q
    have hgy:(ints f)[0]? = some (.int .i64 y):=by rw [List.getElem?_map,hy]; rfl
    refine Z00 ?_
    simp [v0,v9,c13.c 0 rfl,c13.o 1 rfl]
    have c14:=c13.put 1 rfl (C [.slice pn 0 cs.length (.lim cs.length),vs])
    simp only [List.set_cons_zero,List.set_cons_succ] at c14
    generalize s10.put hb (.cells [.slice pn 0 cs.length (.lim cs.length),vs] false) = s11 at c14 ⊢
    have hBf:s11.cells Bf = some (ints f):=c14.c 2 rfl
    refine Z00 ?_
    simp [v8,hBf,hgy,hL1']
    refine AM.wp_ret ?_
    simp
    refine q ((hb,C [.slice pn 0 cs.length (.lim cs.length),vs]) :: (pn,C (encs (rcs cE V3))) :: mk3) s11 ⟨pn,V3,mk3,by rw [hcl],hR3,by omega,by omega⟩ ?_
    refine (c14.perm (m':=(((hb,C [.slice pn 0 cs.length (.lim cs.length),vs]) :: (pn,C (encs (rcs cE V3))) :: mk3) ++ r) ++ ((B9,C [.slice pn 0 cs.length (.lim cs.length)]) :: (Bf,C (ints f)) :: (Bo,C (ints th)) :: (B3,C [.slice Bn 0 L.length (.lim L.length),.int .i64 0]) :: (Bn,C (Z0c L VL)) :: (p,C (encs (rcs cs V))) :: (mrL ++ mr))) (Z0o fun y => ?_)).sub (List.sublist_append_left _ _)
    simp only [Z0j,Z0k,Z1e]
    omega
  ·rw [if_pos (by omega)] at q
   simp [hx1]
   refine Z00 ?_
   simp [hL1',hcBo,hg0]
   refine AM.wp_ret ?_
   simp
   exact q m s5 hH (h.keeps d6.Z0h)
def Z29 (s0:St) (W:Pos→Prop) (bv:AVal) (bs:List Int):Prop:=(Z1q bv = some 0∧bs = []) ∨
 ∃ b o c cs,bv = .slice b o bs.length c∧¬ W b∧s0.Old b∧s0.cells b = some cs∧o + bs.length ≤ cs.length∧∀ (i:Nat) (k:Int),bs[i]? = some k→cs[o + i]? = some (.int .u8 k)
theorem Z29.len {s0:St} {W:Pos→Prop} {bv:AVal} {bs:List Int} (h:Z29 s0 W bv bs):Z1q bv = some bs.length:=by
 rcases h with ⟨h1,rfl⟩ | ⟨b,o,c,cs,rfl,_⟩
 ·exact h1
 ·rfl
theorem Z29.ntup {s0:St} {W:Pos→Prop} {bv:AVal} {bs:List Int} (h:Z29 s0 W bv bs):∀ t,¬ bv = .tup t:=by
 rintro t rfl
 have:=h.len
 cases this
theorem Z29.cells {s0:St} {W:Pos→Prop} {bv:AVal} {bs:List Int} (h:Z29 s0 W bv bs):bv.cells = [bv]:=by
 have:=h.len
 cases bv <;> first | rfl | cases this
structure SK where
 nx:Nat
 st:Int
def xorI (a b:Int):Int:=IntKind.u64.wrap (BitVec.ofInt IntKind.u64.bits a ^^^ BitVec.ofInt IntKind.u64.bits b).toNat
def shlI (a b:Int):Int:=IntKind.u64.wrap (a * 2 ^ min b.toNat IntKind.u64.bits)
def shrI (a b:Int):Int:=a.fdiv (2 ^ min b.toNat IntKind.u64.bits)
section
variable {a b:Int} {Q:AVal→Prop}
@[simp ↓] theorem intP_xorU:intP .xor .u64 a b Q = Q (.int .u64 (xorI a b)):=propext ⟨fun h => h,fun h => h⟩
@[simp ↓] theorem intP_shlU:intP .shl .u64 a b Q = (0 ≤ b∧Q (.int .u64 (shlI a b))):=propext ⟨fun h => h,fun h => h⟩
@[simp ↓] theorem intP_shrU:intP .shr .u64 a b Q = (0 ≤ b∧Q (.int .u64 (shrI a b))):=propext ⟨fun h => h,fun h => h⟩
end
theorem u64_low (n:Int):0 ≤ IntKind.u64.wrap n:=by rw [IntKind.wrap_u64]; omega
theorem Zxe {a b:Int} (h:0 ≤ a):0 ≤ shrI a b:=by
 unfold shrI
 rw [Int.fdiv_eq_ediv_of_nonneg _ (Int.pow_nonneg (by decide))]
 exact Int.ediv_nonneg h (Int.pow_nonneg (by decide))
def Zbn (bs:List Int) (k:SK):SK:=if bs = [] then k else ⟨k.nx + 1,IntKind.u64.wrap (k.st + IntKind.u64.wrap (IntKind.u64.wrap ((bs[k.nx % bs.length]?).getD 0) + 1))⟩
def mixA (st:Int):Int:=xorI st (shlI st 13)
def mixB (st:Int):Int:=xorI st (shrI st 7)
def mixC (st:Int):Int:=xorI st (shlI st 17)
def mixS (st:Int):Int:=mixC (mixB (mixA st))
def Zj5 (bs:List Int) (k:SK):Int × SK:=(shrI (IntKind.u64.wrap (mixS (Zbn bs k).st * 2685821657736338717)) 33,⟨(Zbn bs k).nx,mixS (Zbn bs k).st⟩)
theorem Zqn:∃ f:List Int→SK→Int × SK,f = Zj5:=⟨_,rfl⟩
noncomputable def Zch:List Int→SK→Int × SK:=Classical.choose Zqn
theorem Zi2:Zch = Zj5:=Classical.choose_spec Zqn
theorem Zuc (bs:List Int) (k:SK):0 ≤ (Zch bs k).1:=by rw [Zi2]; exact Zxe (u64_low _)
theorem Zn8 (bs:List Int) (k:SK):(Zch bs k).2.nx ≤ k.nx + 1:=by
 rw [Zi2]
 unfold Zj5 Zbn
 split <;> simp
section
variable {s0 s:St} {W:Pos→Prop} {Bs:Pos} {bv:AVal} {bs:List Int} {k:SK} {r:Lets} {Q:AVal→St→Prop}
abbrev Z0p (bv:AVal) (k:SK):AObj:=C [bv,.int .i64 k.nx,.int .u64 k.st]
theorem draw_c (hB:Z29 s0 W bv bs) (h:Ctx s0 W ((Bs,Z0p bv k) :: r) s) (hn:k.nx < 2 ^ 62)
  (q:∀ s',Ctx s0 W ((Bs,Z0p bv (Zch bs k).2) :: r) s'→Q (.int .u64 (Zch bs k).1) s'):Z0e Tryd.prog 78 [.ptr Bs 0] s Q:=by
 have hbt:=hB.ntup
 have hbl:=hB.len
 refine Z08 (Z0i (by decide)) fi78 rfl (by decide) rfl ?_
 refine Z00 ?_
 simp
 refine AM.wp_seq ?_
 refine Z00 ?_
 simp [h.c 0 rfl,hbl]
 have main:∀ (t:PT AVal) (s:St) (k':SK),PT.get (posOf 0) t = some (.ptr Bs 0)→Zbn bs k = k'→Ctx s0 W ((Bs,Z0p bv k') :: r) s→wp Tryd.prog c78_9 { fn:=78,ntmps:=83,ps:=[66,67,69,70,71,72,73,68,65,75,74,76,54,55,57,58,59,60,61,56,53,63,62,64,42,43,45,46,47,48,49,44,41,51,50,52,10,11,13,14,15,17,18,19,21,22,23,24,25,20,26,16,27,28,29,30,12,9,32,31,33,8,0,2],round:=none } t s fun e t s' => match e with
   | .exit _ => False
   | _ => resP Tryd.prog t s' [.tmp 2] fun l => Q (retV l) s':=by
  intro t s k' t0 hk c0
  refine Z00 ?_
  simp [t0,c0.c 0 rfl,c0.o 0 rfl]
  have c1:=c0.put 0 rfl (Z0p bv ⟨k'.nx,mixA k'.st⟩)
  simp only [List.set_cons_zero] at c1
  rw [show xorI k'.st (shlI k'.st 13) = mixA k'.st from rfl]
  generalize s.put Bs (.cells [bv,.int .i64 k'.nx,.int .u64 (mixA k'.st)] false) = s1 at c1 ⊢
  refine Z00 ?_
  simp [t0,c1.c 0 rfl,c1.o 0 rfl]
  have c2:=c1.put 0 rfl (Z0p bv ⟨k'.nx,mixB (mixA k'.st)⟩)
  simp only [List.set_cons_zero] at c2
  rw [show xorI (mixA k'.st) (shrI (mixA k'.st) 7) = mixB (mixA k'.st) from rfl]
  generalize s1.put Bs (.cells [bv,.int .i64 k'.nx,.int .u64 (mixB (mixA k'.st))] false) = s2 at c2 ⊢
  refine Z00 ?_
  simp [t0,c2.c 0 rfl,c2.o 0 rfl]
  have c3:=c2.put 0 rfl (Z0p bv ⟨k'.nx,mixS k'.st⟩)
  simp only [List.set_cons_zero] at c3
  rw [show xorI (mixB (mixA k'.st)) (shlI (mixB (mixA k'.st)) 17) = mixS k'.st from rfl]
  generalize s2.put Bs (.cells [bv,.int .i64 k'.nx,.int .u64 (mixS k'.st)] false) = s3 at c3 ⊢
  refine Z00 ?_
  simp [t0,c3.c 0 rfl]
  refine AM.wp_ret ?_
  simp
  have:=q s3
  rw [Zi2] at this
  unfold Zj5 at this
  rw [hk] at this
  exact this c3
 refine AM.Z04 ?_
 by_cases hz:bs = []
 ·have hs:Zbn bs k = k:=by unfold Zbn; rw [if_pos hz]
  simp [hz]
  refine AM.wp_skip ?_
  simp
  exact main _ _ k (by simp) hs h
 ·have hpos:0 < bs.length:=List.length_pos_iff.2 hz
  have hs:Zbn bs k = ⟨k.nx + 1,IntKind.u64.wrap (k.st + IntKind.u64.wrap (IntKind.u64.wrap ((bs[k.nx % bs.length]?).getD 0) + 1))⟩:=by unfold Zbn; rw [if_neg hz]
  rcases hB with ⟨_,h0⟩ | ⟨b,o,c,cs,rfl,hb1,hb2,hb3,hb4,hb5⟩
  ·exact (hz h0).elim
  have hml:k.nx % bs.length < bs.length:=Nat.mod_lt _ hpos
  obtain ⟨x,hx⟩:∃ x,bs[k.nx % bs.length]? = some x:=⟨_,List.getElem?_eq_getElem hml⟩
  have hgx:=hb5 _ _ hx
  have hcs:s.cells b = some cs:=(h.Zfb hb1 hb2).trans hb3
  have hm:((k.nx:Int)).tmod (bs.length:Int) = ((k.nx % bs.length:Nat):Int):=by
   rw [Int.tmod_eq_emod_of_nonneg (by omega)]
   omega
  have hwr:IntKind.wrap .i64 ((k.nx:Int) + 1) = ((k.nx + 1:Nat):Int):=by rw [IntWalk.i64_in _ (by omega)]; omega
  rw [hx] at hs
  simp only [Option.getD_some] at hs
  have hlt2:((k.nx % bs.length:Nat):Int) < (bs.length:Int):=by omega
  have h02:(0:Int) ≤ ((k.nx % bs.length:Nat):Int):=by omega
  have hbi:¬ (bs.length:Int) = 0:=by omega
  have hp2:(0:Int) < (bs.length:Int):=by omega
  generalize k.nx % bs.length = j at hgx hm hml hlt2 h02 hx
  simp [hpos]
  refine Z00 ?_
  simp [h.c 0 rfl,hcs,hm,hz,hml,hgx,h.o 0 rfl]
  have c1:=h.put 0 rfl (Z0p (.slice b o bs.length c) ⟨k.nx,IntKind.u64.wrap (k.st + IntKind.u64.wrap (IntKind.u64.wrap x + 1))⟩)
  simp only [List.set_cons_zero] at c1
  generalize IntKind.u64.wrap (k.st + IntKind.u64.wrap (IntKind.u64.wrap x + 1)) = y at c1 hs ⊢
  generalize s.put Bs (.cells [.slice b o bs.length c,.int .i64 k.nx,.int .u64 y] false) = s1 at c1 ⊢
  refine AM.wp_region ?_
  simp [c1.c 0 rfl,c1.o 0 rfl,hwr]
  have c2:=c1.put 0 rfl (Z0p (.slice b o bs.length c) ⟨k.nx + 1,y⟩)
  simp only [List.set_cons_zero] at c2
  refine main _ _ ⟨k.nx + 1,y⟩ (by simp) hs ?_
  rw [show Z0p (.slice b o bs.length c) ⟨k.nx + 1,y⟩ = C [.slice b o bs.length c,.int .i64 ((k.nx:Int) + 1),.int .u64 y] from by simp [Z0p]] at c2 ⊢
  exact c2
noncomputable def Z0r (bs:List Int) (n:Int) (k:SK):Int × SK:=((Zch bs k).1.tmod (max 1 n),(Zch bs k).2)
theorem Z2v (bs:List Int) (n:Int) (k:SK):0 ≤ (Z0r bs n k).1∧(Z0r bs n k).1 < max 1 n:=by
 unfold Z0r
 have h1:=Zuc bs k
 have h2:0 < max 1 n:=by omega
 rw [Int.tmod_eq_emod_of_nonneg h1]
 exact ⟨Int.emod_nonneg _ (by omega),Int.emod_lt_of_pos _ h2⟩
theorem Z23 (bs:List Int) (n:Int) (k:SK):(Z0r bs n k).2.nx ≤ k.nx + 1:=Zn8 bs k
theorem Z3u {n:Int} (hB:Z29 s0 W bv bs) (h:Ctx s0 W ((Bs,Z0p bv k) :: r) s) (hn:k.nx < 2 ^ 62) (hm:n ≤ 2 ^ 62)
  (q:∀ s',Ctx s0 W ((Bs,Z0p bv (Z0r bs n k).2) :: r) s'→Q (.int .i64 (Z0r bs n k).1) s'):Z0e Tryd.prog 33 [.ptr Bs 0,.int .i64 n] s Q:=by
 refine Z08 (Z0i (by decide)) fi33 rfl (by decide) rfl ?_
 refine Z00 ?_
 simp
 refine Z00 ?_
 simp
 refine Z02 ?_
 refine draw_c hB h hn fun s1 c1 => ?_
 simp
 have hb:=Z2v bs n k
 have e1:IntKind.u64.wrap (max 1 n) = max 1 n:=IntWalk.u64_in _ (by omega)
 have e2:IntKind.wrap .i64 (Z0r bs n k).1 = (Z0r bs n k).1:=IntWalk.i64_in _ (by omega)
 have e3:¬ max 1 n = 0:=by omega
 refine Zg3 (k:=.i64) (k':=.i64) (a:=1) (b:=n) (by simp) (by simp) ?_
 simp [e1,e3]
 have e4:(Zch bs k).1.tmod (max 1 n) = (Z0r bs n k).1:=rfl
 rw [e4,e2]
 refine AM.wp_ret ?_
 simp
 exact q s1 c1
noncomputable def Z5g (bs:List Int) (lo hi:Int) (k:SK):Int × SK:=(lo + (Z0r bs (hi - lo + 1) k).1,(Z0r bs (hi - lo + 1) k).2)
theorem Z46 (bs:List Int) (lo hi:Int) (k:SK):lo ≤ (Z5g bs lo hi k).1∧(Z5g bs lo hi k).1 ≤ max lo hi:=by
 have:=Z2v bs (hi - lo + 1) k
 unfold Z5g
 omega
theorem Z7d (bs:List Int) (lo hi:Int) (k:SK):(Z5g bs lo hi k).2.nx ≤ k.nx + 1:=Zn8 bs k
theorem Zgj {lo hi:Int} (hB:Z29 s0 W bv bs) (h:Ctx s0 W ((Bs,Z0p bv k) :: r) s) (hn:k.nx < 2 ^ 62) (hlo:0 ≤ lo∧lo ≤ 1000) (hhi:0 ≤ hi∧hi ≤ 1000)
  (q:∀ s',Ctx s0 W ((Bs,Z0p bv (Z5g bs lo hi k).2) :: r) s'→Q (.int .i64 (Z5g bs lo hi k).1) s'):Z0e Tryd.prog 60 [.ptr Bs 0,.int .i64 lo,.int .i64 hi] s Q:=by
 have e1:IntKind.wrap .i64 (hi - lo) = hi - lo:=IntWalk.i64_in _ (by omega)
 have e2:IntKind.wrap .i64 (hi - lo + 1) = hi - lo + 1:=IntWalk.i64_in _ (by omega)
 have hb:=Z2v bs (hi - lo + 1) k
 have e3:IntKind.wrap .i64 (lo + (Z0r bs (hi - lo + 1) k).1) = lo + (Z0r bs (hi - lo + 1) k).1:=IntWalk.i64_in _ (by omega)
 refine Z08 (Z0i (by decide)) fi60 rfl (by decide) rfl ?_
 refine Z00 ?_
 simp
 refine Z00 ?_
 simp [e1,e2]
 refine Z02 ?_
 refine Z3u hB h hn (by omega) fun s1 c1 => ?_
 simp [e3]
 refine AM.wp_ret ?_
 simp
 exact q s1 c1
def Z9e (bs:List Int):SK:=⟨0,IntKind.u64.wrap (11400714819323198485 + IntKind.u64.wrap bs.length)⟩
theorem Znc (hB:Z29 s0 W bv bs) (h:Ctx s0 W r s)
  (q:∀ Bs s',Ctx s0 W ((Bs,Z0p bv (Z9e bs)) :: r) s'→Q (.ptr Bs 0) s'):Z0e Tryd.prog 16 [bv] s Q:=by
 have hbt:=hB.ntup
 have hbl:=hB.len
 have hbc:=hB.cells
 refine Z08 (Z0i (by decide)) fi16 rfl (by decide) rfl ?_
 refine Z00 ?_
 simp
 refine Z00 ?_
 simp [hbl,hbt,hbc]
 refine AM.wp_ret ?_
 simp
 exact q _ _ (h.alloc (Z0p bv (Z9e bs)))
end
attribute [irreducible] Z9e
def Zft (k:Int):List (List UInt8):=if k = 0 then [[97],[110,105,108],[98]] else if k = 1 then [[115],[117],[116]] else [[99,111,110,115],[112],[113]]
theorem Zwu {s:St} {k:Int} {Q:AVal→St→Prop} (h0:0 ≤ k) (h2:k ≤ 2) (q:∀ s',Keeps s s'→Q (.agg ((Zft k).map .str)) s'):Z0e Tryd.prog 61 [.int .i64 k] s Q:=by
 refine Z08 (Z0i (by decide)) fi61 rfl (by decide) rfl ?_
 refine Z00 ?_
 simp
 have hk:k = 0 ∨ k = 1 ∨ k = 2:=by omega
 have hl:Z3q Tryd.prog 111 = some (some 3):=by kernel_rfl
 have hK:∀ x:List AVal,Keeps s ((s.alloc (.cells [.str [],.str [],.str []] false)).put s.next (.cells x false)):=fun x => (Keeps.alloc _ _).put _ (Z09 _) (Z18 _ _)
 refine Z00 ?_
 rcases hk with rfl | rfl | rfl
 all_goals
  simp
  refine AM.wp_ret ?_
  simp [hl]
  exact q _ (hK _)
end Go.Proofs
end
