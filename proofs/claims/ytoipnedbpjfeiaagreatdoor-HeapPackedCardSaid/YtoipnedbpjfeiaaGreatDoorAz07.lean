/- Parts of the proof: Get1, Get2, Get3, Abr, Abr2, AC1, AC2, AC3, AC4, AC5, Ord, Can1, Mgd, Swp, Grw, PermC, Sav, MovP. -/
import Derived.Test.YtoipnedbpjfeiaaGreatDoorAz06
set_option linter.all false
set_option linter.unusedSectionVars false
set_option linter.unusedSimpArgs false
set_option linter.unusedVariables false
section
open Go Go.AM
namespace Go.Proofs
set_option maxRecDepth 100000
theorem Zd3 {K:Nat→List Nat} {n:Nat} (hK:∀ a,a < n→∀ k ∈ K a,k < n):∀ (f:Nat) (v:List Nat) (i:Nat),v.Nodup→(∀ a ∈ v,a < n)→n + 1 ≤ i + f→(∀ j a,j < i→v[j]? = some a→∀ k ∈ K a,k ∈ v) →
  ∀ a ∈ runB K f v i,∀ k ∈ K a,k ∈ runB K f v i
 | 0,v,i,h1,h2,h3,h4 => by
  intro a ha k hk
  have hl:=Z22 h1 h2
  obtain ⟨j,hj⟩:=List.getElem?_of_mem ha
  have hjl:=(List.getElem?_eq_some_iff.1 hj).1
  simp only [runB] at hj hjl
  exact h4 j a (by omega) hj k hk
 | f + 1,v,i,h1,h2,h3,h4 => by
  unfold runB
  cases hv:v[i]? with
  | none =>
   intro a ha k hk
   obtain ⟨j,hj⟩:=List.getElem?_of_mem ha
   have hjl:=(List.getElem?_eq_some_iff.1 hj).1
   have hil:=List.getElem?_eq_none_iff.1 hv
   exact h4 j a (by simp only at hjl; omega) hj k hk
  | some b =>
   have hb:=h2 b (List.mem_of_getElem? hv)
   obtain ⟨h5,h6⟩:=Za7 h1 h2 (hK b hb)
   refine Zd3 hK f (Z0c v (K b)) (i + 1) h5 h6 (by omega) ?_
   intro j a hj ha k hk
   obtain ⟨w,hw⟩:=Z5d (K b) v
   have hil:=(List.getElem?_eq_some_iff.1 hv).1
   by_cases e:j = i
   ·subst e
    have hab:a = b:=by
     rw [hw,List.getElem?_append_left hil,hv] at ha
     exact (Option.some.inj ha).symm
    subst hab
    have key:∀ (ks v:List Nat) (k:Nat),k ∈ ks→k ∈ Z0c v ks:=by
     intro ks
     induction ks with
     | nil => intro v k h; cases h
     | cons x ks ih =>
      intro v k h
      show k ∈ Z0c (addN v x) ks
      rcases List.mem_cons.1 h with rfl | h
      ·obtain ⟨w',hw'⟩:=Z5d ks (addN v k)
       rw [hw']
       refine List.mem_append_left _ ?_
       unfold addN
       split
       ·assumption
       ·simp
      ·exact ih _ _ h
    exact key _ _ _ hk
   ·have ha':v[j]? = some a:=by
     rw [hw,List.getElem?_append_left (by omega)] at ha
     exact ha
    have:=h4 j a (by omega) ha' k hk
    rw [hw]
    exact List.mem_append_left _ this
theorem Zi1 {K:Nat→List Nat} {P:Nat→Prop} (hP:∀ a,P a→∀ k ∈ K a,P k):∀ (f:Nat) (v:List Nat) (i:Nat),(∀ a ∈ v,P a)→∀ a ∈ runB K f v i,P a
 | 0,v,i,h => h
 | f + 1,v,i,h => by
  unfold runB
  cases hv:v[i]? with
  | none => exact h
  | some b =>
   refine Zi1 hP f _ _ ?_
   have hb:=h b (List.mem_of_getElem? hv)
   have key:∀ (ks v:List Nat),(∀ a ∈ v,P a)→(∀ k ∈ ks,P k)→∀ a ∈ Z0c v ks,P a:=by
    intro ks
    induction ks with
    | nil => intro v h _; exact h
    | cons x ks ih =>
     intro v h h'
     refine ih (addN v x) ?_ (fun k hk => h' k (by simp [hk]))
     unfold addN
     split
     ·exact h
     ·intro a ha
      rcases List.mem_append.1 ha with ha | ha
      ·exact h a ha
      ·simp at ha
       rw [ha]
       exact h' x (by simp)
   exact key _ _ h (hP b hb)
theorem Zbo {K:Nat→List Nat} {n:Nat} (hK:∀ a,a < n→∀ k ∈ K a,k < n):∀ (roots:List Nat),(∀ r ∈ roots,r < n) →
  (bfsF K n roots).Nodup∧(∀ a ∈ bfsF K n roots,a < n)∧(∀ a ∈ bfsF K n roots,∀ k ∈ K a,k ∈ bfsF K n roots)∧(∀ r ∈ roots,r ∈ bfsF K n roots)∧∀ (P:Nat→Prop),(∀ a,P a→∀ k ∈ K a,P k)→(∀ r ∈ roots,P r)→∀ a ∈ bfsF K n roots,P a:=by
 have step:∀ (roots done v:List Nat),v.Nodup→(∀ a ∈ v,a < n)→(∀ a ∈ v,∀ k ∈ K a,k ∈ v)→(∀ r ∈ done,r ∈ v)→(∀ r ∈ roots,r < n)→(∀ (P:Nat→Prop),(∀ a,P a→∀ k ∈ K a,P k)→(∀ r ∈ done,P r)→∀ a ∈ v,P a) →
   (roots.foldl (fun v r => runB K (n + 1 - v.length) (addN v r) v.length) v).Nodup∧(∀ a ∈ roots.foldl (fun v r => runB K (n + 1 - v.length) (addN v r) v.length) v,a < n)∧(∀ a ∈ roots.foldl (fun v r => runB K (n + 1 - v.length) (addN v r) v.length) v,∀ k ∈ K a,k ∈ roots.foldl (fun v r => runB K (n + 1 - v.length) (addN v r) v.length) v) ∧
   (∀ r ∈ done ++ roots,r ∈ roots.foldl (fun v r => runB K (n + 1 - v.length) (addN v r) v.length) v)∧∀ (P:Nat→Prop),(∀ a,P a→∀ k ∈ K a,P k)→(∀ r ∈ done ++ roots,P r)→∀ a ∈ roots.foldl (fun v r => runB K (n + 1 - v.length) (addN v r) v.length) v,P a:=by
  intro roots
  induction roots with
  | nil =>
   intro done v h1 h2 h3 h4 _ h6
   exact ⟨h1,h2,h3,by simpa using h4,fun P hP hr => h6 P hP (by simpa using hr)⟩
  | cons r roots ih =>
   intro done v h1 h2 h3 h4 h5 h6
   have hr:=h5 r (by simp)
   have hl:=Z22 h1 h2
   have a1:=Z8u (k:=r) h1
   have a2:=Zd6 h2 hr
   obtain ⟨b1,b2⟩:=Zt0 hK (n + 1 - v.length) (addN v r) v.length a1 a2
   have b3:=Zd3 hK (n + 1 - v.length) (addN v r) v.length a1 a2 (by omega) (by
    intro j a hj ha k hk
    obtain ⟨w,hw⟩:=Zdn v r
    rw [hw,List.getElem?_append_left hj] at ha
    rw [hw]
    exact List.mem_append_left _ (h3 a (List.mem_of_getElem? ha) k hk))
   obtain ⟨w,hw⟩:=Z7i K (n + 1 - v.length) (addN v r) v.length
   have hrm:r ∈ addN v r:=by
    unfold addN
    split
    ·assumption
    ·simp
   have:=ih (done ++ [r]) (runB K (n + 1 - v.length) (addN v r) v.length) b1 b2 b3 (by
    intro x hx
    rw [hw]
    refine List.mem_append_left _ ?_
    rcases List.mem_append.1 hx with hx | hx
    ·exact Zvn (h4 x hx)
    ·simp at hx
     rw [hx]
     exact hrm) (fun x hx => h5 x (by simp [hx])) (by
    intro P hP hd
    refine Zi1 hP _ _ _ ?_
    have hv:=h6 P hP (fun x hx => hd x (by simp [hx]))
    unfold addN
    split
    ·exact hv
    ·intro a ha
     rcases List.mem_append.1 ha with ha | ha
     ·exact hv a ha
     ·simp at ha
      rw [ha]
      exact hd r (by simp))
   simpa using this
 intro roots hr
 have:=step roots [] [] (by simp) (by simp) (by simp) (by simp) hr (by simp)
 simpa [bfsF] using this
def Z3y (cls:List Int) (nd:ND):ND:=(nd.1,nd.2.map fun k => (cls[k.toNat]?).getD 0)
def Z2h (cls:List Int) (nds:List ND) (out:List ND) (a:Nat):List ND:=match cls[a]?,nds[a]? with
 | some c,some nd => if c < out.length then out else out ++ [Z3y cls nd]
 | _,_ => out
def outF (cls:List Int) (nds:List ND) (l:List Nat):List ND:=l.foldl (Z2h cls nds) []
noncomputable def Z1w (cs:List CV) (i:Nat):List ND:=outF (clsF (Z0j cs) (bfsF (kidN cs) cs.length [i])) (Z0j cs) (bfsF (kidN cs) cs.length [i])
noncomputable def getF (cs:List CV) (i:Int):Int × List ND :=
 if Z08 cs i = false then (1,[]) else if 60 < (Z1w cs i.toNat).length then (2,[]) else (0,Z1w cs i.toNat)
theorem Zjy {cs:List CV} (h:HOk cs) {a:Nat} (ha:Z08 cs (a:Int) = true):∀ k ∈ kidN cs a,Z08 cs (k:Int) = true:=by
 obtain ⟨_,d,hd,ht,_⟩:=Z1z ha
 rw [Int.toNat_natCast] at hd
 intro k hk
 unfold kidN at hk
 rw [Z1a hd] at hk
 obtain ⟨x,hx,rfl⟩:=List.mem_map.1 hk
 have h1:=h.kids d (List.mem_of_getElem? hd) ht x hx
 have h0:=(Z1z h1).1
 rw [Int.toNat_of_nonneg h0]
 exact h1
theorem Z1g {cs:List CV} {k:Nat} (h:Z08 cs (k:Int) = true):k < cs.length:=by
 obtain ⟨_,_,_,_,hlt⟩:=Z1z h
 simpa using hlt
structure HOk2 (cs:List CV):Prop extends HOk cs where
 free:∀ c ∈ cs,c.taken = false→c.kids = []
theorem HOk2.Zgf {cs:List CV} (h:HOk2 cs):∀ a,a < cs.length→∀ k ∈ kidN cs a,k < cs.length:=by
 intro a ha k hk
 have hd:cs[a]? = some cs[a]:=List.getElem?_eq_getElem ha
 cases ht:cs[a].taken with
 | true => exact Z1g (Zjy h.toHOk (by rw [Z1l hd]; exact ht) k hk)
 | false =>
  unfold kidN at hk
  rw [Z1a hd,h.free _ (List.getElem_mem ha) ht] at hk
  simp at hk
theorem Z8v {cs:List CV} (h:HOk2 cs) {roots:List Nat} (hr:∀ r ∈ roots,Z08 cs (r:Int) = true):Closed (Z0j cs) (bfsF (kidN cs) cs.length roots)∧(bfsF (kidN cs) cs.length roots).Nodup∧(∀ a ∈ bfsF (kidN cs) cs.length roots,Z08 cs (a:Int) = true)∧∀ r ∈ roots,r ∈ bfsF (kidN cs) cs.length roots:=by
 obtain ⟨h1,h2,h3,h4,h5⟩:=Zbo (n:=cs.length) (h.Zgf) roots (fun r hx => Z1g (hr r hx))
 have h6:=h5 (fun a => Z08 cs (a:Int) = true) (fun a ha => Zjy h.toHOk ha) hr
 refine ⟨⟨fun a ha => by rw [Z13]; exact h2 a ha,fun a ha x hx => ?_⟩,h1,h6,h4⟩
 have hd:cs[a]? = some (cs[a]'(h2 a ha)):=List.getElem?_eq_getElem (h2 a ha)
 have ht:=h6 a ha
 rw [Z1l hd] at ht
 rw [Z2k hd,if_pos ht] at hx
 cases hx
 refine ⟨h.kids4 _ (List.getElem_mem _),fun k hk => h3 a ha _ ?_⟩
 unfold kidN
 rw [Z1a hd]
 exact List.mem_map.2 ⟨k,hk,rfl⟩
theorem Z7x {s0 s:St} {W:Pos→Prop} {L mr:Lets} {p:Pos} {cs:List CV} {V:List AVal} (h:Ctx s0 W L s) (hp:(p,C (encs (rcs cs V))) ∈ L) (hR:Z0v (cs.map CV.kids) V mr) (hmr:∀ x ∈ mr,x ∈ L) :
  s.Old p∧s.cells p = some (encs (rcs cs V))∧∀ (i:Nat) (d:CV),cs[i]? = some d→∃ kv,V[i]? = some kv∧Z0f s kv d.kids:=by
 refine ⟨h.ob hp,Z0b (Z14 (h.own _ hp)),fun i d hd => ?_⟩
 obtain ⟨kv,g1,g2⟩:=hR.each (i:=i) (ks:=d.kids) (by rw [List.getElem?_map,hd]; rfl)
 refine ⟨kv,g1,?_⟩
 rcases g2 with ⟨e1,e2⟩ | ⟨q,c,e1,e2,e3⟩
 ·exact .inl ⟨e2,e1⟩
 ·rw [e2]
  exact Z5u h.wf (Z14 (h.own _ (hmr _ e3))) c
theorem Zn1 {s0 s:St} {W:Pos→Prop} {B6:Pos} {lv:AVal} {v:List Nat} {a:Nat} {mg pre r:Lets} {Q:AVal→St→Prop} (hc:Ctx s0 W (pre ++ ((B6,C [lv]) :: (mg ++ r))) s) (hg:Z1s lv (nats v) mg) (hl:v.length ≤ 1000)
  (q:∀ lv' mg' s',Z1s lv' (nats (v ++ [a])) mg'→Ctx s0 W (pre ++ ((B6,C [lv']) :: (mg' ++ r))) s'→Q (.tup []) s'):Z0d Tryz.prog 71 [.int .i64 a,.ptr B6 0] s Q:=by
 have hc0:Ctx s0 W ((B6,C [lv]) :: (pre ++ (mg ++ r))) s:=hc.perm List.perm_middle
 refine Z07 (Z0g (by decide)) fi71 rfl (by decide) rfl ?_
 refine AM.wp_region ?_
 simp [hc0.c 0 rfl,hg.ntup,hg.cells,Z1t,srcP]
 have c1:=hc0.alloc (C [.int .i64 a])
 generalize s.alloc (.cells [.int .i64 a] false) = s1 at c1 ⊢
 generalize s.next = T at c1 ⊢
 refine Z61 (pre:=(T,C [.int .i64 a]) :: (B6,C [lv]) :: pre) (by simpa using c1) hg (by simpa using hl) fun lv' mg' s2 hg' c2 => ?_
 simp only [List.cons_append] at c2
 simp [hg'.ntup,hg'.cells,c2.o 1 rfl]
 have c3:=(c2.put 1 rfl (C [lv'])).tail
 simp only [List.set_cons_zero] at c3
 refine q lv' mg' _ ?_ (c3.perm List.perm_middle.symm)
 simpa using hg'
section
variable {sc s:St} {fr:FI} {t0:PT AVal} {cls:List Int} {nds:List ND} {pn Bx:Pos} {n:Nat} {cv nv0:AVal} {r:Lets} {Q:Ex→PT AVal→St→Prop}
theorem Zw3 {B13:Pos} {nd:ND} {a:Nat} {nm:List UInt8} {c1:Cap} (hN:Z1h sc (.slice pn 0 n c1) nds) (hnl:nds.length = n) (hC:Z0f sc cv cls) (hcl:cls.length = n) (hnd:nds[a]? = some nd) (h4:nd.2.length ≤ 4) (hin:∀ k ∈ nd.2,0 ≤ k∧k < n)
  (hc:Ctx sc (fun _ => False) ((B13,C [.str nm,.nilSlice]) :: r) s) (t7:PT.get (posOf 7) t0 = some (.slice pn 0 n c1)) (t12:PT.get (posOf 12) t0 = some (.int .i64 a)) (t9:PT.get (posOf 9) t0 = some cv) (t13:PT.get (posOf 13) t0 = some (.ptr B13 0))
  (q:∀ t s' kv mg,Fr [15,77,78,79,80,83,84,85,86,87,88,89,90,91] t0 t→Z1s kv (Z3y cls nd).2 mg→Ctx sc (fun _ => False) ((B13,C [.str nm,kv]) :: (mg ++ r)) s'→Q .normal t s'):wp Tryz.prog Ztb fr t0 s Q:=by
 have han:a < n:=by have:=(List.getElem?_eq_some_iff.1 hnd).1; omega
 have hN':=hN.keep hc.Z0i
 rcases hN' with ⟨e,_⟩ | ⟨b,o,c,cells,e,hb,hcs,hle,hel⟩
 ·have:n = 0:=by simpa using e
  omega
 cases e
 obtain ⟨_,kv0,e1,e2⟩:=hel a nd hnd
 rw [Nat.zero_add] at e1
 refine Z00 ?_
 simp [t7,t12,han,hcs,e1,e2.ntup,e2.len]
 refine AM.wp_block ?_
 refine AM.wp_loop (fun m t s' => ∃ (j:Nat) (kv:AVal) (mg:Lets),j ≤ nd.2.length∧m = nd.2.length - j∧Fr [15,77,78,79,80,83,84,85,86,87,88,89,90,91] t0 t∧PT.get (posOf 77) t = some kv0∧PT.get (posOf 78) t = some (.int .i64 nd.2.length)∧PT.get (posOf 79) t = some (.int .i64 j) ∧
   Z1s kv ((nd.2.take j).map fun k => (cls[k.toNat]?).getD 0) mg∧Ctx sc (fun _ => False) ((B13,C [.str nm,kv]) :: (mg ++ r)) s') nd.2.length ⟨0,.nilSlice,[],by simp,by simp,?_,by simp,by simp,by simp,.inl ⟨by simp,rfl,rfl⟩,hc⟩ ?_
 ·intro y hy
  simp at hy
  simp [hy]
 rintro m t s' ⟨j,kv,mg,hj,rfl,hF,t77,t78,t79,hg,hc'⟩
 refine Z00 ?_
 simp [t78,t79]
 refine AM.wp_seq ?_
 refine AM.Z04 ?_
 by_cases hlt:j < nd.2.length
 ·have hwr:IntKind.wrap .i64 ((j:Int) + 1) = ((j + 1:Nat):Int):=by rw [IntWalk.i64_in _ (by omega)]; omega
  obtain ⟨k,hk⟩:∃ k,nd.2[j]? = some k:=⟨_,List.getElem?_eq_getElem hlt⟩
  obtain ⟨k0,k1⟩:=hin k (List.mem_of_getElem? hk)
  obtain ⟨x,hx⟩:∃ x,cls[k.toNat]? = some x:=⟨_,List.getElem?_eq_getElem (by omega)⟩
  have u9:=(hF 9 (by simp)).trans t9
  have u13:=(hF 13 (by simp)).trans t13
  rcases (hC.keep hc'.Z0i) with ⟨_,h0⟩ | ⟨b2,o2,c2,cells2,rfl,hb2,hcs2,hle2,hel2⟩
  ·rw [h0] at hcl
   simp at hcl
   omega
  have hgx:=hel2 _ _ hx
  have hkN:=hN.keep hc'.Z0i
  rcases hkN with ⟨e,_⟩ | ⟨b3,o3,c3,cells3,e,hb3,hcs3,hle3,hel3⟩
  ·have:nds.length = 0:=by simpa using e
   omega
  cases e
  obtain ⟨_,kv3,e3,e4⟩:=hel3 a nd hnd
  rw [Nat.zero_add] at e3
  have hkv3:kv3 = kv0:=by
   have h5:s'.cells pn = s.cells pn:=by
    rcases hN with ⟨e,_⟩ | ⟨b4,_,_,_,e,hb4,_⟩
    ·have:nds.length = 0:=by simpa using e
     omega
    cases e
    rw [hc'.Zf2 (fun h => h) hb4,hc.Zf2 (fun h => h) hb4]
   rw [hcs,hcs3] at h5
   cases h5
   rw [e1] at e3
   exact (Option.some.inj e3).symm
  subst hkv3
  rcases e4 with ⟨_,h0⟩ | ⟨b5,o5,c5,cells5,rfl,hb5,hcs5,hle5,hel5⟩
  ·rw [h0] at hlt
   simp at hlt
  have hgk:=hel5 _ _ hk
  have hkn:k < (cls.length:Int):=by omega
  simp [hlt]
  refine AM.wp_skip ?_
  simp
  refine AM.wp_seq ?_
  refine AM.wp_block ?_
  refine Z00 ?_
  simp [t77,t79,hlt,hcs5,hgk]
  refine AM.wp_region ?_
  have hns:s'.obj s'.next = none:=hc'.wf _ (Z0a _)
  simp [u9,u13,hc'.c 0 rfl,hg.ntup,hg.cells,k0,hkn,hcs2,hgx,hns,Z1t,srcP]
  have d2:=hc'.alloc (C [.int .i64 x])
  generalize s'.alloc (.cells [.int .i64 x] false) = sB at d2 ⊢
  generalize s'.next = T at d2 ⊢
  have hgl:((nd.2.take j).map fun k => (cls[k.toNat]?).getD 0).length ≤ 1000:=by simp; omega
  refine Z61 (pre:=[(T,C [.int .i64 x]),(B13,C [.str nm,kv])]) d2 hg hgl fun kv' mg' sC hg' d3 => ?_
  simp only [List.cons_append,List.nil_append] at d3
  simp [hg'.ntup,hg'.cells,d3.o 1 rfl]
  have d4:=(d3.put 1 rfl (C [.str nm,kv'])).tail
  simp only [List.set_cons_zero] at d4
  have hnx:((nd.2.take j).map fun k => (cls[k.toNat]?).getD 0) ++ [x] = (nd.2.take (j + 1)).map fun k => (cls[k.toNat]?).getD 0:=by
   rw [List.take_add_one,hk,List.map_append]
   simp [hx]
  rw [hnx] at hg'
  refine AM.wp_region ?_
  simp [t79,hwr]
  refine ⟨nd.2.length - (j + 1),by omega,j + 1,by omega,by omega,?_,by simp [t77],by simp [t78],by simp,kv',mg',by simpa using hg',d4⟩
  intro y hy
  simp at hy
  simp [hy]
  exact hF y (by simp [hy])
 ·simp [hlt]
  refine AM.wp_exit ?_
  simp
  have hje:j = nd.2.length:=by omega
  subst hje
  rw [List.take_length] at hg
  refine q _ s' kv mg ?_ hg hc'
  intro y hy
  simp at hy
  simp [hy]
  exact hF y (by simp [hy])
end
theorem Zlb {cls:List Int} {nds:List ND} {l:List Nat} {i a:Nat} (h:l[i]? = some a):outF cls nds (l.take (i + 1)) = Z2h cls nds (outF cls nds (l.take i)) a:=by
 unfold outF
 rw [List.take_add_one,h,List.foldl_append]
 rfl
theorem Znj (cls:List Int) (nds:List ND):∀ (l:List Nat),(outF cls nds l).length ≤ l.length:=by
 have key:∀ (l:List Nat) (out:List ND),(l.foldl (Z2h cls nds) out).length ≤ out.length + l.length:=by
  intro l
  induction l with
  | nil => intro out; simp
  | cons a l ih =>
   intro out
   have h1:=ih (Z2h cls nds out a)
   have h2:(Z2h cls nds out a).length ≤ out.length + 1:=by
    unfold Z2h
    split
    ·split
     ·omega
     ·simp
    ·omega
   simp only [List.foldl_cons,List.length_cons]
   omega
 intro l
 have:=key l []
 simpa [outF] using this
theorem Zfw (cls:List Int) (nds:List ND) (l:List Nat) (i:Nat):(outF cls nds (l.take i)).length ≤ (outF cls nds l).length:=by
 have key:∀ (l:List Nat) (out:List ND),out.length ≤ (l.foldl (Z2h cls nds) out).length:=by
  intro l
  induction l with
  | nil => intro out; simp
  | cons a l ih =>
   intro out
   have h1:=ih (Z2h cls nds out a)
   have h2:out.length ≤ (Z2h cls nds out a).length:=by
    unfold Z2h
    split
    ·split
     ·omega
     ·simp
    ·omega
   simp only [List.foldl_cons]
   omega
 have h:=key (l.drop i) (outF cls nds (l.take i))
 unfold outF at h ⊢
 rw [← List.foldl_append,List.take_append_drop] at h
 exact h
theorem get_c {s0 s:St} {W:Pos→Prop} {hb:Pos} {vs:AVal} {cs:List CV} {m r:Lets} {i:Int} {Q:AVal→St→Prop} (hH:Z2j hb vs cs m) (h:Ctx s0 W (m ++ r) s) (hO:HOk2 cs)
  (q:∀ nv mn s',Z39 nv (getF cs i).2 mn→Ctx s0 W (mn ++ (m ++ r)) s'→Q (.tup [.agg [nv,.int .i64 0],.int .i64 (getF cs i).1]) s'):Z0d Tryz.prog 27 [.ptr hb 0,.int .i64 i] s Q:=by
 obtain ⟨p,V,mr,hc,hR,hV,h1,h4,hP⟩:=Z96 hH h
 have hl:=Z29 hV
 have hno:cs.length ≠ 0:=by omega
 have hpm:m.Perm ((hb,C [.slice p 0 cs.length (.lim cs.length),vs]) :: (p,C (encs (rcs cs V))) :: mr):=hP
 have hback:∀ {x:Lets} {s':St},Ctx s0 W (x ++ ((hb,C [.slice p 0 cs.length (.lim cs.length),vs]) :: (p,C (encs (rcs cs V))) :: (mr ++ r))) s'→Ctx s0 W (x ++ (m ++ r)) s':=by
  intro x s' hx
  refine hx.perm ((List.Perm.refl x).append ?_)
  have:=hpm.symm.append (List.Perm.refl r)
  simpa using this
 refine Z07 (Z0g (by decide)) fi27 rfl (by decide) rfl ?_
 refine Z00 ?_
 simp
 have c1:=hc.alloc (C [.nilSlice,.int .i64 0])
 generalize s.alloc (.cells [.nilSlice,.int .i64 0] false) = s1 at c1 ⊢
 generalize s.next = B4 at c1 ⊢
 refine AM.wp_seq ?_
 refine AM.wp_block ?_
 refine Z00 ?_
 simp
 refine Z03 ?_
 refine Z6y (c1.c 1 rfl) rfl hno ?_
 simp
 refine AM.Z04 ?_
 simp
 refine Z00 ?_
 simp [c1.c 1 rfl]
 refine Z03 ?_
 refine Zqb (c1.oi 2 rfl) (c1.c 2 rfl) hV fun s2 k2 => ?_
 have c2:=c1.keeps k2
 cases ht:Z08 cs i with
 | false =>
  have:getF cs i = (1,[]):=by unfold getF; rw [if_pos ht]
  rw [this] at q
  simp
  refine AM.Z04 ?_
  simp
  refine Z00 ?_
  simp [c2.o 0 rfl]
  have c3:=c2.put 0 rfl (C [.nilSlice,.int .i64 0])
  simp only [List.set_cons_zero] at c3
  generalize s2.put B4 (.cells [.nilSlice,.int .i64 0] false) = s3 at c3 ⊢
  refine AM.wp_ret ?_
  simp [c3.c 0 rfl]
  exact q .nilSlice [] s3 (.inl ⟨rfl,rfl,rfl⟩) (hback (x:=[]) c3.tail)
 | true =>
 obtain ⟨h0,d,hd,hdt,hlt⟩:=Z1z ht
 obtain ⟨i,rfl⟩:∃ k:Nat,i = (k:Int):=⟨i.toNat,by omega⟩
 rw [Int.toNat_natCast] at hd hlt
 have hgF:getF cs (i:Int) = if 60 < (Z1w cs i).length then (2,[]) else (0,Z1w cs i):=by unfold getF; rw [if_neg (by simp [ht]),Int.toNat_natCast]
 rw [hgF] at q
 unfold Z1w at q
 obtain ⟨hC,hnd,hall,hroot⟩:=Z8v hO (roots:=[i]) (by simpa using ht)
 simp
 refine AM.Z04 ?_
 simp
 refine AM.wp_skip ?_
 simp
 refine Z00 ?_
 simp
 have c3:=c2.alloc (C [.nilSlice])
 generalize s2.alloc (.cells [.nilSlice] false) = s3 at c3 ⊢
 generalize s2.next = B6 at c3 ⊢
 refine Z00 ?_
 simp [c3.c 2 rfl]
 have c4:=c3.alloc (C [.int .i64 i])
 generalize s3.alloc (.cells [.int .i64 i] false) = s4 at c4 ⊢
 generalize s3.next = T at c4 ⊢
 refine Z03 ?_
 have c4':Ctx s0 W ([(B6,C [.nilSlice])] ++ ((T,C [.int .i64 i]) :: (B4,C [.nilSlice,.int .i64 0]) :: (hb,C [.slice p 0 cs.length (.lim cs.length),vs]) :: (p,C (encs (rcs cs V))) :: (mr ++ r))) s4:=c4.perm (List.Perm.swap _ _ _)
 refine Zez (V:=V) (J:=fun v m => ∃ lv mg,Z1s lv (nats v) mg∧m = (B6,C [lv]) :: mg) (roots:=[i]) (rv:=.slice T 0 1 (.lim 1)) (f:=71) (fx:=[]) (fy:=[.ptr B6 0])
  ⟨hV,h4,?_,by simpa using hlt,by simp,fun a ha => ?_,?_⟩ c4' ⟨.nilSlice,[],.inl ⟨rfl,rfl,rfl⟩,rfl⟩ (by simp) ?_
 ·rintro x m' s' hx _
  obtain ⟨r1,r2,r3⟩:=Z7x (p:=p) (cs:=cs) (V:=V) hx (by simp) hR (fun y hy => by simp [hy])
  refine ⟨r1,r2,?_,r3⟩
  have hT:s'.own T = some (ints [(i:Int)]):=Z14 (hx.own (T,C [.int .i64 i]) (by simp))
  exact Z5u hx.wf hT (.lim 1)
 ·have hcd:cs[a]? = some cs[a]:=List.getElem?_eq_getElem ha
  rw [Z1a hcd]
  refine ⟨hO.kids4 _ (List.getElem_mem ha),fun k hk => ?_⟩
  cases hta:cs[a].taken with
  | true =>
   obtain ⟨k0,_,_,_,k1⟩:=Z1z (hO.kids _ (List.getElem_mem ha) hta k hk)
   exact ⟨k0,by omega⟩
  | false =>
   rw [hO.free _ (List.getElem_mem ha) hta] at hk
   cases hk
 ·rintro a v x m' s' R ⟨lv,mg,hg,rfl⟩ hav han hvn hvlt hx hq
  refine Z03 ?_
  have hvl:v.length ≤ 1000:=by have:=Z22 hvn hvlt; omega
  refine Zn1 (pre:=x) (r:=(T,C [.int .i64 i]) :: (B4,C [.nilSlice,.int .i64 0]) :: (hb,C [.slice p 0 cs.length (.lim cs.length),vs]) :: (p,C (encs (rcs cs V))) :: (mr ++ r)) (by simpa using hx) hg hvl fun lv' mg' s'' hg' hx' => ?_
  exact hq _ _ _ ⟨lv',mg',hg',rfl⟩ (by simpa using hx')
 ·rintro x m' s5 ⟨lv,mg,hg,rfl⟩ hx
  have c5:=hx.sub (List.sublist_append_right x _)
  simp only [List.cons_append] at c5
  have c5:=c5.perm (m':=(B6,C [lv]) :: (T,C [.int .i64 i]) :: (B4,C [.nilSlice,.int .i64 0]) :: (hb,C [.slice p 0 cs.length (.lim cs.length),vs]) :: (p,C (encs (rcs cs V))) :: (mg ++ (mr ++ r))) (by
   refine List.Perm.cons _ ?_
   have:=List.perm_append_comm (l₁:=mg) (l₂:=[(T,C [.int .i64 i]),(B4,C [.nilSlice,.int .i64 0]),(hb,C [.slice p 0 cs.length (.lim cs.length),vs]),(p,C (encs (rcs cs V)))])
   have:=this.append (List.Perm.refl (mr ++ r))
   simpa using this)
  generalize hbf:bfsF (kidN cs) cs.length [i] = L at hC hnd hall hroot hg q
  have hLl:L.length ≤ cs.length:=Z22 hnd (fun a ha => Z1g (hall a ha))
  simp
  refine Z00 ?_
  simp [c5.c 3 rfl]
  refine Z03 ?_
  have hobs:∀ {s':St},Ctx s0 W ((B6,C [lv]) :: (T,C [.int .i64 i]) :: (B4,C [.nilSlice,.int .i64 0]) :: (hb,C [.slice p 0 cs.length (.lim cs.length),vs]) :: (p,C (encs (rcs cs V))) :: (mg ++ (mr ++ r))) s'→∀ j c,(rcs cs V)[j]? = some c→Z0f s' c.kv (Z12 cs j):=by
   intro s' hc' j c hj
   obtain ⟨_,_,r3⟩:=Z7x (p:=p) (cs:=cs) (V:=V) hc' (by simp) hR (fun y hy => by simp [hy])
   have hjl:j < cs.length:=by have:=(List.getElem?_eq_some_iff.1 hj).1; rwa [hl] at this
   obtain ⟨kv,e1,e2⟩:=r3 j _ (List.getElem?_eq_getElem hjl)
   rw [Z2b (List.getElem?_eq_getElem hjl) e1] at hj
   cases hj
   rw [Z1a (List.getElem?_eq_getElem hjl)]
   exact e2
  refine graph_w (K:=Z12 cs) hl c5.wf (c5.oi 4 rfl) (c5.c 4 rfl) h4 (hobs c5) fun pn lv2 s6 k6 hN _ => ?_
  rw [nds_rcs hV] at hN
  have c6:=c5.keeps k6
  simp
  refine Z00 ?_
  simp [c6.c 0 rfl,hg.ntup]
  refine Z03 ?_
  have hlv6:Z0f s6 lv (nats L):=(hg.row.kid fun y hy => c6.own y (by simp [hy])).ints c6.wf
  have hkidsG:∀ (a:Nat) nd,(Z0j cs)[a]? = some nd→nd.2.length ≤ 4∧∀ k ∈ nd.2,0 ≤ k∧k < (Z0j cs).length:=hO.toHOk.Zdy
  refine Zkn (Z13 cs) c6.wf hN (by omega) hlv6 (by omega) hC hkidsG fun Bx s7 k7 hBx hox => ?_
  have hcl:=Zds hC
  rw [Z13] at hcl
  generalize clsF (Z0j cs) L = cls at hox hcl q
  have c7:=c6.keeps k7
  have hN7:Z1h s7 (.slice pn 0 cs.length (.lim cs.length)) (Z0j cs):=by
   have:=(hN.keep k7).of (.lim cs.length)
   rwa [Z13] at this
  have hC7:Z0f s7 (.slice Bx 0 cs.length (.lim cs.length)) cls:=by
   have:=Z5u c7.wf hox (.lim cs.length)
   rwa [hcl] at this
  have hL7:Z0f s7 lv (nats L):=hlv6.keep k7
  simp
  refine Z00 ?_
  simp
  have d0:=(Ctx.start (fun _ => False) c7.wf).alloc (C [.nilSlice,.int .i64 0])
  generalize s7.alloc (.cells [.nilSlice,.int .i64 0] false) = s8 at d0 ⊢
  generalize s7.next = B10 at d0 ⊢
  refine AM.wp_seq ?_
  refine Z00 ?_
  have k8:=d0.Z0i
  simp [(k8.cells (c7.oi 0 rfl)).trans (c7.c 0 rfl),hg.ntup,hL7.len]
  have hout:∀ {nv:AVal} {mn:Lets} {s':St},Ctx s7 (fun _ => False) ((B10,C [nv,.int .i64 0]) :: mn) s'→Ctx s0 W ((B4,C [.nilSlice,.int .i64 0]) :: (B10,C [nv,.int .i64 0]) :: (mn ++ ((B6,C [lv]) :: (T,C [.int .i64 i]) :: (hb,C [.slice p 0 cs.length (.lim cs.length),vs]) :: (p,C (encs (rcs cs V))) :: (mg ++ (mr ++ r))))) s':=by
   intro nv mn s' hd
   have:=Ctx.on (m:=[]) (by simpa using c7) (m':=(B10,C [nv,.int .i64 0]) :: mn) (by simpa using hd)
   refine this.perm ?_
   have h2:((B10,C [nv,.int .i64 0]) :: mn ++ ((B6,C [lv]) :: (T,C [.int .i64 i]) :: (B4,C [.nilSlice,.int .i64 0]) :: (hb,C [.slice p 0 cs.length (.lim cs.length),vs]) :: (p,C (encs (rcs cs V))) :: (mg ++ (mr ++ r)))) = (((B10,C [nv,.int .i64 0]) :: mn) ++ [(B6,C [lv]),(T,C [.int .i64 i])]) ++ (B4,C [.nilSlice,.int .i64 0]) :: ((hb,C [.slice p 0 cs.length (.lim cs.length),vs]) :: (p,C (encs (rcs cs V))) :: (mg ++ (mr ++ r))):=by simp
   rw [h2]
   refine List.perm_middle.trans ?_
   simp
  have hend:∀ {nv:AVal} {x:Lets} {b4 b10:Pos × AObj} {s':St},Ctx s0 W (b4 :: b10 :: (x ++ ((B6,C [lv]) :: (T,C [.int .i64 i]) :: (hb,C [.slice p 0 cs.length (.lim cs.length),vs]) :: (p,C (encs (rcs cs V))) :: (mg ++ (mr ++ r))))) s'→Ctx s0 W (x ++ (m ++ r)) s':=by
   intro nv x b4 b10 s' hx'
   refine hback (hx'.sub (.cons _ (.cons _ ((List.Sublist.refl x).append (.cons _ (.cons _ (.cons_cons _ (.cons_cons _ (List.sublist_append_right mg _)))))))))
  refine AM.wp_block ?_
  refine AM.wp_loop (fun k t s' => ∃ (j:Nat) (nv:AVal) (mn:Lets),j ≤ L.length∧k = L.length - j∧PT.get (posOf 4) t = some (.ptr B4 0)∧PT.get (posOf 7) t = some (.slice pn 0 cs.length (.lim cs.length))∧PT.get (posOf 9) t = some (.slice Bx 0 cs.length (.lim cs.length))∧PT.get (posOf 10) t = some (.ptr B10 0) ∧
    PT.get (posOf 48) t = some lv∧PT.get (posOf 49) t = some (.int .i64 L.length)∧PT.get (posOf 50) t = some (.int .i64 j)∧Z39 nv (outF cls (Z0j cs) (L.take j)) mn∧(outF cls (Z0j cs) (L.take j)).length ≤ 60∧Ctx s7 (fun _ => False) ((B10,C [nv,.int .i64 0]) :: mn) s') L.length
   ⟨0,.nilSlice,[],by simp,by simp,by simp,by simp,by simp,by simp,by simp,by simp,by simp,.inl ⟨by simp [outF],rfl,rfl⟩,by simp [outF],d0⟩ ?_
  rintro k t s' ⟨j,nv,mn,hj,rfl,t4,t7,t9,t10,t48,t49,t50,hM,h60,hd'⟩
  refine Z00 ?_
  simp [t49,t50]
  refine AM.wp_seq ?_
  refine AM.Z04 ?_
  by_cases hlt:j < L.length
  ·have hwr:IntKind.wrap .i64 ((j:Int) + 1) = ((j + 1:Nat):Int):=by rw [IntWalk.i64_in _ (by omega)]; omega
   obtain ⟨a,ha⟩:∃ a,L[j]? = some a:=⟨_,List.getElem?_eq_getElem hlt⟩
   have hat:=hall a (List.mem_of_getElem? ha)
   have han:=Z1g hat
   have hda:cs[a]? = some cs[a]:=List.getElem?_eq_getElem han
   have htk:cs[a].taken = true:=by rw [Z1l hda] at hat; exact hat
   have hga:(Z0j cs)[a]? = some (cs[a].name,cs[a].kids):=by rw [Z2k hda,if_pos htk]
   obtain ⟨x,hxx⟩:∃ x,cls[a]? = some x:=⟨_,List.getElem?_eq_getElem (by omega)⟩
   have hnx:=Zlb (cls:=cls) (nds:=Z0j cs) ha
   have hst:Z2h cls (Z0j cs) (outF cls (Z0j cs) (L.take j)) a = if x < (outF cls (Z0j cs) (L.take j)).length then outF cls (Z0j cs) (L.take j) else outF cls (Z0j cs) (L.take j) ++ [Z3y cls (cs[a].name,cs[a].kids)]:=by
    unfold Z2h
    rw [hxx,hga]
   rw [hst] at hnx
   rcases hL7.keep hd'.Z0i with ⟨_,e0⟩ | ⟨bl,ol,cl,cellsl,rfl,hbl,hcsl,hlel,hell⟩
   ·have:L = []:=by simpa using e0
    rw [this] at hlt
    simp at hlt
   rw [List.length_map] at t48
   have hgl:=hell j (a:Int) (by rw [List.getElem?_map,ha]; rfl)
   rcases hC7.keep hd'.Z0i with ⟨e0,_⟩ | ⟨bx,ox,cx,cellsx,ex,hbx,hcsx,hlex,helx⟩
   ·have:cs.length = 0:=by simpa using e0
    omega
   have hbx':Bx = bx:=(AVal.slice.inj ex).1
   have hox':0 = ox:=(AVal.slice.inj ex).2.1
   subst hbx' hox'
   have hgx:=helx a x hxx
   rw [Nat.zero_add] at hgx
   rcases hN7.keep hd'.Z0i with ⟨e0,_⟩ | ⟨bn,on,cn,cellsn,en,hbn,hcsn,hlen,heln⟩
   ·have:cs.length = 0:=by simpa using e0
    omega
   have hbn':pn = bn:=(AVal.slice.inj en).1
   have hon':0 = on:=(AVal.slice.inj en).2.1
   subst hbn' hon'
   obtain ⟨hgn,_⟩:=heln a _ hga
   rw [Nat.zero_add] at hgn
   simp [hlt]
   refine AM.wp_skip ?_
   simp
   refine AM.wp_seq ?_
   refine AM.wp_block ?_
   refine Z00 ?_
   simp [t48,t50,hlt,hcsl,hgl]
   refine AM.wp_seq ?_
   refine Z00 ?_
   simp [t9,t10,han,hcsx,hgx,hd'.c 0 rfl,hM.ntup,hM.len]
   refine AM.Z04 ?_
   by_cases hxl:x < ((outF cls (Z0j cs) (L.take j)).length:Int)
   ·rw [if_pos hxl] at hnx
    simp [hxl]
    refine AM.wp_exit ?_
    simp
    refine AM.wp_region ?_
    simp [t50,hwr]
    refine ⟨L.length - (j + 1),by omega,j + 1,by omega,by omega,by simp [t4],by simp [t7],by simp [t9],by simp [t10],by simp [t48],by simp [t49],by simp,nv,mn,by rw [hnx]; exact hM,by rw [hnx]; exact h60,hd'⟩
   ·rw [if_neg hxl] at hnx
    simp [hxl]
    refine AM.wp_skip ?_
    simp
    refine AM.wp_seq ?_
    refine Z00 ?_
    simp [t10,hd'.c 0 rfl,hM.ntup,hM.len]
    refine AM.Z04 ?_
    by_cases h6:(outF cls (Z0j cs) (L.take j)).length = 60
    ·have hgt:60 < (outF cls (Z0j cs) L).length:=by
      have:=Zfw cls (Z0j cs) L (j + 1)
      rw [hnx] at this
      simp at this
      omega
     rw [if_pos hgt] at q
     have h6':((outF cls (Z0j cs) (L.take j)).length:Int) = 60:=by omega
     simp [h6,h6']
     refine Z00 ?_
     have e1:=hout hd'
     simp [t4,e1.o 0 rfl]
     have e2:=e1.put 0 rfl (C [.nilSlice,.int .i64 0])
     simp only [List.set_cons_zero] at e2
     generalize s'.put B4 (.cells [.nilSlice,.int .i64 0] false) = s9 at e2 ⊢
     refine AM.wp_ret ?_
     simp [t4,e2.c 0 rfl]
     refine q .nilSlice [] s9 (.inl ⟨rfl,rfl,rfl⟩) ?_
     have:=(hend (nv:=nv) (x:=mn) e2)
     exact this.sub (List.sublist_append_right mn _)
    ·have h6':¬ ((outF cls (Z0j cs) (L.take j)).length:Int) = 60:=by omega
     simp [h6,h6']
     refine AM.wp_skip ?_
     simp
     refine Z00 ?_
     simp [t7,han,hcsn,hgn]
     have d1:=(hd'.alloc (C [.str [],.nilSlice])).put 0 rfl (C [.str cs[a].name,.nilSlice])
     simp only [List.set_cons_zero] at d1
     generalize (s'.alloc (.cells [.str [],.nilSlice] false)).put s'.next (.cells [.str cs[a].name,.nilSlice] false) = sA at d1 ⊢
     generalize s'.next = B13 at d1 ⊢
     refine AM.wp_seq ?_
     obtain ⟨hk4,hkin⟩:=hkidsG a _ hga
     rw [Z13] at hkin
     refine Zw3 (nd:=(cs[a].name,cs[a].kids)) (a:=a) (B13:=B13) (nm:=cs[a].name) (pn:=pn) (n:=cs.length) (c1:=.lim cs.length) (cv:=.slice Bx 0 cs.length (.lim cs.length)) hN7 (Z13 cs) hC7 hcl hga hk4 hkin d1 (by simp [t7]) (by simp) (by simp [t9]) (by simp) fun t2 sB kv mk hF2 hgk d2 => ?_
     simp
     have w10:PT.get (posOf 10) t2 = some (.ptr B10 0):=(hF2 10 (by simp)).trans (by simp [t10])
     have w13:PT.get (posOf 13) t2 = some (.ptr B13 0):=(hF2 13 (by simp)).trans (by simp)
     have d3:=d2.perm (m':=(B13,C [.str cs[a].name,kv]) :: (B10,C [nv,.int .i64 0]) :: (mk ++ mn)) (List.Perm.cons _ List.perm_middle)
     refine AM.wp_region ?_
     simp [w10,w13,d3.c 0 rfl,d3.c 1 rfl,hM.ntup,hM.cells,hgk.ntup,hgk.cells,Z1t,srcP]
     have d4:=d3.alloc (C [.str cs[a].name,kv])
     generalize sB.alloc (.cells [.str cs[a].name,kv] false) = sC at d4 ⊢
     generalize sB.next = T2 at d4 ⊢
     refine Zl5 (pre:=[(T2,C [.str cs[a].name,kv]),(B13,C [.str cs[a].name,kv]),(B10,C [nv,.int .i64 0])]) (mk:=mk) (mn:=mn) (r:=[]) (ns:=outF cls (Z0j cs) (L.take j)) (ks:=(Z3y cls (cs[a].name,cs[a].kids)).2) (by simpa using d4) hM hgk.row (by omega) fun nv' mn' sD hM' d5 => ?_
     have hM':Z39 nv' (outF cls (Z0j cs) (L.take (j + 1))) mn':=by rw [hnx]; exact hM'
     simp only [List.cons_append,List.nil_append,List.append_nil] at d5
     simp [hM'.ntup,hM'.cells,d5.o 2 rfl]
     have d6:=(d5.put 2 rfl (C [nv',.int .i64 0])).tail.tail
     simp only [List.set_cons_succ,List.set_cons_zero] at d6
     refine AM.wp_region ?_
     have w50:=(hF2 50 (by simp))
     simp [t50] at w50
     simp [w50,hwr]
     refine ⟨L.length - (j + 1),by omega,j + 1,by omega,by omega,?_,?_,?_,by simp [w10],?_,?_,rfl,nv',mn',hM',?_,d6⟩
     ·rw [hF2 4 (by simp)]; simp [t4]
     ·rw [hF2 7 (by simp)]; simp [t7]
     ·rw [hF2 9 (by simp)]; simp [t9]
     ·rw [hF2 48 (by simp)]; simp [t48]
     ·rw [hF2 49 (by simp)]; simp [t49]
     ·rw [hnx]
      simp
      omega
  ·simp [hlt]
   refine AM.wp_exit ?_
   simp
   have hje:j = L.length:=by omega
   subst hje
   rw [List.take_length] at hM h60
   rw [if_neg (by omega)] at q
   have e1:=hout hd'
   refine Z00 ?_
   simp [t4,t10,e1.c 1 rfl,e1.o 0 rfl,hM.ntup,hM.cells]
   have e2:=e1.put 0 rfl (C [nv,.int .i64 0])
   simp only [List.set_cons_zero] at e2
   generalize s'.put B4 (.cells [nv,.int .i64 0] false) = s9 at e2 ⊢
   refine AM.wp_ret ?_
   simp [t4,e2.c 0 rfl]
   exact q nv mn s9 hM (hend (nv:=nv) e2)
def kidG (ns:List ND) (a:Nat):List Nat:=match ns[a]? with
 | some nd => nd.2.map Int.toNat
 | none => []
theorem Ze0 {ns:List ND} {a:Nat} {nd:ND} (h:ns[a]? = some nd):kidG ns a = nd.2.map Int.toNat:=by unfold kidG; rw [h]
def GrOk (ns:List ND):Prop:=∀ nd ∈ ns,nd.2.length ≤ 4∧∀ k ∈ nd.2,0 ≤ k∧k < ns.length
theorem GrOk.Zdc {ns:List ND} (h:GrOk ns):∀ a,a < ns.length→∀ k ∈ kidG ns a,k < ns.length:=by
 intro a ha k hk
 rw [Ze0 (List.getElem?_eq_getElem ha)] at hk
 obtain ⟨x,hx,rfl⟩:=List.mem_map.1 hk
 have:=(h _ (List.getElem_mem ha)).2 x hx
 omega
section
variable {s0 s:St} {fr:FI} {t0:PT AVal} {ns:List ND} {nv lv rv:AVal} {n:Nat} {Bm:Pos} {v:List Nat} {mg:Lets} {Q:Ex→PT AVal→St→Prop}
theorem Zvk {i a:Nat} (hN:Z1h s0 nv ns) (hO:GrOk ns) (hmax:ns.length ≤ 1000) (hg:Z1s lv (nats v) mg) (hnd:v.Nodup) (hlt:∀ x ∈ v,x < ns.length) (hi:v[i]? = some a)
  (hc:Ctx s0 (fun _ => False) ((Bm,C (metL ns.length v)) :: mg) s)
  (t0':PT.get (posOf 0) t0 = some nv) (t5:PT.get (posOf 5) t0 = some (.slice Bm 0 ns.length (.lim ns.length))) (t6:PT.get (posOf 6) t0 = some lv) (t9:PT.get (posOf 9) t0 = some (.int .i64 i))
  (q:∀ t s' lv' mg',Fr [6,11,48,49,50,51,58] t0 t→PT.get (posOf 6) t = some lv'→Z1s lv' (nats (Z0c v (kidG ns a))) mg'→Ctx s0 (fun _ => False) ((Bm,C (metL ns.length (Z0c v (kidG ns a)))) :: mg') s'→Q .normal t s'):wp Tryz.prog Zph fr t0 s Q:=by
 have hil:i < v.length:=(List.getElem?_eq_some_iff.1 hi).1
 have ha:=hlt a (List.mem_of_getElem? hi)
 have hnda:ns[a]? = some ns[a]:=List.getElem?_eq_getElem ha
 obtain ⟨h4,hin⟩:=hO _ (List.getElem_mem ha)
 have hkg:=Ze0 hnda
 rcases hN.keep hc.Z0i with ⟨_,e⟩ | ⟨b,o,c,cs,rfl,hb,hcs,hle,hel⟩
 ·rw [e] at ha
  simp at ha
 obtain ⟨_,kv,g2,g3⟩:=hel a _ hnda
 rcases hg with ⟨e,_⟩ | ⟨qb,hne,rfl,rfl⟩
 ·have:v = []:=by simpa using e
  rw [this] at hil
  simp at hil
 have hvq:(ints (nats v))[i]? = some (.int .i64 a):=by unfold ints; rw [List.getElem?_map,List.getElem?_map,hi]; rfl
 obtain ⟨iv,hiv⟩:∃ x,x = ints (nats v):=⟨_,rfl⟩
 have hq:=hc.c 1 rfl
 rw [← hiv] at hvq hq
 rw [List.length_map] at t6
 refine Z00 ?_
 simp [t0',t6,t9,hil,hq,hvq,ha,hcs,g2,g3.ntup,g3.len]
 refine AM.wp_block ?_
 refine AM.wp_loop (fun m t s' => ∃ (j:Nat) (lv':AVal) (mg':Lets),j ≤ ns[a].2.length∧m = ns[a].2.length - j∧Fr [6,11,48,49,50,51,58] t0 t∧PT.get (posOf 6) t = some lv'∧PT.get (posOf 48) t = some kv∧PT.get (posOf 49) t = some (.int .i64 ns[a].2.length)∧PT.get (posOf 50) t = some (.int .i64 j) ∧
   Z1s lv' (nats (Z0c v ((kidG ns a).take j))) mg'∧(Z0c v ((kidG ns a).take j)).Nodup∧(∀ x ∈ Z0c v ((kidG ns a).take j),x < ns.length)∧Ctx s0 (fun _ => False) ((Bm,C (metL ns.length (Z0c v ((kidG ns a).take j)))) :: mg') s') ns[a].2.length
  ⟨0,.slice qb 0 v.length (.opn 1),[(qb,C (ints (nats v)))],by simp,by simp,?_,by simp [t6],by simp,by simp,by simp,.inr ⟨qb,by simpa [Z0c] using hne,by simp [Z0c],by simp [Z0c]⟩,by simpa [Z0c] using hnd,by simpa [Z0c] using hlt,by simpa [Z0c] using hc⟩ ?_
 ·intro y hy
  simp at hy
  simp [hy]
 rintro m t s' ⟨j,lv',mg',hj,rfl,hF,t6',t48,t49,t50,hg',hnd',hlt',hc'⟩
 refine Z00 ?_
 simp [t49,t50]
 refine AM.wp_seq ?_
 refine AM.Z04 ?_
 by_cases hlj:j < ns[a].2.length
 ·have hwr:IntKind.wrap .i64 ((j:Int) + 1) = ((j + 1:Nat):Int):=by rw [IntWalk.i64_in _ (by omega)]; omega
  obtain ⟨kk,hkk⟩:∃ kk,ns[a].2[j]? = some kk:=⟨_,List.getElem?_eq_getElem hlj⟩
  obtain ⟨kk0,kk1⟩:=hin kk (List.mem_of_getElem? hkk)
  obtain ⟨kn,rfl⟩:∃ kn:Nat,kk = (kn:Int):=⟨kk.toNat,by omega⟩
  have hkn:kn < ns.length:=by omega
  have hkN:(kidG ns a)[j]? = some kn:=by rw [hkg,List.getElem?_map,hkk]; rfl
  have u5:=(hF 5 (by simp)).trans t5
  rcases hN.keep hc'.Z0i with ⟨_,e⟩ | ⟨b',o',c',cs',e,hb',hcs',hle',hel'⟩
  ·rw [e] at ha
   simp at ha
  cases e
  obtain ⟨_,kv',e2,e3⟩:=hel' a _ hnda
  have hcs2:cs' = cs:=by
   rcases hN with ⟨_,e⟩ | ⟨b3,o3,c3,cs3,e,hb3,hcs3,_⟩
   ·rw [e] at ha
    simp at ha
   cases e
   have h1:=hc'.Z0i.cells hb3
   have h2:=hc.Z0i.cells hb3
   rw [hcs'] at h1
   rw [hcs] at h2
   rw [← h2] at h1
   exact Option.some.inj h1
  subst hcs2
  rw [g2] at e2
  cases e2
  rcases e3 with ⟨_,h0⟩ | ⟨b4,o4,c4,cells4,rfl,hb4,hcs4,hle4,hel4⟩
  ·rw [h0] at hlj
   simp at hlj
  have hgk:=hel4 j _ hkk
  have hmet:=Z5v (Z0c v ((kidG ns a).take j)) hkn
  have hnx:=Zgq (v:=v) hkN
  simp [hlj]
  refine AM.wp_skip ?_
  simp
  refine AM.wp_seq ?_
  refine AM.wp_block ?_
  refine Z00 ?_
  simp [t48,t50,hlj,hcs4,hgk]
  refine Z00 ?_
  simp [u5,hkn,hc'.c 0 rfl,hmet]
  refine AM.Z04 ?_
  have hvl:=Z22 hnd' hlt'
  by_cases hm:kn ∈ Z0c v ((kidG ns a).take j)
  ·have hadd:addN (Z0c v ((kidG ns a).take j)) kn = Z0c v ((kidG ns a).take j):=by unfold addN; rw [if_pos hm]
   rw [hadd] at hnx
   simp [hm]
   refine AM.wp_skip ?_
   simp
   refine AM.wp_region ?_
   simp [t50,hwr]
   refine ⟨ns[a].2.length - (j + 1),by omega,j + 1,by omega,by omega,?_,lv',by simp [t6'],by simp [t48],by simp [t49],by simp,mg',by rw [hnx]; exact hg',by rw [hnx]; exact hnd',by rw [hnx]; exact hlt',by rw [hnx]; exact hc'⟩
   intro y hy
   simp at hy
   simp [hy]
   exact hF y (by simp [hy])
  ·have hadd:addN (Z0c v ((kidG ns a).take j)) kn = Z0c v ((kidG ns a).take j) ++ [kn]:=by unfold addN; rw [if_neg hm]
   have hset:=Ze3 hkn hm
   have hle5:kn + 1 ≤ (metL ns.length (Z0c v ((kidG ns a).take j))).length:=by rw [Z3k]; omega
   have hnd2:=Z8u (k:=kn) hnd'
   have hlt2:=Zd6 hlt' hkn
   rw [← hnx] at hset hnd2 hlt2
   simp [lay] at hset
   simp [hm]
   refine Z00 ?_
   simp [u5,hkn,hc'.o 0 rfl,hle5]
   rw [hset]
   have d1:=hc'.put 0 rfl (C (metL ns.length (Z0c v ((kidG ns a).take (j + 1)))))
   simp only [List.set_cons_zero] at d1
   generalize s'.put Bm (.cells (metL ns.length (Z0c v ((kidG ns a).take (j + 1)))) false) = s1 at d1 ⊢
   refine AM.wp_region ?_
   simp [t6',hg'.ntup,Z1t,srcP]
   have d2:=d1.alloc (C [.int .i64 kn])
   generalize s1.alloc (.cells [.int .i64 kn] false) = s2 at d2 ⊢
   generalize s1.next = T at d2 ⊢
   refine Z61 (pre:=[(T,C [.int .i64 kn]),(Bm,C (metL ns.length (Z0c v ((kidG ns a).take (j + 1)))))]) (r:=[]) (by simpa using d2) hg' (by simp; omega) fun lv2 mg2 s3 hg2 d3 => ?_
   simp only [List.cons_append,List.nil_append,List.append_nil] at d3
   have hg2':Z1s lv2 (nats (Z0c v ((kidG ns a).take (j + 1)))) mg2:=by
    rw [hnx,hadd]
    simpa using hg2
   refine AM.wp_region ?_
   simp [t50,hwr]
   refine ⟨ns[a].2.length - (j + 1),by omega,j + 1,by omega,by omega,?_,by simp [t48],by simp [t49],by simp,mg2,hg2',hnd2,hlt2,d3.tail⟩
   intro y hy
   simp at hy
   simp [hy]
   exact hF y (by simp [hy])
 ·simp [hlj]
  refine AM.wp_exit ?_
  simp
  have hje:j = ns[a].2.length:=by omega
  subst hje
  have htk:(kidG ns a).take ns[a].2.length = kidG ns a:=List.take_of_length_le (by rw [hkg]; simp)
  rw [htk] at hg' hc'
  refine q _ s' lv' mg' ?_ (by simp [t6']) hg' hc'
  intro y hy
  simp at hy
  simp [hy]
  exact hF y (by simp [hy])
end
section
variable {s0 s:St} {fr:FI} {t0:PT AVal} {ns:List ND} {nv lv rv:AVal} {n:Nat} {Bm:Pos} {v:List Nat} {mg:Lets}
theorem Zpd {i:Nat} {Q:Ex→PT AVal→St→Prop} (hN:Z1h s0 nv ns) (hO:GrOk ns) (hmax:ns.length ≤ 1000) (hg:Z1s lv (nats v) mg) (hnd:v.Nodup) (hlt:∀ x ∈ v,x < ns.length) (hi:i ≤ ns.length)
  (hc:Ctx s0 (fun _ => False) ((Bm,C (metL ns.length v)) :: mg) s)
  (t0':PT.get (posOf 0) t0 = some nv) (t5:PT.get (posOf 5) t0 = some (.slice Bm 0 ns.length (.lim ns.length))) (t6:PT.get (posOf 6) t0 = some lv) (t9:PT.get (posOf 9) t0 = some (.int .i64 i))
  (q:∀ t s' lv' mg',Fr [6,9,11,38,48,49,50,51,58] t0 t→PT.get (posOf 6) t = some lv'→Z1s lv' (nats (runB (kidG ns) (ns.length + 1 - i) v i)) mg'→Ctx s0 (fun _ => False) ((Bm,C (metL ns.length (runB (kidG ns) (ns.length + 1 - i) v i))) :: mg') s'→Q .normal t s'):wp Tryz.prog Zpg fr t0 s Q:=by
 refine AM.wp_block ?_
 refine AM.wp_loop (fun k t s' => ∃ (j:Nat) (u:List Nat) (lv':AVal) (mg':Lets),j ≤ ns.length∧k = ns.length + 1 - j∧Fr [6,9,11,38,48,49,50,51,58] t0 t∧PT.get (posOf 6) t = some lv'∧PT.get (posOf 9) t = some (.int .i64 j)∧runB (kidG ns) (ns.length + 1 - i) v i = runB (kidG ns) (ns.length + 1 - j) u j ∧
   Z1s lv' (nats u) mg'∧u.Nodup∧(∀ x ∈ u,x < ns.length)∧Ctx s0 (fun _ => False) ((Bm,C (metL ns.length u)) :: mg') s') (ns.length + 1 - i) ⟨i,v,lv,mg,hi,rfl,fun y _ => rfl,t6,t9,rfl,hg,hnd,hlt,hc⟩ ?_
 rintro k t s' ⟨j,u,lv',mg',hj,rfl,hF,t6',t9',hrun,hg',hnd',hlt',hc'⟩
 have hul:=Z22 hnd' hlt'
 have u0:=(hF 0 (by simp)).trans t0'
 have u5:=(hF 5 (by simp)).trans t5
 refine AM.wp_seq ?_
 refine Z00 ?_
 have hgl:=hg'.len
 rw [List.length_map] at hgl
 simp [t6',t9',hg'.ntup,hgl]
 refine AM.Z04 ?_
 by_cases hjl:j < u.length
 ·obtain ⟨a,ha⟩:∃ a,u[j]? = some a:=⟨_,List.getElem?_eq_getElem hjl⟩
  have hwr:IntKind.wrap .i64 ((j:Int) + 1) = ((j + 1:Nat):Int):=by rw [IntWalk.i64_in _ (by omega)]; omega
  simp [hjl]
  refine AM.wp_skip ?_
  simp
  refine AM.wp_seq ?_
  refine AM.wp_block ?_
  refine Zvk hN hO hmax hg' hnd' hlt' ha hc' (by simp [u0]) (by simp [u5]) (by simp [t6']) (by simp [t9']) fun t2 s2 lv2 mg2 hF2 g6 hg2 hc2 => ?_
  have g9:PT.get (posOf 9) t2 = some (.int .i64 j):=(hF2 9 (by simp)).trans (by simp [t9'])
  obtain ⟨b1,b2⟩:=Za7 hnd' hlt' (hO.Zdc a (hlt' a (List.mem_of_getElem? ha)))
  simp
  refine AM.wp_region ?_
  simp [g9,g6,hwr]
  refine ⟨ns.length + 1 - (j + 1),by omega,j + 1,by omega,by omega,?_,by simp,Z0c u (kidG ns a),?_,mg2,hg2,b1,b2,hc2⟩
  ·intro y hy
   simp at hy
   simp [hy]
   rw [hF2 y (by simp [hy])]
   simp [hy]
   exact hF y (by simp [hy])
  ·rw [hrun,Zli hj ha]
 ·simp [hjl]
  refine AM.wp_exit ?_
  simp
  rw [hrun,Zcq (by omega)] at q
  refine q _ s' lv' mg' ?_ (by simp [t6']) hg' hc'
  intro y hy
  simp at hy
  simp [hy]
  exact hF y (by simp [hy])
theorem Zmb {roots:List Nat} {Q:AVal→St→Prop} (hwf:s.Wf) (hN:Z1h s nv ns) (hO:GrOk ns) (hmax:ns.length ≤ 1000) (hrv:Z0f s rv (nats roots)) (hrl:roots.length ≤ 1000) (hr:∀ a ∈ roots,a < ns.length)
  (q:∀ lv mg s',Z1s lv (nats (bfsF (kidG ns) ns.length roots)) mg→Ctx s (fun _ => False) mg s'→Q lv s'):Z0d Tryz.prog 109 [nv,rv] s Q:=by
 have hz1:ns.length ≤ Z0k:=by unfold Z0k; omega
 have hrlen:=hrv.len
 rw [List.length_map] at hrlen
 refine Z07 (Z0g (by decide)) fi109 rfl (by decide) rfl ?_
 refine Z00 ?_
 simp
 refine Z00 ?_
 simp [hN.ntup,hN.len,hz1]
 have c1:=(Ctx.start (fun _ => False) hwf).alloc (C (List.replicate ns.length (.bool false)))
 generalize s.alloc (.cells (List.replicate ns.length (.bool false)) false) = s1 at c1 ⊢
 generalize s.next = Bm at c1 ⊢
 have hm0:List.replicate ns.length (AVal.bool false) = metL ns.length []:=by
  refine List.ext_getElem? fun j => ?_
  by_cases hj:j < ns.length
  ·rw [Z5v _ hj,List.getElem?_replicate,if_pos hj]
   simp
  ·rw [List.getElem?_eq_none (by simp; omega),List.getElem?_eq_none (by rw [Z3k]; omega)]
 rw [hm0] at c1
 refine Z00 ?_
 simp
 refine AM.wp_seq ?_
 refine Z00 ?_
 simp [hrv.ntup,hrlen]
 refine AM.wp_block ?_
 refine AM.wp_loop (fun k t s' => ∃ (j:Nat) (lv:AVal) (mg:Lets),j ≤ roots.length∧k = roots.length - j∧PT.get (posOf 0) t = some nv∧PT.get (posOf 5) t = some (.slice Bm 0 ns.length (.lim ns.length))∧PT.get (posOf 6) t = some lv∧PT.get (posOf 15) t = some rv∧PT.get (posOf 16) t = some (.int .i64 roots.length)∧PT.get (posOf 17) t = some (.int .i64 j) ∧
   Z1s lv (nats (bfsF (kidG ns) ns.length (roots.take j))) mg∧Ctx s (fun _ => False) ((Bm,C (metL ns.length (bfsF (kidG ns) ns.length (roots.take j)))) :: mg) s') roots.length
  ⟨0,.nilSlice,[],by simp,by simp,by simp,by simp,by simp,by simp,by simp,by simp,.inl ⟨by simp [bfsF],rfl,rfl⟩,by simpa [bfsF] using c1⟩ ?_
 rintro k t s' ⟨j,lv,mg,hj,rfl,t0',t5,t6,t15,t16,t17,hg,hc⟩
 refine Z00 ?_
 simp [t16,t17]
 refine AM.wp_seq ?_
 refine AM.Z04 ?_
 by_cases hlt:j < roots.length
 ·have hwr:IntKind.wrap .i64 ((j:Int) + 1) = ((j + 1:Nat):Int):=by rw [IntWalk.i64_in _ (by omega)]; omega
  obtain ⟨a,ha⟩:∃ a,roots[j]? = some a:=⟨_,List.getElem?_eq_getElem hlt⟩
  have han:=hr a (List.mem_of_getElem? ha)
  rcases hrv.keep hc.Z0i with ⟨_,h0⟩ | ⟨b,o,c,cells,rfl,hb,hcs,hle,hel⟩
  ·have:roots = []:=by simpa using h0
   rw [this] at hlt
   simp at hlt
  have hgk:=hel j (a:Int) (by rw [List.getElem?_map,ha]; rfl)
  rw [List.length_map] at t15
  have hgl:=hg.len
  rw [List.length_map] at hgl
  obtain ⟨f1,f2,_⟩:=Zbo (n:=ns.length) hO.Zdc (roots.take j) (fun x hx => hr x (List.mem_of_mem_take hx))
  have hful:=Z22 f1 f2
  have hmet:=Z5v (bfsF (kidG ns) ns.length (roots.take j)) han
  have hnx:bfsF (kidG ns) ns.length (roots.take (j + 1)) = runB (kidG ns) (ns.length + 1 - (bfsF (kidG ns) ns.length (roots.take j)).length) (addN (bfsF (kidG ns) ns.length (roots.take j)) a) (bfsF (kidG ns) ns.length (roots.take j)).length:=by
   unfold bfsF
   rw [List.take_add_one,ha,List.foldl_append]
   rfl
  generalize hv:bfsF (kidG ns) ns.length (roots.take j) = v at hg hc hgl f1 f2 hful hmet hnx
  simp [hlt]
  refine AM.wp_skip ?_
  simp
  refine AM.wp_seq ?_
  refine AM.wp_block ?_
  refine Z00 ?_
  simp [t15,t17,hlt,hcs,hgk]
  refine Z00 ?_
  simp [t6,hg.ntup,hgl]
  refine AM.wp_seq ?_
  refine Z00 ?_
  simp [t5,han,hc.c 0 rfl,hmet]
  refine AM.Z04 ?_
  by_cases hm:a ∈ v
  ·have hadd:addN v a = v:=by unfold addN; rw [if_pos hm]
   rw [hadd] at hnx
   simp [hm]
   refine AM.wp_skip ?_
   simp
   refine Zpd (i:=v.length) hN hO hmax hg f1 f2 hful hc (by simp [t0']) (by simp [t5]) (by simp [t6]) (by simp) fun t2 s2 lv2 mg2 hF2 g6 hg2 hc2 => ?_
   rw [← hnx] at hg2 hc2
   have g17:PT.get (posOf 17) t2 = some (.int .i64 j):=(hF2 17 (by simp)).trans (by simp [t17])
   simp
   refine AM.wp_region ?_
   simp [g17,g6,hwr]
   refine ⟨roots.length - (j + 1),by omega,j + 1,by omega,by omega,?_,?_,?_,?_,rfl,mg2,hg2,hc2⟩
   ·rw [hF2 0 (by simp)]; simp [t0']
   ·rw [hF2 5 (by simp)]; simp [t5]
   ·rw [hF2 15 (by simp)]; simp [t15]
   ·rw [hF2 16 (by simp)]; simp [t16]
  ·have hadd:addN v a = v ++ [a]:=by unfold addN; rw [if_neg hm]
   have hset:=Ze3 han hm
   have hle5:a + 1 ≤ (metL ns.length v).length:=by rw [Z3k]; omega
   have hnd2:=Z8u (k:=a) f1
   have hlt2:=Zd6 f2 han
   simp [lay] at hset
   simp [hm]
   refine AM.wp_seq ?_
   refine AM.wp_region ?_
   simp [t5,han,hc.o 0 rfl,hle5]
   rw [hset]
   have d1:=hc.put 0 rfl (C (metL ns.length (addN v a)))
   simp only [List.set_cons_zero] at d1
   generalize s'.put Bm (.cells (metL ns.length (addN v a)) false) = s2 at d1 ⊢
   refine AM.wp_region ?_
   simp [t6,hg.ntup,Z1t,srcP]
   have d2:=d1.alloc (C [.int .i64 a])
   generalize s2.alloc (.cells [.int .i64 a] false) = s3 at d2 ⊢
   generalize s2.next = T at d2 ⊢
   refine Z61 (pre:=[(T,C [.int .i64 a]),(Bm,C (metL ns.length (addN v a)))]) (r:=[]) (by simpa using d2) hg (by simp; omega) fun lv2 mg2 s4 hg2 d3 => ?_
   simp only [List.cons_append,List.nil_append,List.append_nil] at d3
   have hg2':Z1s lv2 (nats (addN v a)) mg2:=by
    rw [hadd]
    simpa using hg2
   refine Zpd (i:=v.length) hN hO hmax hg2' hnd2 hlt2 hful d3.tail (by simp [t0']) (by simp [t5]) (by simp) (by simp) fun t2 s5 lv5 mg5 hF2 g6 hg5 hc5 => ?_
   rw [← hnx] at hg5 hc5
   have g17:PT.get (posOf 17) t2 = some (.int .i64 j):=(hF2 17 (by simp)).trans (by simp [t17])
   simp
   refine AM.wp_region ?_
   simp [g17,g6,hwr]
   refine ⟨roots.length - (j + 1),by omega,j + 1,by omega,by omega,?_,?_,?_,?_,rfl,mg5,hg5,hc5⟩
   ·rw [hF2 0 (by simp)]; simp [t0']
   ·rw [hF2 5 (by simp)]; simp [t5]
   ·rw [hF2 15 (by simp)]; simp [t15]
   ·rw [hF2 16 (by simp)]; simp [t16]
 ·simp [hlt]
  refine AM.wp_exit ?_
  simp
  have hje:j = roots.length:=by omega
  subst hje
  rw [List.take_length] at hg hc
  refine Z00 ?_
  simp [t6,hg.ntup]
  refine AM.wp_ret ?_
  simp
  exact q lv mg s' hg hc.tail
end
theorem Zvq {fr:FI} {s0 s:St} {t0:PT AVal} {p Bn Bk:Pos} {nds:List (List UInt8 × List Int)} {nd:List UInt8 × List Int} {a:Nat} {now:List Int} {c0 c1:Cap} {Q:Ex→PT AVal→St→Prop}
  (hN:NodesG s0 p nds) (hk0:Keeps s0 s) (hnd:nds[a]? = some nd) (h4:nd.2.length ≤ 4) (hin:∀ k ∈ nd.2,0 ≤ k∧k < nds.length) (hlen:now.length = nds.length)
  (h0:PT.get (posOf 0) t0 = some (.slice p 0 nds.length c0)) (h11:PT.get (posOf 12) t0 = some (.int .i64 a)) (h5:PT.get (posOf 6) t0 = some (.slice Bn 0 nds.length c1)) (h12:PT.get (posOf 13) t0 = some (.ptr Bk 0))
  (hBn:s.cells Bn = some (now.map fun k => .int .i64 k)) (hob:s.Old Bn) (hne:Bn ≠ Bk) (hBk:s.own Bk = some (sgK now nd 0).cells) (hoBk:s.Old Bk) (hfr:¬ s0.Old Bk)
  (q:∀ t s',Fr [14,15,56,57,58,59] t0 t→Same [Bk] s s'→s'.own Bk = some (sgK now nd 4).cells→Q .normal t s'):wp Tryz.prog Zpl fr t0 s Q:=by
 have hf:∀ b ∈ [Bk],¬ s0.Old b:=by simpa using hfr
 obtain ⟨cs,hcs,hle,hel⟩:=(hN.keep hk0).ex
 obtain ⟨hel0,kv,hel1,hkv⟩:=hel a nd hnd
 have ha:a < nds.length:=(List.getElem?_eq_some_iff.1 hnd).1
 have hkv0:Z0f s0 kv nd.2:=by
  obtain ⟨cs0,hcs0,_,hel00⟩:=hN.ex
  have e:cs0 = cs:=by
   have:=hk0.cells hN.old
   rw [hcs,hcs0] at this
   exact (Option.some.inj this).symm
  subst e
  obtain ⟨_,kv',h1,h2⟩:=hel00 a nd hnd
  rw [hel1] at h1
  cases h1
  exact h2
 refine Z00 ?_
 simp [h0,h11,ha,hcs,hel1,hkv.len]
 refine AM.wp_block ?_
 refine AM.wp_loop (fun m t s' => ∃ i:Nat,i ≤ nd.2.length∧m = nd.2.length - i∧Fr [14,15,56,57,58,59] t0 t∧PT.get (posOf 56) t = some kv∧PT.get (posOf 57) t = some (.int .i64 nd.2.length)∧PT.get (posOf 58) t = some (.int .i64 i)∧Same [Bk] s s'∧s'.own Bk = some (sgK now nd i).cells) nd.2.length ⟨0,by simp,by simp,?_,by simp,by simp,by simp,Same.refl _ _,hBk⟩ ?_
 ·intro x hx
  simp at hx
  simp [hx]
 rintro m t s' ⟨i,hi,rfl,hF,t55,t56,t57,hS,hO⟩
 refine Z00 ?_
 simp [t56,t57]
 refine AM.wp_seq ?_
 refine AM.Z04 ?_
 by_cases hlt:i < nd.2.length
 ·obtain ⟨k,hk⟩:∃ k,nd.2[i]? = some k:=⟨_,List.getElem?_eq_getElem hlt⟩
  obtain ⟨hk1,hk2⟩:=hin k (List.mem_of_getElem? hk)
  obtain ⟨x,hx⟩:∃ x,now[k.toNat]? = some x:=⟨_,List.getElem?_eq_getElem (by omega)⟩
  have hwr:IntKind.wrap .i64 ((i:Int) + 1) = ((i + 1:Nat):Int):=by rw [IntWalk.i64_in _ (by omega)]; omega
  have hkeep:Keeps s0 s':=Same.keeps hk0 hS hf
  have hBn':s'.cells Bn = some (now.map fun k => .int .i64 k):=(hS.cells (by simpa using hne) hob).trans hBn
  have hgx:(now.map fun k => AVal.int .i64 k)[k.toNat]? = some (.int .i64 x):=by rw [List.getElem?_map,hx]; rfl
  have hlay:lay (sgK now nd i).cells (2 + i) [.int .i64 x] = (sgK now nd (i + 1)).cells:=Zv4 (nm:=nd.1) (by omega) hk hx
  have hsl:2 + i + 1 ≤ (sgK now nd i).cells.length:=by simp [sgK,Key.cells,Z9t]; omega
  have hi4:(i:Int) < 4:=by omega
  simp [lay] at hlay
  have t5:=(hF 6 (by simp)).trans h5
  have t12:=(hF 13 (by simp)).trans h12
  rcases hkv0.keep hkeep with ⟨_,e0⟩ | ⟨b,o,c,ks,rfl,hb,hks,hle2,hel2⟩
  ·rw [e0] at hlt
   simp at hlt
  have hg:=hel2 i k hk
  simp [hlt]
  refine AM.wp_skip ?_
  simp
  refine AM.wp_seq ?_
  refine AM.wp_block ?_
  refine Z00 ?_
  simp [t55,t57,hlt,hks,hg]
  refine AM.wp_region ?_
  simp [t5,t12,hk1,hk2,hBn',hgx,hO]
  refine ⟨hi4,hsl,?_⟩
  rw [hlay]
  refine AM.wp_region ?_
  simp [t57,hwr]
  refine ⟨nd.2.length - (i + 1),by omega,i + 1,by omega,by omega,?_,by simp [t55],by simp [t56],by simp,?_,by simp⟩
  ·intro y hy
   simp at hy
   simp [hy]
   exact hF y (by simp [hy])
  ·exact hS.put _ (by simp) (hS.old hoBk)
 ·simp [hlt]
  refine AM.wp_exit ?_
  simp
  have hie:i = nd.2.length:=by omega
  subst hie
  refine q _ s' ?_ hS ?_
  ·intro y hy
   simp at hy
   simp [hy]
   exact hF y (by simp [hy])
  ·rw [hO]
   unfold sgK
   rw [Zo5 now nd.2 (Nat.le_refl _) h4]
theorem Zvp {fr:FI} {s:St} {t0:PT AVal} {Bx:Pos} {n:Nat} {c2:Cap} {Q:Ex→PT AVal→St→Prop} (hw:s.Wf) (hn:n ≤ 1000)
  (h7:PT.get (posOf 8) t0 = some (.slice Bx 0 n c2)) (hBx:s.own Bx = some ((List.replicate n (0:Int)).map fun k => .int .i64 k))
  (q:∀ t s',Fr [9,25,26,27] t0 t→Same [Bx] s s'→s'.own Bx = some ((List.replicate n (-1:Int)).map fun k => .int .i64 k)→Q .normal t s'):wp Tryz.prog Zpi fr t0 s Q:=by
 have hoX:s.Old Bx:=Z09 hw hBx
 refine Z00 ?_
 simp [h7]
 refine AM.wp_block ?_
 refine AM.wp_loop (fun m t s' => ∃ i:Nat,i ≤ n∧m = n - i∧Fr [9,25,26,27] t0 t∧PT.get (posOf 25) t = some (.int .i64 n)∧PT.get (posOf 26) t = some (.int .i64 i)∧Same [Bx] s s' ∧
  s'.own Bx = some (List.replicate i (.int .i64 (-1)) ++ List.replicate (n - i) (.int .i64 0))) n ⟨0,by simp,by simp,?_,by simp,by simp,Same.refl _ _,?_⟩ ?_
 ·intro y hy
  simp at hy
  simp [hy]
 ·simpa using hBx
 rintro m t s' ⟨i,hi,rfl,hF,t24,t25,hS,hX⟩
 refine Z00 ?_
 simp [t24,t25]
 refine AM.wp_seq ?_
 refine AM.Z04 ?_
 by_cases hlt:i < n
 ·have hwr:IntKind.wrap .i64 ((i:Int) + 1) = ((i + 1:Nat):Int):=by rw [IntWalk.i64_in _ (by omega)]; omega
  have t7:=(hF 8 (by simp)).trans h7
  have hle:i + 1 ≤ i + (n - i):=by omega
  simp [hlt]
  refine AM.wp_skip ?_
  simp
  refine AM.wp_seq ?_
  refine AM.wp_block ?_
  refine Z00 ?_
  simp [t25]
  refine AM.wp_region ?_
  simp [t7,hlt,hX,hle,Zhy]
  refine AM.wp_region ?_
  simp [t25,hwr]
  refine ⟨n - (i + 1),by omega,i + 1,by omega,by omega,?_,by simp [t24],by simp,hS.put _ (by simp) (hS.old hoX),?_⟩
  ·intro y hy
   simp at hy
   simp [hy]
   exact hF y (by simp [hy])
  ·rw [Zhz]
 ·simp [hlt]
  refine AM.wp_exit ?_
  simp
  have hie:i = n:=by omega
  subst hie
  refine q _ s' ?_ hS (by simpa using hX)
  intro y hy
  simp at hy
  simp [hy]
  exact hF y (by simp [hy])
theorem Zvo {fr:FI} {s0 s:St} {t0:PT AVal} {p Bn Bx Bm:Pos} {nds:List (List UInt8 × List Int)} {nd:List UInt8 × List Int} {a:Nat} {now nxt:List Int} {c0 c1 c2:Cap} {D:List Key} {Q:Ex→PT AVal→St→Prop}
  (hN:NodesG s0 p nds) (hk0:Keeps s0 s) (hw:s.Wf) (hnd:nds[a]? = some nd) (h4:nd.2.length ≤ 4) (hin:∀ k ∈ nd.2,0 ≤ k∧k < nds.length) (hlen:now.length = nds.length) (hlx:nxt.length = nds.length)
  (h0:PT.get (posOf 0) t0 = some (.slice p 0 nds.length c0)) (h11:PT.get (posOf 12) t0 = some (.int .i64 a)) (h5:PT.get (posOf 6) t0 = some (.slice Bn 0 nds.length c1)) (h7:PT.get (posOf 8) t0 = some (.slice Bx 0 nds.length c2)) (h9:PT.get (posOf 10) t0 = some (.map Bm))
  (hBn:s.cells Bn = some (now.map fun k => .int .i64 k)) (hob:s.Old Bn) (hBx:s.own Bx = some (nxt.map fun k => .int .i64 k)) (hBm:s.obj Bm = some (.map (Z1b 0 D) D.length)) (hD:∀ d ∈ D,d.2.length = 5)
  (hnx:Bn ≠ Bx) (hnm:Bn ≠ Bm) (hxm:Bx ≠ Bm) (hfx:¬ s0.Old Bx) (hfm:¬ s0.Old Bm)
  (q:∀ t s',Fr [12,13,14,15,16,17,40,41,42,43,44,45,46,47,48,49,50,51,56,57,58,59,78] t0 t→Same [Bx,Bm] s s' →
   s'.own Bx = some ((nxt.set a ((addK D (sgK now nd 4)).idxOf (sgK now nd 4):Nat)).map fun k => .int .i64 k)→s'.obj Bm = some (.map (Z1b 0 (addK D (sgK now nd 4))) (addK D (sgK now nd 4)).length)→Q .normal t s'):wp Tryz.prog Zpk fr t0 s Q:=by
 obtain ⟨cs,hcs,hle,hel⟩:=(hN.keep hk0).ex
 obtain ⟨hel0,kv,hel1,hkv⟩:=hel a nd hnd
 have ha:a < nds.length:=(List.getElem?_eq_some_iff.1 hnd).1
 have hoX:s.Old Bx:=Z09 hw hBx
 have hoM:s.Old Bm:=Z3m hw hBm
 refine Z00 ?_
 simp [h0,h11,ha,hcs,hel0,hel1,hkv.len,hw]
 have hK1:Keeps s ((s.alloc (.cells [.str [],.int .i64 0,.int .i64 0,.int .i64 0,.int .i64 0,.int .i64 0] false)).put s.next (.cells [.str nd.1,.int .i64 nd.2.length,.int .i64 0,.int .i64 0,.int .i64 0,.int .i64 0] false)) :=
  (Keeps.alloc _ _).put _ (Z0a _) (Z19 _ _)
 have hoK:((s.alloc (.cells [.str [],.int .i64 0,.int .i64 0,.int .i64 0,.int .i64 0,.int .i64 0] false)).put s.next (.cells [.str nd.1,.int .i64 nd.2.length,.int .i64 0,.int .i64 0,.int .i64 0,.int .i64 0] false)).Old s.next:=Zgk.2 (Z19 _ _)
 have hwK:((s.alloc (.cells [.str [],.int .i64 0,.int .i64 0,.int .i64 0,.int .i64 0,.int .i64 0] false)).put s.next (.cells [.str nd.1,.int .i64 nd.2.length,.int .i64 0,.int .i64 0,.int .i64 0,.int .i64 0] false)).own s.next = some (sgK now nd 0).cells:=Z7u _ _ _
 generalize (s.alloc (.cells [.str [],.int .i64 0,.int .i64 0,.int .i64 0,.int .i64 0,.int .i64 0] false)).put s.next (.cells [.str nd.1,.int .i64 nd.2.length,.int .i64 0,.int .i64 0,.int .i64 0,.int .i64 0] false) = S1 at hK1 hoK hwK ⊢
 have hfk:¬ s0.Old s.next:=fun h => Z0a s (hk0.old h)
 have hnk:Bn ≠ s.next:=ne_next hob
 have hxk:Bx ≠ s.next:=ne_next hoX
 have hmk:Bm ≠ s.next:=ne_next hoM
 have hsk:¬ s.Old s.next:=Z0a s
 generalize s.next = Bk at hoK hwK hfk hnk hxk hmk hsk ⊢
 refine AM.wp_seq ?_
 refine Zvq (c0:=c0) (c1:=c1) (Bn:=Bn) (Bk:=Bk) hN (hk0.trans hK1) hnd h4 hin hlen (by simp [h0]) (by simp [h11]) (by simp [h5]) (by simp) ((hK1.cells hob).trans hBn) (hK1.old hob) hnk hwK hoK hfk fun t2 s2 hF2 hS2 hO2 => ?_
 have hX2:s2.own Bx = some (nxt.map fun k => .int .i64 k):=((hS2.own (by simpa using hxk) (hK1.old hoX)).trans (hK1.own hoX)).trans hBx
 have hM2:s2.obj Bm = some (.map (Z1b 0 D) D.length):=((hS2.obj Bm (by simpa using hmk) (hK1.old hoM)).trans (hK1.obj Bm hoM)).trans hBm
 have g9:PT.get (posOf 10) t2 = some (.map Bm):=(hF2 10 (by simp)).trans (by simp [h9])
 have g12:PT.get (posOf 13) t2 = some (.ptr Bk 0):=(hF2 13 (by simp)).trans (by simp)
 have g7:PT.get (posOf 8) t2 = some (.slice Bx 0 nds.length c2):=(hF2 8 (by simp)).trans (by simp [h7])
 have g11:PT.get (posOf 12) t2 = some (.int .i64 a):=(hF2 12 (by simp)).trans (by simp [h11])
 have hwf2:s2.Wf:=hS2.wf (hK1.wf hw)
 have hoX2:s2.Old Bx:=hS2.old (hK1.old hoX)
 have hoM2:s2.Old Bm:=hS2.old (hK1.old hoM)
 have hl6:(sgK now nd 4).cells.length = 6:=by simp [sgK,Key.cells,Z9t]
 have ht6:(sgK now nd 4).cells.take 6 = (sgK now nd 4).cells:=List.take_of_length_le (by omega)
 have hk5:(sgK now nd 4).2.length = 5:=by simp [sgK,Z9t]
 have hSa:Same [Bx,Bm] s s2:=⟨fun b hb ho => (hS2.obj b (by intro hm; simp at hm; subst hm; exact hsk ho) (hK1.old ho)).trans (hK1.obj b ho),Nat.le_trans hK1.next hS2.next,fun h => hwf2⟩
 have hcB:=Z0b hO2
 have fin:∀ (t3:PT AVal) (s3:St),Fr [12,13,14,15,16,17,40,41,42,43,44,45,46,47,48,49,50,51,56,57,58,59,78] t0 t3→PT.get (posOf 16) t3 = some (.int .i64 ((addK D (sgK now nd 4)).idxOf (sgK now nd 4):Nat))→Same [Bx,Bm] s s3 →
   s3.own Bx = some (nxt.map fun k => .int .i64 k)→s3.obj Bm = some (.map (Z1b 0 (addK D (sgK now nd 4))) (addK D (sgK now nd 4)).length)→PT.get (posOf 12) t3 = some (.int .i64 a)→wp Tryz.prog Zpm fr t3 s3 Q:=by
  intro t3 s3 hF3 f16 hS3 hX3 hM3 f12
  have f8:PT.get (posOf 8) t3 = some (.slice Bx 0 nds.length c2):=(hF3 8 (by simp)).trans h7
  refine AM.wp_region ?_
  have hlay:=Z6e nxt a ((addK D (sgK now nd 4)).idxOf (sgK now nd 4):Nat) (by omega)
  have hax:a + 1 ≤ nxt.length:=by omega
  simp [lay] at hlay
  simp [f8,f12,f16,ha,hX3,hax]
  refine q t3 _ hF3 (hS3.put _ (by simp) (hS3.old hoX)) ?_ ?_
  ·rw [hlay]
   simp
  ·rw [Z3z (fun e => hxm e.symm)]
   exact hM3
 have hF2':∀ y,y ∉ [12,13,14,15,16,17,40,41,42,43,44,45,46,47,48,49,50,51,56,57,58,59,78]→PT.get (posOf y) t2 = PT.get (posOf y) t0:=by
  intro y hy
  simp at hy
  rw [hF2 y (by simp [hy])]
  simp [hy]
 simp
 refine AM.wp_seq ?_
 refine AM.wp_region ?_
 simp [g9,g12,hcB,hl6,ht6]
 refine Ze2 (w:=5) hM2 hk5 hD (fun hm => ?_) (fun hm => ?_)
 ·have e:addK D (sgK now nd 4) = D:=if_pos hm
  simp
  refine AM.wp_seq ?_
  refine Z00 ?_
  simp
  refine AM.Z04 ?_
  simp
  refine AM.wp_skip ?_
  simp
  refine fin _ s2 ?_ (by rw [e]; simp) hSa hX2 (by rw [e]; exact hM2) (by simp [g11])
  intro y hy
  have h1:=hF2' y hy
  simp at hy
  simp [hy]
  exact h1
 ·have e:addK D (sgK now nd 4) = D ++ [sgK now nd 4]:=if_neg hm
  have hidx:(D ++ [sgK now nd 4]).idxOf (sgK now nd 4) = D.length:=by rw [List.idxOf_append,if_neg hm]; simp
  simp
  refine AM.wp_seq ?_
  refine Z00 ?_
  simp
  refine AM.Z04 ?_
  simp
  refine Z00 ?_
  simp [g9]
  refine Z7r hM2 ?_
  rw [entsFrom_len]
  refine AM.wp_region ?_
  simp [g9,g12,hcB,hl6,ht6]
  refine Zlk (w:=5) hM2 hk5 hD hm ?_
  simp
  refine fin _ _ ?_ (by rw [e,hidx]; simp) (hSa.put _ (by simp) hoM2) ?_ ?_ (by simp [g11])
  ·intro y hy
   have h1:=hF2' y hy
   simp at hy
   simp [hy]
   exact h1
  ·rw [Z5m hxm]
   exact hX2
  ·rw [e]
   simp
theorem Zvr {fr:FI} {s0 s:St} {t0:PT AVal} {p Bn Bx Bm:Pos} {nds:List (List UInt8 × List Int)} {now:List Int} {c0 c1 c2:Cap} {Lv:AVal} {L:List Nat} {Q:Ex→PT AVal→St→Prop}
  (hN:NodesG s0 p nds) (hk0:Keeps s0 s) (hw:s.Wf) (hL:Z0f s0 Lv (L.map fun (a:Nat) => (a:Int))) (hLn:∀ a ∈ L,a < nds.length) (hLl:L.length ≤ 1000)
  (hkids:∀ (a:Nat) nd,nds[a]? = some nd→nd.2.length ≤ 4∧∀ k ∈ nd.2,0 ≤ k∧k < nds.length) (hlen:now.length = nds.length)
  (h0:PT.get (posOf 0) t0 = some (.slice p 0 nds.length c0)) (h1:PT.get (posOf 1) t0 = some Lv) (h5:PT.get (posOf 6) t0 = some (.slice Bn 0 nds.length c1)) (h7:PT.get (posOf 8) t0 = some (.slice Bx 0 nds.length c2)) (h9:PT.get (posOf 10) t0 = some (.map Bm))
  (hBn:s.cells Bn = some (now.map fun k => .int .i64 k)) (hob:s.Old Bn) (hBx:s.own Bx = some ((List.replicate nds.length (-1)).map fun k => .int .i64 k)) (hBm:s.obj Bm = some (.map [] 0))
  (hnx:Bn ≠ Bx) (hnm:Bn ≠ Bm) (hxm:Bx ≠ Bm) (hfx:¬ s0.Old Bx) (hfm:¬ s0.Old Bm)
  (q:∀ t s',Fr [12,13,14,15,16,17,34,35,36,37,40,41,42,43,44,45,46,47,48,49,50,51,56,57,58,59,78] t0 t→Same [Bx,Bm] s s' →
   s'.own Bx = some ((Z0r now nds L).2.map fun k => .int .i64 k)→s'.obj Bm = some (.map (Z1b 0 (Z0r now nds L).1) (Z0r now nds L).1.length)→Q .normal t s'):wp Tryz.prog Zpj fr t0 s Q:=by
 have hoX:s.Old Bx:=Z09 hw hBx
 have hoM:s.Old Bm:=Z3m hw hBm
 have hLlen:=(hL.keep hk0).len
 have hLt:=hL.ntup
 simp at hLlen
 have hf:∀ b ∈ [Bx,Bm],¬ s0.Old b:=by
  intro b hb
  simp at hb
  rcases hb with rfl | rfl
  ·exact hfx
  ·exact hfm
 refine Z00 ?_
 simp [h1,hLlen]
 refine AM.wp_block ?_
 refine AM.wp_loop (fun m t s' => ∃ i:Nat,i ≤ L.length∧m = L.length - i∧Fr [12,13,14,15,16,17,34,35,36,37,40,41,42,43,44,45,46,47,48,49,50,51,56,57,58,59,78] t0 t∧PT.get (posOf 34) t = some Lv∧PT.get (posOf 35) t = some (.int .i64 L.length)∧PT.get (posOf 36) t = some (.int .i64 i)∧Same [Bx,Bm] s s' ∧
  s'.own Bx = some ((Z0r now nds (L.take i)).2.map fun k => .int .i64 k)∧s'.obj Bm = some (.map (Z1b 0 (Z0r now nds (L.take i)).1) (Z0r now nds (L.take i)).1.length)) L.length ⟨0,by simp,by simp,?_,by simp,by simp,by simp,Same.refl _ _,?_,?_⟩ ?_
 ·intro y hy
  simp at hy
  simp [hy]
 ·simpa [Z0r] using hBx
 ·simpa [Z0r,Z1b] using hBm
 rintro m t s' ⟨i,hi,rfl,hF,t33,t34,t35,hS,hX,hM⟩
 refine Z00 ?_
 simp [t34,t35]
 refine AM.wp_seq ?_
 refine AM.Z04 ?_
 by_cases hlt:i < L.length
 ·obtain ⟨a,ha⟩:∃ a,L[i]? = some a:=⟨_,List.getElem?_eq_getElem hlt⟩
  have han:a < nds.length:=hLn a (List.mem_of_getElem? ha)
  obtain ⟨nd,hnd⟩:∃ nd,nds[a]? = some nd:=⟨_,List.getElem?_eq_getElem han⟩
  obtain ⟨h4,hin⟩:=hkids a nd hnd
  have hwr:IntKind.wrap .i64 ((i:Int) + 1) = ((i + 1:Nat):Int):=by rw [IntWalk.i64_in _ (by omega)]; omega
  have hkeep:Keeps s0 s':=Same.keeps hk0 hS hf
  have hal:(L.map fun (a:Nat) => (a:Int))[i]? = some (a:Int):=by rw [List.getElem?_map,ha]; rfl
  have hkey:keyA now nds a = sgK now nd 4:=by unfold keyA; rw [hnd]
  have htk:L.take (i + 1) = L.take i ++ [a]:=by
   rw [List.take_add_one,ha]
   rfl
  have hrd:Z0r now nds (L.take (i + 1)) = Z54 now nds (Z0r now nds (L.take i)) a:=by
   unfold Z0r
   rw [htk,List.foldl_append]
   rfl
  rcases hL.keep hkeep with ⟨_,e0⟩ | ⟨b,o,c,ks,rfl,hb,hks,hle2,hel2⟩
  ·have:(L.map fun (a:Nat) => (a:Int)).length = 0:=by rw [e0]; rfl
   rw [List.length_map] at this
   omega
  have hg:=hel2 i a hal
  simp at t33
  simp [hlt]
  refine AM.wp_skip ?_
  simp
  refine AM.wp_seq ?_
  refine AM.wp_block ?_
  refine Z00 ?_
  simp [t33,t35,hlt,hks,hg]
  refine Zvo (c0:=c0) (c1:=c1) (c2:=c2) (D:=(Z0r now nds (L.take i)).1) (nxt:=(Z0r now nds (L.take i)).2) hN hkeep (hS.wf hw) hnd h4 hin hlen ?_ ?_ ?_ ?_ ?_ ?_ ((hS.cells (by simp [hnx,hnm]) hob).trans hBn) (hS.old hob) hX hM ?_ hnx hnm hxm hfx hfm fun t2 s2 hF2 hS2 hX2 hM2 => ?_
  ·rw [Z0r,Zb8]
   simp
  ·simp
   exact (hF 0 (by simp)).trans h0
  ·simp
  ·simp
   exact (hF 6 (by simp)).trans h5
  ·simp
   exact (hF 8 (by simp)).trans h7
  ·simp
   exact (hF 10 (by simp)).trans h9
  ·exact Zd2 _ _ (fun a ha => hLn a (List.mem_of_mem_take ha)) (by simp)
  have g33:PT.get (posOf 34) t2 = some (.slice b o L.length c):=(hF2 34 (by simp)).trans (by simp [t33])
  have g34:PT.get (posOf 35) t2 = some (.int .i64 L.length):=(hF2 35 (by simp)).trans (by simp [t34])
  have g35:PT.get (posOf 36) t2 = some (.int .i64 i):=(hF2 36 (by simp)).trans (by simp [t35])
  simp
  refine AM.wp_region ?_
  simp [g35,hwr]
  refine ⟨L.length - (i + 1),by omega,i + 1,by omega,by omega,?_,by simp [g33],by simp [g34],by simp,hS.trans hS2,?_,?_⟩
  ·intro y hy
   simp at hy
   simp [hy]
   rw [hF2 y (by simp [hy])]
   simp [hy]
   exact hF y (by simp [hy])
  ·rw [hrd,hX2,← hkey]
   rfl
  ·rw [hrd,hM2,← hkey]
   rfl
 ·simp [hlt]
  refine AM.wp_exit ?_
  simp
  have hie:i = L.length:=by omega
  subst hie
  rw [List.take_length] at hX hM
  refine q _ s' ?_ hS hX hM
  intro y hy
  simp at hy
  simp [hy]
  exact hF y (by simp [hy])
def cnA (nds:List (List UInt8 × List Int)) (L:List Nat):Nat→Nat
 | 0 => 1
 | r + 1 => cntI nds L (r + 1)
theorem Zoh {s:St} {p:Pos} {nds:List (List UInt8 × List Int)} {c0:Cap} {Lv:AVal} {L:List Nat} {R:Nat} {Q:AVal→St→Prop}
  (hw:s.Wf) (hN:NodesG s p nds) (hn:nds.length ≤ 1000) (hL:Z0f s Lv (L.map fun (a:Nat) => (a:Int))) (hLn:∀ a ∈ L,a < nds.length) (hLl:L.length ≤ 1000)
  (hkids:∀ (a:Nat) nd,nds[a]? = some nd→nd.2.length ≤ 4∧∀ k ∈ nd.2,0 ≤ k∧k < nds.length)
  (hR:∀ r,r < R→cntI nds L (r + 1) ≠ cnA nds L r) (hE:cntI nds L (R + 1) = cnA nds L R)
  (q:∀ Bx s',Keeps s s'→¬ s.Old Bx→s'.own Bx = some ((nowI nds L (R + 1)).map fun k => .int .i64 k)→Q (.tup [.slice Bx 0 nds.length (.lim nds.length),.int .i64 (cntI nds L (R + 1):Nat)]) s'):Z0d Tryz.prog 110 [.slice p 0 nds.length c0,Lv] s Q:=by
 have hLt:=hL.ntup
 refine Z07 (Z0g (by decide)) fi110 rfl (by decide) rfl ?_
 refine Z00 ?_
 simp
 refine Z00 ?_
 have hs1:nds.length * 8 ≤ Z0k:=by unfold Z0k; omega
 have hs2:nds.length ≤ Z0k:=by unfold Z0k; omega
 simp [hs1,hs2]
 have hK1:Keeps s (s.alloc (.cells (List.replicate nds.length (.int .i64 0)) false)):=Keeps.alloc _ _
 have hX1:(s.alloc (.cells (List.replicate nds.length (.int .i64 0)) false)).own s.next = some ((nowI nds L 0).map fun k => .int .i64 k):=by simp [nowI]
 have hf1:¬ s.Old s.next:=Z0a s
 have ho1:(s.alloc (.cells (List.replicate nds.length (.int .i64 0)) false)).Old s.next:=Z19 _ _
 generalize s.alloc (.cells (List.replicate nds.length (.int .i64 0)) false) = s1 at hK1 hX1 ho1 ⊢
 generalize s.next = B1 at hX1 hf1 ho1 ⊢
 refine Z00 ?_
 simp
 refine AM.wp_block ?_
 refine AM.wp_loop (fun m t s' => ∃ (r:Nat) (Bn:Pos),r ≤ R∧m = R - r∧PT.get (posOf 0) t = some (.slice p 0 nds.length c0)∧PT.get (posOf 1) t = some Lv∧PT.get (posOf 6) t = some (.slice Bn 0 nds.length (.lim nds.length))∧PT.get (posOf 7) t = some (.int .i64 (cnA nds L r:Nat))∧Keeps s s'∧¬ s.Old Bn∧s'.Old Bn ∧
  s'.own Bn = some ((nowI nds L r).map fun k => .int .i64 k)) R ⟨0,B1,by simp,by simp,by simp,by simp,by simp,by simp [cnA],hK1,hf1,ho1,hX1⟩ ?_
 rintro m t s' ⟨r,Bn,hr,rfl,t0,t1,t5,t6,hk,hfn,hon,hXn⟩
 refine AM.wp_block ?_
 refine Z00 ?_
 simp [t0,hs1,hs2]
 have hw':s'.Wf:=hk.wf hw
 have hK2:Keeps s' (s'.alloc (.cells (List.replicate nds.length (.int .i64 0)) false)):=Keeps.alloc _ _
 have hX2:(s'.alloc (.cells (List.replicate nds.length (.int .i64 0)) false)).own s'.next = some ((List.replicate nds.length (0:Int)).map fun k => .int .i64 k):=by simp
 have hfx:¬ s.Old s'.next:=fun h => Z0a s' (hk.old h)
 have hnx:Bn ≠ s'.next:=ne_next hon
 have hfx':¬ s'.Old s'.next:=Z0a s'
 generalize s'.alloc (.cells (List.replicate nds.length (.int .i64 0)) false) = s2 at hK2 hX2 ⊢
 generalize s'.next = Bx at hX2 hfx hnx hfx' ⊢
 have hw2:s2.Wf:=hK2.wf hw'
 refine AM.wp_seq ?_
 refine Zvp (n:=nds.length) (Bx:=Bx) (c2:=.lim nds.length) hw2 hn (by simp) hX2 fun t3 s3 hF3 hS3 hX3 => ?_
 have hw3:s3.Wf:=hS3.wf hw2
 have hk3:Keeps s' s3:=Same.keeps hK2 hS3 (by simpa using hfx')
 have g0:PT.get (posOf 0) t3 = some (.slice p 0 nds.length c0):=(hF3 0 (by simp)).trans (by simp [t0])
 have g1:PT.get (posOf 1) t3 = some Lv:=(hF3 1 (by simp)).trans (by simp [t1])
 have g5:PT.get (posOf 6) t3 = some (.slice Bn 0 nds.length (.lim nds.length)):=(hF3 6 (by simp)).trans (by simp [t5])
 have g6:PT.get (posOf 7) t3 = some (.int .i64 (cnA nds L r:Nat)):=(hF3 7 (by simp)).trans (by simp [t6])
 have g7:PT.get (posOf 8) t3 = some (.slice Bx 0 nds.length (.lim nds.length)):=(hF3 8 (by simp)).trans (by simp)
 simp
 refine Z00 ?_
 simp
 have hK4:Keeps s3 (s3.alloc (.map [] 0)):=Keeps.alloc _ _
 have hM4:(s3.alloc (.map [] 0)).obj s3.next = some (.map [] 0):=Z4t _ _
 have hoX3:s3.Old Bx:=Z09 hw3 hX3
 have hfm:¬ s.Old s3.next:=fun h => Z0a s3 (hk3.old (hk.old h))
 have hnm:Bn ≠ s3.next:=ne_next (hk3.old hon)
 have hxm:Bx ≠ s3.next:=ne_next hoX3
 generalize s3.alloc (.map [] 0) = s4 at hK4 hM4 ⊢
 generalize s3.next = Bm at hM4 hfm hnm hxm ⊢
 have hw4:s4.Wf:=hK4.wf hw3
 have hk4:Keeps s s4:=(hk.trans hk3).trans hK4
 have hX4:s4.own Bx = some ((List.replicate nds.length (-1:Int)).map fun k => .int .i64 k):=(hK4.own hoX3).trans hX3
 have hN4:s4.own Bn = some ((nowI nds L r).map fun k => .int .i64 k):=(hK4.own (hk3.old hon)).trans ((hk3.own hon).trans hXn)
 refine AM.wp_seq ?_
 refine Zvr (p:=p) (Bn:=Bn) (Bx:=Bx) (Bm:=Bm) (c0:=c0) (c1:=.lim nds.length) (c2:=.lim nds.length) (now:=nowI nds L r) (Lv:=Lv) (L:=L) hN hk4 hw4 hL hLn hLl hkids (Z6h nds L r) (by simp [g0]) (by simp [g1]) (by simp [g5]) (by simp [g7]) (by simp) (Z0b hN4) (hK4.old (hk3.old hon)) hX4 hM4 hnx hnm hxm hfx hfm fun t5' s5 hF5 hS5 hX5 hM5 => ?_
 have hk5:Keeps s s5:=Same.keeps hk4 hS5 (by
  intro b hb
  simp at hb
  rcases hb with rfl | rfl
  ·exact hfx
  ·exact hfm)
 have j0:PT.get (posOf 0) t5' = some (.slice p 0 nds.length c0):=(hF5 0 (by simp)).trans (by simp [g0])
 have j1:PT.get (posOf 1) t5' = some Lv:=(hF5 1 (by simp)).trans (by simp [g1])
 have j6:PT.get (posOf 7) t5' = some (.int .i64 (cnA nds L r:Nat)):=(hF5 7 (by simp)).trans (by simp [g6])
 have j7:PT.get (posOf 8) t5' = some (.slice Bx 0 nds.length (.lim nds.length)):=(hF5 8 (by simp)).trans (by simp [g7])
 have j9:PT.get (posOf 10) t5' = some (.map Bm):=(hF5 10 (by simp)).trans (by simp)
 have hcnt:(Z0r (nowI nds L r) nds L).1.length = cntI nds L (r + 1):=rfl
 simp
 refine AM.wp_seq ?_
 refine Z00 ?_
 simp [j9]
 refine Z7r hM5 ?_
 rw [entsFrom_len,hcnt]
 by_cases he:cntI nds L (r + 1) = cnA nds L r
 ·have hrR:r = R:=by
   rcases Nat.lt_or_ge r R with h | h
   ·exact (hR r h he).elim
   ·omega
  subst hrR
  simp [j6,he]
  refine AM.Z04 ?_
  simp
  refine Z00 ?_
  simp [j7,j6]
  refine AM.wp_ret ?_
  simp
  rw [← he]
  exact q Bx s5 hk5 hfx hX5
 ·have hrR:r < R:=by
   rcases Nat.lt_or_ge r R with h | h
   ·exact h
   ·have:r = R:=by omega
    subst this
    exact (he hE).elim
  have he':¬ ((cntI nds L (r + 1):Nat):Int) = (cnA nds L r:Nat):=by omega
  have hcn:cnA nds L (r + 1) = cntI nds L (r + 1):=rfl
  simp [j6,he,he']
  refine AM.Z04 ?_
  simp
  refine AM.wp_skip ?_
  simp
  refine AM.wp_region ?_
  simp [j7,j9]
  refine Z7r hM5 ?_
  rw [entsFrom_len,hcnt]
  simp
  refine ⟨R - (r + 1),by omega,r + 1,by omega,rfl,by simp [j0],by simp [j1],rfl,hk5,hfx,Z09 (hk5.wf hw) hX5,hX5⟩
def Z16 (f:Nat→Key) (D:List Key) (L:List Nat):List Key:=L.foldl (fun D a => addK D (f a)) D
theorem Zc9 {now:List Int} {nds:List ND}:∀ (L:List Nat) (x:List Key × List Int),(L.foldl (Z54 now nds) x).1 = Z16 (keyA now nds) x.1 L
 | [],x => rfl
 | a :: L,x => by
  rw [List.foldl_cons,Zc9 L]
  rfl
theorem Zky {f g:Nat→Key}:∀ (L E:List Nat) (D D':List Key),(∀ a ∈ E ++ L,∀ b ∈ E ++ L,(f a = f b ↔ g a = g b))→D.length = D'.length→(∀ e ∈ E,f e ∈ D∧g e ∈ D'∧D.idxOf (f e) = D'.idxOf (g e))→(∀ k ∈ D,∃ e ∈ E,f e = k)→(∀ k ∈ D',∃ e ∈ E,g e = k) →
  (Z16 f D L).length = (Z16 g D' L).length∧∀ e ∈ E ++ L,(Z16 f D L).idxOf (f e) = (Z16 g D' L).idxOf (g e)
 | [],E,D,D',_,hl,he,_,_ => ⟨hl,fun e h => (he e (by simpa using h)).2.2⟩
 | a :: L,E,D,D',hk,hl,he,hD,hD' => by
  have hmem:f a ∈ D ↔ g a ∈ D':=by
   constructor
   ·intro h
    obtain ⟨e,h1,h2⟩:=hD _ h
    have:=(hk e (by simp [h1]) a (by simp)).1 h2
    rw [← this]
    exact (he e h1).2.1
   ·intro h
    obtain ⟨e,h1,h2⟩:=hD' _ h
    have:=(hk e (by simp [h1]) a (by simp)).2 h2
    rw [← this]
    exact (he e h1).1
  have:=Zky (f:=f) (g:=g) L (E ++ [a]) (addK D (f a)) (addK D' (g a)) (by simpa using hk) (by
   unfold addK
   by_cases h:f a ∈ D
   ·rw [if_pos h,if_pos (hmem.1 h)]
    exact hl
   ·rw [if_neg h,if_neg (fun h' => h (hmem.2 h'))]
    simp [hl]) (by
   intro e h
   rcases List.mem_append.1 h with h | h
   ·obtain ⟨h1,h2,h3⟩:=he e h
    exact ⟨Zdm h1,Zdm h2,by rw [Zdl h1,Zdl h2,h3]⟩
   ·simp at h
    subst h
    refine ⟨Zbm _ _,Zbm _ _,?_⟩
    unfold addK
    by_cases h:f e ∈ D
    ·rw [if_pos h,if_pos (hmem.1 h)]
     obtain ⟨e',h1,h2⟩:=hD _ h
     have h3:=(hk e' (by simp [h1]) e (by simp)).1 h2
     rw [← h2,← h3]
     exact (he e' h1).2.2
    ·rw [if_neg h,if_neg (fun h' => h (hmem.2 h')),List.idxOf_append,if_neg h,List.idxOf_append,if_neg (fun h' => h (hmem.2 h'))]
     simp [hl]) (by
   intro k hk'
   unfold addK at hk'
   split at hk'
   ·obtain ⟨e,h1,h2⟩:=hD k hk'
    exact ⟨e,by simp [h1],h2⟩
   ·rcases List.mem_append.1 hk' with h | h
    ·obtain ⟨e,h1,h2⟩:=hD k h
     exact ⟨e,by simp [h1],h2⟩
    ·simp at h
     exact ⟨a,by simp,h.symm⟩) (by
   intro k hk'
   unfold addK at hk'
   split at hk'
   ·obtain ⟨e,h1,h2⟩:=hD' k hk'
    exact ⟨e,by simp [h1],h2⟩
   ·rcases List.mem_append.1 hk' with h | h
    ·obtain ⟨e,h1,h2⟩:=hD' k h
     exact ⟨e,by simp [h1],h2⟩
    ·simp at h
     exact ⟨a,by simp,h.symm⟩)
  simpa [Z16] using this
section
variable {nds:List ND} {L:List Nat} (hC:Closed nds L)
include hC
theorem Zwj {r1 r2:Nat} (h:∀ a ∈ L,∀ b ∈ L,(sim nds (r1 + 1) a b ↔ sim nds (r2 + 1) a b)):nowI nds L (r1 + 1) = nowI nds L (r2 + 1)∧cntI nds L (r1 + 1) = cntI nds L (r2 + 1):=by
 have hk:=Zky (f:=keyA (nowI nds L r1) nds) (g:=keyA (nowI nds L r2) nds) L [] [] [] (by
  intro a ha b hb
  simp at ha hb
  rw [Z64 hC r1 a b ha hb,Z64 hC r2 a b ha hb]
  exact h a ha b hb) rfl (by simp) (by simp) (by simp)
 have e1:(Z0r (nowI nds L r1) nds L).1 = Z16 (keyA (nowI nds L r1) nds) [] L:=Zc9 L _
 have e2:(Z0r (nowI nds L r2) nds L).1 = Z16 (keyA (nowI nds L r2) nds) [] L:=Zc9 L _
 refine ⟨List.ext_getElem? fun j => ?_,?_⟩
 ·by_cases hj:j < nds.length
  ·by_cases hm:j ∈ L
   ·show (Z0r (nowI nds L r1) nds L).2[j]? = (Z0r (nowI nds L r2) nds L).2[j]?
    rw [Z9s hm hj,Z9s hm hj,e1,e2]
    have:=hk.2 j (by simpa using hm)
    rw [this]
   ·rw [Zfp nds L r1 j hj hm,Zfp nds L r2 j hj hm]
  ·rw [List.getElem?_eq_none (by rw [Z6h]; omega),List.getElem?_eq_none (by rw [Z6h]; omega)]
 ·show (Z0r (nowI nds L r1) nds L).1.length = (Z0r (nowI nds L r2) nds L).1.length
  rw [e1,e2]
  exact hk.1
theorem Zoi (hne:L ≠ []):∃ R,(∀ r,r < R→cntI nds L (r + 1) ≠ cnA nds L r)∧cntI nds L (R + 1) = cnA nds L R∧nowI nds L (R + 1) = clsF nds L:=by
 obtain ⟨R,h1,h2,h3⟩:=Z9d hC
 have hpos:cntI nds L 1 ≠ 0:=by
  rw [Z5g]
  cases L with
  | nil => exact (hne rfl).elim
  | cons a L => simp [news]
 cases R with
 | zero => exact (hpos h2).elim
 | succ R =>
  by_cases h1':cntI nds L 1 = 1
  ·refine ⟨0,by simp,h1',?_⟩
   rw [h1]
   have hone:∀ a ∈ L,∀ b ∈ L,sim nds 1 a b:=by
    rw [Z5g] at h1'
    intro a ha b hb
    refine (Z64 hC 0 a b ha hb).1 ?_
    have:=Zfn (f:=keyA (nowI nds L 0) nds) (g:=fun _:Nat => (0:Nat)) L [] (fun _ _ _ _ _ => rfl) (by
     rw [h1']
     cases L with
     | nil => exact (hne rfl).elim
     | cons c L =>
      have key:∀ (L E:List Nat),E ≠ []→news (fun _:Nat => (0:Nat)) E L = 0:=by
       intro L
       induction L with
       | nil => intro E _; rfl
       | cons x L ih =>
        intro E hE
        have h2:=ih (E ++ [x]) (by simp)
        cases E with
        | nil => exact (hE rfl).elim
        | cons y E =>
         simp only [news]
         rw [h2]
         simp
      simp only [news]
      rw [key L ([] ++ [c]) (by simp)]
      simp) (by simp) a (by simpa using ha) b (by simpa using hb) rfl
    exact this
   refine (Zwj hC (r1:=0) (r2:=R + 1) fun a ha b hb => ?_).1
   constructor
   ·intro _
    have hall:∀ r a b,a ∈ L→b ∈ L→sim nds r a b:=by
     intro r
     induction r with
     | zero => intro a b _ _; trivial
     | succ r ih =>
      intro a b ha hb
      obtain ⟨x,y,hx,hy,e1,e2,_⟩:=hone a ha b hb
      exact ⟨x,y,hx,hy,e1,e2,fun j k m hk hm => ih _ _ ((hC.kids a ha x hx).2 k (List.mem_of_getElem? hk)) ((hC.kids b hb y hy).2 m (List.mem_of_getElem? hm))⟩
    exact hall _ a b ha hb
   ·intro _
    exact hone a ha b hb
  ·refine ⟨R + 1,?_,h2,h1.symm⟩
   intro r hr
   cases r with
   | zero => exact h1'
   | succ r => exact h3 (r + 1) hr
noncomputable def Zj2 (nds:List ND) (L:List Nat):Nat:=news (fun a => (clsF nds L)[a]?) [] L
theorem Zpx {R:Nat} (h:nowI nds L (R + 1) = clsF nds L):cntI nds L (R + 1) = Zj2 nds L:=by
 rw [Z5g]
 unfold Zj2
 rw [← h]
 have hiff:∀ a ∈ L,∀ b ∈ L,(keyA (nowI nds L R) nds a = keyA (nowI nds L R) nds b ↔ (nowI nds L (R + 1))[a]? = (nowI nds L (R + 1))[b]?):=fun a ha b hb => by
  rw [Z64 hC R a b ha hb,Z9o hC (R + 1) a b ha hb]
 have h1:=Zai (f:=keyA (nowI nds L R) nds) (g:=fun a => (nowI nds L (R + 1))[a]?) L [] (fun a ha b hb h => (hiff a (by simpa using ha) b (by simpa using hb)).1 h)
 have h2:=Zai (f:=fun a => (nowI nds L (R + 1))[a]?) (g:=keyA (nowI nds L R) nds) L [] (fun a ha b hb h => (hiff a (by simpa using ha) b (by simpa using hb)).2 h)
 omega
theorem Zf5 {a:Nat} (ha:a ∈ L):∃ c:Nat,(clsF nds L)[a]? = some (c:Int)∧c < Zj2 nds L:=by
 obtain ⟨R,h1,h2,h3⟩:=Z9d hC
 have hm:=Zpx hC h1.symm
 rw [h1]
 refine ⟨_,Z9s ha (hC.lt a ha),?_⟩
 rw [← hm]
 show _ < (Z0r (nowI nds L R) nds L).1.length
 exact List.idxOf_lt_length_of_mem (Zcp L _ a ha)
end
theorem Zbk {α:Type} {motive:List α→Prop} (nil:motive []) (append_singleton:∀ (l:List α) (a:α),motive l→motive (l ++ [a])) (l:List α):motive l:=by
 have:∀ r:List α,motive r.reverse:=by
  intro r
  induction r with
  | nil => exact nil
  | cons a r ih =>
   rw [List.reverse_cons]
   exact append_singleton _ a ih
 have h:=this l.reverse
 rwa [List.reverse_reverse] at h
theorem Zar (f:Nat→Key) (D:List Key) (P S:List Nat):Z16 f D (P ++ S) = Z16 f (Z16 f D P) S:=by
 unfold Z16
 rw [List.foldl_append]
theorem Zaz (f:Nat→Key):∀ (S:List Nat) (D:List Key),∃ T,Z16 f D S = D ++ T
 | [],D => ⟨[],by simp [Z16]⟩
 | a :: S,D => by
  obtain ⟨T,h⟩:=Zaz f S (addK D (f a))
  have h1:Z16 f D (a :: S) = Z16 f (addK D (f a)) S:=rfl
  rw [h1,h]
  unfold addK
  split
  ·exact ⟨T,rfl⟩
  ·exact ⟨[f a] ++ T,by simp⟩
theorem Ziz (f:Nat→Key):∀ (S:List Nat) (D:List Key) (k:Key),k ∈ Z16 f D S ↔ k ∈ D ∨ ∃ a ∈ S,f a = k
 | [],D,k => by simp [Z16]
 | a :: S,D,k => by
  have h1:Z16 f D (a :: S) = Z16 f (addK D (f a)) S:=rfl
  rw [h1,Ziz f S]
  have h2:k ∈ addK D (f a) ↔ k ∈ D ∨ f a = k:=by
   unfold addK
   split
   ·rename_i h
    constructor
    ·exact .inl
    ·rintro (h' | rfl)
     ·exact h'
     ·exact h
   ·simp [eq_comm]
  rw [h2]
  constructor
  ·rintro ((h | h) | ⟨b,hb,h⟩)
   ·exact .inl h
   ·exact .inr ⟨a,by simp,h⟩
   ·exact .inr ⟨b,by simp [hb],h⟩
  ·rintro (h | ⟨b,hb,h⟩)
   ·exact .inl (.inl h)
   ·rcases List.mem_cons.1 hb with rfl | hb
    ·exact .inl (.inr h)
    ·exact .inr ⟨b,hb,h⟩
theorem Zmf {nds:List ND} {L:List Nat} (hC:Closed nds L):∃ f:Nat→Key,(∀ a ∈ L,(clsF nds L)[a]? = some ((Z16 f [] L).idxOf (f a):Nat))∧∀ a ∈ L,∀ b ∈ L,(f a = f b ↔ ∀ r,sim nds r a b):=by
 obtain ⟨R,h1,h2,_⟩:=Z9d hC
 refine ⟨keyA (nowI nds L R) nds,fun a ha => ?_,fun a ha b hb => ?_⟩
 ·have e1:(Z0r (nowI nds L R) nds L).1 = Z16 (keyA (nowI nds L R) nds) [] L:=Zc9 L _
  rw [h1,← e1]
  exact Z9s ha (hC.lt a ha)
 ·rw [← Zgt hC h2 ha hb,Z9o hC (R + 1) a b ha hb,← Z64 hC R a b ha hb]
theorem Zmv {nds:List ND} {L P S:List Nat} {a:Nat} (hC:Closed nds L) (hL:L = P ++ a :: S) :
  ∃ c:Nat,(clsF nds L)[a]? = some (c:Int)∧c ≤ (outF (clsF nds L) nds P).length∧(c < (outF (clsF nds L) nds P).length ↔ ∃ e ∈ P,∀ r,sim nds r e a):=by
 obtain ⟨f,hf0,hs⟩:=Zmf hC
 have hf:∀ x ∈ L,(clsF nds L)[x]? = some (((Z16 f [] L).idxOf (f x):Nat):Int):=hf0
 have ha:a ∈ L:=by rw [hL]; simp
 have hPL:∀ x ∈ P,x ∈ L:=fun x hx => by rw [hL]; simp [hx]
 have key:∀ (P' Q':List Nat),P = P' ++ Q'→(outF (clsF nds L) nds P').length = (Z16 f [] P').length:=by
  intro P'
  induction P' using Zbk with
  | nil => intro Q' _; rfl
  | append_singleton P' x ih =>
   intro Q' hQ
   have ihp:=ih (x :: Q') (by rw [hQ]; simp)
   have hx:x ∈ L:=hPL x (by rw [hQ]; simp)
   have hnd:nds[x]? = some (nds[x]'(hC.lt x hx)):=List.getElem?_eq_getElem _
   have e1:outF (clsF nds L) nds (P' ++ [x]) = Z2h (clsF nds L) nds (outF (clsF nds L) nds P') x:=by unfold outF; rw [List.foldl_append]; rfl
   have e2:Z16 f [] (P' ++ [x]) = addK (Z16 f [] P') (f x):=by rw [Zar]; rfl
   rw [e1,e2]
   unfold Z2h
   rw [hf x hx,hnd]
   simp only
   obtain ⟨T,hT⟩:=Zaz f (x :: (Q' ++ a :: S)) (Z16 f [] P')
   have hLx:L = P' ++ x :: (Q' ++ a :: S):=by rw [hL,hQ]; simp
   have hk:Z16 f [] L = Z16 f [] P' ++ T:=by rw [hLx,Zar]; exact hT
   rw [hk,List.idxOf_append]
   unfold addK
   by_cases hm:f x ∈ Z16 f [] P'
   ·rw [if_pos hm,if_pos hm,if_pos (by have:=List.idxOf_lt_length_of_mem hm; omega)]
    exact ihp
   ·rw [if_neg hm,if_neg hm,if_neg (by omega)]
    simp [ihp]
 have hlen:=key P [] (by simp)
 obtain ⟨T,hT⟩:=Zaz f (a :: S) (Z16 f [] P)
 have hk:Z16 f [] L = Z16 f [] P ++ T:=by rw [hL,Zar]; exact hT
 refine ⟨_,hf a ha,?_⟩
 rw [hlen,hk,List.idxOf_append]
 have hmem:f a ∈ Z16 f [] P ↔ ∃ e ∈ P,∀ r,sim nds r e a:=by
  rw [Ziz]
  constructor
  ·rintro (h | ⟨e,he,h⟩)
   ·cases h
   ·exact ⟨e,he,(hs e (hPL e he) a ha).1 h⟩
  ·rintro ⟨e,he,h⟩
   exact .inr ⟨e,he,(hs e (hPL e he) a ha).2 h⟩
 by_cases hm:f a ∈ Z16 f [] P
 ·rw [if_pos hm]
  have:=List.idxOf_lt_length_of_mem hm
  exact ⟨by omega,⟨fun _ => hmem.1 hm,fun _ => this⟩⟩
 ·rw [if_neg hm]
  have hz:T.idxOf (f a) = 0:=by
   have h1:Z16 f (Z16 f [] P) (a :: S) = Z16 f (addK (Z16 f [] P) (f a)) S:=rfl
   obtain ⟨T',hT'⟩:=Zaz f S (addK (Z16 f [] P) (f a))
   rw [h1,hT'] at hT
   unfold addK at hT
   rw [if_neg hm,List.append_assoc] at hT
   have:=List.append_cancel_left hT
   rw [← this]
   simp
  rw [hz]
  refine ⟨by omega,⟨fun h => by omega,fun h => (hm (hmem.2 h)).elim⟩⟩
theorem Znk {nds:List ND} {L:List Nat} (hC:Closed nds L):(outF (clsF nds L) nds L).length = Zj2 nds L:=by
 have hb:∀ a ∈ L,∃ c:Nat,(clsF nds L)[a]? = some (c:Int):=fun a ha => by
  obtain ⟨c,h,_⟩:=Zf5 hC ha
  exact ⟨c,h⟩
 have key:∀ (P S:List Nat),L = P ++ S→(outF (clsF nds L) nds P).length = news (fun a => (clsF nds L)[a]?) [] P:=by
  intro P
  induction P using Zbk with
  | nil => intro S _; rfl
  | append_singleton P x ih =>
   intro S hS
   have ihp:=ih (x :: S) (by rw [hS]; simp)
   obtain ⟨c,hc,h1,h2⟩:=Zmv (P:=P) (a:=x) (S:=S) hC (by rw [hS]; simp)
   have hx:x ∈ L:=by rw [hS]; simp
   have e1:outF (clsF nds L) nds (P ++ [x]) = Z2h (clsF nds L) nds (outF (clsF nds L) nds P) x:=by unfold outF; rw [List.foldl_append]; rfl
   have hnd:nds[x]? = some (nds[x]'(hC.lt x hx)):=List.getElem?_eq_getElem _
   have hap:∀ (P E:List Nat) (y:Nat) (f:Nat→Option Int),news f E (P ++ [y]) = news f E P + (if (E ++ P).any (fun e => decide (f e = f y)) = true then 0 else 1):=by
    intro P
    induction P with
    | nil => intro E y f; simp [news]
    | cons z P ih =>
     intro E y f
     have:=ih (E ++ [z]) y f
     simp only [List.cons_append,news]
     rw [this]
     have e:(E ++ [z] ++ P) = E ++ z :: P:=by simp
     rw [e]
     omega
   rw [hap,e1,← ihp]
   unfold Z2h
   rw [hc,hnd]
   simp only
   have hany:([] ++ P).any (fun e => decide ((clsF nds L)[e]? = (clsF nds L)[x]?)) = true ↔ ∃ e ∈ P,∀ r,sim nds r e x:=by
    simp only [List.nil_append,List.any_eq_true,decide_eq_true_eq]
    constructor
    ·rintro ⟨e,he,h⟩
     exact ⟨e,he,(Zdr hC (by rw [hS]; simp [he]) hx).1 h⟩
    ·rintro ⟨e,he,h⟩
     exact ⟨e,he,(Zdr hC (by rw [hS]; simp [he]) hx).2 h⟩
   rw [hc] at hany
   by_cases hlt:c < (outF (clsF nds L) nds P).length
   ·rw [if_pos (hany.2 (h2.1 hlt)),if_pos (by omega)]
    omega
   ·rw [if_neg (fun h => hlt (h2.2 (hany.1 h))),if_neg (by omega)]
    simp
 exact key L [] (by simp)
inductive UT where
 | cut
 | node (nm:List UInt8) (kids:List UT)
def UT.name:UT→List UInt8
 | .cut => []
 | .node nm _ => nm
def UT.kids:UT→List UT
 | .cut => []
 | .node _ ks => ks
def unf (nds:List ND):Nat→Nat→UT
 | 0,_ => .cut
 | d + 1,a => match nds[a]? with
  | none => .cut
  | some nd => .node nd.1 (nd.2.map fun k => unf nds d k.toNat)
abbrev Lab:=Nat→UT
def lab (nds:List ND) (a:Nat):Lab:=fun d => unf nds d a
theorem Z8i {nds:List ND} {a:Nat} {nd:ND} (h:nds[a]? = some nd) (d:Nat):unf nds (d + 1) a = .node nd.1 (nd.2.map fun k => unf nds d k.toNat):=by
 simp [unf,h]
def Zgg (b:Lab):List Lab:=(List.range (b 1).kids.length).map fun j d => ((b (d + 1)).kids[j]?).getD .cut
theorem Z8n {nds:List ND} {a:Nat} {nd:ND} (h:nds[a]? = some nd):Zgg (lab nds a) = nd.2.map fun k => lab nds k.toNat:=by
 refine List.ext_getElem? fun j => ?_
 have h1:(lab nds a 1).kids.length = nd.2.length:=by
  show (unf nds 1 a).kids.length = _
  rw [Z8i h]
  simp [UT.kids]
 unfold Zgg
 rw [h1]
 by_cases hj:j < nd.2.length
 ·rw [List.getElem?_map,List.getElem?_range hj,List.getElem?_map,List.getElem?_eq_getElem hj]
  simp only [Option.map_some]
  congr 1
  funext d
  show (((unf nds (d + 1) a).kids)[j]?).getD .cut = _
  rw [Z8i h]
  simp [UT.kids,hj]
  rfl
 ·rw [List.getElem?_eq_none (by simpa using hj),List.getElem?_eq_none (by simpa using hj)]
def lname (b:Lab):List UInt8:=(b 1).name
theorem Zcf {nds:List ND} {a:Nat} {nd:ND} (h:nds[a]? = some nd):lname (lab nds a) = nd.1:=by
 show (unf nds 1 a).name = _
 rw [Z8i h]
 rfl
theorem Zpy {nds:List ND} {r:Nat}:∀ {x y:List Int},x.length = y.length→(∀ (j:Nat) (k m:Int),x[j]? = some k→y[j]? = some m→unf nds r k.toNat = unf nds r m.toNat)→x.map (fun k => unf nds r k.toNat) = y.map fun k => unf nds r k.toNat
 | [],[],_,_ => rfl
 | k :: x,m :: y,hl,h => by
  rw [List.map_cons,List.map_cons,h 0 k m rfl rfl,Zpy (x:=x) (y:=y) (by simpa using hl) (fun j k m a b => h (j + 1) k m (by simpa using a) (by simpa using b))]
 | [],_ :: _,hl,_ => by simp at hl
 | _ :: _,[],hl,_ => by simp at hl
theorem Zgo {nds:List ND} {L:List Nat} (hC:Closed nds L):∀ (r a b:Nat),a ∈ L→b ∈ L→(sim nds r a b ↔ unf nds r a = unf nds r b)
 | 0,a,b,_,_ => by simp [sim,unf]
 | r + 1,a,b,ha,hb => by
  have hx:nds[a]? = some (nds[a]'(hC.lt a ha)):=List.getElem?_eq_getElem _
  have hy:nds[b]? = some (nds[b]'(hC.lt b hb)):=List.getElem?_eq_getElem _
  generalize nds[a]'(hC.lt a ha) = x at hx
  generalize nds[b]'(hC.lt b hb) = y at hy
  obtain ⟨_,hkx⟩:=hC.kids a ha _ hx
  obtain ⟨_,hky⟩:=hC.kids b hb _ hy
  rw [Z8i hx,Z8i hy]
  constructor
  ·rintro ⟨x',y',hx',hy',e1,e2,e3⟩
   rw [hx] at hx'
   rw [hy] at hy'
   cases hx'
   cases hy'
   rw [e1,Zpy e2 fun j k m hk hm => (Zgo hC r _ _ (hkx k (List.mem_of_getElem? hk)) (hky m (List.mem_of_getElem? hm))).1 (e3 j k m hk hm)]
  ·intro h
   injection h with e1 e2
   have hl:x.2.length = y.2.length:=by simpa using congrArg List.length e2
   refine ⟨x,y,hx,hy,e1,hl,fun j k m hk hm => (Zgo hC r _ _ (hkx k (List.mem_of_getElem? hk)) (hky m (List.mem_of_getElem? hm))).2 ?_⟩
   have:=congrArg (fun l => l[j]?) e2
   simpa [hk,hm] using this
theorem Zki {nds:List ND} {L:List Nat} (hC:Closed nds L) {a b:Nat} (ha:a ∈ L) (hb:b ∈ L):(∀ r,sim nds r a b) ↔ lab nds a = lab nds b:=by
 constructor
 ·intro h
  funext r
  exact (Zgo hC r a b ha hb).1 (h r)
 ·intro h r
  exact (Zgo hC r a b ha hb).2 (congrFun h r)
section
open Classical
variable {α β κ:Type}
noncomputable def addB (v:List β) (k:β):List β:=if k ∈ v then v else v ++ [k]
noncomputable def Z2v (v:List β) (ks:List β):List β:=ks.foldl addB v
noncomputable def dd (l:List β):List β:=Z2v [] l
theorem Zvl (v:List β) (k:β):∃ w,addB v k = v ++ w:=by
 unfold addB
 split
 ·exact ⟨[],by simp⟩
 ·exact ⟨[k],rfl⟩
theorem Zc4:∀ (ks v:List β),∃ w,Z2v v ks = v ++ w
 | [],v => ⟨[],by simp [Z2v]⟩
 | k :: ks,v => by
  obtain ⟨w1,h1⟩:=Zvl v k
  obtain ⟨w2,h2⟩:=Zc4 ks (addB v k)
  exact ⟨w1 ++ w2,by show Z2v (addB v k) ks = _; rw [h2,h1,List.append_assoc]⟩
theorem Zwd {v:List β} {k x:β}:x ∈ addB v k ↔ x ∈ v ∨ x = k:=by
 unfold addB
 split
 ·rename_i h
  constructor
  ·exact .inl
  ·rintro (h' | rfl)
   ·exact h'
   ·exact h
 ·simp
theorem Zl1 {x:β}:∀ {ks v:List β},x ∈ Z2v v ks ↔ x ∈ v ∨ x ∈ ks
 | [],v => by simp [Z2v]
 | k :: ks,v => by
  show x ∈ Z2v (addB v k) ks ↔ _
  rw [Zl1 (ks:=ks),Zwd,List.mem_cons,or_assoc]
theorem Zj3 {x:β} {l:List β}:x ∈ dd l ↔ x ∈ l:=by
 unfold dd
 rw [Zl1]
 simp
theorem Zm2 (v ks ls:List β):Z2v v (ks ++ ls) = Z2v (Z2v v ks) ls:=by
 unfold Z2v
 rw [List.foldl_append]
theorem Zf8 (l m:List β):dd (l ++ m) = Z2v (dd l) m:=Zm2 _ _ _
theorem Zga (l:List β) (x:β):dd (l ++ [x]) = addB (dd l) x:=Zf8 l [x]
theorem Zm3:∀ {ks v:List β},(∀ k ∈ ks,k ∈ v)→Z2v v ks = v
 | [],_,_ => rfl
 | k :: ks,v,h => by
  have hk:addB v k = v:=by unfold addB; rw [if_pos (h k (by simp))]
  show Z2v (addB v k) ks = v
  rw [hk]
  exact Zm3 fun x hx => h x (by simp [hx])
theorem Zvm (v:List β) (k:β):(addB v k).length ≤ v.length + 1:=by
 unfold addB
 split <;> simp
theorem Zkh:∀ (ks v:List β),(Z2v v ks).length ≤ v.length + ks.length
 | [],v => by simp [Z2v]
 | k :: ks,v => by
  have h1:=Zvm v k
  have h2:=Zkh ks (addB v k)
  show (Z2v (addB v k) ks).length ≤ _
  rw [List.length_cons]
  omega
theorem dd_len (l:List β):(dd l).length ≤ l.length:=by
 have:=Zkh l ([]:List β)
 simpa [dd] using this
noncomputable def runL (κ:β→List β):Nat→List β→Nat→List β
 | 0,w,_ => w
 | g + 1,w,j => match w[j]? with
  | none => w
  | some b => runL κ g (Z2v w (κ b)) (j + 1)
theorem Zuy {κ:β→List β} {g:Nat} {w:List β} {j:Nat} (h:w.length ≤ j):runL κ g w j = w:=by
 cases g with
 | zero => rfl
 | succ g => unfold runL; rw [List.getElem?_eq_none h]
theorem Ztr {f:Nat→β}:∀ (ks v:List Nat),dd ((Z0c v ks).map f) = Z2v (dd (v.map f)) (ks.map f)
 | [],v => rfl
 | k :: ks,v => by
  show dd ((Z0c (addN v k) ks).map f) = Z2v (addB (dd (v.map f)) (f k)) (ks.map f)
  rw [Ztr ks (addN v k)]
  congr 1
  unfold addN
  split
  ·rename_i h
   unfold addB
   rw [if_pos (Zj3.2 (List.mem_map.2 ⟨k,h,rfl⟩))]
  ·rw [List.map_append,List.map_cons,List.map_nil,Zga]
theorem Z8t {x:Nat}:∀ {ks v:List Nat},x ∈ Z0c v ks ↔ x ∈ v ∨ x ∈ ks
 | [],v => by simp [Z0c]
 | k :: ks,v => by
  show x ∈ Z0c (addN v k) ks ↔ _
  rw [Z8t (ks:=ks)]
  have:x ∈ addN v k ↔ x ∈ v ∨ x = k:=by
   unfold addN
   split
   ·rename_i h
    constructor
    ·exact .inl
    ·rintro (h' | rfl)
     ·exact h'
     ·exact h
   ·simp
  rw [this,List.mem_cons,or_assoc]
theorem run_lab {K:Nat→List Nat} {f:Nat→β} {κ:β→List β} {n:Nat} (hK:∀ a,a < n→∀ k ∈ K a,k < n) {P:Nat→Prop} (hP:∀ a,P a→∀ k ∈ K a,P k) (hκ:∀ a,P a→(K a).map f = κ (f a)):∀ (c:Nat) (v:List Nat) (i g:Nat),v.Nodup→(∀ a ∈ v,a < n)→(∀ a ∈ v,P a)→n + 1 ≤ i + c →
  n + 1 ≤ (dd ((v.take i).map f)).length + g→(∀ (x a:Nat),x < i→v[x]? = some a→∀ k ∈ K a,k ∈ v)→i ≤ v.length →
  dd ((runB K c v i).map f) = runL κ g (dd (v.map f)) (dd ((v.take i).map f)).length:=by
 intro c
 induction c with
 | zero =>
  intro v i g hnd hlt _ hc _ _ hi
  have:=Z22 hnd hlt
  omega
 | succ c ih =>
  intro v i g hnd hlt hPv hc hg hcl hi
  unfold runB
  cases hv:v[i]? with
  | none =>
   have hl:v.length ≤ i:=by simpa using hv
   rw [List.take_of_length_le hl,Zuy (Nat.le_refl _)]
  | some a =>
   simp only
   have ha:a ∈ v:=List.mem_of_getElem? hv
   have hil:i < v.length:=(List.getElem?_eq_some_iff.1 hv).1
   have htk:v.take (i + 1) = v.take i ++ [a]:=by rw [List.take_add_one,hv]; rfl
   obtain ⟨w,hw⟩:∃ w,Z0c v (K a) = v ++ w:=Z5d (K a) v
   have hnd':(Z0c v (K a)).Nodup:=(Za7 hnd hlt (hK a (hlt a ha))).1
   have hlt':∀ x ∈ Z0c v (K a),x < n:=fun x hx => by
    rcases Z8t.1 hx with h | h
    ·exact hlt x h
    ·exact hK a (hlt a ha) x h
   have hP':∀ x ∈ Z0c v (K a),P x:=fun x hx => by
    rcases Z8t.1 hx with h | h
    ·exact hPv x h
    ·exact hP a (hPv a ha) x h
   have htk':(Z0c v (K a)).take (i + 1) = v.take i ++ [a]:=by rw [hw,List.take_append_of_le_length (by omega),htk]
   have hcl':∀ (x b:Nat),x < i + 1→(Z0c v (K a))[x]? = some b→∀ k ∈ K b,k ∈ Z0c v (K a):=by
    intro x b hx hb k hk
    rw [hw,List.getElem?_append_left (by omega)] at hb
    by_cases e:x = i
    ·subst e
     rw [hv] at hb
     cases hb
     exact Z8t.2 (.inr hk)
    ·exact Z8t.2 (.inl (hcl x b (by omega) hb k hk))
   have hi':i + 1 ≤ (Z0c v (K a)).length:=by rw [hw,List.length_append]; omega
   have hdd:dd ((Z0c v (K a)).map f) = Z2v (dd (v.map f)) (κ (f a)):=by rw [Ztr,hκ a (hPv a ha)]
   have hm1:dd ((v.take i ++ [a]).map f) = addB (dd ((v.take i).map f)) (f a):=by rw [List.map_append,List.map_cons,List.map_nil,Zga]
   by_cases hs:f a ∈ dd ((v.take i).map f)
   ·have e1:addB (dd ((v.take i).map f)) (f a) = dd ((v.take i).map f):=by unfold addB; rw [if_pos hs]
    have:=ih (Z0c v (K a)) (i + 1) g hnd' hlt' hP' (by omega) (by rw [htk',hm1,e1]; exact hg) hcl' hi'
    rw [this,htk',hm1,e1,hdd]
    congr 1
    refine Zm3 fun k hk => ?_
    obtain ⟨a0,ha0,e0⟩:=List.mem_map.1 (Zj3.1 hs)
    obtain ⟨x,hx,hxa⟩:=List.mem_iff_getElem.1 ha0
    rw [List.length_take] at hx
    rw [List.getElem_take] at hxa
    have hxa':v[x]? = some a0:=by rw [List.getElem?_eq_getElem (by omega),hxa]
    rw [← e0,← hκ a0 (hPv a0 (List.mem_of_getElem? hxa'))] at hk
    obtain ⟨k',hk',rfl⟩:=List.mem_map.1 hk
    exact Zj3.2 (List.mem_map.2 ⟨k',hcl x a0 (by omega) hxa' k' hk',rfl⟩)
   ·have e1:addB (dd ((v.take i).map f)) (f a) = dd ((v.take i).map f) ++ [f a]:=by unfold addB; rw [if_neg hs]
    have hat:(dd (v.map f))[(dd ((v.take i).map f)).length]? = some (f a):=by
     have e2:v.map f = (v.take i ++ [a]).map f ++ (v.drop (i + 1)).map f:=by rw [← List.map_append,← htk,List.take_append_drop]
     obtain ⟨T,hT⟩:=Zc4 ((v.drop (i + 1)).map f) (dd ((v.take i ++ [a]).map f))
     rw [e2,Zf8,hT,hm1,e1,List.append_assoc,List.getElem?_append_right (Nat.le_refl _)]
     simp
    have hjn:(dd ((v.take i).map f)).length < n:=by
     have h1:(dd ((v.take i).map f)).length ≤ i:=Nat.le_trans (dd_len _) (by simp; omega)
     have:=Z22 hnd hlt
     omega
    obtain ⟨g',rfl⟩:∃ g',g = g' + 1:=⟨g - 1,by omega⟩
    have:=ih (Z0c v (K a)) (i + 1) g' hnd' hlt' hP' (by omega) (by rw [htk',hm1,e1,List.length_append,List.length_singleton]; omega) hcl' hi'
    rw [this,htk',hm1,e1,hdd,List.length_append]
    conv => rhs; unfold runL
    rw [hat]
    rfl
end
end Go.Proofs
end
section
open Go Go.AM
namespace Go.AM
theorem Zum {P:Program} {γ:RO→Option AVal} {s:St} {Q:AVal→St→Prop} {es ox:Nat} {x y:RO} {bx:Pos} {cx:Cap} {yv:AVal}
  (hx:γ x = some (.slice bx ox 0 cx)) (hy:γ y = some yv) (hs:Z1n yv = some 0) (h:Q (.int .i64 0) s):opP P (.copy (some es) x y) γ s Q:=by
 refine ⟨_,_,fun rec K hK => ?_,h⟩
 refine Z01.2 ⟨_,hx,Z01.2 ⟨_,hy,?_⟩⟩
 cases yv <;> cases hs <;> exact hK
end Go.AM
namespace Go.Proofs
set_option maxRecDepth 100000
def clOf (cls:List Int) (k:Int):Int:=(cls[k.toNat]?).getD 0
def Z4h (f:Int→Int) (ks:List Int) (j:Nat):List Int:=(ks.take j).map f ++ ks.drop j
theorem Zqg (f:Int→Int) (ks:List Int):Z4h f ks 0 = ks:=by simp [Z4h]
theorem Zkf (f:Int→Int) (ks:List Int) (j:Nat):(Z4h f ks j).length = ks.length:=by
 simp [Z4h]
 omega
theorem Zsr (f:Int→Int) (ks:List Int):Z4h f ks ks.length = ks.map f:=by simp [Z4h]
theorem Zss {f:Int→Int} {ks:List Int} {j:Nat} {k:Int} (h:ks[j]? = some k):(Z4h f ks j)[j]? = some k:=by
 have hj:=(List.getElem?_eq_some_iff.1 h).1
 unfold Z4h
 rw [List.getElem?_append_right (by simp; omega)]
 have e:j - ((ks.take j).map f).length = 0:=by simp; omega
 rw [e,List.getElem?_drop]
 simpa using h
theorem Zqf {f:Int→Int} {ks:List Int} {j:Nat} {k:Int} (h:ks[j]? = some k):(Z4h f ks j).set j (f k) = Z4h f ks (j + 1):=by
 have hj:=(List.getElem?_eq_some_iff.1 h).1
 unfold Z4h
 have hl:((ks.take j).map f).length = j:=by simp; omega
 rw [List.set_append_right _ _ (by omega),hl,Nat.sub_self,List.take_add_one,h]
 have hd:ks.drop j = k :: ks.drop (j + 1):=by
  rw [List.drop_eq_getElem_cons hj]
  have:ks[j] = k:=(List.getElem?_eq_some_iff.1 h).2
  rw [this]
 rw [hd]
 simp
theorem Zld:∀ (l:List (List UInt8 × AVal)) (i:Nat) (c:List UInt8 × AVal) (nm:List UInt8),l[i]? = some c→lay (penc l) (i * 2) [.str nm] = penc (l.set i (nm,c.2))
 | [],i,c,nm,h => by simp at h
 | d :: l,0,c,nm,h => by
  simp at h
  subst h
  simp [lay,penc]
 | d :: l,i + 1,c,nm,h => by
  have ih:=Zld l i c nm (by simpa using h)
  have e:penc (d :: l) = [.str d.1,d.2] ++ penc l:=rfl
  have e2:penc ((d :: l).set (i + 1) (nm,c.2)) = [.str d.1,d.2] ++ penc (l.set i (nm,c.2)):=rfl
  rw [e,e2,← ih]
  have e3:(i + 1) * 2 = i * 2 + 2:=by omega
  rw [e3]
  simp [lay]
theorem Zle:∀ (l:List (List UInt8 × AVal)) (i:Nat) (c:List UInt8 × AVal) (kv:AVal),l[i]? = some c→lay (penc l) (i * 2 + 1) [kv] = penc (l.set i (c.1,kv))
 | [],i,c,nm,h => by simp at h
 | d :: l,0,c,nm,h => by
  simp at h
  subst h
  simp [lay,penc]
 | d :: l,i + 1,c,nm,h => by
  have ih:=Zle l i c nm (by simpa using h)
  have e:penc (d :: l) = [.str d.1,d.2] ++ penc l:=rfl
  have e2:penc ((d :: l).set (i + 1) (c.1,nm)) = [.str d.1,d.2] ++ penc (l.set i (c.1,nm)):=rfl
  rw [e,e2,← ih]
  have e3:(i + 1) * 2 + 1 = i * 2 + 1 + 2:=by omega
  rw [e3]
  simp [lay]
theorem Zof:∀ (ns:List ND) (V:List AVal) (i:Nat) (nm:List UInt8) (ks:List Int) (kv:AVal),V[i]? = some kv→(List.zipWith (fun nd kv => (nd.1,kv)) ns V).set i (nm,kv) = List.zipWith (fun (nd:ND) kv => (nd.1,kv)) (ns.set i (nm,ks)) V
 | [],V,i,nm,ks,kv,h => by simp
 | n :: ns,[],i,nm,ks,kv,h => by simp at h
 | n :: ns,v :: V,0,nm,ks,kv,h => by simp at h; subst h; simp
 | n :: ns,v :: V,i + 1,nm,ks,kv,h => by
  have:=Zof ns V i nm ks kv (by simpa using h)
  simpa using this
theorem Zog:∀ (ns:List ND) (V:List AVal) (i:Nat) (nd:ND) (kv:AVal),ns[i]? = some nd→(List.zipWith (fun (nd:ND) kv => (nd.1,kv)) ns V).set i (nd.1,kv) = List.zipWith (fun (nd:ND) kv => (nd.1,kv)) ns (V.set i kv)
 | [],V,i,nm,kv,h => by simp at h
 | n :: ns,[],i,nm,kv,h => by simp
 | n :: ns,v :: V,0,nm,kv,h => by simp at h; subst h; simp
 | n :: ns,v :: V,i + 1,nm,kv,h => by
  have:=Zog ns V i nm kv (by simpa using h)
  simpa using this
theorem Zro {ns:List ND} {V:List AVal} {i:Nat} {nd:ND} {kv:AVal} (nm:List UInt8) (ks:List Int) (h1:ns[i]? = some nd) (h2:V[i]? = some kv):lay (Z0l ns V) (i * 2) [.str nm] = Z0l (ns.set i (nm,ks)) V:=by
 unfold Z0l
 rw [Zld _ i (nd.1,kv) nm (by simp [List.getElem?_zipWith,h1,h2]),Zof ns V i nm ks kv h2]
theorem Zrp {ns:List ND} {V:List AVal} {i:Nat} {nd:ND} {kv:AVal} (kv':AVal) (h1:ns[i]? = some nd) (h2:V[i]? = some kv):lay (Z0l ns V) (i * 2 + 1) [kv'] = Z0l ns (V.set i kv'):=by
 unfold Z0l
 rw [Zle _ i (nd.1,kv) kv' (by simp [List.getElem?_zipWith,h1,h2]),Zog ns V i nd kv' h1]
def Zi8 (Bn:Pos) (ns:List ND) (m:Lets):Prop:=∃ V mr,m.Perm ((Bn,C (Z0l ns V)) :: mr)∧Z0v (ns.map Prod.snd) V mr
theorem Zi8.at {s0 s:St} {W:Pos→Prop} {Bn:Pos} {ns:List ND} {m:Lets} (h:Zi8 Bn ns m) (c:Cap) (hc:Ctx s0 W m s):Z1h s (.slice Bn 0 ns.length c) ns:=by
 obtain ⟨V,mr,hp,hR⟩:=h
 have hc':=hc.perm hp
 have hV:V.length = ns.length:=by simpa using hR.len
 refine .inr ⟨Bn,0,c,_,rfl,hc'.oi 0 rfl,hc'.c 0 rfl,by rw [Z6a hV]; omega,fun i nd hi => ?_⟩
 obtain ⟨kv,g1,g2⟩:=hR.each (i:=i) (ks:=nd.2) (by rw [List.getElem?_map,hi]; rfl)
 obtain ⟨e1,e2⟩:=Z7c hi g1
 rw [Nat.zero_add]
 refine ⟨e1,kv,e2,?_⟩
 rcases g2 with ⟨e3,e4⟩ | ⟨q',c',e3,e4,e5⟩
 ·exact .inl ⟨e4,e3⟩
 ·rw [e4]
  exact Z5u hc'.wf (Z14 (hc'.own _ (List.mem_cons_of_mem _ e5))) c'
theorem Ze8 {cls:List Int} {nds:List ND}:∀ {l:List Nat} {x:ND},x ∈ outF cls nds l→∃ a nd,a ∈ l∧nds[a]? = some nd∧x = Z3y cls nd:=by
 have key:∀ (l:List Nat) (out:List ND) (x:ND),x ∈ l.foldl (Z2h cls nds) out→x ∈ out ∨ ∃ a nd,a ∈ l∧nds[a]? = some nd∧x = Z3y cls nd:=by
  intro l
  induction l with
  | nil => intro out x h; exact .inl h
  | cons a l ih =>
   intro out x h
   rcases ih _ x h with h | ⟨b,nd,h1,h2,h3⟩
   ·unfold Z2h at h
    split at h
    ·rename_i c nd hc hnd
     split at h
     ·exact .inl h
     ·rcases List.mem_append.1 h with h | h
      ·exact .inl h
      ·exact .inr ⟨a,nd,by simp,hnd,by simpa using h⟩
    ·exact .inl h
   ·exact .inr ⟨b,nd,by simp [h1],h2,h3⟩
 intro l x h
 rcases key l [] x h with h | h
 ·cases h
 ·exact h
def padF (M:Nat) (l:List ND):List ND:=l ++ List.replicate (M - l.length) ([],[])
theorem Zwq {M:Nat} {l:List ND} (h:l.length ≤ M):(padF M l).length = M:=by
 simp [padF]
 omega
theorem Zwr {M:Nat} {l:List ND} (h:l.length < M):(padF M l)[l.length]? = some ([],[]):=by
 unfold padF
 rw [List.getElem?_append_right (Nat.le_refl _),Nat.sub_self,List.getElem?_replicate,if_pos (by omega)]
theorem Znl {M:Nat} {l:List ND} {i:Nat} {x:ND} (h:l[i]? = some x):(padF M l)[i]? = some x:=by
 unfold padF
 rw [List.getElem?_append_left (List.getElem?_eq_some_iff.1 h).1]
 exact h
theorem Znm {M:Nat} {l:List ND} (x:ND) (h:l.length < M):(padF M l).set l.length x = padF M (l ++ [x]):=by
 unfold padF
 rw [List.set_append_right _ _ (Nat.le_refl _),Nat.sub_self]
 have e:M - l.length = (M - (l ++ [x]).length) + 1:=by simp; omega
 rw [e,List.replicate_succ,List.set_cons_zero]
 simp
theorem Zou {ns ns':List ND} (V:List AVal) (h:ns.map Prod.fst = ns'.map Prod.fst):Z0l ns V = Z0l ns' V:=by
 have key:∀ l:List ND,List.zipWith (fun (nd:ND) kv => (nd.1,kv)) l V = List.zipWith (fun (n:List UInt8) kv => (n,kv)) (l.map Prod.fst) V:=fun l => by rw [List.zipWith_map_left]
 unfold Z0l
 rw [key,key,h]
theorem Zw9 {cs:List AVal} {o:Nat} {ks:List Int} (hl:o + ks.length ≤ cs.length) (h:∀ i k,ks[i]? = some k→cs[o + i]? = some (.int .i64 k)):(cs.drop o).take ks.length = ints ks:=by
 refine List.ext_getElem? fun i => ?_
 rw [List.getElem?_take,List.getElem?_drop,List.getElem?_map]
 by_cases hi:i < ks.length
 ·rw [if_pos hi,h i _ (List.getElem?_eq_getElem hi),List.getElem?_eq_getElem hi]
  rfl
 ·rw [if_neg hi,List.getElem?_eq_none (by omega)]
  rfl
theorem Zqu {P:Program} {γ:RO→Option AVal} {s0 s:St} {W:Pos→Prop} {Q:AVal→St→Prop} {pre r:Lets} {x y:RO} {Bk:Pos} {kv:AVal} {ks:List Int} {c:Cap}
  (hc:Ctx s0 W (pre ++ (Bk,C (List.replicate ks.length (.int .i64 0))) :: r) s) (hx:γ x = some (.slice Bk 0 ks.length c)) (hy:γ y = some kv) (hk:Z0f s kv ks)
  (q:∀ v s',Ctx s0 W (pre ++ (Bk,C (ints ks)) :: r) s'→Q v s'):opP P (.copy (some 1) x y) γ s Q:=by
 by_cases h0:ks = []
 ·subst h0
  exact Zum hx hy hk.len (q _ _ hc)
 ·have hl:ks.length ≠ 0:=by simpa using h0
  rcases hk with ⟨_,e⟩ | ⟨b,o,c',cs,rfl,hb,hcs,hle,hel⟩
  ·exact (h0 e).elim
  ·have hk0:s.own Bk = some (List.replicate ks.length (.int .i64 0)):=Z14 (hc.own (Bk,C _) (by simp))
   refine Znc (ox:=0) (o:=o) hx hy hl hk0 hcs (by omega) (by simp) ?_
   rw [Nat.mul_one,Zw9 hle hel]
   have e:lay (List.replicate ks.length (AVal.int .i64 0)) 0 (ints ks) = ints ks:=by simp [lay]
   rw [e]
   have hi:(pre ++ (Bk,C (List.replicate ks.length (.int .i64 0))) :: r)[pre.length]? = some (Bk,C (List.replicate ks.length (.int .i64 0))):=by simp
   have:=hc.put pre.length hi (C (ints ks))
   rw [List.set_append_right _ _ (Nat.le_refl _),Nat.sub_self,List.set_cons_zero] at this
   exact q _ _ this
end Go.Proofs
end
section
open Go Go.AM
namespace Go.Proofs
set_option maxRecDepth 100000
theorem Zks (p:Pos) (o n c:Nat):Z2p 8 (.agg [.slice p o n (.lim c)]) (.agg [.slice p o n (.lim c)]) = true:=by
 simp [Z2p,Zdv]
theorem Zvc {s0 s:St} {W:Pos→Prop} {n a:Nat} {v:List Nat} {B4 Bm:Pos} {pre r:Lets} {Q:AVal→St→Prop} (hc:Ctx s0 W (pre ++ ((B4,C [.slice Bm 0 n (.lim n)]) :: (Bm,C (metL n v)) :: r)) s) (ha:a < n) (hav:a ∉ v)
  (q:∀ s',Ctx s0 W (pre ++ ((B4,C [.slice Bm 0 n (.lim n)]) :: (Bm,C (metL n (v ++ [a]))) :: r)) s'→Q (.tup []) s'):Z0d Tryz.prog 63 [.int .i64 a,.ptr B4 0] s Q:=by
 have hc0:Ctx s0 W ((B4,C [.slice Bm 0 n (.lim n)]) :: (Bm,C (metL n v)) :: (pre ++ r)) s:=hc.perm (List.perm_middle.trans (List.Perm.cons _ List.perm_middle))
 have hset:=Ze3 ha hav
 have e:addN v a = v ++ [a]:=by unfold addN; rw [if_neg hav]
 rw [e] at hset
 have hle:a + 1 ≤ (metL n v).length:=by rw [Z3k]; omega
 simp [lay] at hset
 refine Z07 (Z0g (by decide)) fi63 rfl (by decide) rfl ?_
 refine AM.wp_region ?_
 simp [hc0.c 0 rfl,hc0.o 1 rfl,ha,hle]
 rw [hset]
 have c1:=hc0.put 1 rfl (C (metL n (v ++ [a])))
 simp only [List.set_cons_succ,List.set_cons_zero] at c1
 exact q _ (c1.perm (List.perm_middle.trans (List.Perm.cons _ List.perm_middle)).symm)
def Z0o (cs:List CV):List Nat:=bfsF (kidN cs) cs.length ((Z0p cs cs.length).map Int.toNat)
def Z3t (cs:List CV) (v:List Nat) (i:Nat):List Int:=((Z1r cs i).filter fun j => decide (j ∉ v)).map fun (j:Nat) => (j:Int)
def Zc1 (cs:List CV):Int × Int × List CV:=((Z3t cs (Z0o cs) cs.length).length,0,relC cs (Z3t cs (Z0o cs) cs.length))
theorem Zsn {cs:List CV} {v:List Nat} {i:Nat} {c:CV} (h:cs[i]? = some c) (ht:c.taken = true):Z3t cs v (i + 1) = Z3t cs v i ++ (if i ∈ v then [] else [(i:Int)]):=by
 unfold Z3t
 rw [Zh0 h ht,List.filter_append]
 by_cases hh:i ∈ v <;> simp [hh]
theorem Zso {cs:List CV} {v:List Nat} {i:Nat} {c:CV} (h:cs[i]? = some c) (ht:c.taken = false):Z3t cs v (i + 1) = Z3t cs v i:=by
 unfold Z3t
 rw [Zh1 h ht]
theorem Zln (cs:List CV) (v:List Nat) (i:Nat):(Z3t cs v i).length ≤ i:=by
 unfold Z3t Z1r
 rw [List.length_map]
 refine Nat.le_trans (List.length_filter_le _ _) (Nat.le_trans (List.length_filter_le _ _) (by simp))
theorem Zlo {cs:List CV} {v:List Nat} {i:Nat} {k:Int}:k ∈ Z3t cs v i ↔ 0 ≤ k∧k < i∧Z08 cs k = true∧k.toNat ∉ v:=by
 unfold Z3t
 simp only [List.mem_map,List.mem_filter,Z5l,decide_eq_true_eq]
 constructor
 ·rintro ⟨j,⟨⟨h1,h2⟩,h3⟩,rfl⟩
  exact ⟨by omega,by omega,h2,by simpa using h3⟩
 ·rintro ⟨h0,h1,h2,h3⟩
  have e:((k.toNat:Nat):Int) = k:=by omega
  exact ⟨k.toNat,⟨⟨by omega,by rw [e]; exact h2⟩,h3⟩,e⟩
theorem Z4o {cs:List CV} {i:Nat} {k:Int} (h:k ∈ Z0p cs i):0 ≤ k∧k < i∧Z08 cs k = true:=by
 unfold Z0p at h
 simp only [List.mem_map,List.mem_filter,Z5l] at h
 obtain ⟨j,⟨⟨h1,h2⟩,_⟩,rfl⟩:=h
 exact ⟨by omega,by omega,h2⟩
theorem Zj5 {l:List Int} (h:∀ k ∈ l,0 ≤ k):nats (l.map Int.toNat) = l:=by
 unfold nats
 rw [List.map_map]
 have:∀ k ∈ l,((fun (a:Nat) => (a:Int)) ∘ Int.toNat) k = k:=fun k hk => by
  have:=h k hk
  simp only [Function.comp]
  omega
 exact (List.map_congr_left this).trans (by simp)
theorem Znu {cs:List CV} (hO:HOk2 cs):∀ a,a < cs.length→(Z12 cs a).length ≤ 4∧∀ k ∈ Z12 cs a,0 ≤ k∧k < cs.length:=by
 intro a ha
 have hcd:cs[a]? = some cs[a]:=List.getElem?_eq_getElem ha
 rw [Z1a hcd]
 refine ⟨hO.kids4 _ (List.getElem_mem ha),fun k hk => ?_⟩
 cases hta:cs[a].taken with
 | true =>
  obtain ⟨k0,_,_,_,k1⟩:=Z1z (hO.kids _ (List.getElem_mem ha) hta k hk)
  exact ⟨k0,by omega⟩
 | false =>
  rw [hO.free _ (List.getElem_mem ha) hta] at hk
  cases hk
theorem sweep_c {s0 s:St} {W:Pos→Prop} {hb:Pos} {vs:AVal} {cs:List CV} {m r:Lets} {Q:AVal→St→Prop} (hH:Z2j hb vs cs m) (h:Ctx s0 W (m ++ r) s) (hO:HOk2 cs)
  (q:∀ m' s',Z2j hb vs (Zc1 cs).2.2 m'→Ctx s0 W (m' ++ r) s'→Q (.tup [.int .i64 (Zc1 cs).1,.int .i64 (Zc1 cs).2.1]) s'):Z0d Tryz.prog 19 [.ptr hb 0] s Q:=by
 obtain ⟨p,V,mr,hc,hR,hV,h1,h4,hP⟩:=Z96 hH h
 have hl:=Z29 hV
 have hno:cs.length ≠ 0:=by omega
 have hz1:cs.length ≤ Z0k:=by unfold Z0k; omega
 refine Z07 (Z0g (by decide)) fi19 rfl (by decide) rfl ?_
 refine Z00 ?_
 simp
 refine AM.wp_seq ?_
 refine Z00 ?_
 simp
 refine Z03 ?_
 refine Z6y (hc.c 0 rfl) rfl hno ?_
 simp
 refine AM.Z04 ?_
 simp
 refine AM.wp_skip ?_
 simp
 refine Z00 ?_
 simp [hc.c 0 rfl,hz1]
 have c1:=hc.alloc (C (List.replicate cs.length (.bool false)))
 generalize s.alloc (.cells (List.replicate cs.length (.bool false)) false) = s1 at c1 ⊢
 generalize s.next = Bm at c1 ⊢
 have c2:=(c1.alloc (C [.nilSlice])).put 0 rfl (C [.slice Bm 0 cs.length (.lim cs.length)])
 simp only [List.set_cons_zero] at c2
 generalize (s1.alloc (.cells [.nilSlice] false)).put s1.next (.cells [.slice Bm 0 cs.length (.lim cs.length)] false) = s2 at c2 ⊢
 generalize s1.next = B4 at c2 ⊢
 have hm0:List.replicate cs.length (AVal.bool false) = metL cs.length []:=by
  refine List.ext_getElem? fun j => ?_
  by_cases hj:j < cs.length
  ·rw [Z5v _ hj,List.getElem?_replicate,if_pos hj]
   simp
  ·rw [List.getElem?_eq_none (by simp; omega),List.getElem?_eq_none (by rw [Z3k]; omega)]
 rw [hm0] at c2
 refine Z00 ?_
 simp [c2.c 2 rfl]
 refine Z03 ?_
 refine Zju (p:=p) (V:=V) (cs:=cs) c2 hV h4 (fun x s' hx => ?_) fun lv mg x s3 hg c3 => ?_
 ·have hx':(p,C (encs (rcs cs V))) ∈ x ++ ((B4,C [.slice Bm 0 cs.length (.lim cs.length)]) :: (Bm,C (metL cs.length [])) :: (hb,C [.slice p 0 cs.length (.lim cs.length),vs]) :: (p,C (encs (rcs cs V))) :: (mr ++ r)):=by simp
  exact ⟨hx.ob hx',Z0b (Z14 (hx.own _ hx'))⟩
 have c3:=(c3.sub (List.sublist_append_right x _))
 have c4:Ctx s0 W ([(B4,C [.slice Bm 0 cs.length (.lim cs.length)]),(Bm,C (metL cs.length []))] ++ ((hb,C [.slice p 0 cs.length (.lim cs.length),vs]) :: (p,C (encs (rcs cs V))) :: (mg ++ (mr ++ r)))) s3:=c3.perm (by
  have:=List.perm_append_comm (l₁:=mg) (l₂:=[(B4,C [.slice Bm 0 cs.length (.lim cs.length)]),(Bm,C (metL cs.length [])),(hb,C [.slice p 0 cs.length (.lim cs.length),vs]),(p,C (encs (rcs cs V)))])
  have:=this.append (List.Perm.refl (mr ++ r))
  simpa using this)
 have hlv:∀ t,¬ lv = .tup t:=hg.ntup
 simp [hlv,c4.c 2 rfl]
 refine ⟨Zks _ _ _ _,?_⟩
 refine Z03 ?_
 have hrn:nats ((Z0p cs cs.length).map Int.toNat) = Z0p cs cs.length:=Zj5 fun k hk => (Z4o hk).1
 have hrl:=Zac cs cs.length
 have hroots:∀ a ∈ (Z0p cs cs.length).map Int.toNat,Z08 cs (a:Int) = true:=by
  intro a ha
  obtain ⟨k,hk,rfl⟩:=List.mem_map.1 ha
  obtain ⟨k0,_,kt⟩:=Z4o hk
  rw [Int.toNat_of_nonneg k0]
  exact kt
 refine Zez (V:=V) (J:=fun v m => m = [(B4,C [.slice Bm 0 cs.length (.lim cs.length)]),(Bm,C (metL cs.length v))]) (roots:=(Z0p cs cs.length).map Int.toNat) (rv:=lv) (f:=63) (fx:=[]) (fy:=[.ptr B4 0])
  ⟨hV,h4,?_,fun a ha => Z1g (hroots a ha),by simp; omega,Znu hO,?_⟩ c4 rfl hlv ?_
 ·rintro x m' s' hx ⟨v,rfl⟩
  obtain ⟨r1,r2,r3⟩:=Z7x (p:=p) (cs:=cs) (V:=V) hx (by simp) hR (fun y hy => by simp [hy])
  refine ⟨r1,r2,?_,r3⟩
  rw [hrn]
  exact (hg.row.kid fun y hy => hx.own y (by simp [hy])).ints hx.wf
 ·rintro a v x m' s' R rfl hav han hvn hvlt hx hq
  refine Z03 ?_
  exact Zvc (pre:=x) (by simpa using hx) han hav fun s'' hx' => hq _ _ _ rfl (by simpa using hx')
 ·rintro x m' s5 rfl hx
  have c5:=hx.sub (List.sublist_append_right x _)
  simp only [List.cons_append,List.nil_append] at c5
  have hrd:bfsF (kidN cs) cs.length ((Z0p cs cs.length).map Int.toNat) = Z0o cs:=rfl
  rw [hrd] at c5
  simp only [Zc1] at q
  have hrlt:∀ a,a < cs.length→(metL cs.length (Z0o cs))[a]? = some (.bool (decide (a ∈ Z0o cs))):=fun a ha => Z5v _ ha
  generalize Z0o cs = v at c5 q hrlt
  simp
  refine Z00 ?_
  simp
  have c6:=c5.alloc (C [.nilSlice])
  generalize s5.alloc (.cells [.nilSlice] false) = s6 at c6 ⊢
  generalize s5.next = B5 at c6 ⊢
  refine AM.wp_seq ?_
  refine Z00 ?_
  simp [c6.c 3 rfl]
  refine Z03 ?_
  refine Zc2 fun BB hBB => ?_
  have c7:=c6.alloc (C [.slice p 0 cs.length (.lim cs.length)])
  rw [← hBB] at c7
  generalize s6.alloc (.cells [.slice p 0 cs.length (.lim cs.length)] false) = s7 at c7 ⊢
  simp
  refine AM.wp_block ?_
  refine Zes (B:=BB) (p:=p) (l:=rcs cs V) (J:=fun i m => ∃ gv mh,Z1s gv (Z3t cs v i) mh∧m = (B5,C [gv]) :: (B4,C [.slice Bm 0 cs.length (.lim cs.length)]) :: (Bm,C (metL cs.length v)) :: (hb,C [.slice p 0 cs.length (.lim cs.length),vs]) :: (p,C (encs (rcs cs V))) :: (mh ++ (mg ++ (mr ++ r))))
   hl h4 (by simp) rfl fi19 rfl ?_ ?_ ?_ ⟨.nilSlice,[],.inl ⟨rfl,rfl,rfl⟩,rfl⟩ c7 ?_
  ·rintro i m s' ⟨gv,mh,hgr,rfl⟩ hc'
   exact ⟨hc'.oi 4 rfl,hc'.c 4 rfl⟩
  ·rintro i c m hci hct ⟨gv,mh,hgr,rfl⟩
   have hi:i < cs.length:=by have:=(List.getElem?_eq_some_iff.1 hci).1; rwa [hl] at this
   rw [Z2b (List.getElem?_eq_getElem hi) (List.getElem?_eq_getElem (show i < V.length by omega))] at hci
   cases hci
   exact ⟨gv,mh,by rw [Zso (List.getElem?_eq_getElem hi) hct]; exact hgr,rfl⟩
  ·rintro i c s' m Lb X Wx hci hct ⟨gv,mh,hgr,rfl⟩ hc' hW
   have hi:i < cs.length:=by have:=(List.getElem?_eq_some_iff.1 hci).1; rwa [hl] at this
   rw [Z2b (List.getElem?_eq_getElem hi) (List.getElem?_eq_getElem (show i < V.length by omega))] at hci
   have hnx:=Zsn (v:=v) (List.getElem?_eq_getElem hi) (by cases hci; exact hct)
   have hgm:=hrlt i hi
   refine AM.wp_block ?_
   refine Z00 ?_
   simp [hc'.c 3 rfl,hc'.c 4 rfl,hi,hgm]
   refine AM.Z04 ?_
   by_cases hh:i ∈ v
   ·rw [if_pos hh,List.append_nil] at hnx
    simp [hh]
    refine AM.wp_skip ?_
    simp
    exact hW _ _ _ ⟨gv,mh,by rw [hnx]; exact hgr,rfl⟩ hc'
   ·rw [if_neg hh] at hnx
    simp [hh]
    refine AM.wp_region ?_
    simp [hc'.c 2 rfl,hgr.ntup,hgr.cells,Z1t,srcP]
    have d2:=hc'.alloc (C [.int .i64 i])
    generalize s'.alloc (.cells [.int .i64 i] false) = sB at d2 ⊢
    generalize s'.next = T at d2 ⊢
    have hgl:=Zln cs v i
    refine Z61 (pre:=[(T,C [.int .i64 i]),(Lb,X),(BB,C [.slice p 0 cs.length (.lim cs.length)]),(B5,C [gv]),(B4,C [.slice Bm 0 cs.length (.lim cs.length)]),(Bm,C (metL cs.length v)),(hb,C [.slice p 0 cs.length (.lim cs.length),vs]),(p,C (encs (rcs cs V)))]) d2 hgr (by omega) fun gv' mh' sC hgr' d3 => ?_
    simp at d3
    rw [← hnx] at hgr'
    simp [hgr'.ntup,hgr'.cells,d3.o 3 rfl]
    have d4:=(d3.put 3 rfl (C [gv'])).tail
    exact hW _ _ _ ⟨gv',mh',hgr',rfl⟩ d4
  ·rintro s' m ⟨gv,mh,hgr,rfl⟩ hc'
   have hglen:=Zln cs v cs.length
   have hgin:∀ k ∈ Z3t cs v cs.length,0 ≤ k∧k < cs.length:=fun k hk => by
    obtain ⟨a,b,_⟩:=Zlo.1 hk
    exact ⟨a,b⟩
   simp
   refine Z00 ?_
   simp [hc'.c 3 rfl,hc'.c 0 rfl,hgr.ntup]
   refine Z03 ?_
   refine Zux hl hc'.wf (hc'.o 4 rfl) (by omega) hgin (fun s'' hS => ?_) fun s12 hS hpn2 => ?_
   ·have hmg:Ctx s0 W mh s'':=(hc'.sub (m':=mh) (by
     refine List.Sublist.trans ?_ (List.drop_sublist 5 _)
     exact List.sublist_append_left _ _)).same hS (fun b hb ho => by
      simp at hb
      subst hb
      exact hc'.free _ (List.mem_of_getElem? (i:=4) rfl) ho) (fun x hx hb => by
      simp at hb
      exact hc'.apart 4 rfl (y:=x) (by simp [hx]) hb.symm)
    exact (hgr.row.kid fun x hx => hmg.own x hx).ints hmg.wf
   ·have c12:=hc'.chg 4 rfl hS (St.Z2w hpn2)
    simp only [List.set_cons_succ,List.set_cons_zero] at c12
    obtain ⟨V3,m3,dd,e1,e2,e3⟩:=Znx (Z3t cs v cs.length) (cs:=cs) (V:=V) (m:=mr) hV hR hgin
    rw [e1] at c12
    simp
    refine Z00 ?_
    simp [c12.c 0 rfl,hgr.len,hgr.ntup]
    refine AM.wp_ret ?_
    simp
    have hlen:(relC cs (Z3t cs v cs.length)).length = cs.length:=Znw _ _
    refine q _ _ (Z2u (p:=p) e2 (by omega) (by omega)) ?_
    rw [hlen]
    have c14:=c12.sub (m':=(hb,C [.slice p 0 cs.length (.lim cs.length),vs]) :: (p,C (encs (rcs (relC cs (Z3t cs v cs.length)) V3))) :: (mr ++ r)) (.cons _ (.cons _ (.cons _ (.cons_cons _ (.cons_cons _
     (List.Sublist.trans (List.sublist_append_right mg _) (List.sublist_append_right mh _)))))))
    have c15:=c14.perm (List.Perm.cons _ (List.Perm.cons _ (e3.append (List.Perm.refl r))))
    exact c15.sub (.cons_cons _ (.cons_cons _ ((List.sublist_append_left m3 dd).append (List.Sublist.refl r))))
def Z9w (es:Nat) (v:AVal) (k:Nat) (xs:List AVal) (m:Lets):Prop:=xs.length = k * es∧((k = 0∧v = .nilSlice∧m = []) ∨ ∃ q,k ≠ 0∧v = .slice q 0 k (.opn es)∧m = [(q,C xs)])
theorem Z9w.nil (es:Nat):Z9w es .nilSlice 0 [] []:=⟨by simp,.inl ⟨rfl,rfl,rfl⟩⟩
theorem Z9w.len {es k:Nat} {v:AVal} {xs:List AVal} {m:Lets} (h:Z9w es v k xs m):Z1n v = some k:=by
 rcases h with ⟨_,⟨rfl,rfl,_⟩ | ⟨q,_,rfl,_⟩⟩ <;> rfl
theorem Z9w.ntup {es k:Nat} {v:AVal} {xs:List AVal} {m:Lets} (h:Z9w es v k xs m):∀ t,¬ v = .tup t:=by
 rintro t rfl
 have:=h.len
 cases this
theorem Ztz {s0 s:St} {W:Pos→Prop} {r pre mg:Lets} {es eb k:Nat} {v:AVal} {xs new:List AVal} {Q:AVal→St→Prop} (h:Ctx s0 W (pre ++ (mg ++ r)) s) (hg:Z9w es v k xs mg) (hn:new.length = es) (hs:(k + 1) * eb ≤ Z0k)
  (q:∀ v' mg' s',Z9w es v' (k + 1) (xs ++ new) mg'→Ctx s0 W (pre ++ (mg' ++ r)) s'→Q v' s'):appP (es,eb) v new 1 s Q:=by
 obtain ⟨hl,⟨rfl,rfl,rfl⟩ | ⟨b,hk,rfl,rfl⟩⟩:=hg
 ·have hx:xs = []:=List.length_eq_zero_iff.1 (by simpa using hl)
  subst hx
  simp only [appP,Z4j]
  rw [if_neg (by decide)]
  refine ⟨by simpa using hs,?_⟩
  have:=h.alloc (C new)
  refine q (.slice s.next 0 1 (.opn es)) [(s.next,C ([] ++ new))] _ ⟨by simp [hn],.inr ⟨_,by simp,rfl,rfl⟩⟩ (this.perm ?_)
  simp only [List.nil_append]
  exact List.perm_middle.symm
 ·have hb:s.own b = some xs:=Z14 (h.own (b,C xs) (by simp))
  have h1:Ctx s0 W ((b,C xs) :: (pre ++ r)) s:=h.perm (by simp)
  have h2:=(h1.put0 .dead).tail.alloc (C (xs ++ new))
  have hne:¬ 0 + (k + 1) * es ≤ xs.length ∨ es = 0:=by
   rcases Nat.eq_zero_or_pos es with e | e
   ·exact .inr e
   ·left
    rw [hl,Nat.zero_add,Nat.add_mul,Nat.one_mul]
    omega
  have ht:List.take (k * es) (List.drop 0 xs) = xs:=by rw [List.drop_zero]; exact List.take_of_length_le (by omega)
  have hnx:(s.put b .dead).next = s.next:=rfl
  simp only [appP,Z4j]
  rw [if_neg (by decide)]
  refine ⟨trivial,?_⟩
  rw [hb]
  simp only [Z10]
  rw [if_neg hk]
  by_cases hes:es = 0
  ·subst hes
   have hx:xs = []:=List.length_eq_zero_iff.1 (by simpa using hl)
   have hnn:new = []:=List.length_eq_zero_iff.1 hn
   subst hx hnn
   rw [if_pos (by simp)]
   refine ⟨by simp,?_⟩
   have h3:=h1.put0 (C [])
   refine q _ [(b,C ([] ++ []))] _ ⟨by simp,.inr ⟨b,by simp,rfl,rfl⟩⟩ (h3.perm ?_)
   exact List.perm_middle.symm
  ·rw [if_neg (by rcases hne with h | h; exact h; exact (hes h).elim)]
   refine ⟨by omega,hs,?_⟩
   rw [ht]
   refine q (.slice s.next 0 (k + 1) (.opn es)) [(s.next,C (xs ++ new))] _ ⟨by simp [hl,hn,Nat.add_mul],.inr ⟨_,by simp,rfl,rfl⟩⟩ (h2.perm ?_)
   rw [hnx]
   exact List.perm_middle.symm
def StateR (p:Pos) (cs:List CV) (m:Lets):Prop:=∃ V mr,m.Perm ((p,C (encs (rcs cs V))) :: mr)∧Z0v (cs.map CV.kids) V mr
theorem own_c {s0 s:St} {W:Pos→Prop} {p:Pos} {cs:List CV} {V:List AVal} {base:Lets} {Q:AVal→St→Prop} (hc:Ctx s0 W base s) (hV:V.length = cs.length) (h1:1 ≤ cs.length) (h4:cs.length ≤ 400) (hk4:∀ c ∈ cs,c.kids.length ≤ 1000)
  (hp:(p,C (encs (rcs cs V))) ∈ base) {mr:Lets} (hR:Z0v (cs.map CV.kids) V mr) (hmr:∀ x ∈ mr,x ∈ base)
  (q:∀ pn mn s',StateR pn cs mn→Ctx s0 W (mn ++ base) s'→Q (.agg [.slice pn 0 cs.length (.lim cs.length)]) s'):Z0d Tryz.prog 47 [.agg [.slice p 0 cs.length (.lim cs.length)]] s Q:=by
 have hl:=Z29 hV
 obtain ⟨r1,r2,r3⟩:=Z7x (p:=p) (cs:=cs) (V:=V) hc hp hR hmr
 refine own_w (K:=Z12 cs) hl hc.wf r1 r2 h1 h4 (fun j c hj => ?_) fun pn kvs s5 k5 hpn hopn hOwn => ?_
 ·have hlt:j < cs.length:=by have:=(List.getElem?_eq_some_iff.1 hj).1; rwa [hl] at this
  obtain ⟨kv,g1,g2⟩:=r3 j _ (List.getElem?_eq_getElem hlt)
  rw [Z2b (List.getElem?_eq_getElem hlt) g1] at hj
  cases hj
  rw [Z1a (List.getElem?_eq_getElem hlt)]
  exact ⟨g2,hk4 _ (List.getElem_mem hlt)⟩
 rw [cpI_rcs hV] at hopn
 obtain ⟨mk,hRk,hok,hnk,hfk⟩:=Zwn hOwn
 generalize (List.range cs.length).map kvs = V' at hRk hopn
 have c5:=(hc.made k5 hpn (St.Z2w hopn)).addL (m:=mk) hok hnk (fun x hx ho => ((hfk x hx).1 (hc.old ho)).elim) (fun x hx => by
  rw [List.map_cons,List.mem_cons]
  rintro (e | hm)
  ·exact (hfk x hx).2 e
  ·obtain ⟨y,hy,e⟩:=List.mem_map.1 hm
   exact (hfk x hx).1 (e ▸ hc.ob hy))
 refine q pn ((pn,C (encs (rcs cs V'))) :: mk) s5 ⟨V',mk,List.Perm.refl _,hRk⟩ (c5.perm ?_)
 exact List.perm_middle
end Go.Proofs
end
section
open Go Go.AM
namespace Go.Proofs
open Classical in
noncomputable def one (x a:Pos × AObj):Nat:=if x = a then 1 else 0
noncomputable def cnt:Lets→Pos × AObj→Nat
 | [],_ => 0
 | x :: l,a => one x a + cnt l a
theorem Z0w (a:Pos × AObj):cnt [] a = 0:=rfl
theorem Z0h (x a:Pos × AObj) (l:Lets):cnt (x :: l) a = one x a + cnt l a:=rfl
theorem Z0e (a:Pos × AObj):∀ (l m:Lets),cnt (l ++ m) a = cnt l a + cnt m a
 | [],m => by simp [cnt]
 | x :: l,m => by rw [List.cons_append,Z0h,Z0h,Z0e a l m]; omega
theorem Z4b {l m:Lets} (h:l.Perm m) (a:Pos × AObj):cnt l a = cnt m a:=by
 induction h with
 | nil => rfl
 | cons x _ ih => rw [Z0h,Z0h,ih]
 | swap x y l => rw [Z0h,Z0h,Z0h,Z0h]; omega
 | trans _ _ h1 h2 => rw [h1,h2]
theorem Zpn {x:Pos × AObj}:∀ {l:Lets},0 < cnt l x→x ∈ l
 | [],h => by simp [cnt] at h
 | y :: l,h => by
  rw [Z0h] at h
  by_cases e:y = x
  ·simp [e]
  ·have:one y x = 0:=by unfold one; rw [if_neg e]
   rw [this,Nat.zero_add] at h
   exact List.mem_cons_of_mem _ (Zpn h)
theorem Zn4 (x:Pos × AObj):one x x = 1:=by unfold one; rw [if_pos rfl]
theorem Z0m:∀ {l m:Lets},(∀ a,cnt l a = cnt m a)→l.Perm m
 | [],m,h => by
  cases m with
  | nil => exact List.Perm.refl _
  | cons x m =>
   have:=h x
   rw [Z0h,Zn4] at this
   simp [cnt] at this
   omega
 | x :: l,m,h => by
  have hx:x ∈ m:=Zpn (by rw [← h x,Z0h,Zn4]; omega)
  obtain ⟨i,hi⟩:=List.getElem?_of_mem hx
  have hp:=Z8b m i x hi
  have:l.Perm (m.eraseIdx i):=Z0m fun a => by
   have h1:=h a
   have h2:=Z4b hp a
   rw [Z0h] at h1 h2
   omega
  exact (List.Perm.cons x this).trans hp.symm
end Go.Proofs
end
section
open Go Go.AM
namespace Go.Proofs
set_option maxRecDepth 100000
def toP (cls:List Int) (k:Int):Int:=(cls[k.toNat]?).getD (-1)
theorem Zwp {s:St} {Bc:Pos} {v:AVal} {cls:List Int} {i:Int} {c:Int} {Q:AVal→St→Prop} (hB:s.cells Bc = some [v]) (hv:Z0f s v cls) (hi:0 ≤ i) (hc:cls[i.toNat]? = some c)
  (q:Q (.int .i64 c) s):Z0d Tryz.prog 66 [.int .i64 i,.ptr Bc 0] s Q:=by
 have hlt:i.toNat < cls.length:=(List.getElem?_eq_some_iff.1 hc).1
 refine Z07 (Z0g (by decide)) fi66 rfl (by decide) rfl ?_
 refine Z00 ?_
 simp
 refine Z00 ?_
 rcases hv with ⟨_,h0⟩ | ⟨b,o,cp,cs,rfl,hb,hcs,hle,hel⟩
 ·subst h0
  simp at hlt
 have hg:=hel _ _ hc
 have hil:i < cls.length:=by omega
 simp [hB,hi,hil,hcs,hg]
 refine AM.wp_ret ?_
 simp
 exact q
def Z6c (cls ks:List Int) (j:Nat):List Int:=(ks.take j).map (toP cls) ++ ks.drop j
theorem Zqi (cls ks:List Int):Z6c cls ks 0 = ks:=by simp [Z6c]
theorem Zkg (cls ks:List Int) (j:Nat):(Z6c cls ks j).length = ks.length:=by
 simp [Z6c]
 omega
theorem Zst (cls ks:List Int):Z6c cls ks ks.length = ks.map (toP cls):=by simp [Z6c]
theorem Zsu {cls ks:List Int} {j:Nat} {k:Int} (h:ks[j]? = some k):(Z6c cls ks j)[j]? = some k:=by
 have hj:=(List.getElem?_eq_some_iff.1 h).1
 unfold Z6c
 rw [List.getElem?_append_right (by simp; omega)]
 have e:j - ((ks.take j).map (toP cls)).length = 0:=by simp; omega
 rw [e,List.getElem?_drop]
 simpa using h
theorem Zqh {cls ks:List Int} {j:Nat} {k:Int} (h:ks[j]? = some k):(Z6c cls ks j).set j (toP cls k) = Z6c cls ks (j + 1):=by
 have hj:=(List.getElem?_eq_some_iff.1 h).1
 unfold Z6c
 have hl:((ks.take j).map (toP cls)).length = j:=by simp; omega
 rw [List.set_append_right _ _ (by omega),hl,Nat.sub_self,List.take_add_one,h]
 have hd:ks.drop j = k :: ks.drop (j + 1):=by
  rw [List.drop_eq_getElem_cons hj]
  have:ks[j] = k:=(List.getElem?_eq_some_iff.1 h).2
  rw [this]
 rw [hd]
 simp
theorem Zsv {fr:FI} {s:St} {t0:PT AVal} {p q B2 B3 Bc:Pos} {l:List RC} {i:Nat} {c:RC} {cp:Cap} {cv:AVal} {cls ks:List Int} {Q:Ex→PT AVal→St→Prop}
  (hw:s.Wf) (t2:PT.get (posOf 2) t0 = some (.ptr B2 0)) (t3:PT.get (posOf 3) t0 = some (.ptr B3 0)) (t4:PT.get (posOf 4) t0 = some (.int .i64 i))
  (hci:l[i]? = some c) (hkv:c.kv = .slice q 0 ks.length cp) (hq:s.own q = some (ks.map fun k => .int .i64 k)) (hks:ks.length ≤ 1000) (hcl:cls.length ≤ 1000) (hin:∀ k ∈ ks,0 ≤ k∧k < cls.length)
  (hst:∀ s',Same [q] s s'→s'.cells B3 = some [.slice p 0 l.length (.lim l.length)]∧s'.cells p = some (encs l)∧s'.cells B2 = some [.fn 66 [] [.ptr Bc 0]]∧s'.cells Bc = some [cv]∧Z0f s' cv cls)
  (qq:∀ t s',Same [q] s s'→s'.own q = some ((ks.map (toP cls)).map fun k => .int .i64 k)→Q .normal t s'):wp Tryz.prog c57_8 fr t0 s Q:=by
 have hi:i < l.length:=(List.getElem?_eq_some_iff.1 hci).1
 have hg:(encs l)[i * 4 + 2]? = some (.slice q 0 ks.length cp):=by rw [← hkv]; exact Z3h l i 2 c hci (by decide)
 obtain ⟨b3,bp,b2,bc,hcv⟩:=hst s (Same.refl _ _)
 have hoq:=Z09 hw hq
 refine Z00 ?_
 simp [t3,t4,b3,bp,hi,hg]
 refine AM.wp_block ?_
 refine AM.wp_loop (fun m t s' => ∃ j:Nat,j ≤ ks.length∧m = ks.length - j∧PT.get (posOf 2) t = some (.ptr B2 0)∧PT.get (posOf 3) t = some (.ptr B3 0)∧PT.get (posOf 4) t = some (.int .i64 i)∧PT.get (posOf 15) t = some (.slice q 0 ks.length cp)∧PT.get (posOf 16) t = some (.int .i64 ks.length)∧PT.get (posOf 17) t = some (.int .i64 j)∧Same [q] s s' ∧
  s'.own q = some ((Z6c cls ks j).map fun k => .int .i64 k)) ks.length ⟨0,by simp,by simp,by simp [t2],by simp [t3],by simp [t4],by simp,by simp,by simp,Same.refl _ _,by rw [Zqi]; exact hq⟩ ?_
 rintro m t s' ⟨j,hj,rfl,g2,g3,g4,g15,g16,g17,hS,hO⟩
 obtain ⟨b3,bp,b2,bc,hcv⟩:=hst s' hS
 refine Z00 ?_
 simp [g16,g17]
 refine AM.wp_seq ?_
 refine AM.Z04 ?_
 by_cases hlt:j < ks.length
 ·obtain ⟨k,hk⟩:∃ k,ks[j]? = some k:=⟨_,List.getElem?_eq_getElem hlt⟩
  obtain ⟨hk0,hk1⟩:=hin k (List.mem_of_getElem? hk)
  obtain ⟨cc,hcc⟩:∃ cc,cls[k.toNat]? = some cc:=⟨_,List.getElem?_eq_getElem (by omega)⟩
  have hto:toP cls k = cc:=by unfold toP; rw [hcc]; rfl
  have hgk:((Z6c cls ks j).map fun k => AVal.int .i64 k)[j]? = some (.int .i64 k):=by rw [List.getElem?_map,Zsu hk]; rfl
  have hwr:IntKind.wrap .i64 ((j:Int) + 1) = ((j + 1:Nat):Int):=by rw [IntWalk.i64_in _ (by omega)]; omega
  have hlay:=Z6e (Z6c cls ks j) j (toP cls k) (by rw [Zkg]; omega)
  rw [Zqh hk] at hlay
  have hml:=Zkg cls ks j
  simp [hlt]
  refine AM.wp_skip ?_
  simp
  refine AM.wp_seq ?_
  refine AM.wp_block ?_
  generalize Z6c cls ks j = mv at hO hgk hlay hml ⊢
  have hle:j + 1 ≤ mv.length:=by omega
  refine Z00 ?_
  simp only [List.getElem?_map] at hgk
  simp [g15,g17,hlt,Z0b hO,hgk]
  refine AM.wp_region ?_
  simp [g2,g3,g4,b3,bp,hi,hg,b2]
  refine Z03 ?_
  refine Zwp bc hcv hk0 hcc ?_
  simp [b3,bp,hi,hg,Zaa,eq8_cap,hlt,hO,hle]
  rw [← hto]
  simp [lay] at hlay
  rw [hlay]
  refine AM.wp_region ?_
  simp [g17,hwr]
  exact ⟨ks.length - (j + 1),by omega,j + 1,by omega,by omega,by simp [g2],by simp [g3],by simp [g4],by simp [g15],by simp [g16],by simp,hS.put _ (by simp) (hS.old hoq),by simp⟩
 ·simp [hlt]
  refine AM.wp_exit ?_
  simp
  have hje:j = ks.length:=by omega
  subst hje
  rw [Zst] at hO
  exact qq _ s' hS hO
theorem Zsw {s:St} {p Bc:Pos} {l:List RC} {K:Nat→List Int} {cv:AVal} {cls:List Int} {qs:List Pos} {Q:AVal→St→Prop} (hw:s.Wf) (hp:s.Old p) (hc:s.cells p = some (encs l)) (hl:l.length ≤ 400) (hcl:cls.length ≤ 1000)
  (hK:∀ j c,l[j]? = some c→KidV s c.kv (K j)∧(K j).length ≤ 1000∧(c.taken = true→∀ k ∈ K j,0 ≤ k∧k < cls.length))
  (hqs:∀ j c q cp,l[j]? = some c→c.kv = .slice q 0 (K j).length cp→K j ≠ []→q ∈ qs) (hpq:p ∉ qs) (hqo:∀ q ∈ qs,s.Old q)
  (hsep:∀ j j' c c' q cp cp',l[j]? = some c→l[j']? = some c'→c.kv = .slice q 0 (K j).length cp→c'.kv = .slice q 0 (K j').length cp'→K j ≠ []→K j' ≠ []→j = j')
  (hcv:∀ s',Same qs s s'→s'.cells Bc = some [cv]∧Z0f s' cv cls)
  (q:∀ s',Same qs s s'→(∀ j c,l[j]? = some c→KidV s' c.kv (if c.taken = true then (K j).map (toP cls) else K j))→Q (.tup []) s') :
  Z0d Tryz.prog 57 [.agg [.fn 66 [] [.ptr Bc 0]],.agg [.slice p 0 l.length (.lim l.length)]] s Q:=by
 refine Z07 (Z0g (by decide)) fi57 rfl (by decide) rfl ?_
 refine Z00 ?_
 simp
 have hK1:Keeps s (s.alloc (.cells [.fn 66 [] [.ptr Bc 0]] false)):=Keeps.alloc _ _
 have hB1:(s.alloc (.cells [.fn 66 [] [.ptr Bc 0]] false)).own s.next = some [.fn 66 [] [.ptr Bc 0]]:=Z1f _ _
 have hf1:¬ s.Old s.next:=Z0a s
 generalize s.alloc (.cells [.fn 66 [] [.ptr Bc 0]] false) = s1 at hK1 hB1 ⊢
 generalize s.next = B2 at hB1 hf1 ⊢
 have hw1:s1.Wf:=hK1.wf hw
 have ho1:s1.Old B2:=Z09 hw1 hB1
 have hK2:Keeps s1 (s1.alloc (.cells [.slice p 0 l.length (.lim l.length)] false)):=Keeps.alloc _ _
 have hB2:(s1.alloc (.cells [.slice p 0 l.length (.lim l.length)] false)).own s1.next = some [.slice p 0 l.length (.lim l.length)]:=Z1f _ _
 have hf2:¬ s1.Old s1.next:=Z0a s1
 generalize s1.alloc (.cells [.slice p 0 l.length (.lim l.length)] false) = s2 at hK2 hB2 ⊢
 generalize s1.next = B3 at hB2 hf2 ⊢
 have hw2:s2.Wf:=hK2.wf hw1
 have ho2:s2.Old B3:=Z09 hw2 hB2
 have hB1':s2.own B2 = some [.fn 66 [] [.ptr Bc 0]]:=(hK2.own ho1).trans hB1
 refine Z00 ?_
 simp [Z0b hB2]
 refine Z03 ?_
 refine Zc2 fun BB hBB => ?_
 have hK5:Keeps s2 (s2.alloc (.cells [.slice p 0 l.length (.lim l.length)] false)):=Keeps.alloc _ _
 have hBB5:(s2.alloc (.cells [.slice p 0 l.length (.lim l.length)] false)).own BB = some [.slice p 0 l.length (.lim l.length)]:=by rw [hBB]; exact Z1f _ _
 have hBo2:¬ s2.Old BB:=by rw [hBB]; exact Z0a s2
 generalize s2.alloc (.cells [.slice p 0 l.length (.lim l.length)] false) = s5 at hK5 hBB5 ⊢
 have hw5:s5.Wf:=hK5.wf hw2
 have hk5:Keeps s s5:=(hK1.trans hK2).trans hK5
 have n2:B2 ∉ qs:=fun h => hf1 (hqo _ h)
 have n3:B3 ∉ qs:=fun h => hf2 (hK1.old (hqo _ h))
 have nB:BB ∉ qs:=fun h => hBo2 (hK2.old (hK1.old (hqo _ h)))
 simp
 refine AM.wp_block ?_
 have hLo:∀ b,s5.Old b→b ≠ s5.next:=fun b hb => ne_next hb
 have nL:s5.next ∉ qs:=fun h => hLo _ (hk5.old (hqo _ h)) rfl
 refine Zd0 (I:=fun i s' => s'.Wf∧Same (s5.next :: qs) s5 s'∧∀ j c,l[j]? = some c→KidV s' c.kv (if j < i∧c.taken = true then (K j).map (toP cls) else K j)) (p:=p) (B:=BB) (l:=l) hl (by simp) rfl fi57 rfl ?_ ?_ ?_ ?_ ⟨hw5,Same.refl _ _,fun j c h => by simpa using (hK j c h).1.keep hw hk5⟩ ?_
 ·rintro i s' ⟨h,hS,hV⟩
  have hb:s'.own BB = some [.slice p 0 l.length (.lim l.length)]:=(hS.own (by simpa using ⟨hLo _ (Z09 hw5 hBB5),nB⟩) (Z09 hw5 hBB5)).trans hBB5
  exact ⟨h,hS.old (hk5.old hp),Z09 h hb,(hS.cells (by simpa using ⟨hLo _ (hk5.old hp),hpq⟩) (hk5.old hp)).trans ((hk5.cells hp).trans hc),Z0b hb⟩
 ·rintro i s' s'' ⟨h,hS,hV⟩ hS2
  refine ⟨hS2.wf h,⟨fun b hb ho => (hS2.obj b (by simp at hb ⊢; exact hb.1) (hS.old ho)).trans (hS.obj b hb ho),Nat.le_trans hS.next hS2.next,fun _ => hS2.wf h⟩,fun j c hj => ?_⟩
  refine (hV j c hj).stay fun q' c' he hne => ?_
  have hl2:(if j < i∧c.taken = true then (K j).map (toP cls) else K j).length = (K j).length:=by split <;> simp
  rw [hl2] at he
  have hne':K j ≠ []:=by
   intro e
   rw [e] at hne
   simp at hne
  have hm:=hqs j c q' c' hj he hne'
  exact hS2.own (by simpa using hLo _ (hk5.old (hqo _ hm))) (hS.old (hk5.old (hqo _ hm)))
 ·rintro i c s' hci hct ⟨h,hS,hV⟩
  refine ⟨h,hS,fun j d hj => ?_⟩
  have:=hV j d hj
  by_cases e:j = i
  ·subst e
   rw [hci] at hj
   cases hj
   simpa [hct] using this
  ·have e2:j < i ↔ j < i + 1:=by omega
   simpa [e2] using this
 ·rintro i c s' W hci hct ⟨h,hS,hV⟩ hoL hW
  have hi:i < l.length:=(List.getElem?_eq_some_iff.1 hci).1
  obtain ⟨_,hk1000,hkin⟩:=hK i c hci
  have hB3s:s'.own B3 = some [.slice p 0 l.length (.lim l.length)]:=(hS.own (by simpa using ⟨hLo _ (hK5.old ho2),n3⟩) (hK5.old ho2)).trans ((hK5.own ho2).trans hB2)
  have hB2s:s'.own B2 = some [.fn 66 [] [.ptr Bc 0]]:=(hS.own (by simpa using ⟨hLo _ (hK5.old (hK2.old ho1)),n2⟩) (hK5.old (hK2.old ho1))).trans ((hK5.own (hK2.old ho1)).trans hB1')
  have hps:s'.cells p = some (encs l):=(hS.cells (by simpa using ⟨hLo _ (hk5.old hp),hpq⟩) (hk5.old hp)).trans ((hk5.cells hp).trans hc)
  have hg:(encs l)[i * 4 + 2]? = some c.kv:=Z3h l i 2 c hci (by decide)
  have hVi:=hV i c hci
  simp at hVi
  refine AM.wp_block ?_
  by_cases h0:K i = []
  ·have hlen:=hVi.len
   rw [h0] at hlen
   have hkt:∀ t,¬ c.kv = .tup t:=by
    rintro t e
    rw [e] at hlen
    cases hlen
   refine Z00 ?_
   simp [Z0b hB3s,hps,hi,hg,hlen]
   refine AM.wp_block ?_
   refine AM.wp_loop (fun m t s2 => PT.get (posOf 16) t = some (.int .i64 0)∧PT.get (posOf 17) t = some (.int .i64 0)∧s2 = s') 0 ⟨by simp,by simp,rfl⟩ ?_
   rintro m t2 s2 ⟨g16,g17,rfl⟩
   refine Z00 ?_
   simp [g16,g17]
   refine AM.wp_seq ?_
   refine AM.Z04 ?_
   simp
   refine AM.wp_exit ?_
   simp
   refine hW _ _ ⟨h,hS,fun j d hj => ?_⟩ rfl
   by_cases e:j = i
   ·subst e
    have:=hV j d hj
    rw [h0] at this ⊢
    simpa using this
   ·have e2:j < i ↔ j < i + 1:=by omega
    have:=hV j d hj
    simpa [e2] using this
  ·rcases hVi with ⟨_,e⟩ | ⟨q',cp,hkv,hq⟩
   ·exact (h0 e).elim
   have hm:=hqs i c q' cp hci hkv h0
   have hoq':s'.Old q':=hS.old (hk5.old (hqo _ hm))
   have hne3:B3 ≠ q':=fun e => n3 (e ▸ hm)
   have hne2:B2 ≠ q':=fun e => n2 (e ▸ hm)
   have hnep:p ≠ q':=fun e => hpq (e ▸ hm)
   refine Zsv (B2:=B2) (B3:=B3) (p:=p) (q:=q') (l:=l) (i:=i) (cp:=cp) (cv:=cv) (cls:=cls) (ks:=K i) (Bc:=Bc) h (by simp) (by simp) (by simp) hci hkv hq hk1000 hcl (hkin hct) ?_ ?_
   ·intro s2 hS2
    have hSq:Same qs s s2:=⟨fun b hb ho => ((hS2.obj b (by simpa using fun e:b = q' => hb (e ▸ hm)) (hS.old (hk5.old ho))).trans (hS.obj b (by simpa using ⟨hLo _ (hk5.old ho),hb⟩) (hk5.old ho))).trans (hk5.obj b ho),Nat.le_trans hk5.next (Nat.le_trans hS.next hS2.next),fun _ => hS2.wf h⟩
    obtain ⟨j1,j2⟩:=hcv s2 hSq
    exact ⟨Z0b ((hS2.own (by simpa using hne3) (Z09 h hB3s)).trans hB3s),(hS2.cells (by simpa using hnep) (hS.old (hk5.old hp))).trans hps,Z0b ((hS2.own (by simpa using hne2) (Z09 h hB2s)).trans hB2s),j1,j2⟩
   ·intro t2 s2 hS2 hO2
    refine hW _ _ ⟨hS2.wf h,⟨fun b hb ho => (hS2.obj b (by simp at hb ⊢; exact fun e => hb.2 (e ▸ hm)) (hS.old ho)).trans (hS.obj b hb ho),Nat.le_trans hS.next hS2.next,fun _ => hS2.wf h⟩,fun j d hj => ?_⟩ (hS2.obj _ (by simpa using fun e:s5.next = q' => nL (e ▸ hm)) hoL)
    by_cases e:j = i
    ·subst e
     rw [hci] at hj
     cases hj
     simp [hct]
     exact .inr ⟨q',cp,by rw [hkv]; simp,by simpa using hO2⟩
    ·have e2:j < i ↔ j < i + 1:=by omega
     have hv:=hV j d hj
     have eg:(if j < i + 1∧d.taken = true then (K j).map (toP cls) else K j) = (if j < i∧d.taken = true then (K j).map (toP cls) else K j):=by simp [e2]
     rw [eg]
     refine hv.stay fun q2 c2 he hne => ?_
     have hl2:(if j < i∧d.taken = true then (K j).map (toP cls) else K j).length = (K j).length:=by split <;> simp
     rw [hl2] at he
     have hne':K j ≠ []:=by
      intro e
      rw [e] at hne
      simp at hne
     refine hS2.own (by simpa using fun e3:q2 = q' => e (hsep j i d c q' c2 cp hj hci (e3 ▸ he) hkv hne' h0)) (hS.old (hk5.old (hqo _ (hqs j d q2 c2 hj he hne'))))
 ·rintro s' ⟨h,hS,hV⟩
  simp
  refine q s' ⟨fun b hb ho => (hS.obj b (by simpa using ⟨hLo _ (hk5.old ho),hb⟩) (hk5.old ho)).trans (hk5.obj b ho),Nat.le_trans hk5.next hS.next,fun _ => h⟩ fun j c hj => ?_
  have:=hV j c hj
  have hjl:j < l.length:=(List.getElem?_eq_some_iff.1 hj).1
  simpa [hjl] using this
theorem Zvj {s:St} {p Bc:Pos} {l:List RC} {n:Nat} {K:Nat→List Int} {cv:AVal} {cls:List Int} {qs:List Pos} {Q:AVal→St→Prop} (hn:l.length = n) (hw:s.Wf) (hp:s.Old p) (hc:s.cells p = some (encs l)) (hl:n ≤ 400) (hcl:cls.length ≤ 1000)
  (hK:∀ j c,l[j]? = some c→KidV s c.kv (K j)∧(K j).length ≤ 1000∧(c.taken = true→∀ k ∈ K j,0 ≤ k∧k < cls.length))
  (hqs:∀ j c q cp,l[j]? = some c→c.kv = .slice q 0 (K j).length cp→K j ≠ []→q ∈ qs) (hpq:p ∉ qs) (hqo:∀ q ∈ qs,s.Old q)
  (hsep:∀ j j' c c' q cp cp',l[j]? = some c→l[j']? = some c'→c.kv = .slice q 0 (K j).length cp→c'.kv = .slice q 0 (K j').length cp'→K j ≠ []→K j' ≠ []→j = j')
  (hcv:∀ s',Same qs s s'→s'.cells Bc = some [cv]∧Z0f s' cv cls)
  (q:∀ s',Same qs s s'→(∀ j c,l[j]? = some c→KidV s' c.kv (if c.taken = true then (K j).map (toP cls) else K j))→Q (.tup []) s') :
  Z0d Tryz.prog 57 [.agg [.fn 66 [] [.ptr Bc 0]],.agg [.slice p 0 n (.lim n)]] s Q:=by
 subst hn
 exact Zsw hw hp hc hl hcl hK hqs hpq hqo hsep hcv q
def Z42 (cls:List Int) (cs:List CV):List CV:=cs.map fun c => if c.taken = true then { c with kids:=c.kids.map (toP cls) } else c
theorem Z8s (cls:List Int) (cs:List CV):(Z42 cls cs).length = cs.length:=by simp [Z42]
theorem Zau {cls:List Int} {cs:List CV} {i:Nat} {c:CV} (h:cs[i]? = some c):(Z42 cls cs)[i]? = some (if c.taken = true then { c with kids:=c.kids.map (toP cls) } else c):=by simp [Z42,h]
theorem Zvh {s0 s:St} {W:Pos→Prop} {pn B4 Bx:Pos} {cs:List CV} {V:List AVal} {cls:List Int} {mk r:Lets} {cp:Cap} {Q:AVal→St→Prop} (h:Ctx s0 W (mk ++ r) s) (hR:Z0v (cs.map CV.kids) V mk) (hO4:∀ c ∈ cs,c.kids.length ≤ 4) (hOk:∀ c ∈ cs,c.taken = true→∀ k ∈ c.kids,0 ≤ k∧k < cs.length) (hcl:cls.length = cs.length) (h4:cs.length ≤ 400)
  (hpn:(pn,C (encs (rcs cs V))) ∈ r) (hB4:(B4,C [.slice Bx 0 cs.length cp]) ∈ r) (hBx:(Bx,C (ints cls)) ∈ r)
  (q:∀ mk' s',Z0v ((Z42 cls cs).map CV.kids) V mk'→Ctx s0 W (mk' ++ r) s'→Q (.tup []) s') :
  Z0d Tryz.prog 57 [.agg [.fn 66 [] [.ptr B4 0]],.agg [.slice pn 0 cs.length (.lim cs.length)]] s Q:=by
 have hV:V.length = cs.length:=by simpa using hR.len
 have hl:=Z29 hV
 have hn:=h.nodup
 rw [List.map_append,List.nodup_append] at hn
 have hget:∀ j c,(rcs cs V)[j]? = some c→∃ (hj:j < cs.length),V[j]? = some c.kv∧c.taken = cs[j].taken∧c = ⟨cs[j].taken,cs[j].name,c.kv,cs[j].held⟩:=by
  intro j c hc
  have hlt:j < cs.length:=by have:=(List.getElem?_eq_some_iff.1 hc).1; rwa [hl] at this
  have hv:V[j]? = some (V[j]'(by omega)):=List.getElem?_eq_getElem (by omega)
  rw [Z2b (List.getElem?_eq_getElem hlt) hv] at hc
  cases hc
  exact ⟨hlt,hv,rfl,rfl⟩
 have hrow:∀ j c,(rcs cs V)[j]? = some c→(Z12 cs j = []∧Z1n c.kv = some 0) ∨ ∃ q cp,Z12 cs j ≠ []∧c.kv = .slice q 0 (Z12 cs j).length cp∧(q,C (ints (Z12 cs j))) ∈ mk:=by
  intro j c hc
  obtain ⟨hj,hv,_⟩:=hget j c hc
  obtain ⟨kv,g1,g2⟩:=hR.each (Zbh hj)
  rw [hv] at g1
  cases g1
  exact g2
 refine Zvj (K:=Z12 cs) (cls:=cls) (cv:=.slice Bx 0 cs.length cp) (qs:=mk.map (·.1)) hl h.wf (h.ob (List.mem_append_right _ hpn)) (Z0b (Z14 (h.own _ (List.mem_append_right _ hpn)))) h4 (by omega) ?_ ?_ ?_ ?_ ?_ ?_ ?_
 ·intro j c hc
  obtain ⟨hj,hv,ht,_⟩:=hget j c hc
  have hko:=Z1a (List.getElem?_eq_getElem hj)
  refine ⟨?_,?_,?_⟩
  ·rcases hrow j c hc with ⟨e1,e2⟩ | ⟨q,cp,e1,e2,e3⟩
   ·exact .inl ⟨e2,e1⟩
   ·exact .inr ⟨q,cp,e2,Z14 (h.own _ (List.mem_append_left _ e3))⟩
  ·rw [hko]
   have:=hO4 _ (List.getElem_mem hj)
   omega
  ·intro hct k hk
   rw [hko] at hk
   have:=hOk _ (List.getElem_mem hj) (ht ▸ hct) k hk
   exact ⟨this.1,by omega⟩
 ·intro j c q cp hc hkv hne
  rcases hrow j c hc with ⟨e1,e2⟩ | ⟨q',cp',e1,e2,e3⟩
  ·exact (hne e1).elim
  ·rw [hkv] at e2
   cases e2
   exact List.mem_map.2 ⟨_,e3,rfl⟩
 ·exact fun hm => hn.2.2 _ hm _ (List.mem_map.2 ⟨_,hpn,rfl⟩) rfl
 ·intro q hq
  obtain ⟨x,hx,rfl⟩:=List.mem_map.1 hq
  exact h.ob (List.mem_append_left _ hx)
 ·intro j j' c c' q cp cp' hc hc' hkv hkv' hne hne'
  obtain ⟨hj,hv,_⟩:=hget j c hc
  obtain ⟨hj',hv',_⟩:=hget j' c' hc'
  rw [hkv] at hv
  rw [hkv'] at hv'
  exact hR.sep hn.1 (Zbh hj) (Zbh hj') hne hne' hv hv'
 ·intro s' hS
  have h':=h.lose hS
  have e:cls.length = cs.length:=hcl
  refine ⟨Z0b (Z14 (h'.own _ hB4)),?_⟩
  rw [← hcl]
  exact Z5u h'.wf (Z14 (h'.own _ hBx)) _
 ·intro s' hS hk
  have h':=h.lose hS
  have hlast:∀ (i:Nat) (ks:List Int) (qq:Pos) (c:Cap),((Z42 cls cs).map CV.kids)[i]? = some ks→ks ≠ []→V[i]? = some (AVal.slice qq 0 ks.length c)→∃ hi:i < cs.length,Z12 cs i ≠ []∧ks.length = (Z12 cs i).length∧qq ∈ mk.map (·.1):=by
   intro i ks qq c hks hne hv
   obtain ⟨hi,e⟩:=Z9j hks
   rw [Z8s] at hi
   have hm:=Zau (cls:=cls) (List.getElem?_eq_getElem hi)
   have e2:=Z1a hm
   rw [e] at e2
   have e3:=Z1a (List.getElem?_eq_getElem hi)
   have hlen:ks.length = (Z12 cs i).length:=by
    rw [e2,e3]
    split <;> simp
   have hne':Z12 cs i ≠ []:=by
    intro e0
    rw [e0] at hlen
    exact hne (List.length_eq_zero_iff.1 hlen)
   refine ⟨hi,hne',hlen,?_⟩
   rcases hrow i _ (Z2b (List.getElem?_eq_getElem hi) hv) with ⟨e1,_⟩ | ⟨q',cp',_,e5,e6⟩
   ·exact (hne' e1).elim
   ·have:q' = qq:=(AVal.slice.inj e5).1.symm
    subst this
    exact List.mem_map.2 ⟨_,e6,rfl⟩
  obtain ⟨mk',r1,r2,r3,r4⟩:=Zk9 (s:=s') ((Z42 cls cs).map CV.kids) V (by simp [hV,Z8s]) (fun i ks kv hks hv => by
   obtain ⟨hi,e⟩:=Z9j hks
   rw [Z8s] at hi
   have:=hk i _ (Z2b (List.getElem?_eq_getElem hi) hv)
   rw [Z1a (Zau (List.getElem?_eq_getElem hi))] at e
   rw [← e]
   rw [Z1a (List.getElem?_eq_getElem hi)] at this
   have e2:(if cs[i].taken = true then { cs[i] with kids:=cs[i].kids.map (toP cls) } else cs[i]).kids = if cs[i].taken = true then cs[i].kids.map (toP cls) else cs[i].kids:=by split <;> rfl
   rw [e2]
   exact this) (fun i j ks ks' qq c c' hks hks' hne hne' hv hv' => by
   obtain ⟨hi,n1,l1,_⟩:=hlast i ks qq c hks hne hv
   obtain ⟨hj,n2,l2,_⟩:=hlast j ks' qq c' hks' hne' hv'
   rw [l1] at hv
   rw [l2] at hv'
   exact hR.sep hn.1 (Zbh hi) (Zbh hj) n1 n2 hv hv')
  refine q mk' s' r1 (h'.addL r2 r3 ?_ ?_)
  ·intro x hx ho
   obtain ⟨i,ks,c,e1,e2,e3⟩:=r4 x hx
   obtain ⟨_,_,_,hm⟩:=hlast i ks x.1 c e1 e2 e3
   obtain ⟨y,hy,e⟩:=List.mem_map.1 hm
   rw [← e] at ho ⊢
   exact h.free y (List.mem_append_left _ hy) ho
  ·intro x hx hr
   obtain ⟨i,ks,c,e1,e2,e3⟩:=r4 x hx
   obtain ⟨_,_,_,hm⟩:=hlast i ks x.1 c e1 e2 e3
   exact hn.2.2 _ hm _ hr rfl
end Go.Proofs
end
