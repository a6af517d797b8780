/- Parts of the proof: Get1, Get2, Get3, Abr, Abr2, AC1, AC2, AC3, AC4, AC5, Ord, Can1, Mgd, Swp, Grw, PermC, Sav, MovP, Pck1, Mgd2, Lst. -/
import Derived.Test.YtoipnedbpjfeiaaDoorAm06
set_option linter.all false
set_option linter.unusedSectionVars false
set_option linter.unusedSimpArgs false
set_option linter.unusedVariables false
section
open Go Go.AM
namespace Go.Proofs
set_option maxRecDepth 100000
theorem Zho {K:Nat→List Nat} {n:Nat} (hK:∀ a,a < n→∀ k ∈ K a,k < n):∀ (f:Nat) (v:List Nat) (i:Nat),v.Nodup→(∀ a ∈ v,a < n)→n + 1 ≤ i + f→(∀ j a,j < i→v[j]? = some a→∀ k ∈ K a,k ∈ v) →
  ∀ a ∈ runB K f v i,∀ k ∈ K a,k ∈ runB K f v i
 | 0,v,i,h1,h2,h3,h4 => by
  intro a ha k hk
  have hl:=Z2w h1 h2
  obtain ⟨j,hj⟩:=List.getElem?_of_mem ha
  have hjl:=(List.getElem?_eq_some_iff.1 hj).1
  simp only [runB] at hj hjl
  exact h4 j a (by omega) hj k hk
 | f + 1,v,i,h1,h2,h3,h4 => by
  unfold runB
  cases hv:v[i]? with
  | none =>
   intro a ha k hk
   obtain ⟨j,hj⟩:=List.getElem?_of_mem ha
   have hjl:=(List.getElem?_eq_some_iff.1 hj).1
   have hil:=List.getElem?_eq_none_iff.1 hv
   exact h4 j a (by simp only at hjl; omega) hj k hk
  | some b =>
   have hb:=h2 b (List.mem_of_getElem? hv)
   obtain ⟨h5,h6⟩:=Zaf h1 h2 (hK b hb)
   refine Zho hK f (Z0d v (K b)) (i + 1) h5 h6 (by omega) ?_
   intro j a hj ha k hk
   obtain ⟨w,hw⟩:=Z6h (K b) v
   have hil:=(List.getElem?_eq_some_iff.1 hv).1
   by_cases e:j = i
   ·subst e
    have hab:a = b:=by
     rw [hw,List.getElem?_append_left hil,hv] at ha
     exact (Option.some.inj ha).symm
    subst hab
    have key:∀ (ks v:List Nat) (k:Nat),k ∈ ks→k ∈ Z0d v ks:=by
     intro ks
     induction ks with
     | nil => intro v k h; cases h
     | cons x ks ih =>
      intro v k h
      show k ∈ Z0d (addN v x) ks
      rcases List.mem_cons.1 h with rfl | h
      ·obtain ⟨w',hw'⟩:=Z6h ks (addN v k)
       rw [hw']
       refine List.mem_append_left _ ?_
       unfold addN
       split
       ·assumption
       ·simp
      ·exact ih _ _ h
    exact key _ _ _ hk
   ·have ha':v[j]? = some a:=by
     rw [hw,List.getElem?_append_left (by omega)] at ha
     exact ha
    have:=h4 j a (by omega) ha' k hk
    rw [hw]
    exact List.mem_append_left _ this
theorem Zoo {K:Nat→List Nat} {P:Nat→Prop} (hP:∀ a,P a→∀ k ∈ K a,P k):∀ (f:Nat) (v:List Nat) (i:Nat),(∀ a ∈ v,P a)→∀ a ∈ runB K f v i,P a
 | 0,v,i,h => h
 | f + 1,v,i,h => by
  unfold runB
  cases hv:v[i]? with
  | none => exact h
  | some b =>
   refine Zoo hP f _ _ ?_
   have hb:=h b (List.mem_of_getElem? hv)
   have key:∀ (ks v:List Nat),(∀ a ∈ v,P a)→(∀ k ∈ ks,P k)→∀ a ∈ Z0d v ks,P a:=by
    intro ks
    induction ks with
    | nil => intro v h _; exact h
    | cons x ks ih =>
     intro v h h'
     refine ih (addN v x) ?_ (fun k hk => h' k (by simp [hk]))
     unfold addN
     split
     ·exact h
     ·intro a ha
      rcases List.mem_append.1 ha with ha | ha
      ·exact h a ha
      ·simp at ha
       rw [ha]
       exact h' x (by simp)
   exact key _ _ h (hP b hb)
theorem Zhr {K:Nat→List Nat} {n:Nat} (hK:∀ a,a < n→∀ k ∈ K a,k < n):∀ (roots:List Nat),(∀ r ∈ roots,r < n) →
  (bfsF K n roots).Nodup∧(∀ a ∈ bfsF K n roots,a < n)∧(∀ a ∈ bfsF K n roots,∀ k ∈ K a,k ∈ bfsF K n roots)∧(∀ r ∈ roots,r ∈ bfsF K n roots)∧∀ (P:Nat→Prop),(∀ a,P a→∀ k ∈ K a,P k)→(∀ r ∈ roots,P r)→∀ a ∈ bfsF K n roots,P a:=by
 have step:∀ (roots done v:List Nat),v.Nodup→(∀ a ∈ v,a < n)→(∀ a ∈ v,∀ k ∈ K a,k ∈ v)→(∀ r ∈ done,r ∈ v)→(∀ r ∈ roots,r < n)→(∀ (P:Nat→Prop),(∀ a,P a→∀ k ∈ K a,P k)→(∀ r ∈ done,P r)→∀ a ∈ v,P a) →
   (roots.foldl (fun v r => runB K (n + 1 - v.length) (addN v r) v.length) v).Nodup∧(∀ a ∈ roots.foldl (fun v r => runB K (n + 1 - v.length) (addN v r) v.length) v,a < n)∧(∀ a ∈ roots.foldl (fun v r => runB K (n + 1 - v.length) (addN v r) v.length) v,∀ k ∈ K a,k ∈ roots.foldl (fun v r => runB K (n + 1 - v.length) (addN v r) v.length) v) ∧
   (∀ r ∈ done ++ roots,r ∈ roots.foldl (fun v r => runB K (n + 1 - v.length) (addN v r) v.length) v)∧∀ (P:Nat→Prop),(∀ a,P a→∀ k ∈ K a,P k)→(∀ r ∈ done ++ roots,P r)→∀ a ∈ roots.foldl (fun v r => runB K (n + 1 - v.length) (addN v r) v.length) v,P a:=by
  intro roots
  induction roots with
  | nil =>
   intro done v h1 h2 h3 h4 _ h6
   exact ⟨h1,h2,h3,by simpa using h4,fun P hP hr => h6 P hP (by simpa using hr)⟩
  | cons r roots ih =>
   intro done v h1 h2 h3 h4 h5 h6
   have hr:=h5 r (by simp)
   have hl:=Z2w h1 h2
   have a1:=Z91 (k:=r) h1
   have a2:=Zdc h2 hr
   obtain ⟨b1,b2⟩:=Ztk hK (n + 1 - v.length) (addN v r) v.length a1 a2
   have b3:=Zho hK (n + 1 - v.length) (addN v r) v.length a1 a2 (by omega) (by
    intro j a hj ha k hk
    obtain ⟨w,hw⟩:=Zmp v r
    rw [hw,List.getElem?_append_left hj] at ha
    rw [hw]
    exact List.mem_append_left _ (h3 a (List.mem_of_getElem? ha) k hk))
   obtain ⟨w,hw⟩:=Zid K (n + 1 - v.length) (addN v r) v.length
   have hrm:r ∈ addN v r:=by
    unfold addN
    split
    ·assumption
    ·simp
   have:=ih (done ++ [r]) (runB K (n + 1 - v.length) (addN v r) v.length) b1 b2 b3 (by
    intro x hx
    rw [hw]
    refine List.mem_append_left _ ?_
    rcases List.mem_append.1 hx with hx | hx
    ·exact Zwc (h4 x hx)
    ·simp at hx
     rw [hx]
     exact hrm) (fun x hx => h5 x (by simp [hx])) (by
    intro P hP hd
    refine Zoo hP _ _ _ ?_
    have hv:=h6 P hP (fun x hx => hd x (by simp [hx]))
    unfold addN
    split
    ·exact hv
    ·intro a ha
     rcases List.mem_append.1 ha with ha | ha
     ·exact hv a ha
     ·simp at ha
      rw [ha]
      exact hd r (by simp))
   simpa using this
 intro roots hr
 have:=step roots [] [] (by simp) (by simp) (by simp) (by simp) hr (by simp)
 simpa [bfsF] using this
def Z45 (cls:List Int) (nd:ND):ND:=(nd.1,nd.2.map fun k => (cls[k.toNat]?).getD 0)
def Z2k (cls:List Int) (nds:List ND) (out:List ND) (a:Nat):List ND:=match cls[a]?,nds[a]? with
 | some c,some nd => if c < out.length then out else out ++ [Z45 cls nd]
 | _,_ => out
def outF (cls:List Int) (nds:List ND) (l:List Nat):List ND:=l.foldl (Z2k cls nds) []
noncomputable def Z27 (cs:List CV) (i:Nat):List ND:=outF (clsF (Z0f cs) (bfsF (kidN cs) cs.length [i])) (Z0f cs) (bfsF (kidN cs) cs.length [i])
noncomputable def getF (cs:List CV) (i:Int):Int × List ND :=
 if Z06 cs i = false then (1,[]) else if 60 < (Z27 cs i.toNat).length then (2,[]) else (0,Z27 cs i.toNat)
theorem Zkc {cs:List CV} (h:HOk cs) {a:Nat} (ha:Z06 cs (a:Int) = true):∀ k ∈ kidN cs a,Z06 cs (k:Int) = true:=by
 obtain ⟨_,d,hd,ht,_⟩:=Z1v ha
 rw [Int.toNat_natCast] at hd
 intro k hk
 unfold kidN at hk
 rw [Z1l hd] at hk
 obtain ⟨x,hx,rfl⟩:=List.mem_map.1 hk
 have h1:=h.kids d (List.mem_of_getElem? hd) ht x hx
 have h0:=(Z1v h1).1
 rw [Int.toNat_of_nonneg h0]
 exact h1
theorem Z1t {cs:List CV} {k:Nat} (h:Z06 cs (k:Int) = true):k < cs.length:=by
 obtain ⟨_,_,_,_,hlt⟩:=Z1v h
 simpa using hlt
structure HOk2 (cs:List CV):Prop extends HOk cs where
 free:∀ c ∈ cs,c.taken = false→c.kids = []
theorem HOk2.Zqt {cs:List CV} (h:HOk2 cs):∀ a,a < cs.length→∀ k ∈ kidN cs a,k < cs.length:=by
 intro a ha k hk
 have hd:cs[a]? = some cs[a]:=List.getElem?_eq_getElem ha
 cases ht:cs[a].taken with
 | true => exact Z1t (Zkc h.toHOk (by rw [Z0x hd]; exact ht) k hk)
 | false =>
  unfold kidN at hk
  rw [Z1l hd,h.free _ (List.getElem_mem ha) ht] at hk
  simp at hk
theorem Zb4 {cs:List CV} (h:HOk2 cs) {roots:List Nat} (hr:∀ r ∈ roots,Z06 cs (r:Int) = true):Closed (Z0f cs) (bfsF (kidN cs) cs.length roots)∧(bfsF (kidN cs) cs.length roots).Nodup∧(∀ a ∈ bfsF (kidN cs) cs.length roots,Z06 cs (a:Int) = true)∧∀ r ∈ roots,r ∈ bfsF (kidN cs) cs.length roots:=by
 obtain ⟨h1,h2,h3,h4,h5⟩:=Zhr (n:=cs.length) (h.Zqt) roots (fun r hx => Z1t (hr r hx))
 have h6:=h5 (fun a => Z06 cs (a:Int) = true) (fun a ha => Zkc h.toHOk ha) hr
 refine ⟨⟨fun a ha => by rw [Z0t]; exact h2 a ha,fun a ha x hx => ?_⟩,h1,h6,h4⟩
 have hd:cs[a]? = some (cs[a]'(h2 a ha)):=List.getElem?_eq_getElem (h2 a ha)
 have ht:=h6 a ha
 rw [Z0x hd] at ht
 rw [Z2a hd,if_pos ht] at hx
 cases hx
 refine ⟨h.kids4 _ (List.getElem_mem _),fun k hk => h3 a ha _ ?_⟩
 unfold kidN
 rw [Z1l hd]
 exact List.mem_map.2 ⟨k,hk,rfl⟩
theorem Z6o {s0 s:St} {W:Pos→Prop} {L mr:Lets} {p:Pos} {cs:List CV} {V:List AVal} (h:Ctx s0 W L s) (hp:(p,C (encs (rcs cs V))) ∈ L) (hR:Z16 (cs.map CV.kids) V mr) (hmr:∀ x ∈ mr,x ∈ L) :
  s.Old p∧s.cells p = some (encs (rcs cs V))∧∀ (i:Nat) (d:CV),cs[i]? = some d→∃ kv,V[i]? = some kv∧Z0h s kv d.kids:=by
 refine ⟨h.ob hp,Z0a (Z17 (h.own _ hp)),fun i d hd => ?_⟩
 obtain ⟨kv,g1,g2⟩:=hR.each (i:=i) (ks:=d.kids) (by rw [List.getElem?_map,hd]; rfl)
 refine ⟨kv,g1,?_⟩
 rcases g2 with ⟨e1,e2⟩ | ⟨q,c,e1,e2,e3⟩
 ·exact .inl ⟨e2,e1⟩
 ·rw [e2]
  exact Z4l h.wf (Z17 (h.own _ (hmr _ e3))) c
theorem Znp {s0 s:St} {W:Pos→Prop} {B6:Pos} {lv:AVal} {v:List Nat} {a:Nat} {mg pre r:Lets} {Q:AVal→St→Prop} (hc:Ctx s0 W (pre ++ ((B6,C [lv]) :: (mg ++ r))) s) (hg:Z1d lv (nats v) mg) (hl:v.length ≤ 1000)
  (q:∀ lv' mg' s',Z1d lv' (nats (v ++ [a])) mg'→Ctx s0 W (pre ++ ((B6,C [lv']) :: (mg' ++ r))) s'→Q (.tup []) s'):Z0c Tryd.prog 67 [.int .i64 a,.ptr B6 0] s Q:=by
 have hc0:Ctx s0 W ((B6,C [lv]) :: (pre ++ (mg ++ r))) s:=hc.perm List.perm_middle
 refine Z08 (Z0i (by decide)) fi67 rfl (by decide) rfl ?_
 refine AM.wp_region ?_
 simp [hc0.c 0 rfl,hg.ntup,hg.cells,Z1p,srcP]
 have c1:=hc0.alloc (C [.int .i64 a])
 generalize s.alloc (.cells [.int .i64 a] false) = s1 at c1 ⊢
 generalize s.next = T at c1 ⊢
 refine Z5c (pre:=(T,C [.int .i64 a]) :: (B6,C [lv]) :: pre) (by simpa using c1) hg (by simpa using hl) fun lv' mg' s2 hg' c2 => ?_
 simp only [List.cons_append] at c2
 simp [hg'.ntup,hg'.cells,c2.o 1 rfl]
 have c3:=(c2.put 1 rfl (C [lv'])).tail
 simp only [List.set_cons_zero] at c3
 refine q lv' mg' _ ?_ (c3.perm List.perm_middle.symm)
 simpa using hg'
section
variable {sc s:St} {fr:FI} {t0:PT AVal} {cls:List Int} {nds:List ND} {pn Bx:Pos} {n:Nat} {cv nv0:AVal} {r:Lets} {Q:Ex→PT AVal→St→Prop}
theorem Zwr {B13:Pos} {nd:ND} {a:Nat} {nm:List UInt8} {c1:Cap} (hN:Z1i sc (.slice pn 0 n c1) nds) (hnl:nds.length = n) (hC:Z0h sc cv cls) (hcl:cls.length = n) (hnd:nds[a]? = some nd) (h4:nd.2.length ≤ 4) (hin:∀ k ∈ nd.2,0 ≤ k∧k < n)
  (hc:Ctx sc (fun _ => False) ((B13,C [.str nm,.nilSlice]) :: r) s) (t7:PT.get (posOf 7) t0 = some (.slice pn 0 n c1)) (t12:PT.get (posOf 12) t0 = some (.int .i64 a)) (t9:PT.get (posOf 9) t0 = some cv) (t13:PT.get (posOf 13) t0 = some (.ptr B13 0))
  (q:∀ t s' kv mg,Fr [15,77,78,79,80,83,84,85,86,87,88,89,90,91] t0 t→Z1d kv (Z45 cls nd).2 mg→Ctx sc (fun _ => False) ((B13,C [.str nm,kv]) :: (mg ++ r)) s'→Q .normal t s'):wp Tryd.prog Ztu fr t0 s Q:=by
 have han:a < n:=by have:=(List.getElem?_eq_some_iff.1 hnd).1; omega
 have hN':=hN.keep hc.Z0g
 rcases hN' with ⟨e,_⟩ | ⟨b,o,c,cells,e,hb,hcs,hle,hel⟩
 ·have:n = 0:=by simpa using e
  omega
 cases e
 obtain ⟨_,kv0,e1,e2⟩:=hel a nd hnd
 rw [Nat.zero_add] at e1
 refine Z00 ?_
 simp [t7,t12,han,hcs,e1,e2.ntup,e2.len]
 refine AM.wp_block ?_
 refine AM.wp_loop (fun m t s' => ∃ (j:Nat) (kv:AVal) (mg:Lets),j ≤ nd.2.length∧m = nd.2.length - j∧Fr [15,77,78,79,80,83,84,85,86,87,88,89,90,91] t0 t∧PT.get (posOf 77) t = some kv0∧PT.get (posOf 78) t = some (.int .i64 nd.2.length)∧PT.get (posOf 79) t = some (.int .i64 j) ∧
   Z1d kv ((nd.2.take j).map fun k => (cls[k.toNat]?).getD 0) mg∧Ctx sc (fun _ => False) ((B13,C [.str nm,kv]) :: (mg ++ r)) s') nd.2.length ⟨0,.nilSlice,[],by simp,by simp,?_,by simp,by simp,by simp,.inl ⟨by simp,rfl,rfl⟩,hc⟩ ?_
 ·intro y hy
  simp at hy
  simp [hy]
 rintro m t s' ⟨j,kv,mg,hj,rfl,hF,t77,t78,t79,hg,hc'⟩
 refine Z00 ?_
 simp [t78,t79]
 refine AM.wp_seq ?_
 refine AM.Z03 ?_
 by_cases hlt:j < nd.2.length
 ·have hwr:IntKind.wrap .i64 ((j:Int) + 1) = ((j + 1:Nat):Int):=by rw [IntWalk.i64_in _ (by omega)]; omega
  obtain ⟨k,hk⟩:∃ k,nd.2[j]? = some k:=⟨_,List.getElem?_eq_getElem hlt⟩
  obtain ⟨k0,k1⟩:=hin k (List.mem_of_getElem? hk)
  obtain ⟨x,hx⟩:∃ x,cls[k.toNat]? = some x:=⟨_,List.getElem?_eq_getElem (by omega)⟩
  have u9:=(hF 9 (by simp)).trans t9
  have u13:=(hF 13 (by simp)).trans t13
  rcases (hC.keep hc'.Z0g) with ⟨_,h0⟩ | ⟨b2,o2,c2,cells2,rfl,hb2,hcs2,hle2,hel2⟩
  ·rw [h0] at hcl
   simp at hcl
   omega
  have hgx:=hel2 _ _ hx
  have hkN:=hN.keep hc'.Z0g
  rcases hkN with ⟨e,_⟩ | ⟨b3,o3,c3,cells3,e,hb3,hcs3,hle3,hel3⟩
  ·have:nds.length = 0:=by simpa using e
   omega
  cases e
  obtain ⟨_,kv3,e3,e4⟩:=hel3 a nd hnd
  rw [Nat.zero_add] at e3
  have hkv3:kv3 = kv0:=by
   have h5:s'.cells pn = s.cells pn:=by
    rcases hN with ⟨e,_⟩ | ⟨b4,_,_,_,e,hb4,_⟩
    ·have:nds.length = 0:=by simpa using e
     omega
    cases e
    rw [hc'.Zfb (fun h => h) hb4,hc.Zfb (fun h => h) hb4]
   rw [hcs,hcs3] at h5
   cases h5
   rw [e1] at e3
   exact (Option.some.inj e3).symm
  subst hkv3
  rcases e4 with ⟨_,h0⟩ | ⟨b5,o5,c5,cells5,rfl,hb5,hcs5,hle5,hel5⟩
  ·rw [h0] at hlt
   simp at hlt
  have hgk:=hel5 _ _ hk
  have hkn:k < (cls.length:Int):=by omega
  simp [hlt]
  refine AM.wp_skip ?_
  simp
  refine AM.wp_seq ?_
  refine AM.wp_block ?_
  refine Z00 ?_
  simp [t77,t79,hlt,hcs5,hgk]
  refine AM.wp_region ?_
  have hns:s'.obj s'.next = none:=hc'.wf _ (Z09 _)
  simp [u9,u13,hc'.c 0 rfl,hg.ntup,hg.cells,k0,hkn,hcs2,hgx,hns,Z1p,srcP]
  have d2:=hc'.alloc (C [.int .i64 x])
  generalize s'.alloc (.cells [.int .i64 x] false) = sB at d2 ⊢
  generalize s'.next = T at d2 ⊢
  have hgl:((nd.2.take j).map fun k => (cls[k.toNat]?).getD 0).length ≤ 1000:=by simp; omega
  refine Z5c (pre:=[(T,C [.int .i64 x]),(B13,C [.str nm,kv])]) d2 hg hgl fun kv' mg' sC hg' d3 => ?_
  simp only [List.cons_append,List.nil_append] at d3
  simp [hg'.ntup,hg'.cells,d3.o 1 rfl]
  have d4:=(d3.put 1 rfl (C [.str nm,kv'])).tail
  simp only [List.set_cons_zero] at d4
  have hnx:((nd.2.take j).map fun k => (cls[k.toNat]?).getD 0) ++ [x] = (nd.2.take (j + 1)).map fun k => (cls[k.toNat]?).getD 0:=by
   rw [List.take_add_one,hk,List.map_append]
   simp [hx]
  rw [hnx] at hg'
  refine AM.wp_region ?_
  simp [t79,hwr]
  refine ⟨nd.2.length - (j + 1),by omega,j + 1,by omega,by omega,?_,by simp [t77],by simp [t78],by simp,kv',mg',by simpa using hg',d4⟩
  intro y hy
  simp at hy
  simp [hy]
  exact hF y (by simp [hy])
 ·simp [hlt]
  refine AM.wp_exit ?_
  simp
  have hje:j = nd.2.length:=by omega
  subst hje
  rw [List.take_length] at hg
  refine q _ s' kv mg ?_ hg hc'
  intro y hy
  simp at hy
  simp [hy]
  exact hF y (by simp [hy])
end
theorem Zls {cls:List Int} {nds:List ND} {l:List Nat} {i a:Nat} (h:l[i]? = some a):outF cls nds (l.take (i + 1)) = Z2k cls nds (outF cls nds (l.take i)) a:=by
 unfold outF
 rw [List.take_add_one,h,List.foldl_append]
 rfl
theorem Zo8 (cls:List Int) (nds:List ND):∀ (l:List Nat),(outF cls nds l).length ≤ l.length:=by
 have key:∀ (l:List Nat) (out:List ND),(l.foldl (Z2k cls nds) out).length ≤ out.length + l.length:=by
  intro l
  induction l with
  | nil => intro out; simp
  | cons a l ih =>
   intro out
   have h1:=ih (Z2k cls nds out a)
   have h2:(Z2k cls nds out a).length ≤ out.length + 1:=by
    unfold Z2k
    split
    ·split
     ·omega
     ·simp
    ·omega
   simp only [List.foldl_cons,List.length_cons]
   omega
 intro l
 have:=key l []
 simpa [outF] using this
theorem Zg7 (cls:List Int) (nds:List ND) (l:List Nat) (i:Nat):(outF cls nds (l.take i)).length ≤ (outF cls nds l).length:=by
 have key:∀ (l:List Nat) (out:List ND),out.length ≤ (l.foldl (Z2k cls nds) out).length:=by
  intro l
  induction l with
  | nil => intro out; simp
  | cons a l ih =>
   intro out
   have h1:=ih (Z2k cls nds out a)
   have h2:out.length ≤ (Z2k cls nds out a).length:=by
    unfold Z2k
    split
    ·split
     ·omega
     ·simp
    ·omega
   simp only [List.foldl_cons]
   omega
 have h:=key (l.drop i) (outF cls nds (l.take i))
 unfold outF at h ⊢
 rw [← List.foldl_append,List.take_append_drop] at h
 exact h
theorem Zmj {s0 s:St} {W:Pos→Prop} {hb:Pos} {vs:AVal} {cs:List CV} {m r:Lets} {i:Int} {Q:AVal→St→Prop} (hH:Z26 hb vs cs m) (h:Ctx s0 W (m ++ r) s) (hO:HOk2 cs)
  (q:∀ nv mn s',Z3a nv (getF cs i).2 mn→Ctx s0 W (mn ++ (m ++ r)) s'→Q (.tup [.agg [nv,.int .i64 0],.int .i64 (getF cs i).1]) s'):Z0c Tryd.prog 22 [.ptr hb 0,.int .i64 i] s Q:=by
 obtain ⟨p,V,mr,hc,hR,hV,h1,h4,hP⟩:=Z7w hH h
 have hl:=Z24 hV
 have hno:cs.length ≠ 0:=by omega
 have hpm:m.Perm ((hb,C [.slice p 0 cs.length (.lim cs.length),vs]) :: (p,C (encs (rcs cs V))) :: mr):=hP
 have hback:∀ {x:Lets} {s':St},Ctx s0 W (x ++ ((hb,C [.slice p 0 cs.length (.lim cs.length),vs]) :: (p,C (encs (rcs cs V))) :: (mr ++ r))) s'→Ctx s0 W (x ++ (m ++ r)) s':=by
  intro x s' hx
  refine hx.perm ((List.Perm.refl x).append ?_)
  have:=hpm.symm.append (List.Perm.refl r)
  simpa using this
 refine Z08 (Z0i (by decide)) fi22 rfl (by decide) rfl ?_
 refine Z00 ?_
 simp
 have c1:=hc.alloc (C [.nilSlice,.int .i64 0])
 generalize s.alloc (.cells [.nilSlice,.int .i64 0] false) = s1 at c1 ⊢
 generalize s.next = B4 at c1 ⊢
 refine AM.wp_seq ?_
 refine AM.wp_block ?_
 refine Z00 ?_
 simp
 refine Z02 ?_
 refine Z6b (c1.c 1 rfl) rfl hno ?_
 simp
 refine AM.Z03 ?_
 simp
 refine Z00 ?_
 simp [c1.c 1 rfl]
 refine Z02 ?_
 refine Zr6 (c1.oi 2 rfl) (c1.c 2 rfl) hV fun s2 k2 => ?_
 have c2:=c1.keeps k2
 cases ht:Z06 cs i with
 | false =>
  have:getF cs i = (1,[]):=by unfold getF; rw [if_pos ht]
  rw [this] at q
  simp
  refine AM.Z03 ?_
  simp
  refine Z00 ?_
  simp [c2.o 0 rfl]
  have c3:=c2.put 0 rfl (C [.nilSlice,.int .i64 0])
  simp only [List.set_cons_zero] at c3
  generalize s2.put B4 (.cells [.nilSlice,.int .i64 0] false) = s3 at c3 ⊢
  refine AM.wp_ret ?_
  simp [c3.c 0 rfl]
  exact q .nilSlice [] s3 (.inl ⟨rfl,rfl,rfl⟩) (hback (x:=[]) c3.tail)
 | true =>
 obtain ⟨h0,d,hd,hdt,hlt⟩:=Z1v ht
 obtain ⟨i,rfl⟩:∃ k:Nat,i = (k:Int):=⟨i.toNat,by omega⟩
 rw [Int.toNat_natCast] at hd hlt
 have hgF:getF cs (i:Int) = if 60 < (Z27 cs i).length then (2,[]) else (0,Z27 cs i):=by unfold getF; rw [if_neg (by simp [ht]),Int.toNat_natCast]
 rw [hgF] at q
 unfold Z27 at q
 obtain ⟨hC,hnd,hall,hroot⟩:=Zb4 hO (roots:=[i]) (by simpa using ht)
 simp
 refine AM.Z03 ?_
 simp
 refine AM.wp_skip ?_
 simp
 refine Z00 ?_
 simp
 have c3:=c2.alloc (C [.nilSlice])
 generalize s2.alloc (.cells [.nilSlice] false) = s3 at c3 ⊢
 generalize s2.next = B6 at c3 ⊢
 refine Z00 ?_
 simp [c3.c 2 rfl]
 have c4:=c3.alloc (C [.int .i64 i])
 generalize s3.alloc (.cells [.int .i64 i] false) = s4 at c4 ⊢
 generalize s3.next = T at c4 ⊢
 refine Z02 ?_
 have c4':Ctx s0 W ([(B6,C [.nilSlice])] ++ ((T,C [.int .i64 i]) :: (B4,C [.nilSlice,.int .i64 0]) :: (hb,C [.slice p 0 cs.length (.lim cs.length),vs]) :: (p,C (encs (rcs cs V))) :: (mr ++ r))) s4:=c4.perm (List.Perm.swap _ _ _)
 refine Zkz (V:=V) (J:=fun v m => ∃ lv mg,Z1d lv (nats v) mg∧m = (B6,C [lv]) :: mg) (roots:=[i]) (rv:=.slice T 0 1 (.lim 1)) (f:=67) (fx:=[]) (fy:=[.ptr B6 0])
  ⟨hV,h4,?_,by simpa using hlt,by simp,fun a ha => ?_,?_⟩ c4' ⟨.nilSlice,[],.inl ⟨rfl,rfl,rfl⟩,rfl⟩ (by simp) ?_
 ·rintro x m' s' hx _
  obtain ⟨r1,r2,r3⟩:=Z6o (p:=p) (cs:=cs) (V:=V) hx (by simp) hR (fun y hy => by simp [hy])
  refine ⟨r1,r2,?_,r3⟩
  have hT:s'.own T = some (ints [(i:Int)]):=Z17 (hx.own (T,C [.int .i64 i]) (by simp))
  exact Z4l hx.wf hT (.lim 1)
 ·have hcd:cs[a]? = some cs[a]:=List.getElem?_eq_getElem ha
  rw [Z1l hcd]
  refine ⟨hO.kids4 _ (List.getElem_mem ha),fun k hk => ?_⟩
  cases hta:cs[a].taken with
  | true =>
   obtain ⟨k0,_,_,_,k1⟩:=Z1v (hO.kids _ (List.getElem_mem ha) hta k hk)
   exact ⟨k0,by omega⟩
  | false =>
   rw [hO.free _ (List.getElem_mem ha) hta] at hk
   cases hk
 ·rintro a v x m' s' R ⟨lv,mg,hg,rfl⟩ hav han hvn hvlt hx hq
  refine Z02 ?_
  have hvl:v.length ≤ 1000:=by have:=Z2w hvn hvlt; omega
  refine Znp (pre:=x) (r:=(T,C [.int .i64 i]) :: (B4,C [.nilSlice,.int .i64 0]) :: (hb,C [.slice p 0 cs.length (.lim cs.length),vs]) :: (p,C (encs (rcs cs V))) :: (mr ++ r)) (by simpa using hx) hg hvl fun lv' mg' s'' hg' hx' => ?_
  exact hq _ _ _ ⟨lv',mg',hg',rfl⟩ (by simpa using hx')
 ·rintro x m' s5 ⟨lv,mg,hg,rfl⟩ hx
  have c5:=hx.sub (List.sublist_append_right x _)
  simp only [List.cons_append] at c5
  have c5:=c5.perm (m':=(B6,C [lv]) :: (T,C [.int .i64 i]) :: (B4,C [.nilSlice,.int .i64 0]) :: (hb,C [.slice p 0 cs.length (.lim cs.length),vs]) :: (p,C (encs (rcs cs V))) :: (mg ++ (mr ++ r))) (by
   refine List.Perm.cons _ ?_
   have:=List.perm_append_comm (l₁:=mg) (l₂:=[(T,C [.int .i64 i]),(B4,C [.nilSlice,.int .i64 0]),(hb,C [.slice p 0 cs.length (.lim cs.length),vs]),(p,C (encs (rcs cs V)))])
   have:=this.append (List.Perm.refl (mr ++ r))
   simpa using this)
  generalize hbf:bfsF (kidN cs) cs.length [i] = L at hC hnd hall hroot hg q
  have hLl:L.length ≤ cs.length:=Z2w hnd (fun a ha => Z1t (hall a ha))
  simp
  refine Z00 ?_
  simp [c5.c 3 rfl]
  refine Z02 ?_
  have hobs:∀ {s':St},Ctx s0 W ((B6,C [lv]) :: (T,C [.int .i64 i]) :: (B4,C [.nilSlice,.int .i64 0]) :: (hb,C [.slice p 0 cs.length (.lim cs.length),vs]) :: (p,C (encs (rcs cs V))) :: (mg ++ (mr ++ r))) s'→∀ j c,(rcs cs V)[j]? = some c→Z0h s' c.kv (Z0y cs j):=by
   intro s' hc' j c hj
   obtain ⟨_,_,r3⟩:=Z6o (p:=p) (cs:=cs) (V:=V) hc' (by simp) hR (fun y hy => by simp [hy])
   have hjl:j < cs.length:=by have:=(List.getElem?_eq_some_iff.1 hj).1; rwa [hl] at this
   obtain ⟨kv,e1,e2⟩:=r3 j _ (List.getElem?_eq_getElem hjl)
   rw [Z1u (List.getElem?_eq_getElem hjl) e1] at hj
   cases hj
   rw [Z1l (List.getElem?_eq_getElem hjl)]
   exact e2
  refine Zk7 (K:=Z0y cs) hl c5.wf (c5.oi 4 rfl) (c5.c 4 rfl) h4 (hobs c5) fun pn lv2 s6 k6 hN _ => ?_
  rw [Zkf hV] at hN
  have c6:=c5.keeps k6
  simp
  refine Z00 ?_
  simp [c6.c 0 rfl,hg.ntup]
  refine Z02 ?_
  have hlv6:Z0h s6 lv (nats L):=(hg.row.kid fun y hy => c6.own y (by simp [hy])).ints c6.wf
  have hkidsG:∀ (a:Nat) nd,(Z0f cs)[a]? = some nd→nd.2.length ≤ 4∧∀ k ∈ nd.2,0 ≤ k∧k < (Z0f cs).length:=hO.toHOk.Z97
  refine Zcc (Z0t cs) c6.wf hN (by omega) hlv6 (by omega) hC hkidsG fun Bx s7 k7 hBx hox => ?_
  have hcl:=Z9k hC
  rw [Z0t] at hcl
  generalize clsF (Z0f cs) L = cls at hox hcl q
  have c7:=c6.keeps k7
  have hN7:Z1i s7 (.slice pn 0 cs.length (.lim cs.length)) (Z0f cs):=by
   have:=(hN.keep k7).of (.lim cs.length)
   rwa [Z0t] at this
  have hC7:Z0h s7 (.slice Bx 0 cs.length (.lim cs.length)) cls:=by
   have:=Z4l c7.wf hox (.lim cs.length)
   rwa [hcl] at this
  have hL7:Z0h s7 lv (nats L):=hlv6.keep k7
  simp
  refine Z00 ?_
  simp
  have d0:=(Ctx.start (fun _ => False) c7.wf).alloc (C [.nilSlice,.int .i64 0])
  generalize s7.alloc (.cells [.nilSlice,.int .i64 0] false) = s8 at d0 ⊢
  generalize s7.next = B10 at d0 ⊢
  refine AM.wp_seq ?_
  refine Z00 ?_
  have k8:=d0.Z0g
  simp [(k8.cells (c7.oi 0 rfl)).trans (c7.c 0 rfl),hg.ntup,hL7.len]
  have hout:∀ {nv:AVal} {mn:Lets} {s':St},Ctx s7 (fun _ => False) ((B10,C [nv,.int .i64 0]) :: mn) s'→Ctx s0 W ((B4,C [.nilSlice,.int .i64 0]) :: (B10,C [nv,.int .i64 0]) :: (mn ++ ((B6,C [lv]) :: (T,C [.int .i64 i]) :: (hb,C [.slice p 0 cs.length (.lim cs.length),vs]) :: (p,C (encs (rcs cs V))) :: (mg ++ (mr ++ r))))) s':=by
   intro nv mn s' hd
   have:=Ctx.on (m:=[]) (by simpa using c7) (m':=(B10,C [nv,.int .i64 0]) :: mn) (by simpa using hd)
   refine this.perm ?_
   have h2:((B10,C [nv,.int .i64 0]) :: mn ++ ((B6,C [lv]) :: (T,C [.int .i64 i]) :: (B4,C [.nilSlice,.int .i64 0]) :: (hb,C [.slice p 0 cs.length (.lim cs.length),vs]) :: (p,C (encs (rcs cs V))) :: (mg ++ (mr ++ r)))) = (((B10,C [nv,.int .i64 0]) :: mn) ++ [(B6,C [lv]),(T,C [.int .i64 i])]) ++ (B4,C [.nilSlice,.int .i64 0]) :: ((hb,C [.slice p 0 cs.length (.lim cs.length),vs]) :: (p,C (encs (rcs cs V))) :: (mg ++ (mr ++ r))):=by simp
   rw [h2]
   refine List.perm_middle.trans ?_
   simp
  have hend:∀ {nv:AVal} {x:Lets} {b4 b10:Pos × AObj} {s':St},Ctx s0 W (b4 :: b10 :: (x ++ ((B6,C [lv]) :: (T,C [.int .i64 i]) :: (hb,C [.slice p 0 cs.length (.lim cs.length),vs]) :: (p,C (encs (rcs cs V))) :: (mg ++ (mr ++ r))))) s'→Ctx s0 W (x ++ (m ++ r)) s':=by
   intro nv x b4 b10 s' hx'
   refine hback (hx'.sub (.cons _ (.cons _ ((List.Sublist.refl x).append (.cons _ (.cons _ (.cons_cons _ (.cons_cons _ (List.sublist_append_right mg _)))))))))
  refine AM.wp_block ?_
  refine AM.wp_loop (fun k t s' => ∃ (j:Nat) (nv:AVal) (mn:Lets),j ≤ L.length∧k = L.length - j∧PT.get (posOf 4) t = some (.ptr B4 0)∧PT.get (posOf 7) t = some (.slice pn 0 cs.length (.lim cs.length))∧PT.get (posOf 9) t = some (.slice Bx 0 cs.length (.lim cs.length))∧PT.get (posOf 10) t = some (.ptr B10 0) ∧
    PT.get (posOf 48) t = some lv∧PT.get (posOf 49) t = some (.int .i64 L.length)∧PT.get (posOf 50) t = some (.int .i64 j)∧Z3a nv (outF cls (Z0f cs) (L.take j)) mn∧(outF cls (Z0f cs) (L.take j)).length ≤ 60∧Ctx s7 (fun _ => False) ((B10,C [nv,.int .i64 0]) :: mn) s') L.length
   ⟨0,.nilSlice,[],by simp,by simp,by simp,by simp,by simp,by simp,by simp,by simp,by simp,.inl ⟨by simp [outF],rfl,rfl⟩,by simp [outF],d0⟩ ?_
  rintro k t s' ⟨j,nv,mn,hj,rfl,t4,t7,t9,t10,t48,t49,t50,hM,h60,hd'⟩
  refine Z00 ?_
  simp [t49,t50]
  refine AM.wp_seq ?_
  refine AM.Z03 ?_
  by_cases hlt:j < L.length
  ·have hwr:IntKind.wrap .i64 ((j:Int) + 1) = ((j + 1:Nat):Int):=by rw [IntWalk.i64_in _ (by omega)]; omega
   obtain ⟨a,ha⟩:∃ a,L[j]? = some a:=⟨_,List.getElem?_eq_getElem hlt⟩
   have hat:=hall a (List.mem_of_getElem? ha)
   have han:=Z1t hat
   have hda:cs[a]? = some cs[a]:=List.getElem?_eq_getElem han
   have htk:cs[a].taken = true:=by rw [Z0x hda] at hat; exact hat
   have hga:(Z0f cs)[a]? = some (cs[a].name,cs[a].kids):=by rw [Z2a hda,if_pos htk]
   obtain ⟨x,hxx⟩:∃ x,cls[a]? = some x:=⟨_,List.getElem?_eq_getElem (by omega)⟩
   have hnx:=Zls (cls:=cls) (nds:=Z0f cs) ha
   have hst:Z2k cls (Z0f cs) (outF cls (Z0f cs) (L.take j)) a = if x < (outF cls (Z0f cs) (L.take j)).length then outF cls (Z0f cs) (L.take j) else outF cls (Z0f cs) (L.take j) ++ [Z45 cls (cs[a].name,cs[a].kids)]:=by
    unfold Z2k
    rw [hxx,hga]
   rw [hst] at hnx
   rcases hL7.keep hd'.Z0g with ⟨_,e0⟩ | ⟨bl,ol,cl,cellsl,rfl,hbl,hcsl,hlel,hell⟩
   ·have:L = []:=by simpa using e0
    rw [this] at hlt
    simp at hlt
   rw [List.length_map] at t48
   have hgl:=hell j (a:Int) (by rw [List.getElem?_map,ha]; rfl)
   rcases hC7.keep hd'.Z0g with ⟨e0,_⟩ | ⟨bx,ox,cx,cellsx,ex,hbx,hcsx,hlex,helx⟩
   ·have:cs.length = 0:=by simpa using e0
    omega
   have hbx':Bx = bx:=(AVal.slice.inj ex).1
   have hox':0 = ox:=(AVal.slice.inj ex).2.1
   subst hbx' hox'
   have hgx:=helx a x hxx
   rw [Nat.zero_add] at hgx
   rcases hN7.keep hd'.Z0g with ⟨e0,_⟩ | ⟨bn,on,cn,cellsn,en,hbn,hcsn,hlen,heln⟩
   ·have:cs.length = 0:=by simpa using e0
    omega
   have hbn':pn = bn:=(AVal.slice.inj en).1
   have hon':0 = on:=(AVal.slice.inj en).2.1
   subst hbn' hon'
   obtain ⟨hgn,_⟩:=heln a _ hga
   rw [Nat.zero_add] at hgn
   simp [hlt]
   refine AM.wp_skip ?_
   simp
   refine AM.wp_seq ?_
   refine AM.wp_block ?_
   refine Z00 ?_
   simp [t48,t50,hlt,hcsl,hgl]
   refine AM.wp_seq ?_
   refine Z00 ?_
   simp [t9,t10,han,hcsx,hgx,hd'.c 0 rfl,hM.ntup,hM.len]
   refine AM.Z03 ?_
   by_cases hxl:x < ((outF cls (Z0f cs) (L.take j)).length:Int)
   ·rw [if_pos hxl] at hnx
    simp [hxl]
    refine AM.wp_exit ?_
    simp
    refine AM.wp_region ?_
    simp [t50,hwr]
    refine ⟨L.length - (j + 1),by omega,j + 1,by omega,by omega,by simp [t4],by simp [t7],by simp [t9],by simp [t10],by simp [t48],by simp [t49],by simp,nv,mn,by rw [hnx]; exact hM,by rw [hnx]; exact h60,hd'⟩
   ·rw [if_neg hxl] at hnx
    simp [hxl]
    refine AM.wp_skip ?_
    simp
    refine AM.wp_seq ?_
    refine Z00 ?_
    simp [t10,hd'.c 0 rfl,hM.ntup,hM.len]
    refine AM.Z03 ?_
    by_cases h6:(outF cls (Z0f cs) (L.take j)).length = 60
    ·have hgt:60 < (outF cls (Z0f cs) L).length:=by
      have:=Zg7 cls (Z0f cs) L (j + 1)
      rw [hnx] at this
      simp at this
      omega
     rw [if_pos hgt] at q
     have h6':((outF cls (Z0f cs) (L.take j)).length:Int) = 60:=by omega
     simp [h6,h6']
     refine Z00 ?_
     have e1:=hout hd'
     simp [t4,e1.o 0 rfl]
     have e2:=e1.put 0 rfl (C [.nilSlice,.int .i64 0])
     simp only [List.set_cons_zero] at e2
     generalize s'.put B4 (.cells [.nilSlice,.int .i64 0] false) = s9 at e2 ⊢
     refine AM.wp_ret ?_
     simp [t4,e2.c 0 rfl]
     refine q .nilSlice [] s9 (.inl ⟨rfl,rfl,rfl⟩) ?_
     have:=(hend (nv:=nv) (x:=mn) e2)
     exact this.sub (List.sublist_append_right mn _)
    ·have h6':¬ ((outF cls (Z0f cs) (L.take j)).length:Int) = 60:=by omega
     simp [h6,h6']
     refine AM.wp_skip ?_
     simp
     refine Z00 ?_
     simp [t7,han,hcsn,hgn]
     have d1:=(hd'.alloc (C [.str [],.nilSlice])).put 0 rfl (C [.str cs[a].name,.nilSlice])
     simp only [List.set_cons_zero] at d1
     generalize (s'.alloc (.cells [.str [],.nilSlice] false)).put s'.next (.cells [.str cs[a].name,.nilSlice] false) = sA at d1 ⊢
     generalize s'.next = B13 at d1 ⊢
     refine AM.wp_seq ?_
     obtain ⟨hk4,hkin⟩:=hkidsG a _ hga
     rw [Z0t] at hkin
     refine Zwr (nd:=(cs[a].name,cs[a].kids)) (a:=a) (B13:=B13) (nm:=cs[a].name) (pn:=pn) (n:=cs.length) (c1:=.lim cs.length) (cv:=.slice Bx 0 cs.length (.lim cs.length)) hN7 (Z0t cs) hC7 hcl hga hk4 hkin d1 (by simp [t7]) (by simp) (by simp [t9]) (by simp) fun t2 sB kv mk hF2 hgk d2 => ?_
     simp
     have w10:PT.get (posOf 10) t2 = some (.ptr B10 0):=(hF2 10 (by simp)).trans (by simp [t10])
     have w13:PT.get (posOf 13) t2 = some (.ptr B13 0):=(hF2 13 (by simp)).trans (by simp)
     have d3:=d2.perm (m':=(B13,C [.str cs[a].name,kv]) :: (B10,C [nv,.int .i64 0]) :: (mk ++ mn)) (List.Perm.cons _ List.perm_middle)
     refine AM.wp_region ?_
     simp [w10,w13,d3.c 0 rfl,d3.c 1 rfl,hM.ntup,hM.cells,hgk.ntup,hgk.cells,Z1p,srcP]
     have d4:=d3.alloc (C [.str cs[a].name,kv])
     generalize sB.alloc (.cells [.str cs[a].name,kv] false) = sC at d4 ⊢
     generalize sB.next = T2 at d4 ⊢
     refine Zlm (pre:=[(T2,C [.str cs[a].name,kv]),(B13,C [.str cs[a].name,kv]),(B10,C [nv,.int .i64 0])]) (mk:=mk) (mn:=mn) (r:=[]) (ns:=outF cls (Z0f cs) (L.take j)) (ks:=(Z45 cls (cs[a].name,cs[a].kids)).2) (by simpa using d4) hM hgk.row (by omega) fun nv' mn' sD hM' d5 => ?_
     have hM':Z3a nv' (outF cls (Z0f cs) (L.take (j + 1))) mn':=by rw [hnx]; exact hM'
     simp only [List.cons_append,List.nil_append,List.append_nil] at d5
     simp [hM'.ntup,hM'.cells,d5.o 2 rfl]
     have d6:=(d5.put 2 rfl (C [nv',.int .i64 0])).tail.tail
     simp only [List.set_cons_succ,List.set_cons_zero] at d6
     refine AM.wp_region ?_
     have w50:=(hF2 50 (by simp))
     simp [t50] at w50
     simp [w50,hwr]
     refine ⟨L.length - (j + 1),by omega,j + 1,by omega,by omega,?_,?_,?_,by simp [w10],?_,?_,rfl,nv',mn',hM',?_,d6⟩
     ·rw [hF2 4 (by simp)]; simp [t4]
     ·rw [hF2 7 (by simp)]; simp [t7]
     ·rw [hF2 9 (by simp)]; simp [t9]
     ·rw [hF2 48 (by simp)]; simp [t48]
     ·rw [hF2 49 (by simp)]; simp [t49]
     ·rw [hnx]
      simp
      omega
  ·simp [hlt]
   refine AM.wp_exit ?_
   simp
   have hje:j = L.length:=by omega
   subst hje
   rw [List.take_length] at hM h60
   rw [if_neg (by omega)] at q
   have e1:=hout hd'
   refine Z00 ?_
   simp [t4,t10,e1.c 1 rfl,e1.o 0 rfl,hM.ntup,hM.cells]
   have e2:=e1.put 0 rfl (C [nv,.int .i64 0])
   simp only [List.set_cons_zero] at e2
   generalize s'.put B4 (.cells [nv,.int .i64 0] false) = s9 at e2 ⊢
   refine AM.wp_ret ?_
   simp [t4,e2.c 0 rfl]
   exact q nv mn s9 hM (hend (nv:=nv) e2)
def kidG (ns:List ND) (a:Nat):List Nat:=match ns[a]? with
 | some nd => nd.2.map Int.toNat
 | none => []
theorem Zee {ns:List ND} {a:Nat} {nd:ND} (h:ns[a]? = some nd):kidG ns a = nd.2.map Int.toNat:=by unfold kidG; rw [h]
def GrOk (ns:List ND):Prop:=∀ nd ∈ ns,nd.2.length ≤ 4∧∀ k ∈ nd.2,0 ≤ k∧k < ns.length
theorem GrOk.Zdi {ns:List ND} (h:GrOk ns):∀ a,a < ns.length→∀ k ∈ kidG ns a,k < ns.length:=by
 intro a ha k hk
 rw [Zee (List.getElem?_eq_getElem ha)] at hk
 obtain ⟨x,hx,rfl⟩:=List.mem_map.1 hk
 have:=(h _ (List.getElem_mem ha)).2 x hx
 omega
section
variable {s0 s:St} {fr:FI} {t0:PT AVal} {ns:List ND} {nv lv rv:AVal} {n:Nat} {Bm:Pos} {v:List Nat} {mg:Lets} {Q:Ex→PT AVal→St→Prop}
theorem Zw8 {i a:Nat} (hN:Z1i s0 nv ns) (hO:GrOk ns) (hmax:ns.length ≤ 1000) (hg:Z1d lv (nats v) mg) (hnd:v.Nodup) (hlt:∀ x ∈ v,x < ns.length) (hi:v[i]? = some a)
  (hc:Ctx s0 (fun _ => False) ((Bm,C (metL ns.length v)) :: mg) s)
  (t0':PT.get (posOf 0) t0 = some nv) (t5:PT.get (posOf 5) t0 = some (.slice Bm 0 ns.length (.lim ns.length))) (t6:PT.get (posOf 6) t0 = some lv) (t9:PT.get (posOf 9) t0 = some (.int .i64 i))
  (q:∀ t s' lv' mg',Fr [6,11,48,49,50,51,58] t0 t→PT.get (posOf 6) t = some lv'→Z1d lv' (nats (Z0d v (kidG ns a))) mg'→Ctx s0 (fun _ => False) ((Bm,C (metL ns.length (Z0d v (kidG ns a)))) :: mg') s'→Q .normal t s'):wp Tryd.prog Zu4 fr t0 s Q:=by
 have hil:i < v.length:=(List.getElem?_eq_some_iff.1 hi).1
 have ha:=hlt a (List.mem_of_getElem? hi)
 have hnda:ns[a]? = some ns[a]:=List.getElem?_eq_getElem ha
 obtain ⟨h4,hin⟩:=hO _ (List.getElem_mem ha)
 have hkg:=Zee hnda
 rcases hN.keep hc.Z0g with ⟨_,e⟩ | ⟨b,o,c,cs,rfl,hb,hcs,hle,hel⟩
 ·rw [e] at ha
  simp at ha
 obtain ⟨_,kv,g2,g3⟩:=hel a _ hnda
 rcases hg with ⟨e,_⟩ | ⟨qb,hne,rfl,rfl⟩
 ·have:v = []:=by simpa using e
  rw [this] at hil
  simp at hil
 have hvq:(ints (nats v))[i]? = some (.int .i64 a):=by unfold ints; rw [List.getElem?_map,List.getElem?_map,hi]; rfl
 obtain ⟨iv,hiv⟩:∃ x,x = ints (nats v):=⟨_,rfl⟩
 have hq:=hc.c 1 rfl
 rw [← hiv] at hvq hq
 rw [List.length_map] at t6
 refine Z00 ?_
 simp [t0',t6,t9,hil,hq,hvq,ha,hcs,g2,g3.ntup,g3.len]
 refine AM.wp_block ?_
 refine AM.wp_loop (fun m t s' => ∃ (j:Nat) (lv':AVal) (mg':Lets),j ≤ ns[a].2.length∧m = ns[a].2.length - j∧Fr [6,11,48,49,50,51,58] t0 t∧PT.get (posOf 6) t = some lv'∧PT.get (posOf 48) t = some kv∧PT.get (posOf 49) t = some (.int .i64 ns[a].2.length)∧PT.get (posOf 50) t = some (.int .i64 j) ∧
   Z1d lv' (nats (Z0d v ((kidG ns a).take j))) mg'∧(Z0d v ((kidG ns a).take j)).Nodup∧(∀ x ∈ Z0d v ((kidG ns a).take j),x < ns.length)∧Ctx s0 (fun _ => False) ((Bm,C (metL ns.length (Z0d v ((kidG ns a).take j)))) :: mg') s') ns[a].2.length
  ⟨0,.slice qb 0 v.length (.opn 1),[(qb,C (ints (nats v)))],by simp,by simp,?_,by simp [t6],by simp,by simp,by simp,.inr ⟨qb,by simpa [Z0d] using hne,by simp [Z0d],by simp [Z0d]⟩,by simpa [Z0d] using hnd,by simpa [Z0d] using hlt,by simpa [Z0d] using hc⟩ ?_
 ·intro y hy
  simp at hy
  simp [hy]
 rintro m t s' ⟨j,lv',mg',hj,rfl,hF,t6',t48,t49,t50,hg',hnd',hlt',hc'⟩
 refine Z00 ?_
 simp [t49,t50]
 refine AM.wp_seq ?_
 refine AM.Z03 ?_
 by_cases hlj:j < ns[a].2.length
 ·have hwr:IntKind.wrap .i64 ((j:Int) + 1) = ((j + 1:Nat):Int):=by rw [IntWalk.i64_in _ (by omega)]; omega
  obtain ⟨kk,hkk⟩:∃ kk,ns[a].2[j]? = some kk:=⟨_,List.getElem?_eq_getElem hlj⟩
  obtain ⟨kk0,kk1⟩:=hin kk (List.mem_of_getElem? hkk)
  obtain ⟨kn,rfl⟩:∃ kn:Nat,kk = (kn:Int):=⟨kk.toNat,by omega⟩
  have hkn:kn < ns.length:=by omega
  have hkN:(kidG ns a)[j]? = some kn:=by rw [hkg,List.getElem?_map,hkk]; rfl
  have u5:=(hF 5 (by simp)).trans t5
  rcases hN.keep hc'.Z0g with ⟨_,e⟩ | ⟨b',o',c',cs',e,hb',hcs',hle',hel'⟩
  ·rw [e] at ha
   simp at ha
  cases e
  obtain ⟨_,kv',e2,e3⟩:=hel' a _ hnda
  have hcs2:cs' = cs:=by
   rcases hN with ⟨_,e⟩ | ⟨b3,o3,c3,cs3,e,hb3,hcs3,_⟩
   ·rw [e] at ha
    simp at ha
   cases e
   have h1:=hc'.Z0g.cells hb3
   have h2:=hc.Z0g.cells hb3
   rw [hcs'] at h1
   rw [hcs] at h2
   rw [← h2] at h1
   exact Option.some.inj h1
  subst hcs2
  rw [g2] at e2
  cases e2
  rcases e3 with ⟨_,h0⟩ | ⟨b4,o4,c4,cells4,rfl,hb4,hcs4,hle4,hel4⟩
  ·rw [h0] at hlj
   simp at hlj
  have hgk:=hel4 j _ hkk
  have hmet:=Z60 (Z0d v ((kidG ns a).take j)) hkn
  have hnx:=Zh2 (v:=v) hkN
  simp [hlj]
  refine AM.wp_skip ?_
  simp
  refine AM.wp_seq ?_
  refine AM.wp_block ?_
  refine Z00 ?_
  simp [t48,t50,hlj,hcs4,hgk]
  refine Z00 ?_
  simp [u5,hkn,hc'.c 0 rfl,hmet]
  refine AM.Z03 ?_
  have hvl:=Z2w hnd' hlt'
  by_cases hm:kn ∈ Z0d v ((kidG ns a).take j)
  ·have hadd:addN (Z0d v ((kidG ns a).take j)) kn = Z0d v ((kidG ns a).take j):=by unfold addN; rw [if_pos hm]
   rw [hadd] at hnx
   simp [hm]
   refine AM.wp_skip ?_
   simp
   refine AM.wp_region ?_
   simp [t50,hwr]
   refine ⟨ns[a].2.length - (j + 1),by omega,j + 1,by omega,by omega,?_,lv',by simp [t6'],by simp [t48],by simp [t49],by simp,mg',by rw [hnx]; exact hg',by rw [hnx]; exact hnd',by rw [hnx]; exact hlt',by rw [hnx]; exact hc'⟩
   intro y hy
   simp at hy
   simp [hy]
   exact hF y (by simp [hy])
  ·have hadd:addN (Z0d v ((kidG ns a).take j)) kn = Z0d v ((kidG ns a).take j) ++ [kn]:=by unfold addN; rw [if_neg hm]
   have hset:=Zeh hkn hm
   have hle5:kn + 1 ≤ (metL ns.length (Z0d v ((kidG ns a).take j))).length:=by rw [Z3p]; omega
   have hnd2:=Z91 (k:=kn) hnd'
   have hlt2:=Zdc hlt' hkn
   rw [← hnx] at hset hnd2 hlt2
   simp [lay] at hset
   simp [hm]
   refine Z00 ?_
   simp [u5,hkn,hc'.o 0 rfl,hle5]
   rw [hset]
   have d1:=hc'.put 0 rfl (C (metL ns.length (Z0d v ((kidG ns a).take (j + 1)))))
   simp only [List.set_cons_zero] at d1
   generalize s'.put Bm (.cells (metL ns.length (Z0d v ((kidG ns a).take (j + 1)))) false) = s1 at d1 ⊢
   refine AM.wp_region ?_
   simp [t6',hg'.ntup,Z1p,srcP]
   have d2:=d1.alloc (C [.int .i64 kn])
   generalize s1.alloc (.cells [.int .i64 kn] false) = s2 at d2 ⊢
   generalize s1.next = T at d2 ⊢
   refine Z5c (pre:=[(T,C [.int .i64 kn]),(Bm,C (metL ns.length (Z0d v ((kidG ns a).take (j + 1)))))]) (r:=[]) (by simpa using d2) hg' (by simp; omega) fun lv2 mg2 s3 hg2 d3 => ?_
   simp only [List.cons_append,List.nil_append,List.append_nil] at d3
   have hg2':Z1d lv2 (nats (Z0d v ((kidG ns a).take (j + 1)))) mg2:=by
    rw [hnx,hadd]
    simpa using hg2
   refine AM.wp_region ?_
   simp [t50,hwr]
   refine ⟨ns[a].2.length - (j + 1),by omega,j + 1,by omega,by omega,?_,by simp [t48],by simp [t49],by simp,mg2,hg2',hnd2,hlt2,d3.tail⟩
   intro y hy
   simp at hy
   simp [hy]
   exact hF y (by simp [hy])
 ·simp [hlj]
  refine AM.wp_exit ?_
  simp
  have hje:j = ns[a].2.length:=by omega
  subst hje
  have htk:(kidG ns a).take ns[a].2.length = kidG ns a:=List.take_of_length_le (by rw [hkg]; simp)
  rw [htk] at hg' hc'
  refine q _ s' lv' mg' ?_ (by simp [t6']) hg' hc'
  intro y hy
  simp at hy
  simp [hy]
  exact hF y (by simp [hy])
end
section
variable {s0 s:St} {fr:FI} {t0:PT AVal} {ns:List ND} {nv lv rv:AVal} {n:Nat} {Bm:Pos} {v:List Nat} {mg:Lets}
theorem Zqd {i:Nat} {Q:Ex→PT AVal→St→Prop} (hN:Z1i s0 nv ns) (hO:GrOk ns) (hmax:ns.length ≤ 1000) (hg:Z1d lv (nats v) mg) (hnd:v.Nodup) (hlt:∀ x ∈ v,x < ns.length) (hi:i ≤ ns.length)
  (hc:Ctx s0 (fun _ => False) ((Bm,C (metL ns.length v)) :: mg) s)
  (t0':PT.get (posOf 0) t0 = some nv) (t5:PT.get (posOf 5) t0 = some (.slice Bm 0 ns.length (.lim ns.length))) (t6:PT.get (posOf 6) t0 = some lv) (t9:PT.get (posOf 9) t0 = some (.int .i64 i))
  (q:∀ t s' lv' mg',Fr [6,9,11,38,48,49,50,51,58] t0 t→PT.get (posOf 6) t = some lv'→Z1d lv' (nats (runB (kidG ns) (ns.length + 1 - i) v i)) mg'→Ctx s0 (fun _ => False) ((Bm,C (metL ns.length (runB (kidG ns) (ns.length + 1 - i) v i))) :: mg') s'→Q .normal t s'):wp Tryd.prog Zu3 fr t0 s Q:=by
 refine AM.wp_block ?_
 refine AM.wp_loop (fun k t s' => ∃ (j:Nat) (u:List Nat) (lv':AVal) (mg':Lets),j ≤ ns.length∧k = ns.length + 1 - j∧Fr [6,9,11,38,48,49,50,51,58] t0 t∧PT.get (posOf 6) t = some lv'∧PT.get (posOf 9) t = some (.int .i64 j)∧runB (kidG ns) (ns.length + 1 - i) v i = runB (kidG ns) (ns.length + 1 - j) u j ∧
   Z1d lv' (nats u) mg'∧u.Nodup∧(∀ x ∈ u,x < ns.length)∧Ctx s0 (fun _ => False) ((Bm,C (metL ns.length u)) :: mg') s') (ns.length + 1 - i) ⟨i,v,lv,mg,hi,rfl,fun y _ => rfl,t6,t9,rfl,hg,hnd,hlt,hc⟩ ?_
 rintro k t s' ⟨j,u,lv',mg',hj,rfl,hF,t6',t9',hrun,hg',hnd',hlt',hc'⟩
 have hul:=Z2w hnd' hlt'
 have u0:=(hF 0 (by simp)).trans t0'
 have u5:=(hF 5 (by simp)).trans t5
 refine AM.wp_seq ?_
 refine Z00 ?_
 have hgl:=hg'.len
 rw [List.length_map] at hgl
 simp [t6',t9',hg'.ntup,hgl]
 refine AM.Z03 ?_
 by_cases hjl:j < u.length
 ·obtain ⟨a,ha⟩:∃ a,u[j]? = some a:=⟨_,List.getElem?_eq_getElem hjl⟩
  have hwr:IntKind.wrap .i64 ((j:Int) + 1) = ((j + 1:Nat):Int):=by rw [IntWalk.i64_in _ (by omega)]; omega
  simp [hjl]
  refine AM.wp_skip ?_
  simp
  refine AM.wp_seq ?_
  refine AM.wp_block ?_
  refine Zw8 hN hO hmax hg' hnd' hlt' ha hc' (by simp [u0]) (by simp [u5]) (by simp [t6']) (by simp [t9']) fun t2 s2 lv2 mg2 hF2 g6 hg2 hc2 => ?_
  have g9:PT.get (posOf 9) t2 = some (.int .i64 j):=(hF2 9 (by simp)).trans (by simp [t9'])
  obtain ⟨b1,b2⟩:=Zaf hnd' hlt' (hO.Zdi a (hlt' a (List.mem_of_getElem? ha)))
  simp
  refine AM.wp_region ?_
  simp [g9,g6,hwr]
  refine ⟨ns.length + 1 - (j + 1),by omega,j + 1,by omega,by omega,?_,by simp,Z0d u (kidG ns a),?_,mg2,hg2,b1,b2,hc2⟩
  ·intro y hy
   simp at hy
   simp [hy]
   rw [hF2 y (by simp [hy])]
   simp [hy]
   exact hF y (by simp [hy])
  ·rw [hrun,Zm1 hj ha]
 ·simp [hjl]
  refine AM.wp_exit ?_
  simp
  rw [hrun,Zm0 (by omega)] at q
  refine q _ s' lv' mg' ?_ (by simp [t6']) hg' hc'
  intro y hy
  simp at hy
  simp [hy]
  exact hF y (by simp [hy])
theorem Zmw {roots:List Nat} {Q:AVal→St→Prop} (hwf:s.Wf) (hN:Z1i s nv ns) (hO:GrOk ns) (hmax:ns.length ≤ 1000) (hrv:Z0h s rv (nats roots)) (hrl:roots.length ≤ 1000) (hr:∀ a ∈ roots,a < ns.length)
  (q:∀ lv mg s',Z1d lv (nats (bfsF (kidG ns) ns.length roots)) mg→Ctx s (fun _ => False) mg s'→Q lv s'):Z0c Tryd.prog 69 [nv,rv] s Q:=by
 have hz1:ns.length ≤ Z0n:=by unfold Z0n; omega
 have hrlen:=hrv.len
 rw [List.length_map] at hrlen
 refine Z08 (Z0i (by decide)) fi69 rfl (by decide) rfl ?_
 refine Z00 ?_
 simp
 refine Z00 ?_
 simp [hN.ntup,hN.len,hz1]
 have c1:=(Ctx.start (fun _ => False) hwf).alloc (C (List.replicate ns.length (.bool false)))
 generalize s.alloc (.cells (List.replicate ns.length (.bool false)) false) = s1 at c1 ⊢
 generalize s.next = Bm at c1 ⊢
 have hm0:List.replicate ns.length (AVal.bool false) = metL ns.length []:=by
  refine List.ext_getElem? fun j => ?_
  by_cases hj:j < ns.length
  ·rw [Z60 _ hj,List.getElem?_replicate,if_pos hj]
   simp
  ·rw [List.getElem?_eq_none (by simp; omega),List.getElem?_eq_none (by rw [Z3p]; omega)]
 rw [hm0] at c1
 refine Z00 ?_
 simp
 refine AM.wp_seq ?_
 refine Z00 ?_
 simp [hrv.ntup,hrlen]
 refine AM.wp_block ?_
 refine AM.wp_loop (fun k t s' => ∃ (j:Nat) (lv:AVal) (mg:Lets),j ≤ roots.length∧k = roots.length - j∧PT.get (posOf 0) t = some nv∧PT.get (posOf 5) t = some (.slice Bm 0 ns.length (.lim ns.length))∧PT.get (posOf 6) t = some lv∧PT.get (posOf 15) t = some rv∧PT.get (posOf 16) t = some (.int .i64 roots.length)∧PT.get (posOf 17) t = some (.int .i64 j) ∧
   Z1d lv (nats (bfsF (kidG ns) ns.length (roots.take j))) mg∧Ctx s (fun _ => False) ((Bm,C (metL ns.length (bfsF (kidG ns) ns.length (roots.take j)))) :: mg) s') roots.length
  ⟨0,.nilSlice,[],by simp,by simp,by simp,by simp,by simp,by simp,by simp,by simp,.inl ⟨by simp [bfsF],rfl,rfl⟩,by simpa [bfsF] using c1⟩ ?_
 rintro k t s' ⟨j,lv,mg,hj,rfl,t0',t5,t6,t15,t16,t17,hg,hc⟩
 refine Z00 ?_
 simp [t16,t17]
 refine AM.wp_seq ?_
 refine AM.Z03 ?_
 by_cases hlt:j < roots.length
 ·have hwr:IntKind.wrap .i64 ((j:Int) + 1) = ((j + 1:Nat):Int):=by rw [IntWalk.i64_in _ (by omega)]; omega
  obtain ⟨a,ha⟩:∃ a,roots[j]? = some a:=⟨_,List.getElem?_eq_getElem hlt⟩
  have han:=hr a (List.mem_of_getElem? ha)
  rcases hrv.keep hc.Z0g with ⟨_,h0⟩ | ⟨b,o,c,cells,rfl,hb,hcs,hle,hel⟩
  ·have:roots = []:=by simpa using h0
   rw [this] at hlt
   simp at hlt
  have hgk:=hel j (a:Int) (by rw [List.getElem?_map,ha]; rfl)
  rw [List.length_map] at t15
  have hgl:=hg.len
  rw [List.length_map] at hgl
  obtain ⟨f1,f2,_⟩:=Zhr (n:=ns.length) hO.Zdi (roots.take j) (fun x hx => hr x (List.mem_of_mem_take hx))
  have hful:=Z2w f1 f2
  have hmet:=Z60 (bfsF (kidG ns) ns.length (roots.take j)) han
  have hnx:bfsF (kidG ns) ns.length (roots.take (j + 1)) = runB (kidG ns) (ns.length + 1 - (bfsF (kidG ns) ns.length (roots.take j)).length) (addN (bfsF (kidG ns) ns.length (roots.take j)) a) (bfsF (kidG ns) ns.length (roots.take j)).length:=by
   unfold bfsF
   rw [List.take_add_one,ha,List.foldl_append]
   rfl
  generalize hv:bfsF (kidG ns) ns.length (roots.take j) = v at hg hc hgl f1 f2 hful hmet hnx
  simp [hlt]
  refine AM.wp_skip ?_
  simp
  refine AM.wp_seq ?_
  refine AM.wp_block ?_
  refine Z00 ?_
  simp [t15,t17,hlt,hcs,hgk]
  refine Z00 ?_
  simp [t6,hg.ntup,hgl]
  refine AM.wp_seq ?_
  refine Z00 ?_
  simp [t5,han,hc.c 0 rfl,hmet]
  refine AM.Z03 ?_
  by_cases hm:a ∈ v
  ·have hadd:addN v a = v:=by unfold addN; rw [if_pos hm]
   rw [hadd] at hnx
   simp [hm]
   refine AM.wp_skip ?_
   simp
   refine Zqd (i:=v.length) hN hO hmax hg f1 f2 hful hc (by simp [t0']) (by simp [t5]) (by simp [t6]) (by simp) fun t2 s2 lv2 mg2 hF2 g6 hg2 hc2 => ?_
   rw [← hnx] at hg2 hc2
   have g17:PT.get (posOf 17) t2 = some (.int .i64 j):=(hF2 17 (by simp)).trans (by simp [t17])
   simp
   refine AM.wp_region ?_
   simp [g17,g6,hwr]
   refine ⟨roots.length - (j + 1),by omega,j + 1,by omega,by omega,?_,?_,?_,?_,rfl,mg2,hg2,hc2⟩
   ·rw [hF2 0 (by simp)]; simp [t0']
   ·rw [hF2 5 (by simp)]; simp [t5]
   ·rw [hF2 15 (by simp)]; simp [t15]
   ·rw [hF2 16 (by simp)]; simp [t16]
  ·have hadd:addN v a = v ++ [a]:=by unfold addN; rw [if_neg hm]
   have hset:=Zeh han hm
   have hle5:a + 1 ≤ (metL ns.length v).length:=by rw [Z3p]; omega
   have hnd2:=Z91 (k:=a) f1
   have hlt2:=Zdc f2 han
   simp [lay] at hset
   simp [hm]
   refine AM.wp_seq ?_
   refine AM.wp_region ?_
   simp [t5,han,hc.o 0 rfl,hle5]
   rw [hset]
   have d1:=hc.put 0 rfl (C (metL ns.length (addN v a)))
   simp only [List.set_cons_zero] at d1
   generalize s'.put Bm (.cells (metL ns.length (addN v a)) false) = s2 at d1 ⊢
   refine AM.wp_region ?_
   simp [t6,hg.ntup,Z1p,srcP]
   have d2:=d1.alloc (C [.int .i64 a])
   generalize s2.alloc (.cells [.int .i64 a] false) = s3 at d2 ⊢
   generalize s2.next = T at d2 ⊢
   refine Z5c (pre:=[(T,C [.int .i64 a]),(Bm,C (metL ns.length (addN v a)))]) (r:=[]) (by simpa using d2) hg (by simp; omega) fun lv2 mg2 s4 hg2 d3 => ?_
   simp only [List.cons_append,List.nil_append,List.append_nil] at d3
   have hg2':Z1d lv2 (nats (addN v a)) mg2:=by
    rw [hadd]
    simpa using hg2
   refine Zqd (i:=v.length) hN hO hmax hg2' hnd2 hlt2 hful d3.tail (by simp [t0']) (by simp [t5]) (by simp) (by simp) fun t2 s5 lv5 mg5 hF2 g6 hg5 hc5 => ?_
   rw [← hnx] at hg5 hc5
   have g17:PT.get (posOf 17) t2 = some (.int .i64 j):=(hF2 17 (by simp)).trans (by simp [t17])
   simp
   refine AM.wp_region ?_
   simp [g17,g6,hwr]
   refine ⟨roots.length - (j + 1),by omega,j + 1,by omega,by omega,?_,?_,?_,?_,rfl,mg5,hg5,hc5⟩
   ·rw [hF2 0 (by simp)]; simp [t0']
   ·rw [hF2 5 (by simp)]; simp [t5]
   ·rw [hF2 15 (by simp)]; simp [t15]
   ·rw [hF2 16 (by simp)]; simp [t16]
 ·simp [hlt]
  refine AM.wp_exit ?_
  simp
  have hje:j = roots.length:=by omega
  subst hje
  rw [List.take_length] at hg hc
  refine Z00 ?_
  simp [t6,hg.ntup]
  refine AM.wp_ret ?_
  simp
  exact q lv mg s' hg hc.tail
end
theorem Zwf {fr:FI} {s0 s:St} {t0:PT AVal} {p Bn Bk:Pos} {nds:List (List UInt8 × List Int)} {nd:List UInt8 × List Int} {a:Nat} {now:List Int} {c0 c1:Cap} {Q:Ex→PT AVal→St→Prop}
  (hN:NodesG s0 p nds) (hk0:Keeps s0 s) (hnd:nds[a]? = some nd) (h4:nd.2.length ≤ 4) (hin:∀ k ∈ nd.2,0 ≤ k∧k < nds.length) (hlen:now.length = nds.length)
  (h0:PT.get (posOf 0) t0 = some (.slice p 0 nds.length c0)) (h11:PT.get (posOf 12) t0 = some (.int .i64 a)) (h5:PT.get (posOf 6) t0 = some (.slice Bn 0 nds.length c1)) (h12:PT.get (posOf 13) t0 = some (.ptr Bk 0))
  (hBn:s.cells Bn = some (now.map fun k => .int .i64 k)) (hob:s.Old Bn) (hne:Bn ≠ Bk) (hBk:s.own Bk = some (sgK now nd 0).cells) (hoBk:s.Old Bk) (hfr:¬ s0.Old Bk)
  (q:∀ t s',Fr [14,15,56,57,58,59] t0 t→Same [Bk] s s'→s'.own Bk = some (sgK now nd 4).cells→Q .normal t s'):wp Tryd.prog Zu8 fr t0 s Q:=by
 have hf:∀ b ∈ [Bk],¬ s0.Old b:=by simpa using hfr
 obtain ⟨cs,hcs,hle,hel⟩:=(hN.keep hk0).ex
 obtain ⟨hel0,kv,hel1,hkv⟩:=hel a nd hnd
 have ha:a < nds.length:=(List.getElem?_eq_some_iff.1 hnd).1
 have hkv0:Z0h s0 kv nd.2:=by
  obtain ⟨cs0,hcs0,_,hel00⟩:=hN.ex
  have e:cs0 = cs:=by
   have:=hk0.cells hN.old
   rw [hcs,hcs0] at this
   exact (Option.some.inj this).symm
  subst e
  obtain ⟨_,kv',h1,h2⟩:=hel00 a nd hnd
  rw [hel1] at h1
  cases h1
  exact h2
 refine Z00 ?_
 simp [h0,h11,ha,hcs,hel1,hkv.len]
 refine AM.wp_block ?_
 refine AM.wp_loop (fun m t s' => ∃ i:Nat,i ≤ nd.2.length∧m = nd.2.length - i∧Fr [14,15,56,57,58,59] t0 t∧PT.get (posOf 56) t = some kv∧PT.get (posOf 57) t = some (.int .i64 nd.2.length)∧PT.get (posOf 58) t = some (.int .i64 i)∧Same [Bk] s s'∧s'.own Bk = some (sgK now nd i).cells) nd.2.length ⟨0,by simp,by simp,?_,by simp,by simp,by simp,Same.refl _ _,hBk⟩ ?_
 ·intro x hx
  simp at hx
  simp [hx]
 rintro m t s' ⟨i,hi,rfl,hF,t55,t56,t57,hS,hO⟩
 refine Z00 ?_
 simp [t56,t57]
 refine AM.wp_seq ?_
 refine AM.Z03 ?_
 by_cases hlt:i < nd.2.length
 ·obtain ⟨k,hk⟩:∃ k,nd.2[i]? = some k:=⟨_,List.getElem?_eq_getElem hlt⟩
  obtain ⟨hk1,hk2⟩:=hin k (List.mem_of_getElem? hk)
  obtain ⟨x,hx⟩:∃ x,now[k.toNat]? = some x:=⟨_,List.getElem?_eq_getElem (by omega)⟩
  have hwr:IntKind.wrap .i64 ((i:Int) + 1) = ((i + 1:Nat):Int):=by rw [IntWalk.i64_in _ (by omega)]; omega
  have hkeep:Keeps s0 s':=Same.keeps hk0 hS hf
  have hBn':s'.cells Bn = some (now.map fun k => .int .i64 k):=(hS.cells (by simpa using hne) hob).trans hBn
  have hgx:(now.map fun k => AVal.int .i64 k)[k.toNat]? = some (.int .i64 x):=by rw [List.getElem?_map,hx]; rfl
  have hlay:lay (sgK now nd i).cells (2 + i) [.int .i64 x] = (sgK now nd (i + 1)).cells:=Zvu (nm:=nd.1) (by omega) hk hx
  have hsl:2 + i + 1 ≤ (sgK now nd i).cells.length:=by simp [sgK,Key.cells,Za0]; omega
  have hi4:(i:Int) < 4:=by omega
  simp [lay] at hlay
  have t5:=(hF 6 (by simp)).trans h5
  have t12:=(hF 13 (by simp)).trans h12
  rcases hkv0.keep hkeep with ⟨_,e0⟩ | ⟨b,o,c,ks,rfl,hb,hks,hle2,hel2⟩
  ·rw [e0] at hlt
   simp at hlt
  have hg:=hel2 i k hk
  simp [hlt]
  refine AM.wp_skip ?_
  simp
  refine AM.wp_seq ?_
  refine AM.wp_block ?_
  refine Z00 ?_
  simp [t55,t57,hlt,hks,hg]
  refine AM.wp_region ?_
  simp [t5,t12,hk1,hk2,hBn',hgx,hO]
  refine ⟨hi4,hsl,?_⟩
  rw [hlay]
  refine AM.wp_region ?_
  simp [t57,hwr]
  refine ⟨nd.2.length - (i + 1),by omega,i + 1,by omega,by omega,?_,by simp [t55],by simp [t56],by simp,?_,by simp⟩
  ·intro y hy
   simp at hy
   simp [hy]
   exact hF y (by simp [hy])
  ·exact hS.put _ (by simp) (hS.old hoBk)
 ·simp [hlt]
  refine AM.wp_exit ?_
  simp
  have hie:i = nd.2.length:=by omega
  subst hie
  refine q _ s' ?_ hS ?_
  ·intro y hy
   simp at hy
   simp [hy]
   exact hF y (by simp [hy])
  ·rw [hO]
   unfold sgK
   rw [Zow now nd.2 (Nat.le_refl _) h4]
theorem Zwe {fr:FI} {s:St} {t0:PT AVal} {Bx:Pos} {n:Nat} {c2:Cap} {Q:Ex→PT AVal→St→Prop} (hw:s.Wf) (hn:n ≤ 1000)
  (h7:PT.get (posOf 8) t0 = some (.slice Bx 0 n c2)) (hBx:s.own Bx = some ((List.replicate n (0:Int)).map fun k => .int .i64 k))
  (q:∀ t s',Fr [9,25,26,27] t0 t→Same [Bx] s s'→s'.own Bx = some ((List.replicate n (-1:Int)).map fun k => .int .i64 k)→Q .normal t s'):wp Tryd.prog Zu5 fr t0 s Q:=by
 have hoX:s.Old Bx:=Z0b hw hBx
 refine Z00 ?_
 simp [h7]
 refine AM.wp_block ?_
 refine AM.wp_loop (fun m t s' => ∃ i:Nat,i ≤ n∧m = n - i∧Fr [9,25,26,27] t0 t∧PT.get (posOf 25) t = some (.int .i64 n)∧PT.get (posOf 26) t = some (.int .i64 i)∧Same [Bx] s s' ∧
  s'.own Bx = some (List.replicate i (.int .i64 (-1)) ++ List.replicate (n - i) (.int .i64 0))) n ⟨0,by simp,by simp,?_,by simp,by simp,Same.refl _ _,?_⟩ ?_
 ·intro y hy
  simp at hy
  simp [hy]
 ·simpa using hBx
 rintro m t s' ⟨i,hi,rfl,hF,t24,t25,hS,hX⟩
 refine Z00 ?_
 simp [t24,t25]
 refine AM.wp_seq ?_
 refine AM.Z03 ?_
 by_cases hlt:i < n
 ·have hwr:IntKind.wrap .i64 ((i:Int) + 1) = ((i + 1:Nat):Int):=by rw [IntWalk.i64_in _ (by omega)]; omega
  have t7:=(hF 8 (by simp)).trans h7
  have hle:i + 1 ≤ i + (n - i):=by omega
  simp [hlt]
  refine AM.wp_skip ?_
  simp
  refine AM.wp_seq ?_
  refine AM.wp_block ?_
  refine Z00 ?_
  simp [t25]
  refine AM.wp_region ?_
  simp [t7,hlt,hX,hle,Zol]
  refine AM.wp_region ?_
  simp [t25,hwr]
  refine ⟨n - (i + 1),by omega,i + 1,by omega,by omega,?_,by simp [t24],by simp,hS.put _ (by simp) (hS.old hoX),?_⟩
  ·intro y hy
   simp at hy
   simp [hy]
   exact hF y (by simp [hy])
  ·rw [Zom]
 ·simp [hlt]
  refine AM.wp_exit ?_
  simp
  have hie:i = n:=by omega
  subst hie
  refine q _ s' ?_ hS (by simpa using hX)
  intro y hy
  simp at hy
  simp [hy]
  exact hF y (by simp [hy])
theorem Zwd {fr:FI} {s0 s:St} {t0:PT AVal} {p Bn Bx Bm:Pos} {nds:List (List UInt8 × List Int)} {nd:List UInt8 × List Int} {a:Nat} {now nxt:List Int} {c0 c1 c2:Cap} {D:List Key} {Q:Ex→PT AVal→St→Prop}
  (hN:NodesG s0 p nds) (hk0:Keeps s0 s) (hw:s.Wf) (hnd:nds[a]? = some nd) (h4:nd.2.length ≤ 4) (hin:∀ k ∈ nd.2,0 ≤ k∧k < nds.length) (hlen:now.length = nds.length) (hlx:nxt.length = nds.length)
  (h0:PT.get (posOf 0) t0 = some (.slice p 0 nds.length c0)) (h11:PT.get (posOf 12) t0 = some (.int .i64 a)) (h5:PT.get (posOf 6) t0 = some (.slice Bn 0 nds.length c1)) (h7:PT.get (posOf 8) t0 = some (.slice Bx 0 nds.length c2)) (h9:PT.get (posOf 10) t0 = some (.map Bm))
  (hBn:s.cells Bn = some (now.map fun k => .int .i64 k)) (hob:s.Old Bn) (hBx:s.own Bx = some (nxt.map fun k => .int .i64 k)) (hBm:s.obj Bm = some (.map (Z1f 0 D) D.length)) (hD:∀ d ∈ D,d.2.length = 5)
  (hnx:Bn ≠ Bx) (hnm:Bn ≠ Bm) (hxm:Bx ≠ Bm) (hfx:¬ s0.Old Bx) (hfm:¬ s0.Old Bm)
  (q:∀ t s',Fr [12,13,14,15,16,17,40,41,42,43,44,45,46,47,48,49,50,51,56,57,58,59,78] t0 t→Same [Bx,Bm] s s' →
   s'.own Bx = some ((nxt.set a ((addK D (sgK now nd 4)).idxOf (sgK now nd 4):Nat)).map fun k => .int .i64 k)→s'.obj Bm = some (.map (Z1f 0 (addK D (sgK now nd 4))) (addK D (sgK now nd 4)).length)→Q .normal t s'):wp Tryd.prog Zu7 fr t0 s Q:=by
 obtain ⟨cs,hcs,hle,hel⟩:=(hN.keep hk0).ex
 obtain ⟨hel0,kv,hel1,hkv⟩:=hel a nd hnd
 have ha:a < nds.length:=(List.getElem?_eq_some_iff.1 hnd).1
 have hoX:s.Old Bx:=Z0b hw hBx
 have hoM:s.Old Bm:=Z3r hw hBm
 refine Z00 ?_
 simp [h0,h11,ha,hcs,hel0,hel1,hkv.len,hw]
 have hK1:Keeps s ((s.alloc (.cells [.str [],.int .i64 0,.int .i64 0,.int .i64 0,.int .i64 0,.int .i64 0] false)).put s.next (.cells [.str nd.1,.int .i64 nd.2.length,.int .i64 0,.int .i64 0,.int .i64 0,.int .i64 0] false)) :=
  (Keeps.alloc _ _).put _ (Z09 _) (Z18 _ _)
 have hoK:((s.alloc (.cells [.str [],.int .i64 0,.int .i64 0,.int .i64 0,.int .i64 0,.int .i64 0] false)).put s.next (.cells [.str nd.1,.int .i64 nd.2.length,.int .i64 0,.int .i64 0,.int .i64 0,.int .i64 0] false)).Old s.next:=Zgv.2 (Z18 _ _)
 have hwK:((s.alloc (.cells [.str [],.int .i64 0,.int .i64 0,.int .i64 0,.int .i64 0,.int .i64 0] false)).put s.next (.cells [.str nd.1,.int .i64 nd.2.length,.int .i64 0,.int .i64 0,.int .i64 0,.int .i64 0] false)).own s.next = some (sgK now nd 0).cells:=Z7x _ _ _
 generalize (s.alloc (.cells [.str [],.int .i64 0,.int .i64 0,.int .i64 0,.int .i64 0,.int .i64 0] false)).put s.next (.cells [.str nd.1,.int .i64 nd.2.length,.int .i64 0,.int .i64 0,.int .i64 0,.int .i64 0] false) = S1 at hK1 hoK hwK ⊢
 have hfk:¬ s0.Old s.next:=fun h => Z09 s (hk0.old h)
 have hnk:Bn ≠ s.next:=ne_next hob
 have hxk:Bx ≠ s.next:=ne_next hoX
 have hmk:Bm ≠ s.next:=ne_next hoM
 have hsk:¬ s.Old s.next:=Z09 s
 generalize s.next = Bk at hoK hwK hfk hnk hxk hmk hsk ⊢
 refine AM.wp_seq ?_
 refine Zwf (c0:=c0) (c1:=c1) (Bn:=Bn) (Bk:=Bk) hN (hk0.trans hK1) hnd h4 hin hlen (by simp [h0]) (by simp [h11]) (by simp [h5]) (by simp) ((hK1.cells hob).trans hBn) (hK1.old hob) hnk hwK hoK hfk fun t2 s2 hF2 hS2 hO2 => ?_
 have hX2:s2.own Bx = some (nxt.map fun k => .int .i64 k):=((hS2.own (by simpa using hxk) (hK1.old hoX)).trans (hK1.own hoX)).trans hBx
 have hM2:s2.obj Bm = some (.map (Z1f 0 D) D.length):=((hS2.obj Bm (by simpa using hmk) (hK1.old hoM)).trans (hK1.obj Bm hoM)).trans hBm
 have g9:PT.get (posOf 10) t2 = some (.map Bm):=(hF2 10 (by simp)).trans (by simp [h9])
 have g12:PT.get (posOf 13) t2 = some (.ptr Bk 0):=(hF2 13 (by simp)).trans (by simp)
 have g7:PT.get (posOf 8) t2 = some (.slice Bx 0 nds.length c2):=(hF2 8 (by simp)).trans (by simp [h7])
 have g11:PT.get (posOf 12) t2 = some (.int .i64 a):=(hF2 12 (by simp)).trans (by simp [h11])
 have hwf2:s2.Wf:=hS2.wf (hK1.wf hw)
 have hoX2:s2.Old Bx:=hS2.old (hK1.old hoX)
 have hoM2:s2.Old Bm:=hS2.old (hK1.old hoM)
 have hl6:(sgK now nd 4).cells.length = 6:=by simp [sgK,Key.cells,Za0]
 have ht6:(sgK now nd 4).cells.take 6 = (sgK now nd 4).cells:=List.take_of_length_le (by omega)
 have hk5:(sgK now nd 4).2.length = 5:=by simp [sgK,Za0]
 have hSa:Same [Bx,Bm] s s2:=⟨fun b hb ho => (hS2.obj b (by intro hm; simp at hm; subst hm; exact hsk ho) (hK1.old ho)).trans (hK1.obj b ho),Nat.le_trans hK1.next hS2.next,fun h => hwf2⟩
 have hcB:=Z0a hO2
 have fin:∀ (t3:PT AVal) (s3:St),Fr [12,13,14,15,16,17,40,41,42,43,44,45,46,47,48,49,50,51,56,57,58,59,78] t0 t3→PT.get (posOf 16) t3 = some (.int .i64 ((addK D (sgK now nd 4)).idxOf (sgK now nd 4):Nat))→Same [Bx,Bm] s s3 →
   s3.own Bx = some (nxt.map fun k => .int .i64 k)→s3.obj Bm = some (.map (Z1f 0 (addK D (sgK now nd 4))) (addK D (sgK now nd 4)).length)→PT.get (posOf 12) t3 = some (.int .i64 a)→wp Tryd.prog Zu9 fr t3 s3 Q:=by
  intro t3 s3 hF3 f16 hS3 hX3 hM3 f12
  have f8:PT.get (posOf 8) t3 = some (.slice Bx 0 nds.length c2):=(hF3 8 (by simp)).trans h7
  refine AM.wp_region ?_
  have hlay:=Z6k nxt a ((addK D (sgK now nd 4)).idxOf (sgK now nd 4):Nat) (by omega)
  have hax:a + 1 ≤ nxt.length:=by omega
  simp [lay] at hlay
  simp [f8,f12,f16,ha,hX3,hax]
  refine q t3 _ hF3 (hS3.put _ (by simp) (hS3.old hoX)) ?_ ?_
  ·rw [hlay]
   simp
  ·rw [Z46 (fun e => hxm e.symm)]
   exact hM3
 have hF2':∀ y,y ∉ [12,13,14,15,16,17,40,41,42,43,44,45,46,47,48,49,50,51,56,57,58,59,78]→PT.get (posOf y) t2 = PT.get (posOf y) t0:=by
  intro y hy
  simp at hy
  rw [hF2 y (by simp [hy])]
  simp [hy]
 simp
 refine AM.wp_seq ?_
 refine AM.wp_region ?_
 simp [g9,g12,hcB,hl6,ht6]
 refine Zeg (w:=5) hM2 hk5 hD (fun hm => ?_) (fun hm => ?_)
 ·have e:addK D (sgK now nd 4) = D:=if_pos hm
  simp
  refine AM.wp_seq ?_
  refine Z00 ?_
  simp
  refine AM.Z03 ?_
  simp
  refine AM.wp_skip ?_
  simp
  refine fin _ s2 ?_ (by rw [e]; simp) hSa hX2 (by rw [e]; exact hM2) (by simp [g11])
  intro y hy
  have h1:=hF2' y hy
  simp at hy
  simp [hy]
  exact h1
 ·have e:addK D (sgK now nd 4) = D ++ [sgK now nd 4]:=if_neg hm
  have hidx:(D ++ [sgK now nd 4]).idxOf (sgK now nd 4) = D.length:=by rw [List.idxOf_append,if_neg hm]; simp
  simp
  refine AM.wp_seq ?_
  refine Z00 ?_
  simp
  refine AM.Z03 ?_
  simp
  refine Z00 ?_
  simp [g9]
  refine Z7t hM2 ?_
  rw [entsFrom_len]
  refine AM.wp_region ?_
  simp [g9,g12,hcB,hl6,ht6]
  refine Zm3 (w:=5) hM2 hk5 hD hm ?_
  simp
  refine fin _ _ ?_ (by rw [e,hidx]; simp) (hSa.put _ (by simp) hoM2) ?_ ?_ (by simp [g11])
  ·intro y hy
   have h1:=hF2' y hy
   simp at hy
   simp [hy]
   exact h1
  ·rw [Z5r hxm]
   exact hX2
  ·rw [e]
   simp
theorem Zwg {fr:FI} {s0 s:St} {t0:PT AVal} {p Bn Bx Bm:Pos} {nds:List (List UInt8 × List Int)} {now:List Int} {c0 c1 c2:Cap} {Lv:AVal} {L:List Nat} {Q:Ex→PT AVal→St→Prop}
  (hN:NodesG s0 p nds) (hk0:Keeps s0 s) (hw:s.Wf) (hL:Z0h s0 Lv (L.map fun (a:Nat) => (a:Int))) (hLn:∀ a ∈ L,a < nds.length) (hLl:L.length ≤ 1000)
  (hkids:∀ (a:Nat) nd,nds[a]? = some nd→nd.2.length ≤ 4∧∀ k ∈ nd.2,0 ≤ k∧k < nds.length) (hlen:now.length = nds.length)
  (h0:PT.get (posOf 0) t0 = some (.slice p 0 nds.length c0)) (h1:PT.get (posOf 1) t0 = some Lv) (h5:PT.get (posOf 6) t0 = some (.slice Bn 0 nds.length c1)) (h7:PT.get (posOf 8) t0 = some (.slice Bx 0 nds.length c2)) (h9:PT.get (posOf 10) t0 = some (.map Bm))
  (hBn:s.cells Bn = some (now.map fun k => .int .i64 k)) (hob:s.Old Bn) (hBx:s.own Bx = some ((List.replicate nds.length (-1)).map fun k => .int .i64 k)) (hBm:s.obj Bm = some (.map [] 0))
  (hnx:Bn ≠ Bx) (hnm:Bn ≠ Bm) (hxm:Bx ≠ Bm) (hfx:¬ s0.Old Bx) (hfm:¬ s0.Old Bm)
  (q:∀ t s',Fr [12,13,14,15,16,17,34,35,36,37,40,41,42,43,44,45,46,47,48,49,50,51,56,57,58,59,78] t0 t→Same [Bx,Bm] s s' →
   s'.own Bx = some ((Z0s now nds L).2.map fun k => .int .i64 k)→s'.obj Bm = some (.map (Z1f 0 (Z0s now nds L).1) (Z0s now nds L).1.length)→Q .normal t s'):wp Tryd.prog Zu6 fr t0 s Q:=by
 have hoX:s.Old Bx:=Z0b hw hBx
 have hoM:s.Old Bm:=Z3r hw hBm
 have hLlen:=(hL.keep hk0).len
 have hLt:=hL.ntup
 simp at hLlen
 have hf:∀ b ∈ [Bx,Bm],¬ s0.Old b:=by
  intro b hb
  simp at hb
  rcases hb with rfl | rfl
  ·exact hfx
  ·exact hfm
 refine Z00 ?_
 simp [h1,hLlen]
 refine AM.wp_block ?_
 refine AM.wp_loop (fun m t s' => ∃ i:Nat,i ≤ L.length∧m = L.length - i∧Fr [12,13,14,15,16,17,34,35,36,37,40,41,42,43,44,45,46,47,48,49,50,51,56,57,58,59,78] t0 t∧PT.get (posOf 34) t = some Lv∧PT.get (posOf 35) t = some (.int .i64 L.length)∧PT.get (posOf 36) t = some (.int .i64 i)∧Same [Bx,Bm] s s' ∧
  s'.own Bx = some ((Z0s now nds (L.take i)).2.map fun k => .int .i64 k)∧s'.obj Bm = some (.map (Z1f 0 (Z0s now nds (L.take i)).1) (Z0s now nds (L.take i)).1.length)) L.length ⟨0,by simp,by simp,?_,by simp,by simp,by simp,Same.refl _ _,?_,?_⟩ ?_
 ·intro y hy
  simp at hy
  simp [hy]
 ·simpa [Z0s] using hBx
 ·simpa [Z0s,Z1f] using hBm
 rintro m t s' ⟨i,hi,rfl,hF,t33,t34,t35,hS,hX,hM⟩
 refine Z00 ?_
 simp [t34,t35]
 refine AM.wp_seq ?_
 refine AM.Z03 ?_
 by_cases hlt:i < L.length
 ·obtain ⟨a,ha⟩:∃ a,L[i]? = some a:=⟨_,List.getElem?_eq_getElem hlt⟩
  have han:a < nds.length:=hLn a (List.mem_of_getElem? ha)
  obtain ⟨nd,hnd⟩:∃ nd,nds[a]? = some nd:=⟨_,List.getElem?_eq_getElem han⟩
  obtain ⟨h4,hin⟩:=hkids a nd hnd
  have hwr:IntKind.wrap .i64 ((i:Int) + 1) = ((i + 1:Nat):Int):=by rw [IntWalk.i64_in _ (by omega)]; omega
  have hkeep:Keeps s0 s':=Same.keeps hk0 hS hf
  have hal:(L.map fun (a:Nat) => (a:Int))[i]? = some (a:Int):=by rw [List.getElem?_map,ha]; rfl
  have hkey:keyA now nds a = sgK now nd 4:=by unfold keyA; rw [hnd]
  have htk:L.take (i + 1) = L.take i ++ [a]:=by
   rw [List.take_add_one,ha]
   rfl
  have hrd:Z0s now nds (L.take (i + 1)) = Z5a now nds (Z0s now nds (L.take i)) a:=by
   unfold Z0s
   rw [htk,List.foldl_append]
   rfl
  rcases hL.keep hkeep with ⟨_,e0⟩ | ⟨b,o,c,ks,rfl,hb,hks,hle2,hel2⟩
  ·have:(L.map fun (a:Nat) => (a:Int)).length = 0:=by rw [e0]; rfl
   rw [List.length_map] at this
   omega
  have hg:=hel2 i a hal
  simp at t33
  simp [hlt]
  refine AM.wp_skip ?_
  simp
  refine AM.wp_seq ?_
  refine AM.wp_block ?_
  refine Z00 ?_
  simp [t33,t35,hlt,hks,hg]
  refine Zwd (c0:=c0) (c1:=c1) (c2:=c2) (D:=(Z0s now nds (L.take i)).1) (nxt:=(Z0s now nds (L.take i)).2) hN hkeep (hS.wf hw) hnd h4 hin hlen ?_ ?_ ?_ ?_ ?_ ?_ ((hS.cells (by simp [hnx,hnm]) hob).trans hBn) (hS.old hob) hX hM ?_ hnx hnm hxm hfx hfm fun t2 s2 hF2 hS2 hX2 hM2 => ?_
  ·rw [Z0s,Zbg]
   simp
  ·simp
   exact (hF 0 (by simp)).trans h0
  ·simp
  ·simp
   exact (hF 6 (by simp)).trans h5
  ·simp
   exact (hF 8 (by simp)).trans h7
  ·simp
   exact (hF 10 (by simp)).trans h9
  ·exact Zd9 _ _ (fun a ha => hLn a (List.mem_of_mem_take ha)) (by simp)
  have g33:PT.get (posOf 34) t2 = some (.slice b o L.length c):=(hF2 34 (by simp)).trans (by simp [t33])
  have g34:PT.get (posOf 35) t2 = some (.int .i64 L.length):=(hF2 35 (by simp)).trans (by simp [t34])
  have g35:PT.get (posOf 36) t2 = some (.int .i64 i):=(hF2 36 (by simp)).trans (by simp [t35])
  simp
  refine AM.wp_region ?_
  simp [g35,hwr]
  refine ⟨L.length - (i + 1),by omega,i + 1,by omega,by omega,?_,by simp [g33],by simp [g34],by simp,hS.trans hS2,?_,?_⟩
  ·intro y hy
   simp at hy
   simp [hy]
   rw [hF2 y (by simp [hy])]
   simp [hy]
   exact hF y (by simp [hy])
  ·rw [hrd,hX2,← hkey]
   rfl
  ·rw [hrd,hM2,← hkey]
   rfl
 ·simp [hlt]
  refine AM.wp_exit ?_
  simp
  have hie:i = L.length:=by omega
  subst hie
  rw [List.take_length] at hX hM
  refine q _ s' ?_ hS hX hM
  intro y hy
  simp at hy
  simp [hy]
  exact hF y (by simp [hy])
def cnA (nds:List (List UInt8 × List Int)) (L:List Nat):Nat→Nat
 | 0 => 1
 | r + 1 => cntI nds L (r + 1)
theorem Zpd {s:St} {p:Pos} {nds:List (List UInt8 × List Int)} {c0:Cap} {Lv:AVal} {L:List Nat} {R:Nat} {Q:AVal→St→Prop}
  (hw:s.Wf) (hN:NodesG s p nds) (hn:nds.length ≤ 1000) (hL:Z0h s Lv (L.map fun (a:Nat) => (a:Int))) (hLn:∀ a ∈ L,a < nds.length) (hLl:L.length ≤ 1000)
  (hkids:∀ (a:Nat) nd,nds[a]? = some nd→nd.2.length ≤ 4∧∀ k ∈ nd.2,0 ≤ k∧k < nds.length)
  (hR:∀ r,r < R→cntI nds L (r + 1) ≠ cnA nds L r) (hE:cntI nds L (R + 1) = cnA nds L R)
  (q:∀ Bx s',Keeps s s'→¬ s.Old Bx→s'.own Bx = some ((nowI nds L (R + 1)).map fun k => .int .i64 k)→Q (.tup [.slice Bx 0 nds.length (.lim nds.length),.int .i64 (cntI nds L (R + 1):Nat)]) s'):Z0c Tryd.prog 70 [.slice p 0 nds.length c0,Lv] s Q:=by
 have hLt:=hL.ntup
 refine Z08 (Z0i (by decide)) fi70 rfl (by decide) rfl ?_
 refine Z00 ?_
 simp
 refine Z00 ?_
 have hs1:nds.length * 8 ≤ Z0n:=by unfold Z0n; omega
 have hs2:nds.length ≤ Z0n:=by unfold Z0n; omega
 simp [hs1,hs2]
 have hK1:Keeps s (s.alloc (.cells (List.replicate nds.length (.int .i64 0)) false)):=Keeps.alloc _ _
 have hX1:(s.alloc (.cells (List.replicate nds.length (.int .i64 0)) false)).own s.next = some ((nowI nds L 0).map fun k => .int .i64 k):=by simp [nowI]
 have hf1:¬ s.Old s.next:=Z09 s
 have ho1:(s.alloc (.cells (List.replicate nds.length (.int .i64 0)) false)).Old s.next:=Z18 _ _
 generalize s.alloc (.cells (List.replicate nds.length (.int .i64 0)) false) = s1 at hK1 hX1 ho1 ⊢
 generalize s.next = B1 at hX1 hf1 ho1 ⊢
 refine Z00 ?_
 simp
 refine AM.wp_block ?_
 refine AM.wp_loop (fun m t s' => ∃ (r:Nat) (Bn:Pos),r ≤ R∧m = R - r∧PT.get (posOf 0) t = some (.slice p 0 nds.length c0)∧PT.get (posOf 1) t = some Lv∧PT.get (posOf 6) t = some (.slice Bn 0 nds.length (.lim nds.length))∧PT.get (posOf 7) t = some (.int .i64 (cnA nds L r:Nat))∧Keeps s s'∧¬ s.Old Bn∧s'.Old Bn ∧
  s'.own Bn = some ((nowI nds L r).map fun k => .int .i64 k)) R ⟨0,B1,by simp,by simp,by simp,by simp,by simp,by simp [cnA],hK1,hf1,ho1,hX1⟩ ?_
 rintro m t s' ⟨r,Bn,hr,rfl,t0,t1,t5,t6,hk,hfn,hon,hXn⟩
 refine AM.wp_block ?_
 refine Z00 ?_
 simp [t0,hs1,hs2]
 have hw':s'.Wf:=hk.wf hw
 have hK2:Keeps s' (s'.alloc (.cells (List.replicate nds.length (.int .i64 0)) false)):=Keeps.alloc _ _
 have hX2:(s'.alloc (.cells (List.replicate nds.length (.int .i64 0)) false)).own s'.next = some ((List.replicate nds.length (0:Int)).map fun k => .int .i64 k):=by simp
 have hfx:¬ s.Old s'.next:=fun h => Z09 s' (hk.old h)
 have hnx:Bn ≠ s'.next:=ne_next hon
 have hfx':¬ s'.Old s'.next:=Z09 s'
 generalize s'.alloc (.cells (List.replicate nds.length (.int .i64 0)) false) = s2 at hK2 hX2 ⊢
 generalize s'.next = Bx at hX2 hfx hnx hfx' ⊢
 have hw2:s2.Wf:=hK2.wf hw'
 refine AM.wp_seq ?_
 refine Zwe (n:=nds.length) (Bx:=Bx) (c2:=.lim nds.length) hw2 hn (by simp) hX2 fun t3 s3 hF3 hS3 hX3 => ?_
 have hw3:s3.Wf:=hS3.wf hw2
 have hk3:Keeps s' s3:=Same.keeps hK2 hS3 (by simpa using hfx')
 have g0:PT.get (posOf 0) t3 = some (.slice p 0 nds.length c0):=(hF3 0 (by simp)).trans (by simp [t0])
 have g1:PT.get (posOf 1) t3 = some Lv:=(hF3 1 (by simp)).trans (by simp [t1])
 have g5:PT.get (posOf 6) t3 = some (.slice Bn 0 nds.length (.lim nds.length)):=(hF3 6 (by simp)).trans (by simp [t5])
 have g6:PT.get (posOf 7) t3 = some (.int .i64 (cnA nds L r:Nat)):=(hF3 7 (by simp)).trans (by simp [t6])
 have g7:PT.get (posOf 8) t3 = some (.slice Bx 0 nds.length (.lim nds.length)):=(hF3 8 (by simp)).trans (by simp)
 simp
 refine Z00 ?_
 simp
 have hK4:Keeps s3 (s3.alloc (.map [] 0)):=Keeps.alloc _ _
 have hM4:(s3.alloc (.map [] 0)).obj s3.next = some (.map [] 0):=Z4y _ _
 have hoX3:s3.Old Bx:=Z0b hw3 hX3
 have hfm:¬ s.Old s3.next:=fun h => Z09 s3 (hk3.old (hk.old h))
 have hnm:Bn ≠ s3.next:=ne_next (hk3.old hon)
 have hxm:Bx ≠ s3.next:=ne_next hoX3
 generalize s3.alloc (.map [] 0) = s4 at hK4 hM4 ⊢
 generalize s3.next = Bm at hM4 hfm hnm hxm ⊢
 have hw4:s4.Wf:=hK4.wf hw3
 have hk4:Keeps s s4:=(hk.trans hk3).trans hK4
 have hX4:s4.own Bx = some ((List.replicate nds.length (-1:Int)).map fun k => .int .i64 k):=(hK4.own hoX3).trans hX3
 have hN4:s4.own Bn = some ((nowI nds L r).map fun k => .int .i64 k):=(hK4.own (hk3.old hon)).trans ((hk3.own hon).trans hXn)
 refine AM.wp_seq ?_
 refine Zwg (p:=p) (Bn:=Bn) (Bx:=Bx) (Bm:=Bm) (c0:=c0) (c1:=.lim nds.length) (c2:=.lim nds.length) (now:=nowI nds L r) (Lv:=Lv) (L:=L) hN hk4 hw4 hL hLn hLl hkids (Z6n nds L r) (by simp [g0]) (by simp [g1]) (by simp [g5]) (by simp [g7]) (by simp) (Z0a hN4) (hK4.old (hk3.old hon)) hX4 hM4 hnx hnm hxm hfx hfm fun t5' s5 hF5 hS5 hX5 hM5 => ?_
 have hk5:Keeps s s5:=Same.keeps hk4 hS5 (by
  intro b hb
  simp at hb
  rcases hb with rfl | rfl
  ·exact hfx
  ·exact hfm)
 have j0:PT.get (posOf 0) t5' = some (.slice p 0 nds.length c0):=(hF5 0 (by simp)).trans (by simp [g0])
 have j1:PT.get (posOf 1) t5' = some Lv:=(hF5 1 (by simp)).trans (by simp [g1])
 have j6:PT.get (posOf 7) t5' = some (.int .i64 (cnA nds L r:Nat)):=(hF5 7 (by simp)).trans (by simp [g6])
 have j7:PT.get (posOf 8) t5' = some (.slice Bx 0 nds.length (.lim nds.length)):=(hF5 8 (by simp)).trans (by simp [g7])
 have j9:PT.get (posOf 10) t5' = some (.map Bm):=(hF5 10 (by simp)).trans (by simp)
 have hcnt:(Z0s (nowI nds L r) nds L).1.length = cntI nds L (r + 1):=rfl
 simp
 refine AM.wp_seq ?_
 refine Z00 ?_
 simp [j9]
 refine Z7t hM5 ?_
 rw [entsFrom_len,hcnt]
 by_cases he:cntI nds L (r + 1) = cnA nds L r
 ·have hrR:r = R:=by
   rcases Nat.lt_or_ge r R with h | h
   ·exact (hR r h he).elim
   ·omega
  subst hrR
  simp [j6,he]
  refine AM.Z03 ?_
  simp
  refine Z00 ?_
  simp [j7,j6]
  refine AM.wp_ret ?_
  simp
  rw [← he]
  exact q Bx s5 hk5 hfx hX5
 ·have hrR:r < R:=by
   rcases Nat.lt_or_ge r R with h | h
   ·exact h
   ·have:r = R:=by omega
    subst this
    exact (he hE).elim
  have he':¬ ((cntI nds L (r + 1):Nat):Int) = (cnA nds L r:Nat):=by omega
  have hcn:cnA nds L (r + 1) = cntI nds L (r + 1):=rfl
  simp [j6,he,he']
  refine AM.Z03 ?_
  simp
  refine AM.wp_skip ?_
  simp
  refine AM.wp_region ?_
  simp [j7,j9]
  refine Z7t hM5 ?_
  rw [entsFrom_len,hcnt]
  simp
  refine ⟨R - (r + 1),by omega,r + 1,by omega,rfl,by simp [j0],by simp [j1],rfl,hk5,hfx,Z0b (hk5.wf hw) hX5,hX5⟩
def Z1a (f:Nat→Key) (D:List Key) (L:List Nat):List Key:=L.foldl (fun D a => addK D (f a)) D
theorem Zci {now:List Int} {nds:List ND}:∀ (L:List Nat) (x:List Key × List Int),(L.foldl (Z5a now nds) x).1 = Z1a (keyA now nds) x.1 L
 | [],x => rfl
 | a :: L,x => by
  rw [List.foldl_cons,Zci L]
  rfl
theorem Zlb {f g:Nat→Key}:∀ (L E:List Nat) (D D':List Key),(∀ a ∈ E ++ L,∀ b ∈ E ++ L,(f a = f b ↔ g a = g b))→D.length = D'.length→(∀ e ∈ E,f e ∈ D∧g e ∈ D'∧D.idxOf (f e) = D'.idxOf (g e))→(∀ k ∈ D,∃ e ∈ E,f e = k)→(∀ k ∈ D',∃ e ∈ E,g e = k) →
  (Z1a f D L).length = (Z1a g D' L).length∧∀ e ∈ E ++ L,(Z1a f D L).idxOf (f e) = (Z1a g D' L).idxOf (g e)
 | [],E,D,D',_,hl,he,_,_ => ⟨hl,fun e h => (he e (by simpa using h)).2.2⟩
 | a :: L,E,D,D',hk,hl,he,hD,hD' => by
  have hmem:f a ∈ D ↔ g a ∈ D':=by
   constructor
   ·intro h
    obtain ⟨e,h1,h2⟩:=hD _ h
    have:=(hk e (by simp [h1]) a (by simp)).1 h2
    rw [← this]
    exact (he e h1).2.1
   ·intro h
    obtain ⟨e,h1,h2⟩:=hD' _ h
    have:=(hk e (by simp [h1]) a (by simp)).2 h2
    rw [← this]
    exact (he e h1).1
  have:=Zlb (f:=f) (g:=g) L (E ++ [a]) (addK D (f a)) (addK D' (g a)) (by simpa using hk) (by
   unfold addK
   by_cases h:f a ∈ D
   ·rw [if_pos h,if_pos (hmem.1 h)]
    exact hl
   ·rw [if_neg h,if_neg (fun h' => h (hmem.2 h'))]
    simp [hl]) (by
   intro e h
   rcases List.mem_append.1 h with h | h
   ·obtain ⟨h1,h2,h3⟩:=he e h
    exact ⟨Zdw h1,Zdw h2,by rw [Zdv h1,Zdv h2,h3]⟩
   ·simp at h
    subst h
    refine ⟨Zbw _ _,Zbw _ _,?_⟩
    unfold addK
    by_cases h:f e ∈ D
    ·rw [if_pos h,if_pos (hmem.1 h)]
     obtain ⟨e',h1,h2⟩:=hD _ h
     have h3:=(hk e' (by simp [h1]) e (by simp)).1 h2
     rw [← h2,← h3]
     exact (he e' h1).2.2
    ·rw [if_neg h,if_neg (fun h' => h (hmem.2 h')),List.idxOf_append,if_neg h,List.idxOf_append,if_neg (fun h' => h (hmem.2 h'))]
     simp [hl]) (by
   intro k hk'
   unfold addK at hk'
   split at hk'
   ·obtain ⟨e,h1,h2⟩:=hD k hk'
    exact ⟨e,by simp [h1],h2⟩
   ·rcases List.mem_append.1 hk' with h | h
    ·obtain ⟨e,h1,h2⟩:=hD k h
     exact ⟨e,by simp [h1],h2⟩
    ·simp at h
     exact ⟨a,by simp,h.symm⟩) (by
   intro k hk'
   unfold addK at hk'
   split at hk'
   ·obtain ⟨e,h1,h2⟩:=hD' k hk'
    exact ⟨e,by simp [h1],h2⟩
   ·rcases List.mem_append.1 hk' with h | h
    ·obtain ⟨e,h1,h2⟩:=hD' k h
     exact ⟨e,by simp [h1],h2⟩
    ·simp at h
     exact ⟨a,by simp,h.symm⟩)
  simpa [Z1a] using this
section
variable {nds:List ND} {L:List Nat} (hC:Closed nds L)
include hC
theorem Zx8 {r1 r2:Nat} (h:∀ a ∈ L,∀ b ∈ L,(sim nds (r1 + 1) a b ↔ sim nds (r2 + 1) a b)):nowI nds L (r1 + 1) = nowI nds L (r2 + 1)∧cntI nds L (r1 + 1) = cntI nds L (r2 + 1):=by
 have hk:=Zlb (f:=keyA (nowI nds L r1) nds) (g:=keyA (nowI nds L r2) nds) L [] [] [] (by
  intro a ha b hb
  simp at ha hb
  rw [Z66 hC r1 a b ha hb,Z66 hC r2 a b ha hb]
  exact h a ha b hb) rfl (by simp) (by simp) (by simp)
 have e1:(Z0s (nowI nds L r1) nds L).1 = Z1a (keyA (nowI nds L r1) nds) [] L:=Zci L _
 have e2:(Z0s (nowI nds L r2) nds L).1 = Z1a (keyA (nowI nds L r2) nds) [] L:=Zci L _
 refine ⟨List.ext_getElem? fun j => ?_,?_⟩
 ·by_cases hj:j < nds.length
  ·by_cases hm:j ∈ L
   ·show (Z0s (nowI nds L r1) nds L).2[j]? = (Z0s (nowI nds L r2) nds L).2[j]?
    rw [Z9z hm hj,Z9z hm hj,e1,e2]
    have:=hk.2 j (by simpa using hm)
    rw [this]
   ·rw [Zg0 nds L r1 j hj hm,Zg0 nds L r2 j hj hm]
  ·rw [List.getElem?_eq_none (by rw [Z6n]; omega),List.getElem?_eq_none (by rw [Z6n]; omega)]
 ·show (Z0s (nowI nds L r1) nds L).1.length = (Z0s (nowI nds L r2) nds L).1.length
  rw [e1,e2]
  exact hk.1
theorem Zpe (hne:L ≠ []):∃ R,(∀ r,r < R→cntI nds L (r + 1) ≠ cnA nds L r)∧cntI nds L (R + 1) = cnA nds L R∧nowI nds L (R + 1) = clsF nds L:=by
 obtain ⟨R,h1,h2,h3⟩:=Z9j hC
 have hpos:cntI nds L 1 ≠ 0:=by
  rw [Z5m]
  cases L with
  | nil => exact (hne rfl).elim
  | cons a L => simp [news]
 cases R with
 | zero => exact (hpos h2).elim
 | succ R =>
  by_cases h1':cntI nds L 1 = 1
  ·refine ⟨0,by simp,h1',?_⟩
   rw [h1]
   have hone:∀ a ∈ L,∀ b ∈ L,sim nds 1 a b:=by
    rw [Z5m] at h1'
    intro a ha b hb
    refine (Z66 hC 0 a b ha hb).1 ?_
    have:=Zfy (f:=keyA (nowI nds L 0) nds) (g:=fun _:Nat => (0:Nat)) L [] (fun _ _ _ _ _ => rfl) (by
     rw [h1']
     cases L with
     | nil => exact (hne rfl).elim
     | cons c L =>
      have key:∀ (L E:List Nat),E ≠ []→news (fun _:Nat => (0:Nat)) E L = 0:=by
       intro L
       induction L with
       | nil => intro E _; rfl
       | cons x L ih =>
        intro E hE
        have h2:=ih (E ++ [x]) (by simp)
        cases E with
        | nil => exact (hE rfl).elim
        | cons y E =>
         simp only [news]
         rw [h2]
         simp
      simp only [news]
      rw [key L ([] ++ [c]) (by simp)]
      simp) (by simp) a (by simpa using ha) b (by simpa using hb) rfl
    exact this
   refine (Zx8 hC (r1:=0) (r2:=R + 1) fun a ha b hb => ?_).1
   constructor
   ·intro _
    have hall:∀ r a b,a ∈ L→b ∈ L→sim nds r a b:=by
     intro r
     induction r with
     | zero => intro a b _ _; trivial
     | succ r ih =>
      intro a b ha hb
      obtain ⟨x,y,hx,hy,e1,e2,_⟩:=hone a ha b hb
      exact ⟨x,y,hx,hy,e1,e2,fun j k m hk hm => ih _ _ ((hC.kids a ha x hx).2 k (List.mem_of_getElem? hk)) ((hC.kids b hb y hy).2 m (List.mem_of_getElem? hm))⟩
    exact hall _ a b ha hb
   ·intro _
    exact hone a ha b hb
  ·refine ⟨R + 1,?_,h2,h1.symm⟩
   intro r hr
   cases r with
   | zero => exact h1'
   | succ r => exact h3 (r + 1) hr
noncomputable def Zje (nds:List ND) (L:List Nat):Nat:=news (fun a => (clsF nds L)[a]?) [] L
theorem Zqu {R:Nat} (h:nowI nds L (R + 1) = clsF nds L):cntI nds L (R + 1) = Zje nds L:=by
 rw [Z5m]
 unfold Zje
 rw [← h]
 have hiff:∀ a ∈ L,∀ b ∈ L,(keyA (nowI nds L R) nds a = keyA (nowI nds L R) nds b ↔ (nowI nds L (R + 1))[a]? = (nowI nds L (R + 1))[b]?):=fun a ha b hb => by
  rw [Z66 hC R a b ha hb,Z9v hC (R + 1) a b ha hb]
 have h1:=Zaq (f:=keyA (nowI nds L R) nds) (g:=fun a => (nowI nds L (R + 1))[a]?) L [] (fun a ha b hb h => (hiff a (by simpa using ha) b (by simpa using hb)).1 h)
 have h2:=Zaq (f:=fun a => (nowI nds L (R + 1))[a]?) (g:=keyA (nowI nds L R) nds) L [] (fun a ha b hb h => (hiff a (by simpa using ha) b (by simpa using hb)).2 h)
 omega
theorem Zff {a:Nat} (ha:a ∈ L):∃ c:Nat,(clsF nds L)[a]? = some (c:Int)∧c < Zje nds L:=by
 obtain ⟨R,h1,h2,h3⟩:=Z9j hC
 have hm:=Zqu hC h1.symm
 rw [h1]
 refine ⟨_,Z9z ha (hC.lt a ha),?_⟩
 rw [← hm]
 show _ < (Z0s (nowI nds L R) nds L).1.length
 exact List.idxOf_lt_length_of_mem (Zcw L _ a ha)
end
theorem Zbu {α:Type} {motive:List α→Prop} (nil:motive []) (append_singleton:∀ (l:List α) (a:α),motive l→motive (l ++ [a])) (l:List α):motive l:=by
 have:∀ r:List α,motive r.reverse:=by
  intro r
  induction r with
  | nil => exact nil
  | cons a r ih =>
   rw [List.reverse_cons]
   exact append_singleton _ a ih
 have h:=this l.reverse
 rwa [List.reverse_reverse] at h
theorem Zaz (f:Nat→Key) (D:List Key) (P S:List Nat):Z1a f D (P ++ S) = Z1a f (Z1a f D P) S:=by
 unfold Z1a
 rw [List.foldl_append]
theorem Zb8 (f:Nat→Key):∀ (S:List Nat) (D:List Key),∃ T,Z1a f D S = D ++ T
 | [],D => ⟨[],by simp [Z1a]⟩
 | a :: S,D => by
  obtain ⟨T,h⟩:=Zb8 f S (addK D (f a))
  have h1:Z1a f D (a :: S) = Z1a f (addK D (f a)) S:=rfl
  rw [h1,h]
  unfold addK
  split
  ·exact ⟨T,rfl⟩
  ·exact ⟨[f a] ++ T,by simp⟩
theorem Zja (f:Nat→Key):∀ (S:List Nat) (D:List Key) (k:Key),k ∈ Z1a f D S ↔ k ∈ D ∨ ∃ a ∈ S,f a = k
 | [],D,k => by simp [Z1a]
 | a :: S,D,k => by
  have h1:Z1a f D (a :: S) = Z1a f (addK D (f a)) S:=rfl
  rw [h1,Zja f S]
  have h2:k ∈ addK D (f a) ↔ k ∈ D ∨ f a = k:=by
   unfold addK
   split
   ·rename_i h
    constructor
    ·exact .inl
    ·rintro (h' | rfl)
     ·exact h'
     ·exact h
   ·simp [eq_comm]
  rw [h2]
  constructor
  ·rintro ((h | h) | ⟨b,hb,h⟩)
   ·exact .inl h
   ·exact .inr ⟨a,by simp,h⟩
   ·exact .inr ⟨b,by simp [hb],h⟩
  ·rintro (h | ⟨b,hb,h⟩)
   ·exact .inl (.inl h)
   ·rcases List.mem_cons.1 hb with rfl | hb
    ·exact .inl (.inr h)
    ·exact .inr ⟨b,hb,h⟩
theorem Zmz {nds:List ND} {L:List Nat} (hC:Closed nds L):∃ f:Nat→Key,(∀ a ∈ L,(clsF nds L)[a]? = some ((Z1a f [] L).idxOf (f a):Nat))∧∀ a ∈ L,∀ b ∈ L,(f a = f b ↔ ∀ r,sim nds r a b):=by
 obtain ⟨R,h1,h2,_⟩:=Z9j hC
 refine ⟨keyA (nowI nds L R) nds,fun a ha => ?_,fun a ha b hb => ?_⟩
 ·have e1:(Z0s (nowI nds L R) nds L).1 = Z1a (keyA (nowI nds L R) nds) [] L:=Zci L _
  rw [h1,← e1]
  exact Z9z ha (hC.lt a ha)
 ·rw [← Zh5 hC h2 ha hb,Z9v hC (R + 1) a b ha hb,← Z66 hC R a b ha hb]
theorem Znh {nds:List ND} {L P S:List Nat} {a:Nat} (hC:Closed nds L) (hL:L = P ++ a :: S) :
  ∃ c:Nat,(clsF nds L)[a]? = some (c:Int)∧c ≤ (outF (clsF nds L) nds P).length∧(c < (outF (clsF nds L) nds P).length ↔ ∃ e ∈ P,∀ r,sim nds r e a):=by
 obtain ⟨f,hf0,hs⟩:=Zmz hC
 have hf:∀ x ∈ L,(clsF nds L)[x]? = some (((Z1a f [] L).idxOf (f x):Nat):Int):=hf0
 have ha:a ∈ L:=by rw [hL]; simp
 have hPL:∀ x ∈ P,x ∈ L:=fun x hx => by rw [hL]; simp [hx]
 have key:∀ (P' Q':List Nat),P = P' ++ Q'→(outF (clsF nds L) nds P').length = (Z1a f [] P').length:=by
  intro P'
  induction P' using Zbu with
  | nil => intro Q' _; rfl
  | append_singleton P' x ih =>
   intro Q' hQ
   have ihp:=ih (x :: Q') (by rw [hQ]; simp)
   have hx:x ∈ L:=hPL x (by rw [hQ]; simp)
   have hnd:nds[x]? = some (nds[x]'(hC.lt x hx)):=List.getElem?_eq_getElem _
   have e1:outF (clsF nds L) nds (P' ++ [x]) = Z2k (clsF nds L) nds (outF (clsF nds L) nds P') x:=by unfold outF; rw [List.foldl_append]; rfl
   have e2:Z1a f [] (P' ++ [x]) = addK (Z1a f [] P') (f x):=by rw [Zaz]; rfl
   rw [e1,e2]
   unfold Z2k
   rw [hf x hx,hnd]
   simp only
   obtain ⟨T,hT⟩:=Zb8 f (x :: (Q' ++ a :: S)) (Z1a f [] P')
   have hLx:L = P' ++ x :: (Q' ++ a :: S):=by rw [hL,hQ]; simp
   have hk:Z1a f [] L = Z1a f [] P' ++ T:=by rw [hLx,Zaz]; exact hT
   rw [hk,List.idxOf_append]
   unfold addK
   by_cases hm:f x ∈ Z1a f [] P'
   ·rw [if_pos hm,if_pos hm,if_pos (by have:=List.idxOf_lt_length_of_mem hm; omega)]
    exact ihp
   ·rw [if_neg hm,if_neg hm,if_neg (by omega)]
    simp [ihp]
 have hlen:=key P [] (by simp)
 obtain ⟨T,hT⟩:=Zb8 f (a :: S) (Z1a f [] P)
 have hk:Z1a f [] L = Z1a f [] P ++ T:=by rw [hL,Zaz]; exact hT
 refine ⟨_,hf a ha,?_⟩
 rw [hlen,hk,List.idxOf_append]
 have hmem:f a ∈ Z1a f [] P ↔ ∃ e ∈ P,∀ r,sim nds r e a:=by
  rw [Zja]
  constructor
  ·rintro (h | ⟨e,he,h⟩)
   ·cases h
   ·exact ⟨e,he,(hs e (hPL e he) a ha).1 h⟩
  ·rintro ⟨e,he,h⟩
   exact .inr ⟨e,he,(hs e (hPL e he) a ha).2 h⟩
 by_cases hm:f a ∈ Z1a f [] P
 ·rw [if_pos hm]
  have:=List.idxOf_lt_length_of_mem hm
  exact ⟨by omega,⟨fun _ => hmem.1 hm,fun _ => this⟩⟩
 ·rw [if_neg hm]
  have hz:T.idxOf (f a) = 0:=by
   have h1:Z1a f (Z1a f [] P) (a :: S) = Z1a f (addK (Z1a f [] P) (f a)) S:=rfl
   obtain ⟨T',hT'⟩:=Zb8 f S (addK (Z1a f [] P) (f a))
   rw [h1,hT'] at hT
   unfold addK at hT
   rw [if_neg hm,List.append_assoc] at hT
   have:=List.append_cancel_left hT
   rw [← this]
   simp
  rw [hz]
  refine ⟨by omega,⟨fun h => by omega,fun h => (hm (hmem.2 h)).elim⟩⟩
theorem Zo9 {nds:List ND} {L:List Nat} (hC:Closed nds L):(outF (clsF nds L) nds L).length = Zje nds L:=by
 have hb:∀ a ∈ L,∃ c:Nat,(clsF nds L)[a]? = some (c:Int):=fun a ha => by
  obtain ⟨c,h,_⟩:=Zff hC ha
  exact ⟨c,h⟩
 have key:∀ (P S:List Nat),L = P ++ S→(outF (clsF nds L) nds P).length = news (fun a => (clsF nds L)[a]?) [] P:=by
  intro P
  induction P using Zbu with
  | nil => intro S _; rfl
  | append_singleton P x ih =>
   intro S hS
   have ihp:=ih (x :: S) (by rw [hS]; simp)
   obtain ⟨c,hc,h1,h2⟩:=Znh (P:=P) (a:=x) (S:=S) hC (by rw [hS]; simp)
   have hx:x ∈ L:=by rw [hS]; simp
   have e1:outF (clsF nds L) nds (P ++ [x]) = Z2k (clsF nds L) nds (outF (clsF nds L) nds P) x:=by unfold outF; rw [List.foldl_append]; rfl
   have hnd:nds[x]? = some (nds[x]'(hC.lt x hx)):=List.getElem?_eq_getElem _
   have hap:∀ (P E:List Nat) (y:Nat) (f:Nat→Option Int),news f E (P ++ [y]) = news f E P + (if (E ++ P).any (fun e => decide (f e = f y)) = true then 0 else 1):=by
    intro P
    induction P with
    | nil => intro E y f; simp [news]
    | cons z P ih =>
     intro E y f
     have:=ih (E ++ [z]) y f
     simp only [List.cons_append,news]
     rw [this]
     have e:(E ++ [z] ++ P) = E ++ z :: P:=by simp
     rw [e]
     omega
   rw [hap,e1,← ihp]
   unfold Z2k
   rw [hc,hnd]
   simp only
   have hany:([] ++ P).any (fun e => decide ((clsF nds L)[e]? = (clsF nds L)[x]?)) = true ↔ ∃ e ∈ P,∀ r,sim nds r e x:=by
    simp only [List.nil_append,List.any_eq_true,decide_eq_true_eq]
    constructor
    ·rintro ⟨e,he,h⟩
     exact ⟨e,he,(Ze0 hC (by rw [hS]; simp [he]) hx).1 h⟩
    ·rintro ⟨e,he,h⟩
     exact ⟨e,he,(Ze0 hC (by rw [hS]; simp [he]) hx).2 h⟩
   rw [hc] at hany
   by_cases hlt:c < (outF (clsF nds L) nds P).length
   ·rw [if_pos (hany.2 (h2.1 hlt)),if_pos (by omega)]
    omega
   ·rw [if_neg (fun h => hlt (h2.2 (hany.1 h))),if_neg (by omega)]
    simp
 exact key L [] (by simp)
inductive UT where
 | cut
 | node (nm:List UInt8) (kids:List UT)
def UT.name:UT→List UInt8
 | .cut => []
 | .node nm _ => nm
def UT.kids:UT→List UT
 | .cut => []
 | .node _ ks => ks
def unf (nds:List ND):Nat→Nat→UT
 | 0,_ => .cut
 | d + 1,a => match nds[a]? with
  | none => .cut
  | some nd => .node nd.1 (nd.2.map fun k => unf nds d k.toNat)
abbrev Lab:=Nat→UT
def lab (nds:List ND) (a:Nat):Lab:=fun d => unf nds d a
theorem Z8n {nds:List ND} {a:Nat} {nd:ND} (h:nds[a]? = some nd) (d:Nat):unf nds (d + 1) a = .node nd.1 (nd.2.map fun k => unf nds d k.toNat):=by
 simp [unf,h]
def Zgr (b:Lab):List Lab:=(List.range (b 1).kids.length).map fun j d => ((b (d + 1)).kids[j]?).getD .cut
theorem Z8u {nds:List ND} {a:Nat} {nd:ND} (h:nds[a]? = some nd):Zgr (lab nds a) = nd.2.map fun k => lab nds k.toNat:=by
 refine List.ext_getElem? fun j => ?_
 have h1:(lab nds a 1).kids.length = nd.2.length:=by
  show (unf nds 1 a).kids.length = _
  rw [Z8n h]
  simp [UT.kids]
 unfold Zgr
 rw [h1]
 by_cases hj:j < nd.2.length
 ·rw [List.getElem?_map,List.getElem?_range hj,List.getElem?_map,List.getElem?_eq_getElem hj]
  simp only [Option.map_some]
  congr 1
  funext d
  show (((unf nds (d + 1) a).kids)[j]?).getD .cut = _
  rw [Z8n h]
  simp [UT.kids,hj]
  rfl
 ·rw [List.getElem?_eq_none (by simpa using hj),List.getElem?_eq_none (by simpa using hj)]
def lname (b:Lab):List UInt8:=(b 1).name
theorem Zcn {nds:List ND} {a:Nat} {nd:ND} (h:nds[a]? = some nd):lname (lab nds a) = nd.1:=by
 show (unf nds 1 a).name = _
 rw [Z8n h]
 rfl
theorem Zqv {nds:List ND} {r:Nat}:∀ {x y:List Int},x.length = y.length→(∀ (j:Nat) (k m:Int),x[j]? = some k→y[j]? = some m→unf nds r k.toNat = unf nds r m.toNat)→x.map (fun k => unf nds r k.toNat) = y.map fun k => unf nds r k.toNat
 | [],[],_,_ => rfl
 | k :: x,m :: y,hl,h => by
  rw [List.map_cons,List.map_cons,h 0 k m rfl rfl,Zqv (x:=x) (y:=y) (by simpa using hl) (fun j k m a b => h (j + 1) k m (by simpa using a) (by simpa using b))]
 | [],_ :: _,hl,_ => by simp at hl
 | _ :: _,[],hl,_ => by simp at hl
theorem Zgz {nds:List ND} {L:List Nat} (hC:Closed nds L):∀ (r a b:Nat),a ∈ L→b ∈ L→(sim nds r a b ↔ unf nds r a = unf nds r b)
 | 0,a,b,_,_ => by simp [sim,unf]
 | r + 1,a,b,ha,hb => by
  have hx:nds[a]? = some (nds[a]'(hC.lt a ha)):=List.getElem?_eq_getElem _
  have hy:nds[b]? = some (nds[b]'(hC.lt b hb)):=List.getElem?_eq_getElem _
  generalize nds[a]'(hC.lt a ha) = x at hx
  generalize nds[b]'(hC.lt b hb) = y at hy
  obtain ⟨_,hkx⟩:=hC.kids a ha _ hx
  obtain ⟨_,hky⟩:=hC.kids b hb _ hy
  rw [Z8n hx,Z8n hy]
  constructor
  ·rintro ⟨x',y',hx',hy',e1,e2,e3⟩
   rw [hx] at hx'
   rw [hy] at hy'
   cases hx'
   cases hy'
   rw [e1,Zqv e2 fun j k m hk hm => (Zgz hC r _ _ (hkx k (List.mem_of_getElem? hk)) (hky m (List.mem_of_getElem? hm))).1 (e3 j k m hk hm)]
  ·intro h
   injection h with e1 e2
   have hl:x.2.length = y.2.length:=by simpa using congrArg List.length e2
   refine ⟨x,y,hx,hy,e1,hl,fun j k m hk hm => (Zgz hC r _ _ (hkx k (List.mem_of_getElem? hk)) (hky m (List.mem_of_getElem? hm))).2 ?_⟩
   have:=congrArg (fun l => l[j]?) e2
   simpa [hk,hm] using this
theorem Zky {nds:List ND} {L:List Nat} (hC:Closed nds L) {a b:Nat} (ha:a ∈ L) (hb:b ∈ L):(∀ r,sim nds r a b) ↔ lab nds a = lab nds b:=by
 constructor
 ·intro h
  funext r
  exact (Zgz hC r a b ha hb).1 (h r)
 ·intro h r
  exact (Zgz hC r a b ha hb).2 (congrFun h r)
section
open Classical
variable {α β κ:Type}
noncomputable def addB (v:List β) (k:β):List β:=if k ∈ v then v else v ++ [k]
noncomputable def Z2y (v:List β) (ks:List β):List β:=ks.foldl addB v
noncomputable def dd (l:List β):List β:=Z2y [] l
theorem Zw9 (v:List β) (k:β):∃ w,addB v k = v ++ w:=by
 unfold addB
 split
 ·exact ⟨[],by simp⟩
 ·exact ⟨[k],rfl⟩
theorem Zca:∀ (ks v:List β),∃ w,Z2y v ks = v ++ w
 | [],v => ⟨[],by simp [Z2y]⟩
 | k :: ks,v => by
  obtain ⟨w1,h1⟩:=Zw9 v k
  obtain ⟨w2,h2⟩:=Zca ks (addB v k)
  exact ⟨w1 ++ w2,by show Z2y (addB v k) ks = _; rw [h2,h1,List.append_assoc]⟩
theorem Zwy {v:List β} {k x:β}:x ∈ addB v k ↔ x ∈ v ∨ x = k:=by
 unfold addB
 split
 ·rename_i h
  constructor
  ·exact .inl
  ·rintro (h' | rfl)
   ·exact h'
   ·exact h
 ·simp
theorem Zlf {x:β}:∀ {ks v:List β},x ∈ Z2y v ks ↔ x ∈ v ∨ x ∈ ks
 | [],v => by simp [Z2y]
 | k :: ks,v => by
  show x ∈ Z2y (addB v k) ks ↔ _
  rw [Zlf (ks:=ks),Zwy,List.mem_cons,or_assoc]
theorem Zjf {x:β} {l:List β}:x ∈ dd l ↔ x ∈ l:=by
 unfold dd
 rw [Zlf]
 simp
theorem Zmm (v ks ls:List β):Z2y v (ks ++ ls) = Z2y (Z2y v ks) ls:=by
 unfold Z2y
 rw [List.foldl_append]
theorem Zfh (l m:List β):dd (l ++ m) = Z2y (dd l) m:=Zmm _ _ _
theorem Zgm (l:List β) (x:β):dd (l ++ [x]) = addB (dd l) x:=Zfh l [x]
theorem Zmn:∀ {ks v:List β},(∀ k ∈ ks,k ∈ v)→Z2y v ks = v
 | [],_,_ => rfl
 | k :: ks,v,h => by
  have hk:addB v k = v:=by unfold addB; rw [if_pos (h k (by simp))]
  show Z2y (addB v k) ks = v
  rw [hk]
  exact Zmn fun x hx => h x (by simp [hx])
theorem Zwa (v:List β) (k:β):(addB v k).length ≤ v.length + 1:=by
 unfold addB
 split <;> simp
theorem Zkx:∀ (ks v:List β),(Z2y v ks).length ≤ v.length + ks.length
 | [],v => by simp [Z2y]
 | k :: ks,v => by
  have h1:=Zwa v k
  have h2:=Zkx ks (addB v k)
  show (Z2y (addB v k) ks).length ≤ _
  rw [List.length_cons]
  omega
theorem dd_len (l:List β):(dd l).length ≤ l.length:=by
 have:=Zkx l ([]:List β)
 simpa [dd] using this
noncomputable def runL (κ:β→List β):Nat→List β→Nat→List β
 | 0,w,_ => w
 | g + 1,w,j => match w[j]? with
  | none => w
  | some b => runL κ g (Z2y w (κ b)) (j + 1)
theorem Zvo {κ:β→List β} {g:Nat} {w:List β} {j:Nat} (h:w.length ≤ j):runL κ g w j = w:=by
 cases g with
 | zero => rfl
 | succ g => unfold runL; rw [List.getElem?_eq_none h]
theorem Zuf {f:Nat→β}:∀ (ks v:List Nat),dd ((Z0d v ks).map f) = Z2y (dd (v.map f)) (ks.map f)
 | [],v => rfl
 | k :: ks,v => by
  show dd ((Z0d (addN v k) ks).map f) = Z2y (addB (dd (v.map f)) (f k)) (ks.map f)
  rw [Zuf ks (addN v k)]
  congr 1
  unfold addN
  split
  ·rename_i h
   unfold addB
   rw [if_pos (Zjf.2 (List.mem_map.2 ⟨k,h,rfl⟩))]
  ·rw [List.map_append,List.map_cons,List.map_nil,Zgm]
theorem Z90 {x:Nat}:∀ {ks v:List Nat},x ∈ Z0d v ks ↔ x ∈ v ∨ x ∈ ks
 | [],v => by simp [Z0d]
 | k :: ks,v => by
  show x ∈ Z0d (addN v k) ks ↔ _
  rw [Z90 (ks:=ks)]
  have:x ∈ addN v k ↔ x ∈ v ∨ x = k:=by
   unfold addN
   split
   ·rename_i h
    constructor
    ·exact .inl
    ·rintro (h' | rfl)
     ·exact h'
     ·exact h
   ·simp
  rw [this,List.mem_cons,or_assoc]
theorem run_lab {K:Nat→List Nat} {f:Nat→β} {κ:β→List β} {n:Nat} (hK:∀ a,a < n→∀ k ∈ K a,k < n) {P:Nat→Prop} (hP:∀ a,P a→∀ k ∈ K a,P k) (hκ:∀ a,P a→(K a).map f = κ (f a)):∀ (c:Nat) (v:List Nat) (i g:Nat),v.Nodup→(∀ a ∈ v,a < n)→(∀ a ∈ v,P a)→n + 1 ≤ i + c →
  n + 1 ≤ (dd ((v.take i).map f)).length + g→(∀ (x a:Nat),x < i→v[x]? = some a→∀ k ∈ K a,k ∈ v)→i ≤ v.length →
  dd ((runB K c v i).map f) = runL κ g (dd (v.map f)) (dd ((v.take i).map f)).length:=by
 intro c
 induction c with
 | zero =>
  intro v i g hnd hlt _ hc _ _ hi
  have:=Z2w hnd hlt
  omega
 | succ c ih =>
  intro v i g hnd hlt hPv hc hg hcl hi
  unfold runB
  cases hv:v[i]? with
  | none =>
   have hl:v.length ≤ i:=by simpa using hv
   rw [List.take_of_length_le hl,Zvo (Nat.le_refl _)]
  | some a =>
   simp only
   have ha:a ∈ v:=List.mem_of_getElem? hv
   have hil:i < v.length:=(List.getElem?_eq_some_iff.1 hv).1
   have htk:v.take (i + 1) = v.take i ++ [a]:=by rw [List.take_add_one,hv]; rfl
   obtain ⟨w,hw⟩:∃ w,Z0d v (K a) = v ++ w:=Z6h (K a) v
   have hnd':(Z0d v (K a)).Nodup:=(Zaf hnd hlt (hK a (hlt a ha))).1
   have hlt':∀ x ∈ Z0d v (K a),x < n:=fun x hx => by
    rcases Z90.1 hx with h | h
    ·exact hlt x h
    ·exact hK a (hlt a ha) x h
   have hP':∀ x ∈ Z0d v (K a),P x:=fun x hx => by
    rcases Z90.1 hx with h | h
    ·exact hPv x h
    ·exact hP a (hPv a ha) x h
   have htk':(Z0d v (K a)).take (i + 1) = v.take i ++ [a]:=by rw [hw,List.take_append_of_le_length (by omega),htk]
   have hcl':∀ (x b:Nat),x < i + 1→(Z0d v (K a))[x]? = some b→∀ k ∈ K b,k ∈ Z0d v (K a):=by
    intro x b hx hb k hk
    rw [hw,List.getElem?_append_left (by omega)] at hb
    by_cases e:x = i
    ·subst e
     rw [hv] at hb
     cases hb
     exact Z90.2 (.inr hk)
    ·exact Z90.2 (.inl (hcl x b (by omega) hb k hk))
   have hi':i + 1 ≤ (Z0d v (K a)).length:=by rw [hw,List.length_append]; omega
   have hdd:dd ((Z0d v (K a)).map f) = Z2y (dd (v.map f)) (κ (f a)):=by rw [Zuf,hκ a (hPv a ha)]
   have hm1:dd ((v.take i ++ [a]).map f) = addB (dd ((v.take i).map f)) (f a):=by rw [List.map_append,List.map_cons,List.map_nil,Zgm]
   by_cases hs:f a ∈ dd ((v.take i).map f)
   ·have e1:addB (dd ((v.take i).map f)) (f a) = dd ((v.take i).map f):=by unfold addB; rw [if_pos hs]
    have:=ih (Z0d v (K a)) (i + 1) g hnd' hlt' hP' (by omega) (by rw [htk',hm1,e1]; exact hg) hcl' hi'
    rw [this,htk',hm1,e1,hdd]
    congr 1
    refine Zmn fun k hk => ?_
    obtain ⟨a0,ha0,e0⟩:=List.mem_map.1 (Zjf.1 hs)
    obtain ⟨x,hx,hxa⟩:=List.mem_iff_getElem.1 ha0
    rw [List.length_take] at hx
    rw [List.getElem_take] at hxa
    have hxa':v[x]? = some a0:=by rw [List.getElem?_eq_getElem (by omega),hxa]
    rw [← e0,← hκ a0 (hPv a0 (List.mem_of_getElem? hxa'))] at hk
    obtain ⟨k',hk',rfl⟩:=List.mem_map.1 hk
    exact Zjf.2 (List.mem_map.2 ⟨k',hcl x a0 (by omega) hxa' k' hk',rfl⟩)
   ·have e1:addB (dd ((v.take i).map f)) (f a) = dd ((v.take i).map f) ++ [f a]:=by unfold addB; rw [if_neg hs]
    have hat:(dd (v.map f))[(dd ((v.take i).map f)).length]? = some (f a):=by
     have e2:v.map f = (v.take i ++ [a]).map f ++ (v.drop (i + 1)).map f:=by rw [← List.map_append,← htk,List.take_append_drop]
     obtain ⟨T,hT⟩:=Zca ((v.drop (i + 1)).map f) (dd ((v.take i ++ [a]).map f))
     rw [e2,Zfh,hT,hm1,e1,List.append_assoc,List.getElem?_append_right (Nat.le_refl _)]
     simp
    have hjn:(dd ((v.take i).map f)).length < n:=by
     have h1:(dd ((v.take i).map f)).length ≤ i:=Nat.le_trans (dd_len _) (by simp; omega)
     have:=Z2w hnd hlt
     omega
    obtain ⟨g',rfl⟩:∃ g',g = g' + 1:=⟨g - 1,by omega⟩
    have:=ih (Z0d v (K a)) (i + 1) g' hnd' hlt' hP' (by omega) (by rw [htk',hm1,e1,List.length_append,List.length_singleton]; omega) hcl' hi'
    rw [this,htk',hm1,e1,hdd,List.length_append]
    conv => rhs; unfold runL
    rw [hat]
    rfl
end
end Go.Proofs
end
section
open Go Go.AM
namespace Go.AM
theorem Zvf {P:Program} {γ:RO→Option AVal} {s:St} {Q:AVal→St→Prop} {es ox:Nat} {x y:RO} {bx:Pos} {cx:Cap} {yv:AVal}
  (hx:γ x = some (.slice bx ox 0 cx)) (hy:γ y = some yv) (hs:Z1o yv = some 0) (h:Q (.int .i64 0) s):opP P (.copy (some es) x y) γ s Q:=by
 refine ⟨_,_,fun rec K hK => ?_,h⟩
 refine Z01.2 ⟨_,hx,Z01.2 ⟨_,hy,?_⟩⟩
 cases yv <;> cases hs <;> exact hK
end Go.AM
namespace Go.Proofs
set_option maxRecDepth 100000
def clOf (cls:List Int) (k:Int):Int:=(cls[k.toNat]?).getD 0
def Z4p (f:Int→Int) (ks:List Int) (j:Nat):List Int:=(ks.take j).map f ++ ks.drop j
theorem Zrd (f:Int→Int) (ks:List Int):Z4p f ks 0 = ks:=by simp [Z4p]
theorem Zkw (f:Int→Int) (ks:List Int) (j:Nat):(Z4p f ks j).length = ks.length:=by
 simp [Z4p]
 omega
theorem Ztf (f:Int→Int) (ks:List Int):Z4p f ks ks.length = ks.map f:=by simp [Z4p]
theorem Ztg {f:Int→Int} {ks:List Int} {j:Nat} {k:Int} (h:ks[j]? = some k):(Z4p f ks j)[j]? = some k:=by
 have hj:=(List.getElem?_eq_some_iff.1 h).1
 unfold Z4p
 rw [List.getElem?_append_right (by simp; omega)]
 have e:j - ((ks.take j).map f).length = 0:=by simp; omega
 rw [e,List.getElem?_drop]
 simpa using h
theorem Zrc {f:Int→Int} {ks:List Int} {j:Nat} {k:Int} (h:ks[j]? = some k):(Z4p f ks j).set j (f k) = Z4p f ks (j + 1):=by
 have hj:=(List.getElem?_eq_some_iff.1 h).1
 unfold Z4p
 have hl:((ks.take j).map f).length = j:=by simp; omega
 rw [List.set_append_right _ _ (by omega),hl,Nat.sub_self,List.take_add_one,h]
 have hd:ks.drop j = k :: ks.drop (j + 1):=by
  rw [List.drop_eq_getElem_cons hj]
  have:ks[j] = k:=(List.getElem?_eq_some_iff.1 h).2
  rw [this]
 rw [hd]
 simp
theorem Zlu:∀ (l:List (List UInt8 × AVal)) (i:Nat) (c:List UInt8 × AVal) (nm:List UInt8),l[i]? = some c→lay (penc l) (i * 2) [.str nm] = penc (l.set i (nm,c.2))
 | [],i,c,nm,h => by simp at h
 | d :: l,0,c,nm,h => by
  simp at h
  subst h
  simp [lay,penc]
 | d :: l,i + 1,c,nm,h => by
  have ih:=Zlu l i c nm (by simpa using h)
  have e:penc (d :: l) = [.str d.1,d.2] ++ penc l:=rfl
  have e2:penc ((d :: l).set (i + 1) (nm,c.2)) = [.str d.1,d.2] ++ penc (l.set i (nm,c.2)):=rfl
  rw [e,e2,← ih]
  have e3:(i + 1) * 2 = i * 2 + 2:=by omega
  rw [e3]
  simp [lay]
theorem Zlv:∀ (l:List (List UInt8 × AVal)) (i:Nat) (c:List UInt8 × AVal) (kv:AVal),l[i]? = some c→lay (penc l) (i * 2 + 1) [kv] = penc (l.set i (c.1,kv))
 | [],i,c,nm,h => by simp at h
 | d :: l,0,c,nm,h => by
  simp at h
  subst h
  simp [lay,penc]
 | d :: l,i + 1,c,nm,h => by
  have ih:=Zlv l i c nm (by simpa using h)
  have e:penc (d :: l) = [.str d.1,d.2] ++ penc l:=rfl
  have e2:penc ((d :: l).set (i + 1) (c.1,nm)) = [.str d.1,d.2] ++ penc (l.set i (c.1,nm)):=rfl
  rw [e,e2,← ih]
  have e3:(i + 1) * 2 + 1 = i * 2 + 1 + 2:=by omega
  rw [e3]
  simp [lay]
theorem Zpb:∀ (ns:List ND) (V:List AVal) (i:Nat) (nm:List UInt8) (ks:List Int) (kv:AVal),V[i]? = some kv→(List.zipWith (fun nd kv => (nd.1,kv)) ns V).set i (nm,kv) = List.zipWith (fun (nd:ND) kv => (nd.1,kv)) (ns.set i (nm,ks)) V
 | [],V,i,nm,ks,kv,h => by simp
 | n :: ns,[],i,nm,ks,kv,h => by simp at h
 | n :: ns,v :: V,0,nm,ks,kv,h => by simp at h; subst h; simp
 | n :: ns,v :: V,i + 1,nm,ks,kv,h => by
  have:=Zpb ns V i nm ks kv (by simpa using h)
  simpa using this
theorem Zpc:∀ (ns:List ND) (V:List AVal) (i:Nat) (nd:ND) (kv:AVal),ns[i]? = some nd→(List.zipWith (fun (nd:ND) kv => (nd.1,kv)) ns V).set i (nd.1,kv) = List.zipWith (fun (nd:ND) kv => (nd.1,kv)) ns (V.set i kv)
 | [],V,i,nm,kv,h => by simp at h
 | n :: ns,[],i,nm,kv,h => by simp
 | n :: ns,v :: V,0,nm,kv,h => by simp at h; subst h; simp
 | n :: ns,v :: V,i + 1,nm,kv,h => by
  have:=Zpc ns V i nm kv (by simpa using h)
  simpa using this
theorem Zsk {ns:List ND} {V:List AVal} {i:Nat} {nd:ND} {kv:AVal} (nm:List UInt8) (ks:List Int) (h1:ns[i]? = some nd) (h2:V[i]? = some kv):lay (Z0l ns V) (i * 2) [.str nm] = Z0l (ns.set i (nm,ks)) V:=by
 unfold Z0l
 rw [Zlu _ i (nd.1,kv) nm (by simp [List.getElem?_zipWith,h1,h2]),Zpb ns V i nm ks kv h2]
theorem Zsl {ns:List ND} {V:List AVal} {i:Nat} {nd:ND} {kv:AVal} (kv':AVal) (h1:ns[i]? = some nd) (h2:V[i]? = some kv):lay (Z0l ns V) (i * 2 + 1) [kv'] = Z0l ns (V.set i kv'):=by
 unfold Z0l
 rw [Zlv _ i (nd.1,kv) kv' (by simp [List.getElem?_zipWith,h1,h2]),Zpc ns V i nd kv' h1]
def Zil (Bn:Pos) (ns:List ND) (m:Lets):Prop:=∃ V mr,m.Perm ((Bn,C (Z0l ns V)) :: mr)∧Z16 (ns.map Prod.snd) V mr
theorem Zil.at {s0 s:St} {W:Pos→Prop} {Bn:Pos} {ns:List ND} {m:Lets} (h:Zil Bn ns m) (c:Cap) (hc:Ctx s0 W m s):Z1i s (.slice Bn 0 ns.length c) ns:=by
 obtain ⟨V,mr,hp,hR⟩:=h
 have hc':=hc.perm hp
 have hV:V.length = ns.length:=by simpa using hR.len
 refine .inr ⟨Bn,0,c,_,rfl,hc'.oi 0 rfl,hc'.c 0 rfl,by rw [Z6e hV]; omega,fun i nd hi => ?_⟩
 obtain ⟨kv,g1,g2⟩:=hR.each (i:=i) (ks:=nd.2) (by rw [List.getElem?_map,hi]; rfl)
 obtain ⟨e1,e2⟩:=Z7h hi g1
 rw [Nat.zero_add]
 refine ⟨e1,kv,e2,?_⟩
 rcases g2 with ⟨e3,e4⟩ | ⟨q',c',e3,e4,e5⟩
 ·exact .inl ⟨e4,e3⟩
 ·rw [e4]
  exact Z4l hc'.wf (Z17 (hc'.own _ (List.mem_cons_of_mem _ e5))) c'
theorem Zem {cls:List Int} {nds:List ND}:∀ {l:List Nat} {x:ND},x ∈ outF cls nds l→∃ a nd,a ∈ l∧nds[a]? = some nd∧x = Z45 cls nd:=by
 have key:∀ (l:List Nat) (out:List ND) (x:ND),x ∈ l.foldl (Z2k cls nds) out→x ∈ out ∨ ∃ a nd,a ∈ l∧nds[a]? = some nd∧x = Z45 cls nd:=by
  intro l
  induction l with
  | nil => intro out x h; exact .inl h
  | cons a l ih =>
   intro out x h
   rcases ih _ x h with h | ⟨b,nd,h1,h2,h3⟩
   ·unfold Z2k at h
    split at h
    ·rename_i c nd hc hnd
     split at h
     ·exact .inl h
     ·rcases List.mem_append.1 h with h | h
      ·exact .inl h
      ·exact .inr ⟨a,nd,by simp,hnd,by simpa using h⟩
    ·exact .inl h
   ·exact .inr ⟨b,nd,by simp [h1],h2,h3⟩
 intro l x h
 rcases key l [] x h with h | h
 ·cases h
 ·exact h
def padF (M:Nat) (l:List ND):List ND:=l ++ List.replicate (M - l.length) ([],[])
theorem Zxc {M:Nat} {l:List ND} (h:l.length ≤ M):(padF M l).length = M:=by
 simp [padF]
 omega
theorem Zxd {M:Nat} {l:List ND} (h:l.length < M):(padF M l)[l.length]? = some ([],[]):=by
 unfold padF
 rw [List.getElem?_append_right (Nat.le_refl _),Nat.sub_self,List.getElem?_replicate,if_pos (by omega)]
theorem Zob {M:Nat} {l:List ND} {i:Nat} {x:ND} (h:l[i]? = some x):(padF M l)[i]? = some x:=by
 unfold padF
 rw [List.getElem?_append_left (List.getElem?_eq_some_iff.1 h).1]
 exact h
theorem Zoc {M:Nat} {l:List ND} (x:ND) (h:l.length < M):(padF M l).set l.length x = padF M (l ++ [x]):=by
 unfold padF
 rw [List.set_append_right _ _ (Nat.le_refl _),Nat.sub_self]
 have e:M - l.length = (M - (l ++ [x]).length) + 1:=by simp; omega
 rw [e,List.replicate_succ,List.set_cons_zero]
 simp
theorem Zpt {ns ns':List ND} (V:List AVal) (h:ns.map Prod.fst = ns'.map Prod.fst):Z0l ns V = Z0l ns' V:=by
 have key:∀ l:List ND,List.zipWith (fun (nd:ND) kv => (nd.1,kv)) l V = List.zipWith (fun (n:List UInt8) kv => (n,kv)) (l.map Prod.fst) V:=fun l => by rw [List.zipWith_map_left]
 unfold Z0l
 rw [key,key,h]
theorem Zww {cs:List AVal} {o:Nat} {ks:List Int} (hl:o + ks.length ≤ cs.length) (h:∀ i k,ks[i]? = some k→cs[o + i]? = some (.int .i64 k)):(cs.drop o).take ks.length = ints ks:=by
 refine List.ext_getElem? fun i => ?_
 rw [List.getElem?_take,List.getElem?_drop,List.getElem?_map]
 by_cases hi:i < ks.length
 ·rw [if_pos hi,h i _ (List.getElem?_eq_getElem hi),List.getElem?_eq_getElem hi]
  rfl
 ·rw [if_neg hi,List.getElem?_eq_none (by omega)]
  rfl
theorem Zro {P:Program} {γ:RO→Option AVal} {s0 s:St} {W:Pos→Prop} {Q:AVal→St→Prop} {pre r:Lets} {x y:RO} {Bk:Pos} {kv:AVal} {ks:List Int} {c:Cap}
  (hc:Ctx s0 W (pre ++ (Bk,C (List.replicate ks.length (.int .i64 0))) :: r) s) (hx:γ x = some (.slice Bk 0 ks.length c)) (hy:γ y = some kv) (hk:Z0h s kv ks)
  (q:∀ v s',Ctx s0 W (pre ++ (Bk,C (ints ks)) :: r) s'→Q v s'):opP P (.copy (some 1) x y) γ s Q:=by
 by_cases h0:ks = []
 ·subst h0
  exact Zvf hx hy hk.len (q _ _ hc)
 ·have hl:ks.length ≠ 0:=by simpa using h0
  rcases hk with ⟨_,e⟩ | ⟨b,o,c',cs,rfl,hb,hcs,hle,hel⟩
  ·exact (h0 e).elim
  ·have hk0:s.own Bk = some (List.replicate ks.length (.int .i64 0)):=Z17 (hc.own (Bk,C _) (by simp))
   refine Zo1 (ox:=0) (o:=o) hx hy hl hk0 hcs (by omega) (by simp) ?_
   rw [Nat.mul_one,Zww hle hel]
   have e:lay (List.replicate ks.length (AVal.int .i64 0)) 0 (ints ks) = ints ks:=by simp [lay]
   rw [e]
   have hi:(pre ++ (Bk,C (List.replicate ks.length (.int .i64 0))) :: r)[pre.length]? = some (Bk,C (List.replicate ks.length (.int .i64 0))):=by simp
   have:=hc.put pre.length hi (C (ints ks))
   rw [List.set_append_right _ _ (Nat.le_refl _),Nat.sub_self,List.set_cons_zero] at this
   exact q _ _ this
end Go.Proofs
end
section
open Go Go.AM
namespace Go.Proofs
set_option maxRecDepth 100000
theorem Zui (p:Pos) (o n c:Nat):Z2z 8 (.agg [.slice p o n (.lim c)]) (.agg [.slice p o n (.lim c)]) = true:=by
 simp [Z2z,Ze6]
theorem Zw2 {s0 s:St} {W:Pos→Prop} {n a:Nat} {v:List Nat} {B4 Bm:Pos} {pre r:Lets} {Q:AVal→St→Prop} (hc:Ctx s0 W (pre ++ ((B4,C [.slice Bm 0 n (.lim n)]) :: (Bm,C (metL n v)) :: r)) s) (ha:a < n) (hav:a ∉ v)
  (q:∀ s',Ctx s0 W (pre ++ ((B4,C [.slice Bm 0 n (.lim n)]) :: (Bm,C (metL n (v ++ [a]))) :: r)) s'→Q (.tup []) s'):Z0c Tryd.prog 74 [.int .i64 a,.ptr B4 0] s Q:=by
 have hc0:Ctx s0 W ((B4,C [.slice Bm 0 n (.lim n)]) :: (Bm,C (metL n v)) :: (pre ++ r)) s:=hc.perm (List.perm_middle.trans (List.Perm.cons _ List.perm_middle))
 have hset:=Zeh ha hav
 have e:addN v a = v ++ [a]:=by unfold addN; rw [if_neg hav]
 rw [e] at hset
 have hle:a + 1 ≤ (metL n v).length:=by rw [Z3p]; omega
 simp [lay] at hset
 refine Z08 (Z0i (by decide)) fi74 rfl (by decide) rfl ?_
 refine AM.wp_region ?_
 simp [hc0.c 0 rfl,hc0.o 1 rfl,ha,hle]
 rw [hset]
 have c1:=hc0.put 1 rfl (C (metL n (v ++ [a])))
 simp only [List.set_cons_succ,List.set_cons_zero] at c1
 exact q _ (c1.perm (List.perm_middle.trans (List.Perm.cons _ List.perm_middle)).symm)
def Z25 (cs:List CV):List Nat:=bfsF (kidN cs) cs.length ((Z21 cs cs.length).map Int.toNat)
def Z3m (cs:List CV) (v:List Nat) (i:Nat):List Int:=((Z0z cs i).filter fun j => decide (j ∉ v)).map fun (j:Nat) => (j:Int)
def Zdt (cs:List CV):Int × Int × List CV:=((Z3m cs (Z25 cs) cs.length).length,0,relC cs (Z3m cs (Z25 cs) cs.length))
theorem Ztb {cs:List CV} {v:List Nat} {i:Nat} {c:CV} (h:cs[i]? = some c) (ht:c.taken = true):Z3m cs v (i + 1) = Z3m cs v i ++ (if i ∈ v then [] else [(i:Int)]):=by
 unfold Z3m
 rw [Z88 h ht,List.filter_append]
 by_cases hh:i ∈ v <;> simp [hh]
theorem Ztc {cs:List CV} {v:List Nat} {i:Nat} {c:CV} (h:cs[i]? = some c) (ht:c.taken = false):Z3m cs v (i + 1) = Z3m cs v i:=by
 unfold Z3m
 rw [Za8 h ht]
theorem Zm7 (cs:List CV) (v:List Nat) (i:Nat):(Z3m cs v i).length ≤ i:=by
 unfold Z3m Z0z
 rw [List.length_map]
 refine Nat.le_trans (List.length_filter_le _ _) (Nat.le_trans (List.length_filter_le _ _) (by simp))
theorem Zgg {cs:List CV} {v:List Nat} {i:Nat} {k:Int}:k ∈ Z3m cs v i ↔ 0 ≤ k∧k < i∧Z06 cs k = true∧k.toNat ∉ v:=by
 unfold Z3m
 simp only [List.mem_map,List.mem_filter,Z44,decide_eq_true_eq]
 constructor
 ·rintro ⟨j,⟨⟨h1,h2⟩,h3⟩,rfl⟩
  exact ⟨by omega,by omega,h2,by simpa using h3⟩
 ·rintro ⟨h0,h1,h2,h3⟩
  have e:((k.toNat:Nat):Int) = k:=by omega
  exact ⟨k.toNat,⟨⟨by omega,by rw [e]; exact h2⟩,h3⟩,e⟩
theorem Z8s {cs:List CV} {i:Nat} {k:Int} (h:k ∈ Z21 cs i):0 ≤ k∧k < i∧Z06 cs k = true:=by
 unfold Z21 at h
 simp only [List.mem_map,List.mem_filter,Z44] at h
 obtain ⟨j,⟨⟨h1,h2⟩,_⟩,rfl⟩:=h
 exact ⟨by omega,by omega,h2⟩
theorem Zsj {l:List Int} (h:∀ k ∈ l,0 ≤ k):nats (l.map Int.toNat) = l:=by
 unfold nats
 rw [List.map_map]
 have:∀ k ∈ l,((fun (a:Nat) => (a:Int)) ∘ Int.toNat) k = k:=fun k hk => by
  have:=h k hk
  simp only [Function.comp]
  omega
 exact (List.map_congr_left this).trans (by simp)
theorem Zxl {cs:List CV} (hO:HOk2 cs):∀ a,a < cs.length→(Z0y cs a).length ≤ 4∧∀ k ∈ Z0y cs a,0 ≤ k∧k < cs.length:=by
 intro a ha
 have hcd:cs[a]? = some cs[a]:=List.getElem?_eq_getElem ha
 rw [Z1l hcd]
 refine ⟨hO.kids4 _ (List.getElem_mem ha),fun k hk => ?_⟩
 cases hta:cs[a].taken with
 | true =>
  obtain ⟨k0,_,_,_,k1⟩:=Z1v (hO.kids _ (List.getElem_mem ha) hta k hk)
  exact ⟨k0,by omega⟩
 | false =>
  rw [hO.free _ (List.getElem_mem ha) hta] at hk
  cases hk
theorem sweep_c {s0 s:St} {W:Pos→Prop} {hb:Pos} {vs:AVal} {cs:List CV} {m r:Lets} {Q:AVal→St→Prop} (hH:Z26 hb vs cs m) (h:Ctx s0 W (m ++ r) s) (hO:HOk2 cs)
  (q:∀ m' s',Z26 hb vs (Zdt cs).2.2 m'→Ctx s0 W (m' ++ r) s'→Q (.tup [.int .i64 (Zdt cs).1,.int .i64 (Zdt cs).2.1]) s'):Z0c Tryd.prog 29 [.ptr hb 0] s Q:=by
 obtain ⟨p,V,mr,hc,hR,hV,h1,h4,hP⟩:=Z7w hH h
 have hl:=Z24 hV
 have hno:cs.length ≠ 0:=by omega
 have hz1:cs.length ≤ Z0n:=by unfold Z0n; omega
 refine Z08 (Z0i (by decide)) fi29 rfl (by decide) rfl ?_
 refine Z00 ?_
 simp
 refine AM.wp_seq ?_
 refine Z00 ?_
 simp
 refine Z02 ?_
 refine Z6b (hc.c 0 rfl) rfl hno ?_
 simp
 refine AM.Z03 ?_
 simp
 refine AM.wp_skip ?_
 simp
 refine Z00 ?_
 simp [hc.c 0 rfl,hz1]
 have c1:=hc.alloc (C (List.replicate cs.length (.bool false)))
 generalize s.alloc (.cells (List.replicate cs.length (.bool false)) false) = s1 at c1 ⊢
 generalize s.next = Bm at c1 ⊢
 have c2:=(c1.alloc (C [.nilSlice])).put 0 rfl (C [.slice Bm 0 cs.length (.lim cs.length)])
 simp only [List.set_cons_zero] at c2
 generalize (s1.alloc (.cells [.nilSlice] false)).put s1.next (.cells [.slice Bm 0 cs.length (.lim cs.length)] false) = s2 at c2 ⊢
 generalize s1.next = B4 at c2 ⊢
 have hm0:List.replicate cs.length (AVal.bool false) = metL cs.length []:=by
  refine List.ext_getElem? fun j => ?_
  by_cases hj:j < cs.length
  ·rw [Z60 _ hj,List.getElem?_replicate,if_pos hj]
   simp
  ·rw [List.getElem?_eq_none (by simp; omega),List.getElem?_eq_none (by rw [Z3p]; omega)]
 rw [hm0] at c2
 refine Z00 ?_
 simp [c2.c 2 rfl]
 refine Z02 ?_
 refine Zqp (p:=p) (V:=V) (cs:=cs) c2 hV h4 (fun x s' hx => ?_) fun lv mg x s3 hg c3 => ?_
 ·have hx':(p,C (encs (rcs cs V))) ∈ x ++ ((B4,C [.slice Bm 0 cs.length (.lim cs.length)]) :: (Bm,C (metL cs.length [])) :: (hb,C [.slice p 0 cs.length (.lim cs.length),vs]) :: (p,C (encs (rcs cs V))) :: (mr ++ r)):=by simp
  exact ⟨hx.ob hx',Z0a (Z17 (hx.own _ hx'))⟩
 have c3:=(c3.sub (List.sublist_append_right x _))
 have c4:Ctx s0 W ([(B4,C [.slice Bm 0 cs.length (.lim cs.length)]),(Bm,C (metL cs.length []))] ++ ((hb,C [.slice p 0 cs.length (.lim cs.length),vs]) :: (p,C (encs (rcs cs V))) :: (mg ++ (mr ++ r)))) s3:=c3.perm (by
  have:=List.perm_append_comm (l₁:=mg) (l₂:=[(B4,C [.slice Bm 0 cs.length (.lim cs.length)]),(Bm,C (metL cs.length [])),(hb,C [.slice p 0 cs.length (.lim cs.length),vs]),(p,C (encs (rcs cs V)))])
  have:=this.append (List.Perm.refl (mr ++ r))
  simpa using this)
 have hlv:∀ t,¬ lv = .tup t:=hg.ntup
 simp [hlv,c4.c 2 rfl]
 refine ⟨Zui _ _ _ _,?_⟩
 refine Z02 ?_
 have hrn:nats ((Z21 cs cs.length).map Int.toNat) = Z21 cs cs.length:=Zsj fun k hk => (Z8s hk).1
 have hrl:=Zck cs cs.length
 have hroots:∀ a ∈ (Z21 cs cs.length).map Int.toNat,Z06 cs (a:Int) = true:=by
  intro a ha
  obtain ⟨k,hk,rfl⟩:=List.mem_map.1 ha
  obtain ⟨k0,_,kt⟩:=Z8s hk
  rw [Int.toNat_of_nonneg k0]
  exact kt
 refine Zkz (V:=V) (J:=fun v m => m = [(B4,C [.slice Bm 0 cs.length (.lim cs.length)]),(Bm,C (metL cs.length v))]) (roots:=(Z21 cs cs.length).map Int.toNat) (rv:=lv) (f:=74) (fx:=[]) (fy:=[.ptr B4 0])
  ⟨hV,h4,?_,fun a ha => Z1t (hroots a ha),by simp; omega,Zxl hO,?_⟩ c4 rfl hlv ?_
 ·rintro x m' s' hx ⟨v,rfl⟩
  obtain ⟨r1,r2,r3⟩:=Z6o (p:=p) (cs:=cs) (V:=V) hx (by simp) hR (fun y hy => by simp [hy])
  refine ⟨r1,r2,?_,r3⟩
  rw [hrn]
  exact (hg.row.kid fun y hy => hx.own y (by simp [hy])).ints hx.wf
 ·rintro a v x m' s' R rfl hav han hvn hvlt hx hq
  refine Z02 ?_
  exact Zw2 (pre:=x) (by simpa using hx) han hav fun s'' hx' => hq _ _ _ rfl (by simpa using hx')
 ·rintro x m' s5 rfl hx
  have c5:=hx.sub (List.sublist_append_right x _)
  simp only [List.cons_append,List.nil_append] at c5
  have hrd:bfsF (kidN cs) cs.length ((Z21 cs cs.length).map Int.toNat) = Z25 cs:=rfl
  rw [hrd] at c5
  simp only [Zdt] at q
  have hrlt:∀ a,a < cs.length→(metL cs.length (Z25 cs))[a]? = some (.bool (decide (a ∈ Z25 cs))):=fun a ha => Z60 _ ha
  generalize Z25 cs = v at c5 q hrlt
  simp
  refine Z00 ?_
  simp
  have c6:=c5.alloc (C [.nilSlice])
  generalize s5.alloc (.cells [.nilSlice] false) = s6 at c6 ⊢
  generalize s5.next = B5 at c6 ⊢
  refine AM.wp_seq ?_
  refine Z00 ?_
  simp [c6.c 3 rfl]
  refine Z02 ?_
  refine Z8m fun BB hBB => ?_
  have c7:=c6.alloc (C [.slice p 0 cs.length (.lim cs.length)])
  rw [← hBB] at c7
  generalize s6.alloc (.cells [.slice p 0 cs.length (.lim cs.length)] false) = s7 at c7 ⊢
  simp
  refine AM.wp_block ?_
  refine Zb1 (B:=BB) (p:=p) (l:=rcs cs V) (J:=fun i m => ∃ gv mh,Z1d gv (Z3m cs v i) mh∧m = (B5,C [gv]) :: (B4,C [.slice Bm 0 cs.length (.lim cs.length)]) :: (Bm,C (metL cs.length v)) :: (hb,C [.slice p 0 cs.length (.lim cs.length),vs]) :: (p,C (encs (rcs cs V))) :: (mh ++ (mg ++ (mr ++ r))))
   hl h4 (by simp) rfl fi29 rfl ?_ ?_ ?_ ⟨.nilSlice,[],.inl ⟨rfl,rfl,rfl⟩,rfl⟩ c7 ?_
  ·rintro i m s' ⟨gv,mh,hgr,rfl⟩ hc'
   exact ⟨hc'.oi 4 rfl,hc'.c 4 rfl⟩
  ·rintro i c m hci hct ⟨gv,mh,hgr,rfl⟩
   have hi:i < cs.length:=by have:=(List.getElem?_eq_some_iff.1 hci).1; rwa [hl] at this
   rw [Z1u (List.getElem?_eq_getElem hi) (List.getElem?_eq_getElem (show i < V.length by omega))] at hci
   cases hci
   exact ⟨gv,mh,by rw [Ztc (List.getElem?_eq_getElem hi) hct]; exact hgr,rfl⟩
  ·rintro i c s' m Lb X Wx hci hct ⟨gv,mh,hgr,rfl⟩ hc' hW
   have hi:i < cs.length:=by have:=(List.getElem?_eq_some_iff.1 hci).1; rwa [hl] at this
   rw [Z1u (List.getElem?_eq_getElem hi) (List.getElem?_eq_getElem (show i < V.length by omega))] at hci
   have hnx:=Ztb (v:=v) (List.getElem?_eq_getElem hi) (by cases hci; exact hct)
   have hgm:=hrlt i hi
   refine AM.wp_block ?_
   refine Z00 ?_
   simp [hc'.c 3 rfl,hc'.c 4 rfl,hi,hgm]
   refine AM.Z03 ?_
   by_cases hh:i ∈ v
   ·rw [if_pos hh,List.append_nil] at hnx
    simp [hh]
    refine AM.wp_skip ?_
    simp
    exact hW _ _ _ ⟨gv,mh,by rw [hnx]; exact hgr,rfl⟩ hc'
   ·rw [if_neg hh] at hnx
    simp [hh]
    refine AM.wp_region ?_
    simp [hc'.c 2 rfl,hgr.ntup,hgr.cells,Z1p,srcP]
    have d2:=hc'.alloc (C [.int .i64 i])
    generalize s'.alloc (.cells [.int .i64 i] false) = sB at d2 ⊢
    generalize s'.next = T at d2 ⊢
    have hgl:=Zm7 cs v i
    refine Z5c (pre:=[(T,C [.int .i64 i]),(Lb,X),(BB,C [.slice p 0 cs.length (.lim cs.length)]),(B5,C [gv]),(B4,C [.slice Bm 0 cs.length (.lim cs.length)]),(Bm,C (metL cs.length v)),(hb,C [.slice p 0 cs.length (.lim cs.length),vs]),(p,C (encs (rcs cs V)))]) d2 hgr (by omega) fun gv' mh' sC hgr' d3 => ?_
    simp at d3
    rw [← hnx] at hgr'
    simp [hgr'.ntup,hgr'.cells,d3.o 3 rfl]
    have d4:=(d3.put 3 rfl (C [gv'])).tail
    exact hW _ _ _ ⟨gv',mh',hgr',rfl⟩ d4
  ·rintro s' m ⟨gv,mh,hgr,rfl⟩ hc'
   have hglen:=Zm7 cs v cs.length
   have hgin:∀ k ∈ Z3m cs v cs.length,0 ≤ k∧k < cs.length:=fun k hk => by
    obtain ⟨a,b,_⟩:=Zgg.1 hk
    exact ⟨a,b⟩
   simp
   refine Z00 ?_
   simp [hc'.c 3 rfl,hc'.c 0 rfl,hgr.ntup]
   refine Z02 ?_
   refine Zly hl hc'.wf (hc'.o 4 rfl) (by omega) hgin (fun s'' hS => ?_) fun s12 hS hpn2 => ?_
   ·have hmg:Ctx s0 W mh s'':=(hc'.sub (m':=mh) (by
     refine List.Sublist.trans ?_ (List.drop_sublist 5 _)
     exact List.sublist_append_left _ _)).same hS (fun b hb ho => by
      simp at hb
      subst hb
      exact hc'.free _ (List.mem_of_getElem? (i:=4) rfl) ho) (fun x hx hb => by
      simp at hb
      exact hc'.apart 4 rfl (y:=x) (by simp [hx]) hb.symm)
    exact (hgr.row.kid fun x hx => hmg.own x hx).ints hmg.wf
   ·have c12:=hc'.chg 4 rfl hS (St.Z28 hpn2)
    simp only [List.set_cons_succ,List.set_cons_zero] at c12
    obtain ⟨V3,m3,dd,e1,e2,e3⟩:=Zic (Z3m cs v cs.length) (cs:=cs) (V:=V) (m:=mr) hV hR hgin
    rw [e1] at c12
    simp
    refine Z00 ?_
    simp [c12.c 0 rfl,hgr.len,hgr.ntup]
    refine AM.wp_ret ?_
    simp
    have hlen:(relC cs (Z3m cs v cs.length)).length = cs.length:=Zc8 _ _
    refine q _ _ (Z2n (p:=p) e2 (by omega) (by omega)) ?_
    rw [hlen]
    have c14:=c12.sub (m':=(hb,C [.slice p 0 cs.length (.lim cs.length),vs]) :: (p,C (encs (rcs (relC cs (Z3m cs v cs.length)) V3))) :: (mr ++ r)) (.cons _ (.cons _ (.cons _ (.cons_cons _ (.cons_cons _
     (List.Sublist.trans (List.sublist_append_right mg _) (List.sublist_append_right mh _)))))))
    have c15:=c14.perm (List.Perm.cons _ (List.Perm.cons _ (e3.append (List.Perm.refl r))))
    exact c15.sub (.cons_cons _ (.cons_cons _ ((List.sublist_append_left m3 dd).append (List.Sublist.refl r))))
def Za3 (es:Nat) (v:AVal) (k:Nat) (xs:List AVal) (m:Lets):Prop:=xs.length = k * es∧((k = 0∧v = .nilSlice∧m = []) ∨ ∃ q,k ≠ 0∧v = .slice q 0 k (.opn es)∧m = [(q,C xs)])
theorem Za3.nil (es:Nat):Za3 es .nilSlice 0 [] []:=⟨by simp,.inl ⟨rfl,rfl,rfl⟩⟩
theorem Za3.len {es k:Nat} {v:AVal} {xs:List AVal} {m:Lets} (h:Za3 es v k xs m):Z1o v = some k:=by
 rcases h with ⟨_,⟨rfl,rfl,_⟩ | ⟨q,_,rfl,_⟩⟩ <;> rfl
theorem Za3.ntup {es k:Nat} {v:AVal} {xs:List AVal} {m:Lets} (h:Za3 es v k xs m):∀ t,¬ v = .tup t:=by
 rintro t rfl
 have:=h.len
 cases this
theorem Zuo {s0 s:St} {W:Pos→Prop} {r pre mg:Lets} {es eb k:Nat} {v:AVal} {xs new:List AVal} {Q:AVal→St→Prop} (h:Ctx s0 W (pre ++ (mg ++ r)) s) (hg:Za3 es v k xs mg) (hn:new.length = es) (hs:(k + 1) * eb ≤ Z0n)
  (q:∀ v' mg' s',Za3 es v' (k + 1) (xs ++ new) mg'→Ctx s0 W (pre ++ (mg' ++ r)) s'→Q v' s'):appP (es,eb) v new 1 s Q:=by
 obtain ⟨hl,⟨rfl,rfl,rfl⟩ | ⟨b,hk,rfl,rfl⟩⟩:=hg
 ·have hx:xs = []:=List.length_eq_zero_iff.1 (by simpa using hl)
  subst hx
  simp only [appP,Z4r]
  rw [if_neg (by decide)]
  refine ⟨by simpa using hs,?_⟩
  have:=h.alloc (C new)
  refine q (.slice s.next 0 1 (.opn es)) [(s.next,C ([] ++ new))] _ ⟨by simp [hn],.inr ⟨_,by simp,rfl,rfl⟩⟩ (this.perm ?_)
  simp only [List.nil_append]
  exact List.perm_middle.symm
 ·have hb:s.own b = some xs:=Z17 (h.own (b,C xs) (by simp))
  have h1:Ctx s0 W ((b,C xs) :: (pre ++ r)) s:=h.perm (by simp)
  have h2:=(h1.put0 .dead).tail.alloc (C (xs ++ new))
  have hne:¬ 0 + (k + 1) * es ≤ xs.length ∨ es = 0:=by
   rcases Nat.eq_zero_or_pos es with e | e
   ·exact .inr e
   ·left
    rw [hl,Nat.zero_add,Nat.add_mul,Nat.one_mul]
    omega
  have ht:List.take (k * es) (List.drop 0 xs) = xs:=by rw [List.drop_zero]; exact List.take_of_length_le (by omega)
  have hnx:(s.put b .dead).next = s.next:=rfl
  simp only [appP,Z4r]
  rw [if_neg (by decide)]
  refine ⟨trivial,?_⟩
  rw [hb]
  simp only [Z13]
  rw [if_neg hk]
  by_cases hes:es = 0
  ·subst hes
   have hx:xs = []:=List.length_eq_zero_iff.1 (by simpa using hl)
   have hnn:new = []:=List.length_eq_zero_iff.1 hn
   subst hx hnn
   rw [if_pos (by simp)]
   refine ⟨by simp,?_⟩
   have h3:=h1.put0 (C [])
   refine q _ [(b,C ([] ++ []))] _ ⟨by simp,.inr ⟨b,by simp,rfl,rfl⟩⟩ (h3.perm ?_)
   exact List.perm_middle.symm
  ·rw [if_neg (by rcases hne with h | h; exact h; exact (hes h).elim)]
   refine ⟨by omega,hs,?_⟩
   rw [ht]
   refine q (.slice s.next 0 (k + 1) (.opn es)) [(s.next,C (xs ++ new))] _ ⟨by simp [hl,hn,Nat.add_mul],.inr ⟨_,by simp,rfl,rfl⟩⟩ (h2.perm ?_)
   rw [hnx]
   exact List.perm_middle.symm
def StateR (p:Pos) (cs:List CV) (m:Lets):Prop:=∃ V mr,m.Perm ((p,C (encs (rcs cs V))) :: mr)∧Z16 (cs.map CV.kids) V mr
theorem own_c {s0 s:St} {W:Pos→Prop} {p:Pos} {cs:List CV} {V:List AVal} {base:Lets} {Q:AVal→St→Prop} (hc:Ctx s0 W base s) (hV:V.length = cs.length) (h1:1 ≤ cs.length) (h4:cs.length ≤ 400) (hk4:∀ c ∈ cs,c.kids.length ≤ 1000)
  (hp:(p,C (encs (rcs cs V))) ∈ base) {mr:Lets} (hR:Z16 (cs.map CV.kids) V mr) (hmr:∀ x ∈ mr,x ∈ base)
  (q:∀ pn mn s',StateR pn cs mn→Ctx s0 W (mn ++ base) s'→Q (.agg [.slice pn 0 cs.length (.lim cs.length)]) s'):Z0c Tryd.prog 51 [.agg [.slice p 0 cs.length (.lim cs.length)]] s Q:=by
 have hl:=Z24 hV
 obtain ⟨r1,r2,r3⟩:=Z6o (p:=p) (cs:=cs) (V:=V) hc hp hR hmr
 refine own_w (K:=Z0y cs) hl hc.wf r1 r2 h1 h4 (fun j c hj => ?_) fun pn kvs s5 k5 hpn hopn hOwn => ?_
 ·have hlt:j < cs.length:=by have:=(List.getElem?_eq_some_iff.1 hj).1; rwa [hl] at this
  obtain ⟨kv,g1,g2⟩:=r3 j _ (List.getElem?_eq_getElem hlt)
  rw [Z1u (List.getElem?_eq_getElem hlt) g1] at hj
  cases hj
  rw [Z1l (List.getElem?_eq_getElem hlt)]
  exact ⟨g2,hk4 _ (List.getElem_mem hlt)⟩
 rw [Zqj hV] at hopn
 obtain ⟨mk,hRk,hok,hnk,hfk⟩:=Zoa hOwn
 generalize (List.range cs.length).map kvs = V' at hRk hopn
 have c5:=(hc.made k5 hpn (St.Z28 hopn)).addL (m:=mk) hok hnk (fun x hx ho => ((hfk x hx).1 (hc.old ho)).elim) (fun x hx => by
  rw [List.map_cons,List.mem_cons]
  rintro (e | hm)
  ·exact (hfk x hx).2 e
  ·obtain ⟨y,hy,e⟩:=List.mem_map.1 hm
   exact (hfk x hx).1 (e ▸ hc.ob hy))
 refine q pn ((pn,C (encs (rcs cs V'))) :: mk) s5 ⟨V',mk,List.Perm.refl _,hRk⟩ (c5.perm ?_)
 exact List.perm_middle
end Go.Proofs
end
section
open Go Go.AM
namespace Go.Proofs
open Classical in
noncomputable def one (x a:Pos × AObj):Nat:=if x = a then 1 else 0
noncomputable def cnt:Lets→Pos × AObj→Nat
 | [],_ => 0
 | x :: l,a => one x a + cnt l a
theorem Z0q (a:Pos × AObj):cnt [] a = 0:=rfl
theorem Z0j (x a:Pos × AObj) (l:Lets):cnt (x :: l) a = one x a + cnt l a:=rfl
theorem Z0e (a:Pos × AObj):∀ (l m:Lets),cnt (l ++ m) a = cnt l a + cnt m a
 | [],m => by simp [cnt]
 | x :: l,m => by rw [List.cons_append,Z0j,Z0j,Z0e a l m]; omega
theorem Z4j {l m:Lets} (h:l.Perm m) (a:Pos × AObj):cnt l a = cnt m a:=by
 induction h with
 | nil => rfl
 | cons x _ ih => rw [Z0j,Z0j,ih]
 | swap x y l => rw [Z0j,Z0j,Z0j,Z0j]; omega
 | trans _ _ h1 h2 => rw [h1,h2]
theorem Zqi {x:Pos × AObj}:∀ {l:Lets},0 < cnt l x→x ∈ l
 | [],h => by simp [cnt] at h
 | y :: l,h => by
  rw [Z0j] at h
  by_cases e:y = x
  ·simp [e]
  ·have:one y x = 0:=by unfold one; rw [if_neg e]
   rw [this,Nat.zero_add] at h
   exact List.mem_cons_of_mem _ (Zqi h)
theorem Znt (x:Pos × AObj):one x x = 1:=by unfold one; rw [if_pos rfl]
theorem Z0k:∀ {l m:Lets},(∀ a,cnt l a = cnt m a)→l.Perm m
 | [],m,h => by
  cases m with
  | nil => exact List.Perm.refl _
  | cons x m =>
   have:=h x
   rw [Z0j,Znt] at this
   simp [cnt] at this
   omega
 | x :: l,m,h => by
  have hx:x ∈ m:=Zqi (by rw [← h x,Z0j,Znt]; omega)
  obtain ⟨i,hi⟩:=List.getElem?_of_mem hx
  have hp:=Z8g m i x hi
  have:l.Perm (m.eraseIdx i):=Z0k fun a => by
   have h1:=h a
   have h2:=Z4j hp a
   rw [Z0j] at h1 h2
   omega
  exact (List.Perm.cons x this).trans hp.symm
end Go.Proofs
end
section
open Go Go.AM
namespace Go.Proofs
set_option maxRecDepth 100000
theorem Z16.nils:∀ {K:List (List Int)} {V:List AVal} {m:Lets} (k:Nat),Z16 K V m→Z16 (K ++ List.replicate k []) (V ++ List.replicate k .nilSlice) m
 | K,V,m,0,h => by simpa using h
 | K,V,m,k + 1,h => by
  have:=(Z16.nils k h).snoc (mk:=[]) (ks:=[]) (kv:=.nilSlice) (.inl ⟨rfl,rfl,rfl⟩)
  rw [List.replicate_succ',List.replicate_succ',← List.append_assoc,← List.append_assoc]
  simpa using this
theorem Zv3 {s:St} {nds:List ND} {Nv Lv Cv:AVal} {L:List Nat} {cls:List Int} {M:Nat} {Q:AVal→St→Prop} (hw:s.Wf) (hN:Z1i s Nv nds) (hL:Z0h s Lv (nats L)) (hC:Z0h s Cv cls)
  (hn:nds.length ≤ 1000) (hLl:L.length ≤ 1000) (hcl:cls.length = nds.length) (hlt:∀ a ∈ L,a < nds.length)
  (hk:∀ (a:Nat) nd,nds[a]? = some nd→nd.2.length ≤ 4∧∀ k ∈ nd.2,0 ≤ k∧k < nds.length) (hnm:∀ (a:Nat) nd,a ∈ L→nds[a]? = some nd→nd.1 ≠ [])
  (hord:∀ (j a:Nat),L[j]? = some a→∃ c:Nat,cls[a]? = some (c:Int)∧c ≤ (outF cls nds (L.take j)).length) (hM:(outF cls nds L).length = M)
  (q:∀ Bn mn s',Zil Bn (outF cls nds L) mn→Ctx s (fun _ => False) mn s'→Q (.agg [.slice Bn 0 M (.lim M),.int .i64 0]) s'):Z0c Tryd.prog 71 [Nv,Lv,Cv,.int .i64 M] s Q:=by
 have hML:M ≤ L.length:=by rw [← hM]; exact Zo8 _ _ _
 have hz1:M ≤ Z0n:=by unfold Z0n; omega
 have hz2:M * 40 ≤ Z0n:=by unfold Z0n; omega
 have hNt:=hN.ntup
 have hLt:=hL.ntup
 have hCt:=hC.ntup
 refine Z08 (Z0i (by decide)) fi71 rfl (by decide) rfl ?_
 refine Z00 ?_
 simp
 have d0:=(Ctx.start (fun _ => False) hw).alloc (C [.nilSlice,.int .i64 0])
 generalize s.alloc (.cells [.nilSlice,.int .i64 0] false) = s1 at d0 ⊢
 generalize s.next = B8 at d0 ⊢
 refine Z00 ?_
 simp [hz1,hz2]
 have hz0:(List.replicate M [AVal.str [],.nilSlice]).flatten = Z0l (padF M []) (List.replicate M .nilSlice):=by
  simp [padF,Z0l,penc,List.zipWith_replicate,List.flatMap]
 rw [hz0]
 have d1:=d0.alloc (C (Z0l (padF M []) (List.replicate M .nilSlice)))
 generalize s1.alloc (.cells (Z0l (padF M []) (List.replicate M .nilSlice)) false) = s2 at d1 ⊢
 generalize s1.next = Bn at d1 ⊢
 have d2:=(d1.alloc (C [.nilSlice,.int .i64 0])).put 0 rfl (C [.slice Bn 0 M (.lim M),.int .i64 0])
 simp only [List.set_cons_zero] at d2
 generalize (s2.alloc (.cells [.nilSlice,.int .i64 0] false)).put s2.next (.cells [.slice Bn 0 M (.lim M),.int .i64 0] false) = s3 at d2 ⊢
 generalize s2.next = B9 at d2 ⊢
 have hR0:Z16 ((padF M []).map Prod.snd) (List.replicate M .nilSlice) []:=by
  have:=Z16.nils (K:=[]) (V:=[]) (m:=[]) M rfl
  simpa [padF] using this
 have d3:Ctx s (fun _ => False) ((B9,C [.slice Bn 0 M (.lim M),.int .i64 0]) :: (B8,C [.nilSlice,.int .i64 0]) :: (Bn,C (Z0l (padF M []) (List.replicate M .nilSlice))) :: []) s3:=d2.perm (Z0k fun x => by
  simp only [Z0j,Z0q]
  omega)
 refine AM.wp_seq ?_
 refine Z00 ?_
 simp [hLt,hL.len]
 refine AM.wp_block ?_
 refine AM.wp_loop (fun k t s' => ∃ (j:Nat) (V:List AVal) (mr:Lets),j ≤ L.length∧k = L.length - j∧PT.get (posOf 0) t = some Nv∧PT.get (posOf 2) t = some Cv∧PT.get (posOf 8) t = some (.ptr B8 0)∧PT.get (posOf 9) t = some (.ptr B9 0) ∧
   PT.get (posOf 18) t = some Lv∧PT.get (posOf 19) t = some (.int .i64 L.length)∧PT.get (posOf 20) t = some (.int .i64 j)∧Z16 ((padF M (outF cls nds (L.take j))).map Prod.snd) V mr ∧
   Ctx s (fun _ => False) ((B9,C [.slice Bn 0 M (.lim M),.int .i64 0]) :: (B8,C [.nilSlice,.int .i64 0]) :: (Bn,C (Z0l (padF M (outF cls nds (L.take j))) V)) :: mr) s') L.length
  ⟨0,List.replicate M .nilSlice,[],by simp,by simp,by simp,by simp,by simp,by simp,by simp,by simp,by simp,by simpa [outF] using hR0,by simpa [outF] using d3⟩ ?_
 rintro k t s' ⟨j,V,mr,hj,rfl,t0,t2,t8,t9,t18,t19,t20,hR,d⟩
 refine Z00 ?_
 simp [t19,t20]
 refine AM.wp_seq ?_
 refine AM.Z03 ?_
 by_cases hlt':j < L.length
 ·have hwr:IntKind.wrap .i64 ((j:Int) + 1) = ((j + 1:Nat):Int):=by rw [IntWalk.i64_in _ (by omega)]; omega
  obtain ⟨a,ha⟩:∃ a,L[j]? = some a:=⟨_,List.getElem?_eq_getElem hlt'⟩
  have haL:=List.mem_of_getElem? ha
  have han:=hlt a haL
  obtain ⟨nd,hnd⟩:∃ nd,nds[a]? = some nd:=⟨_,List.getElem?_eq_getElem han⟩
  obtain ⟨c,hc,hcle⟩:=hord j a ha
  have hnx:=Zls (cls:=cls) (nds:=nds) ha
  have hst:Z2k cls nds (outF cls nds (L.take j)) a = if (c:Int) < (outF cls nds (L.take j)).length then outF cls nds (L.take j) else outF cls nds (L.take j) ++ [Z45 cls nd]:=by
   unfold Z2k
   rw [hc,hnd]
  rw [hst] at hnx
  have hmono:=Zg7 cls nds L (j + 1)
  have hmono0:=Zg7 cls nds L j
  obtain ⟨hk4,hkin⟩:=hk a nd hnd
  have hndn:=hnm a nd haL hnd
  have hnames:∀ x ∈ outF cls nds (L.take j),x.1 ≠ []:=fun x hx => by
   obtain ⟨b,nd',h1,h2,rfl⟩:=Zem hx
   exact hnm b nd' (List.mem_of_mem_take h1) h2
  have hpl:(padF M (outF cls nds (L.take j))).length = M:=Zxc (by omega)
  have hVl:V.length = M:=by have:=hR.len; simpa [hpl] using this
  have hcM:c < M:=by
   by_cases h:(c:Int) < (outF cls nds (L.take j)).length
   ·omega
   ·rw [if_neg h] at hnx
    rw [hnx] at hmono
    simp at hmono
    omega
  have hel:=Z6e (ns:=padF M (outF cls nds (L.take j))) (V:=V) (by omega)
  rcases hL with ⟨_,e0⟩ | ⟨bl,ol,cl,cellsl,rfl,hbl,hcsl,hlel,hell⟩
  ·have:L = []:=by simpa using e0
   rw [this] at hlt'
   simp at hlt'
  rw [List.length_map] at t18
  have hgl:=hell j (a:Int) (by rw [List.getElem?_map,ha]; rfl)
  rcases hC with ⟨_,e0⟩ | ⟨bx,ox,cx,cellsx,rfl,hbx,hcsx,hlex,helx⟩
  ·rw [e0] at hc
   simp at hc
  have hgx:=helx a (c:Int) hc
  have hax:a < cls.length:=by omega
  rcases hN with ⟨_,e0⟩ | ⟨bn,on,cn,cellsn,rfl,hbn,hcsn,hlen,heln⟩
  ·rw [e0] at hnd
   simp at hnd
  obtain ⟨hgn,kv,hgk,hkv⟩:=heln a _ hnd
  have rl:∀ {m:Lets} {s'':St},Ctx s (fun _ => False) m s''→s''.cells bl = some cellsl:=fun d => (d.Z0g.cells hbl).trans hcsl
  have rx:∀ {m:Lets} {s'':St},Ctx s (fun _ => False) m s''→s''.cells bx = some cellsx:=fun d => (d.Z0g.cells hbx).trans hcsx
  have rn:∀ {m:Lets} {s'':St},Ctx s (fun _ => False) m s''→s''.cells bn = some cellsn:=fun d => (d.Z0g.cells hbn).trans hcsn
  simp [hlt']
  refine AM.wp_skip ?_
  simp
  refine AM.wp_seq ?_
  refine AM.wp_block ?_
  refine Z00 ?_
  simp [t18,t20,hlt',rl d,hgl]
  refine Z00 ?_
  simp [t2,t9,hax,rx d,hgx,d.c 0 rfl,hcM]
  refine AM.wp_seq ?_
  by_cases hx:(c:Int) < (outF cls nds (L.take j)).length
  ·rw [if_pos hx] at hnx
   obtain ⟨x,hxx⟩:∃ x,(outF cls nds (L.take j))[c]? = some x:=⟨_,List.getElem?_eq_getElem (by omega)⟩
   have hxn:=hnames x (List.mem_of_getElem? hxx)
   obtain ⟨kv',g1,_⟩:=hR.each (i:=c) (ks:=x.2) (by rw [List.getElem?_map,Zob hxx]; rfl)
   obtain ⟨e1,_⟩:=Z7h (Zob (M:=M) hxx) g1
   refine Z00 ?_
   simp [d.c 2 rfl,e1]
   refine AM.Z03 ?_
   simp [hxn]
   refine AM.wp_exit ?_
   simp
   refine AM.wp_region ?_
   simp [t20,hwr]
   refine ⟨L.length - (j + 1),by omega,j + 1,by omega,by omega,by simp [t0],by simp [t2],by simp [t8],by simp [t9],by simp [t18],by simp [t19],by simp,V,mr,by rw [hnx]; exact hR,by rw [hnx]; exact d⟩
  ·rw [if_neg hx] at hnx
   have hce:c = (outF cls nds (L.take j)).length:=by omega
   generalize hout:outF cls nds (L.take j) = out at *
   subst hce
   have hnew:=Zxd (l:=out) hcM
   obtain ⟨kv0,m1,m2,g1,g2,g3,g4⟩:=hR.at (i:=out.length) (ks:=[]) (by rw [List.getElem?_map,hnew]; rfl)
   obtain rfl:m1 = []:=by
    rcases g2 with ⟨_,_,h⟩ | ⟨_,_,h,_⟩
    ·exact h
    ·exact (h rfl).elim
   obtain ⟨e1,e2⟩:=Z7h hnew g1
   refine Z00 ?_
   simp [d.c 2 rfl,e1]
   refine AM.Z03 ?_
   simp
   refine AM.wp_skip ?_
   simp
   have hl1:=Zsk nd.1 nd.2 hnew g1
   have hb1:out.length * 2 + 1 ≤ (Z0l (padF M out) V).length:=by omega
   refine Z00 ?_
   simp [t0,han,rn d,hgn,d.o 2 rfl,hb1]
   simp [lay] at hl1
   rw [hl1]
   have d1:=d.put 2 rfl (C (Z0l ((padF M out).set out.length nd) V))
   simp only [List.set_cons_succ,List.set_cons_zero] at d1
   generalize s'.put Bn (.cells (Z0l ((padF M out).set out.length nd) V) false) = s4 at d1 ⊢
   have hn1:((padF M out).set out.length nd)[out.length]? = some nd:=by rw [List.getElem?_set_self (by omega)]
   have hset:=Zoc nd hcM
   generalize hn2:(padF M out).set out.length nd = ns1 at d1 hn1 ⊢
   have hkt:=hkv.ntup
   have hz3:nd.2.length ≤ Z0n:=by unfold Z0n; omega
   have hz4:nd.2.length * 8 ≤ Z0n:=by unfold Z0n; omega
   have hl2:=Zsl (.slice s4.next 0 nd.2.length (.lim nd.2.length)) hn1 g1
   have hel1:(Z0l ns1 V).length = 2 * M:=by
    have e:ns1.length = M:=by rw [← hn2]; simp [hpl]
    rw [Z6e (by omega),e]
   have hb2:out.length * 2 + 1 + 1 ≤ (Z0l ns1 V).length:=by omega
   have d2:=(d1.alloc (C (List.replicate nd.2.length (.int .i64 0))))
   refine Z00 ?_
   simp [t0,han,rn d1,hgk,hkt,hkv.len,hz3,hz4,d2.o 3 rfl,hb2]
   simp [lay] at hl2
   rw [hl2]
   have d3:=d2.put 3 rfl (C (Z0l ns1 (V.set out.length (.slice s4.next 0 nd.2.length (.lim nd.2.length)))))
   simp only [List.set_cons_succ,List.set_cons_zero] at d3
   generalize (s4.alloc (.cells (List.replicate nd.2.length (.int .i64 0)) false)).put Bn (.cells (Z0l ns1 (V.set out.length (.slice s4.next 0 nd.2.length (.lim nd.2.length)))) false) = s5 at d3 ⊢
   generalize s4.next = Bk at d3 ⊢
   have hV2:(V.set out.length (AVal.slice Bk 0 nd.2.length (.lim nd.2.length)))[out.length]? = some (.slice Bk 0 nd.2.length (.lim nd.2.length)):=by rw [List.getElem?_set_self (by omega)]
   have hel2:(Z0l ns1 (V.set out.length (.slice Bk 0 nd.2.length (.lim nd.2.length)))).length = 2 * M:=by
    have e:ns1.length = M:=by rw [← hn2]; simp [hpl]
    rw [Z6e (by simp; omega),e]
   obtain ⟨_,e3⟩:=Z7h hn1 hV2
   have d4:Ctx s (fun _ => False) ((B9,C [.slice Bn 0 M (.lim M),.int .i64 0]) :: (B8,C [.nilSlice,.int .i64 0]) :: (Bn,C (Z0l ns1 (V.set out.length (.slice Bk 0 nd.2.length (.lim nd.2.length))))) :: (Bk,C (List.replicate nd.2.length (.int .i64 0))) :: mr) s5:=d3.perm (Z0k fun x => by
    simp only [Z0j]
    omega)
   generalize hV2e:V.set out.length (AVal.slice Bk 0 nd.2.length (.lim nd.2.length)) = V2 at hV2 hel2 e3 d4 ⊢
   refine AM.wp_seq ?_
   refine AM.wp_region ?_
   simp [t0,han,rn d4,hgk,hkt,d4.c 2 rfl,e3]
   refine Zro (pre:=[(B9,C [.slice Bn 0 M (.lim M),.int .i64 0]),(B8,C [.nilSlice,.int .i64 0]),(Bn,C (Z0l ns1 V2))]) (r:=mr) (ks:=nd.2) (kv:=kv) (c:=.lim nd.2.length) (by simpa using d4) (by simp) (by simp) (hkv.keep d4.Z0g) fun _ s6 d5 => ?_
   simp only [List.cons_append,List.nil_append] at d5
   refine Z00 ?_
   simp [d5.c 2 rfl,e3]
   refine AM.wp_block ?_
   refine AM.wp_loop (fun k t s' => ∃ i:Nat,i ≤ nd.2.length∧k = nd.2.length - i∧PT.get (posOf 0) t = some (.slice bn on nds.length cn)∧PT.get (posOf 2) t = some (.slice bx ox cls.length cx)∧PT.get (posOf 8) t = some (.ptr B8 0)∧PT.get (posOf 9) t = some (.ptr B9 0) ∧
     PT.get (posOf 18) t = some (.slice bl ol L.length cl)∧PT.get (posOf 19) t = some (.int .i64 L.length)∧PT.get (posOf 20) t = some (.int .i64 j)∧PT.get (posOf 12) t = some (.ptr Bn (out.length * 2)) ∧
     PT.get (posOf 67) t = some (.slice Bk 0 nd.2.length (.lim nd.2.length))∧PT.get (posOf 68) t = some (.int .i64 nd.2.length)∧PT.get (posOf 69) t = some (.int .i64 i) ∧
     Ctx s (fun _ => False) ((B9,C [.slice Bn 0 M (.lim M),.int .i64 0]) :: (B8,C [.nilSlice,.int .i64 0]) :: (Bn,C (Z0l ns1 V2)) :: (Bk,C (ints (Z4p (clOf cls) nd.2 i))) :: mr) s') nd.2.length
    ⟨0,by simp,by simp,by simp [t0],by simp [t2],by simp [t8],by simp [t9],by simp [t18],by simp [t19],by simp [t20],by simp,by simp,by simp,by simp,by rw [Zrd]; exact d5⟩ ?_
   rintro k t s' ⟨i,hi,rfl,t0,t2,t8,t9,t18,t19,t20,t12,t67,t68,t69,d⟩
   refine Z00 ?_
   simp [t68,t69]
   refine AM.wp_seq ?_
   refine AM.Z03 ?_
   by_cases hilt:i < nd.2.length
   ·have hwi:IntKind.wrap .i64 ((i:Int) + 1) = ((i + 1:Nat):Int):=by rw [IntWalk.i64_in _ (by omega)]; omega
    obtain ⟨kk,hkk⟩:∃ kk,nd.2[i]? = some kk:=⟨_,List.getElem?_eq_getElem hilt⟩
    obtain ⟨hk0,hk1⟩:=hkin kk (List.mem_of_getElem? hkk)
    obtain ⟨kc,rfl⟩:∃ n:Nat,kk = (n:Int):=⟨kk.toNat,by omega⟩
    have hkc:kc < cls.length:=by omega
    obtain ⟨cc,hcc⟩:∃ cc,cls[kc]? = some cc:=⟨_,List.getElem?_eq_getElem hkc⟩
    have hto:clOf cls (kc:Int) = cc:=by unfold clOf; rw [Int.toNat_natCast,hcc]; rfl
    have hgxx:=helx kc cc hcc
    have hgm:(ints (Z4p (clOf cls) nd.2 i))[i]? = some (.int .i64 kc):=by rw [List.getElem?_map,Ztg hkk]; rfl
    have hlay:lay (ints (Z4p (clOf cls) nd.2 i)) i [.int .i64 cc] = ints (Z4p (clOf cls) nd.2 (i + 1)):=by
     have:=Z6k (Z4p (clOf cls) nd.2 i) i (clOf cls kc) (by rw [Zkw]; omega)
     rw [Zrc hkk,hto] at this
     exact this
    have hml:(ints (Z4p (clOf cls) nd.2 i)).length = nd.2.length:=by simp [Zkw]
    simp [hilt]
    refine AM.wp_skip ?_
    simp
    refine AM.wp_seq ?_
    refine AM.wp_block ?_
    refine Z00 ?_
    have hown:=d.c 3 rfl
    have hown':=d.o 3 rfl
    have dd:=d.put 3 rfl (C (ints (Z4p (clOf cls) nd.2 (i + 1))))
    simp only [List.set_cons_succ,List.set_cons_zero] at dd
    generalize hmv:ints (Z4p (clOf cls) nd.2 i) = mv at hgm hlay hml hown hown' d
    have hlei:i + 1 ≤ mv.length:=by omega
    simp [t67,t69,hilt,hown,hgm]
    refine AM.wp_region ?_
    simp [t12,t67,t69,t2,hilt,d.c 2 rfl,e3,hkc,rx d,hgxx,hown',hlei]
    simp [lay] at hlay
    rw [hlay]
    refine AM.wp_region ?_
    simp [t69,hwi]
    exact ⟨nd.2.length - (i + 1),by omega,i + 1,by omega,by omega,by simp [t0],by simp [t2],by simp [t8],by simp [t9],by simp [t18],by simp [t19],by simp [t20],by simp [t12],by simp [t67],by simp [t68],by simp,dd⟩
   ·simp [hilt]
    refine AM.wp_exit ?_
    simp
    have hie:i = nd.2.length:=by omega
    subst hie
    rw [Ztf] at d
    have hcm:nd.2.map (clOf cls) = (Z45 cls nd).2:=rfl
    rw [hcm] at d
    have hset':=Zoc (Z45 cls nd) hcM
    have hname:Z0l ns1 V2 = Z0l (padF M (out ++ [Z45 cls nd])) V2:=by
     refine Zpt V2 ?_
     rw [← hn2,← hset',List.map_set,List.map_set]
     rfl
    rw [hname] at d
    have hfin:∃ mr',Z16 ((padF M (out ++ [Z45 cls nd])).map Prod.snd) V2 mr'∧Ctx s (fun _ => False) ((B9,C [.slice Bn 0 M (.lim M),.int .i64 0]) :: (B8,C [.nilSlice,.int .i64 0]) :: (Bn,C (Z0l (padF M (out ++ [Z45 cls nd])) V2)) :: mr') s':=by
     have g5:∀ (ks':List Int) (kv':AVal) (m1':Lets),RowR kv' ks' m1'→Z16 (((padF M out).map Prod.snd).set out.length ks') (V.set out.length kv') (m1' ++ m2):=g4
     have hms:(padF M (out ++ [Z45 cls nd])).map Prod.snd = ((padF M out).map Prod.snd).set out.length (Z45 cls nd).2:=by rw [← hset',List.map_set]
     rw [hms,← hV2e]
     rw [← hV2e] at d
     by_cases h0:nd.2 = []
     ·refine ⟨[] ++ m2,g5 _ _ [] (.inl ⟨by simp [Z45,h0],by simp [h0],rfl⟩),(d.sub (.cons_cons _ (.cons_cons _ (.cons_cons _ (List.sublist_cons_self _ _))))).perm ?_⟩
      exact List.Perm.cons _ (List.Perm.cons _ (List.Perm.cons _ g3))
     ·refine ⟨[(Bk,C (ints (Z45 cls nd).2))] ++ m2,g5 _ _ _ (.inr ⟨Bk,.lim nd.2.length,by simpa [Z45] using h0,by simp [Z45],rfl⟩),d.perm ?_⟩
      exact List.Perm.cons _ (List.Perm.cons _ (List.Perm.cons _ (List.Perm.cons _ g3)))
    obtain ⟨mr',hR',d'⟩:=hfin
    refine AM.wp_region ?_
    simp [t20,hwr]
    refine ⟨L.length - (j + 1),by omega,j + 1,by omega,by omega,by simp [t0],by simp [t2],by simp [t8],by simp [t9],by simp [t18],by simp [t19],by simp,V2,mr',by rw [hnx]; exact hR',by rw [hnx]; exact d'⟩
 ·simp [hlt']
  refine AM.wp_exit ?_
  simp
  have hje:j = L.length:=by omega
  subst hje
  rw [List.take_length] at hR d
  have hpad:padF M (outF cls nds L) = outF cls nds L:=by unfold padF; rw [hM,Nat.sub_self]; simp
  rw [hpad] at hR d
  refine Z00 ?_
  simp [t8,t9,d.c 0 rfl,d.o 1 rfl]
  have e:=d.put 1 rfl (C [.slice Bn 0 M (.lim M),.int .i64 0])
  simp only [List.set_cons_succ,List.set_cons_zero] at e
  generalize s'.put B8 (.cells [.slice Bn 0 M (.lim M),.int .i64 0] false) = s4 at e ⊢
  refine AM.wp_ret ?_
  simp [t8,e.c 1 rfl]
  exact q Bn _ s4 ⟨V,mr,List.Perm.refl _,hR⟩ e.tail.tail
theorem Zcj {ns:List ND} (h:GrOk ns) {roots:List Nat} (hr:∀ r ∈ roots,r < ns.length):Closed ns (bfsF (kidG ns) ns.length roots)∧(bfsF (kidG ns) ns.length roots).Nodup∧(∀ a ∈ bfsF (kidG ns) ns.length roots,a < ns.length)∧∀ r ∈ roots,r ∈ bfsF (kidG ns) ns.length roots:=by
 obtain ⟨h1,h2,h3,h4,_⟩:=Zhr (n:=ns.length) h.Zdi roots hr
 refine ⟨⟨h2,fun a ha x hx => ?_⟩,h1,h2,h4⟩
 refine ⟨(h x (List.mem_of_getElem? hx)).1,fun k hk => h3 a ha _ ?_⟩
 rw [Zee hx]
 exact List.mem_map.2 ⟨k,hk,rfl⟩
theorem Zai {ns:List ND} {root:Int} (h:Z15 ns root = 0):1 ≤ ns.length∧ns.length ≤ 60∧GrOk ns∧(∀ nd ∈ ns,Z1s nd.1 = true)∧0 ≤ root∧root < ns.length:=by
 unfold Z15 at h
 split at h
 ·cases h
 ·rename_i h1
  split at h
  ·cases h
  ·rename_i h2
   split at h
   ·cases h
   ·rename_i h3
    simp only [not_or,Bool.not_eq_false,List.all_eq_true,decide_eq_true_eq,Bool.and_eq_true] at h1 h2 h3
    exact ⟨by omega,by omega,fun nd hnd => ⟨h1.2.2 nd hnd,fun k hk => h3.2 nd hnd k hk⟩,h2,h3.1⟩
theorem Zum {nm:List UInt8} (h:Z1s nm = true):nm ≠ []:=by
 rintro rfl
 simp [Z1s] at h
noncomputable def Z1b (ns:List ND) (r:Nat):List ND:=outF (clsF ns (bfsF (kidG ns) ns.length [r])) ns (bfsF (kidG ns) ns.length [r])
def Z8z (s:St) (nv:AVal) (ns:List ND):Prop:=(Z1o nv = some 0∧ns = []) ∨ ∃ p c,nv = .slice p 0 ns.length c∧NodesG s p ns
theorem Z8z.keep {s s':St} {nv:AVal} {ns:List ND} (h:Z8z s nv ns) (k:Keeps s s'):Z8z s' nv ns:=by
 rcases h with h | ⟨p,c,h1,h2⟩
 ·exact .inl h
 ·exact .inr ⟨p,c,h1,h2.keep k⟩
theorem Z8z.at {s:St} {nv:AVal} {ns:List ND} (h:Z8z s nv ns):Z1i s nv ns:=by
 rcases h with h | ⟨p,c,rfl,h2⟩
 ·exact .inl h
 ·exact h2.of c
theorem Zv9 {s:St} {p:Pos} {ns:List ND} {c:Cap} (hne:ns ≠ []) (h:Z1i s (.slice p 0 ns.length c) ns):NodesG s p ns:=by
 rcases h with ⟨_,h⟩ | ⟨b,o,c',cs,e,h1,h2,h3,h4⟩
 ·exact (hne h).elim
 ·cases e
  refine ⟨h1,cs,h2,by omega,fun i nd hi => ?_⟩
  have:=h4 i nd hi
  rwa [Nat.zero_add] at this
theorem Z3a.at0 {s0 s:St} {W:Pos→Prop} {nv:AVal} {ns:List ND} {m:Lets} (h:Z3a nv ns m) (hc:Ctx s0 W m s):Z8z s nv ns:=by
 have h':=h.at hc
 rcases h with ⟨rfl,rfl,_⟩ | ⟨q,V,mr,hne,rfl,hp,hR⟩
 ·exact .inl ⟨rfl,rfl⟩
 ·exact .inr ⟨q,_,rfl,Zv9 hne h'⟩
theorem Znn {s:St} {nv:AVal} {ns:List ND} {root:Int} {Q:AVal→St→Prop} (hw:s.Wf) (hN:Z8z s nv ns) (hsm:Zbm ns) (hmax:ns.length ≤ 2 ^ 62)
  (q0:∀ s',Keeps s s'→Z15 ns root ≠ 0→Q (.tup [.agg [.nilSlice,.int .i64 0],.int .i64 (Z15 ns root)]) s')
  (q:∀ Bn mn s',Z15 ns root = 0→Zil Bn (Z1b ns root.toNat) mn→Ctx s (fun _ => False) mn s'→Q (.tup [.agg [.slice Bn 0 (Z1b ns root.toNat).length (.lim (Z1b ns root.toNat).length),.int .i64 0],.int .i64 0]) s') :
  Z0c Tryd.prog 23 [.agg [nv,.int .i64 root]] s Q:=by
 have hNt:=hN.at.ntup
 have hNc:=hN.at.Z8h
 refine Z08 (Z0i (by decide)) fi23 rfl (by decide) rfl ?_
 refine Z00 ?_
 simp [hNt,hNc]
 have d1:=(Ctx.start (fun _ => False) hw).alloc (C [nv,.int .i64 root])
 generalize s.alloc (.cells [nv,.int .i64 root] false) = s1 at d1 ⊢
 generalize s.next = B1 at d1 ⊢
 have d2:=d1.alloc (C [.nilSlice,.int .i64 0])
 generalize s1.alloc (.cells [.nilSlice,.int .i64 0] false) = s2 at d2 ⊢
 generalize s1.next = B2 at d2 ⊢
 refine AM.wp_seq ?_
 refine Z00 ?_
 simp [d2.c 1 rfl,hNt,hNc]
 have d3:=d2.alloc (C [nv,.int .i64 root])
 generalize s2.alloc (.cells [nv,.int .i64 root] false) = s3 at d3 ⊢
 generalize s2.next = T at d3 ⊢
 have hT:Z6w s3 (.slice T 0 1 (.lim 1)) [(ns,root)]:=by
  refine .inr ⟨T,0,.lim 1,_,rfl,d3.oi 0 rfl,d3.c 0 rfl,by simp,fun i t hi => ?_⟩
  cases i with
  | succ i => simp at hi
  | zero =>
   simp at hi
   subst hi
   exact ⟨nv,rfl,rfl,hN.at.keep d3.Z0g⟩
 refine Z02 ?_
 refine Zrm d3.wf hT (by
  intro t ht
  simp at ht
  subst ht
  exact ⟨hmax,hsm⟩) (by simp) fun s4 k4 => ?_
 have d4:=d3.keeps k4
 have hcf:Z8i [(ns,root)] = Z15 ns root:=by
  unfold Z8i
  simp only [List.find?_cons,List.find?_nil]
  by_cases h:Z15 ns root = 0
  ·simp [h]
  ·simp [h]
 rw [hcf]
 simp
 refine Z00 ?_
 simp
 refine AM.Z03 ?_
 by_cases hz:Z15 ns root = 0
 ·simp [hz]
  refine AM.wp_skip ?_
  simp
  obtain ⟨o1,o2,hO,hnm,r0,r1⟩:=Zai hz
  obtain ⟨rt,rfl⟩:∃ n:Nat,root = (n:Int):=⟨root.toNat,by omega⟩
  rw [Int.toNat_natCast] at q
  refine Z00 ?_
  simp [d4.c 2 rfl,hNt,hNc]
  have d5:=d4.alloc (C [.int .i64 rt])
  generalize s4.alloc (.cells [.int .i64 rt] false) = s5 at d5 ⊢
  generalize s4.next = T2 at d5 ⊢
  have hr:∀ a ∈ [rt],a < ns.length:=by simp; omega
  refine Z02 ?_
  refine Zmw (roots:=[rt]) d5.wf (hN.at.keep d5.Z0g) hO (by omega) ?_ (by simp) hr fun lv mg s6 hg hx => ?_
  ·have e:=Z4l (ks:=[(rt:Int)]) d5.wf (d5.o 0 rfl) (.lim 1)
   exact e
  obtain ⟨hC,hnd,hlt,hroot⟩:=Zcj hO hr
  have hLl:=Z2w hnd hlt
  unfold Z1b at q
  generalize bfsF (kidG ns) ns.length [rt] = L at hg hC hnd hlt hroot hLl q
  have d6:=d5.keeps hx.Z0g
  have hLv:Z0h s6 lv (nats L):=(hg.row.kid fun y hy => hx.own y hy).ints hx.wf
  rcases (hN.keep d6.Z0g) with ⟨_,e0⟩ | ⟨p,c0,rfl,hG⟩
  ·rw [e0] at o1
   simp at o1
  have hks:∀ (a:Nat) nd,ns[a]? = some nd→nd.2.length ≤ 4∧∀ k ∈ nd.2,0 ≤ k∧k < ns.length:=fun a nd h => hO nd (List.mem_of_getElem? h)
  have hLne:L ≠ []:=by
   rintro rfl
   simpa using hroot rt (by simp)
  obtain ⟨R,g1,g2,g3⟩:=Zpe hC hLne
  simp
  refine Z00 ?_
  simp [d6.c 3 rfl,hg.ntup]
  refine Z02 ?_
  refine Zpd d6.wf hG (by omega) hLv hC.lt (by omega) hks g1 g2 fun Bx s7 k7 _ hox => ?_
  have d7:=d6.keeps k7
  rw [Zqu hC g3,← Zo9 hC]
  rw [g3] at hox
  simp
  refine Z00 ?_
  simp [d7.c 3 rfl,hg.ntup]
  refine Z02 ?_
  have hcl:=Z9k hC
  have hCx:Z0h s7 (.slice Bx 0 ns.length (.lim ns.length)) (clsF ns L):=by
   have:=Z4l d7.wf hox (.lim ns.length)
   rwa [hcl] at this
  refine Zv3 (nds:=ns) d7.wf (hN.at.keep d7.Z0g) (hLv.keep k7) hCx (by omega) (by omega) hcl hC.lt hks (fun a nd _ h => Zum (hnm nd (List.mem_of_getElem? h))) (fun j a hj => ?_) rfl fun Bn mn s8 hM hc8 => ?_
  ·have hj':=(List.getElem?_eq_some_iff.1 hj).1
   have hsp:L = L.take j ++ a :: L.drop (j + 1):=by
    have h1:=List.take_append_drop j L
    rw [List.drop_eq_getElem_cons hj'] at h1
    have h2:L[j] = a:=(List.getElem?_eq_some_iff.1 hj).2
    rw [h2] at h1
    exact h1.symm
   obtain ⟨c,e1,e2,_⟩:=Znh hC hsp
   exact ⟨c,e1,e2⟩
  have d8:Ctx s (fun _ => False) (mn ++ [(T2,C [.int .i64 rt]),(T,C [.slice p 0 ns.length c0,.int .i64 rt]),(B2,C [.nilSlice,.int .i64 0]),(B1,C [.slice p 0 ns.length c0,.int .i64 rt])]) s8:=Ctx.on (m:=[]) (by simpa using d7) (by simpa using hc8)
  have d9:=d8.perm (m':=(B2,C [.nilSlice,.int .i64 0]) :: (mn ++ [(T2,C [.int .i64 rt]),(T,C [.slice p 0 ns.length c0,.int .i64 rt]),(B1,C [.slice p 0 ns.length c0,.int .i64 rt])])) (Z0k fun x => by
   simp only [Z0j,Z0e,Z0q]
   omega)
  simp [d9.o 0 rfl]
  have d10:=d9.put 0 rfl (C [.slice Bn 0 (outF (clsF ns L) ns L).length (.lim (outF (clsF ns L) ns L).length),.int .i64 0])
  simp only [List.set_cons_zero] at d10
  refine AM.wp_ret ?_
  simp
  exact q Bn mn _ hz hM (d10.tail.sub (List.sublist_append_left mn _))
 ·simp [hz]
  refine Z00 ?_
  simp [d4.o 1 rfl]
  have d5:=d4.put 1 rfl (C [.nilSlice,.int .i64 0])
  simp only [List.set_cons_succ,List.set_cons_zero] at d5
  refine AM.wp_ret ?_
  simp
  exact q0 _ d5.Z0g hz
end Go.Proofs
end
