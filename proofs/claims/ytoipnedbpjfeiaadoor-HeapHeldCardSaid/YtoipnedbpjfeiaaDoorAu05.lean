/- Parts of the proof: Nm, Heap2, Heap3, Cls1, Cls2, Cls3, Cls4, Tak1, Tak2, Gr1, Gr2, Sz, Mrg1, Mrg2, Own1, Mrg3, Ctx, HR, HRc, Mov1, Mov2, Cls5, Cls6, Cls7, Mrg4, Wrap, Mov3, Mrg5, Per, Ring1, Ring2. -/
import Derived.Test.YtoipnedbpjfeiaaDoorAu04
set_option linter.all false
set_option linter.unusedSectionVars false
set_option linter.unusedSimpArgs false
set_option linter.unusedVariables false
section
open Go Go.AM
namespace Go.Proofs
set_option maxRecDepth 100000
def isL (c:UInt8):Bool:=decide (97 ≤ c.toNat) && decide (c.toNat ≤ 122)
def Z1y (nm:List UInt8):Bool:=decide (0 < nm.length) && (decide (nm.length ≤ 8) && nm.all isL)
theorem Zre (c:UInt8):Z3c[c.toNat]? = some (.bool (isL c)):=by
 have hc:c.toNat < 256:=c.toNat_lt
 unfold Z3c isL
 by_cases h1:c.toNat < 97
 ·rw [List.getElem?_append_left (by simpa using h1),List.getElem?_replicate,if_pos h1]
  have:¬ 97 ≤ c.toNat:=by omega
  simp [this]
 ·rw [List.getElem?_append_right (by simp; omega)]
  by_cases h2:c.toNat < 123
  ·rw [List.getElem?_append_left (by simp; omega),List.getElem?_replicate,if_pos (by simp; omega)]
   have h3:97 ≤ c.toNat:=by omega
   have h4:c.toNat ≤ 122:=by omega
   simp [h3,h4]
  ·rw [List.getElem?_append_right (by simp; omega),List.getElem?_replicate,if_pos (by simp; omega)]
   have h4:¬ c.toNat ≤ 122:=by omega
   simp [h4]
theorem Zp4:Z3c.length = 256:=by unfold Z3c; simp
theorem Zm3 {s:St} {B:Pos} {c:UInt8} {Q:AVal→St→Prop} (hB:s.cells B = some Z3c) (q:Q (.bool (isL c)) s):Z0f Tryd.prog 116 [.ptr B 0,.int .u8 (c.toNat:Int)] s Q:=by
 have hc:c.toNat < 256:=c.toNat_lt
 have hc':(c.toNat:Int) < 256:=by omega
 have hg:=Zre c
 refine Z09 (Z0n (by decide)) fi116 rfl (by decide) rfl ?_
 refine Z00 ?_
 simp
 refine Z00 ?_
 simp [hB,hg,hc]
 refine ⟨hc',?_⟩
 refine AM.wp_ret ?_
 simp
 exact q
theorem Zpm {s:St} {B:Pos} {l:List UInt8} {Q:AVal→St→Prop} (hB:s.cells B = some Z3c) (hl:l.length ≤ 1000) (q:Q (.str (l.dropWhile isL)) s):Z0f Tryd.prog 106 [.str l,.ptr B 0] s Q:=by
 refine Z09 (Z0n (by decide)) fi106 rfl (by decide) rfl ?_
 refine Z00 ?_
 simp
 refine AM.wp_seq ?_
 refine AM.wp_block ?_
 refine AM.wp_loop (fun m t s' => ∃ l':List UInt8,m = l'.length∧l'.length ≤ 1000∧PT.get (posOf 0) t = some (.str l')∧PT.get (posOf 1) t = some (.ptr B 0)∧s' = s∧l.dropWhile isL = l'.dropWhile isL) l.length ⟨l,rfl,hl,by simp,by simp,rfl,rfl⟩ ?_
 rintro m t s' ⟨l',rfl,hl',t0,t1,rfl,he⟩
 refine AM.wp_seq ?_
 refine Z00 ?_
 simp [t0]
 refine AM.Z03 ?_
 cases l' with
 | nil =>
  simp
  refine AM.wp_exit ?_
  simp
  refine Z00 ?_
  simp [t0]
  refine AM.wp_ret ?_
  simp
  rw [he] at q
  exact q
 | cons c r =>
  have h0:(0:Int) < ((r.length:Int) + 1):=by omega
  simp [h0]
  refine AM.wp_skip ?_
  simp
  refine AM.wp_block ?_
  refine AM.wp_seq ?_
  refine Z00 ?_
  simp [t0,t1]
  refine Z05 ?_
  refine Zm3 hB ?_
  simp
  refine AM.Z03 ?_
  cases hc:isL c with
  | true =>
   simp
   refine AM.wp_skip ?_
   simp
   refine AM.wp_region ?_
   simp [t0]
   refine Zfs (a:=1) (b:=(c :: r).length) (l:=c :: r) (by simp [t0]) ⟨.i64,by simp⟩ rfl (by simp) (Nat.le_refl _) ?_
   simp
   refine ⟨r.length,by omega,r,rfl,by simp at hl'; omega,rfl,t1,?_⟩
   rw [he,List.dropWhile_cons,hc]
   rfl
  | false =>
   simp
   refine AM.wp_exit ?_
   simp
   refine Z00 ?_
   simp [t0]
   refine AM.wp_ret ?_
   simp
   have:l.dropWhile isL = c :: r:=by rw [he,List.dropWhile_cons,hc]; rfl
   rw [this] at q
   exact q
theorem Zon {s:St} {B:Pos} {l:List UInt8} {Q:AVal→St→Prop} (hB:s.cells B = some Z3c) (hl:l.length ≤ 1000) (q:∀ r:List UInt8,r.length ≤ 1000→r.all isL = l.all isL→(r ≠ []→r.all isL = false)→Q (.str r) s):Z0f Tryd.prog 107 [.str l,.ptr B 0] s Q:=by
 refine Z09 (Z0n (by decide)) fi107 rfl (by decide) rfl ?_
 refine Z00 ?_
 simp
 refine AM.wp_seq ?_
 refine AM.wp_block ?_
 refine AM.wp_loop (fun m t s' => ∃ l':List UInt8,m = l'.length∧l'.length ≤ 1000∧PT.get (posOf 0) t = some (.str l')∧PT.get (posOf 1) t = some (.ptr B 0)∧s' = s∧l'.all isL = l.all isL) l.length ⟨l,rfl,hl,by simp,by simp,rfl,rfl⟩ ?_
 rintro m t s' ⟨l',rfl,hl',t0,t1,rfl,he⟩
 refine AM.wp_seq ?_
 refine Z00 ?_
 simp [t0]
 refine AM.Z03 ?_
 rcases List.eq_nil_or_concat l' with rfl | ⟨r,c,rfl⟩
 ·simp
  refine AM.wp_exit ?_
  simp
  refine Z00 ?_
  simp [t0]
  refine AM.wp_ret ?_
  simp
  exact q [] (by simp) he (by simp)
 ·rw [List.concat_eq_append] at t0 he hl'
  have h0:(0:Int) < ((r.length:Int) + 1):=by omega
  have hwr:IntKind.wrap .i64 (r.length:Int) = (r.length:Int):=by simp at hl'; rw [IntWalk.i64_in _ (by omega)]
  simp [h0]
  refine AM.wp_skip ?_
  simp
  refine AM.wp_block ?_
  refine AM.wp_seq ?_
  refine Z00 ?_
  simp [t0,t1,hwr]
  refine Z05 ?_
  refine Zm3 hB ?_
  simp
  refine AM.Z03 ?_
  cases hc:isL c with
  | true =>
   simp
   refine AM.wp_skip ?_
   simp
   refine AM.wp_region ?_
   simp [t0,hwr]
   refine Zfs (a:=0) (b:=r.length) (l:=r ++ [c]) (by simp [t0]) rfl ⟨.i64,by simp⟩ (by simp) (by simp) ?_
   simp
   refine ⟨r.length,by omega,r,rfl,by simp at hl'; omega,rfl,t1,?_⟩
   rw [← he]
   simp [hc]
  | false =>
   simp
   refine AM.wp_exit ?_
   simp
   refine Z00 ?_
   simp [t0]
   refine AM.wp_ret ?_
   simp
   exact q _ hl' he (fun _ => by simp [hc])
theorem dropWhile_nil {α:Type} {p:α→Bool}:∀ l:List α,l.dropWhile p = []→l.all p = true
 | [],_ => rfl
 | a :: l,h => by
  rw [List.dropWhile_cons] at h
  split at h
  ·rename_i hp
   rw [List.all_cons,hp,dropWhile_nil l h]
   rfl
  ·cases h
theorem Zzh {s:St} {l:List UInt8} {Q:AVal→St→Prop} (h0:l ≠ []) (hl:l.length ≤ 1000) (q:∀ r s',Keeps s s'→(r = [] ↔ l.all isL = true)→Q (.str r) s'):Z0f Tryd.prog 84 [.str l,.str Z8p] s Q:=by
 refine Z09 (Z0n (by decide)) fi84 rfl (by decide) rfl ?_
 refine Z00 ?_
 simp
 refine AM.wp_seq ?_
 refine Z00 ?_
 have hne:Z8p ≠ []:=by simp [Z8p]
 simp [h0,hne]
 refine AM.Z03 ?_
 simp
 refine AM.wp_skip ?_
 simp
 refine AM.wp_seq ?_
 refine Z00 ?_
 have hl26:Z8p.length = 26:=rfl
 simp [hl26]
 refine AM.Z03 ?_
 simp
 refine AM.wp_skip ?_
 simp
 refine AM.wp_seq ?_
 refine Z00 ?_
 simp
 refine Z05 ?_
 refine Zk2 Zpc ?_
 have hlen:=Zp4
 generalize hLS:Z3c = LS at hlen
 simp
 refine ⟨hlen,?_⟩
 generalize hz:St.put _ s.next _ = s1
 have hk:Keeps s s1:=hz ▸ (Keeps.alloc s _).put _ (Z08 s) (Z19 _ _)
 have hB:s1.cells s.next = some Z3c:=by
  rw [← hz,Zkz,List.drop_eq_nil_of_le (by rw [hlen]; exact Nat.le_refl 256),List.append_nil,hLS]
 clear hz
 generalize s.next = B at hB ⊢
 refine Z00 ?_
 simp
 refine AM.Z03 ?_
 simp
 refine Z00 ?_
 simp
 refine Z05 ?_
 refine Zon hB hl fun r hr he hn => ?_
 simp
 refine Z05 ?_
 refine Zpm hB hr ?_
 simp
 refine AM.wp_ret ?_
 simp
 refine q _ s1 hk ?_
 rw [← he]
 constructor
 ·intro e
  cases r with
  | nil => rfl
  | cons c r' => exact dropWhile_nil _ e
 ·intro e
  by_cases hr0:r = []
  ·rw [hr0]
   rfl
  ·rw [hn hr0] at e
   cases e
theorem Zrh {s:St} {nm:List UInt8} {Q:AVal→St→Prop} (hl:nm.length ≤ 2 ^ 62) (q:∀ s',Keeps s s'→Q (.bool (Z1y nm)) s'):Z0f Tryd.prog 93 [.str nm] s Q:=by
 refine Z09 (Z0n (by decide)) fi93 rfl (by decide) rfl ?_
 refine Z00 ?_
 simp
 refine Z00 ?_
 unfold Z1y at q
 by_cases h0:0 < nm.length
 ·by_cases h8:nm.length ≤ 8
  ·have h0':(0:Int) < nm.length:=by omega
   have h8':¬ (8:Int) < nm.length:=by omega
   have hne:nm ≠ []:=by intro e; subst e; simp at h0
   simp [h0,h8']
   refine Z05 ?_
   refine Zzh hne (by omega) fun r s' hk hr => ?_
   simp
   refine AM.wp_ret ?_
   simp
   have:=q s' hk
   have e:r.isEmpty = nm.all isL:=by
    cases ha:nm.all isL with
    | true => rw [hr.2 ha]; rfl
    | false =>
     have:r ≠ []:=fun e => by rw [hr.1 e] at ha; cases ha
     cases r with
     | nil => exact (this rfl).elim
     | cons => rfl
   rw [e]
   simpa [h0,h8] using this
  ·have h0':(0:Int) < nm.length:=by omega
   have h8':(8:Int) < nm.length:=by omega
   simp [h0,h8']
   refine AM.wp_ret ?_
   simp
   have:=q s (Keeps.refl s)
   simpa [h8] using this
 ·have h0':¬ (0:Int) < nm.length:=by omega
  have hne:nm = []:=by
   cases nm with
   | nil => rfl
   | cons => simp at h0
  subst hne
  simp
  refine AM.wp_ret ?_
  simp
  have:=q s (Keeps.refl s)
  simpa using this
structure HeapAt (s:St) (hb p:Pos) (vs:AVal) (l:List RC):Prop where
 wf:s.Wf
 ob:s.own hb = some [.slice p 0 l.length (.lim l.length),vs]
 op:s.own p = some (encs l)
 ne:p ≠ hb
 pos:1 ≤ l.length
 max:l.length ≤ 400
theorem Z0i {s:St} {b:Pos} {cs:List AVal} (h:s.own b = some cs):s.cells b = some cs:=by
 unfold St.own at h
 unfold St.cells
 split at h
 ·rename_i cs' e
  rw [e]
  exact h
 ·cases h
theorem Z0c {s:St} {b:Pos} {cs:List AVal} (hw:s.Wf) (h:s.own b = some cs):s.Old b:=by
 unfold St.own at h
 split at h
 ·rename_i cs' e
  exact Z3k hw e
 ·cases h
theorem Zhp:∀ (l:List RC) (i:Nat) (c:RC),i < l.length→lay (encs l) (i * 4) c.enc = encs (l.set i c)
 | [],i,c,h => by simp at h
 | d :: l,0,c,h => by
  have e:encs (d :: l) = d.enc ++ encs l:=rfl
  have e2:encs ((d :: l).set 0 c) = c.enc ++ encs l:=rfl
  rw [e,e2]
  simp [lay,RC.enc]
 | d :: l,i + 1,c,h => by
  have e:encs (d :: l) = d.enc ++ encs l:=rfl
  have e2:encs ((d :: l).set (i + 1) c) = d.enc ++ encs (l.set i c):=rfl
  have ih:=Zhp l i c (by simpa using h)
  have hd:d.enc.length = 4:=rfl
  have e3:(i + 1) * 4 = d.enc.length + i * 4:=by rw [hd]; omega
  rw [e,e2,← ih]
  unfold lay
  rw [e3,List.take_length_add_append,Nat.add_assoc,List.drop_length_add_append]
  simp
theorem Zf2 (p:Pos) (o n c:Nat):Z27 8 (.slice p o n (.lim c)) (.slice p o n (.lim c)) = true:=by
 simp [Z27,Za0]
theorem KidV.keep {s s':St} {kv:AVal} {ks:List Int} (h:KidV s kv ks) (hw:s.Wf) (k:Keeps s s'):KidV s' kv ks:=by
 rcases h with h | ⟨q,c,h1,h2⟩
 ·exact .inl h
 ·exact .inr ⟨q,c,h1,(k.own (Z0c hw h2)).trans h2⟩
theorem Z8f:∀ (ks:List Int) (j:Nat) (k:Int),j < ks.length→lay (ks.map fun k => AVal.int .i64 k) j [.int .i64 k] = (ks.set j k).map fun k => AVal.int .i64 k
 | [],j,k,h => by simp at h
 | a :: r,0,k,h => by simp [lay]
 | a :: r,j + 1,k,h => by
  have ih:=Z8f r j k (by simpa using h)
  simp [lay] at ih ⊢
  exact ih
structure Same (bs:List Pos) (s s':St):Prop where
 obj:∀ b,b ∉ bs→s.Old b→s'.obj b = s.obj b
 next:s.next.toNat ≤ s'.next.toNat
 wf:s.Wf→s'.Wf
theorem Same.refl (bs:List Pos) (s:St):Same bs s s:=⟨fun _ _ _ => rfl,Nat.le_refl _,fun h => h⟩
theorem Same.old {bs:List Pos} {s s':St} (k:Same bs s s') {b:Pos} (h:s.Old b):s'.Old b:=Nat.lt_of_lt_of_le h k.next
theorem Same.trans {bs:List Pos} {s s' s'':St} (k:Same bs s s') (k':Same bs s' s''):Same bs s s'' :=
 ⟨fun b hb h => (k'.obj b hb (k.old h)).trans (k.obj b hb h),Nat.le_trans k.next k'.next,fun h => k'.wf (k.wf h)⟩
theorem Same.Z8h {bs:List Pos} {s s':St} (k:Keeps s s'):Same bs s s':=⟨fun b _ h => k.obj b h,k.next,k.wf⟩
theorem Same.cells {bs:List Pos} {s s':St} (k:Same bs s s') {b:Pos} (hb:b ∉ bs) (h:s.Old b):s'.cells b = s.cells b:=by unfold St.cells; rw [k.obj b hb h]
theorem Same.own {bs:List Pos} {s s':St} (k:Same bs s s') {b:Pos} (hb:b ∉ bs) (h:s.Old b):s'.own b = s.own b:=by unfold St.own; rw [k.obj b hb h]
theorem Same.put {bs:List Pos} {s s':St} (k:Same bs s s') {b:Pos} (x:AObj) (h:b ∈ bs) (h':s'.Old b):Same bs s (s'.put b x) :=
 ⟨fun c hc ho => by
  have hne:c ≠ b:=fun e => hc (e ▸ h)
  rw [Z3z hne]
  exact k.obj c hc ho,k.next,fun hw => Zg2 x (k.wf hw) h'⟩
theorem Same.keeps {bs:List Pos} {s0 s s':St} (k0:Keeps s0 s) (k:Same bs s s') (h:∀ b ∈ bs,¬ s0.Old b):Keeps s0 s' :=
 ⟨fun b hb => (k.obj b (fun hm => h b hm hb) (k0.old hb)).trans (k0.obj b hb),Nat.le_trans k0.next k.next,fun hw => k.wf (k0.wf hw)⟩
def Fr (W:List Nat) (t0 t:PT AVal):Prop:=∀ x,x ∉ W→PT.get (posOf x) t = PT.get (posOf x) t0
structure NodesG (s:St) (p:Pos) (nds:List (List UInt8 × List Int)):Prop where
 old:s.Old p
 ex:∃ cs,s.cells p = some cs∧2 * nds.length ≤ cs.length∧∀ i nd,nds[i]? = some nd→cs[i * 2]? = some (.str nd.1)∧∃ kv,cs[i * 2 + 1]? = some kv∧Z0e s kv nd.2
theorem NodesG.keep {s s':St} {p:Pos} {nds:List (List UInt8 × List Int)} (h:NodesG s p nds) (k:Keeps s s'):NodesG s' p nds:=by
 obtain ⟨cs,h1,h2,h3⟩:=h.ex
 refine ⟨k.old h.old,cs,(k.cells h.old).trans h1,h2,fun i nd e => ?_⟩
 obtain ⟨h4,kv,h5,h6⟩:=h3 i nd e
 exact ⟨h4,kv,h5,h6.keep k⟩
def sgX (now ks:List Int) (i:Nat):List Int:=(List.range 4).map fun j => if j < i then ((ks[j]?).bind fun k => now[k.toNat]?).getD 0 else 0
def sgK (now:List Int) (nd:List UInt8 × List Int) (i:Nat):Key:=(nd.1,(nd.2.length:Int) :: sgX now nd.2 i)
theorem Z9u (now ks:List Int) (i:Nat):(sgX now ks i).length = 4:=by simp [sgX]
theorem Zuo {now ks:List Int} {i:Nat} {k x:Int} {nm:List UInt8} (hi:i < 4) (hk:ks[i]? = some k) (hx:now[k.toNat]? = some x) :
  lay (Key.cells (nm,(ks.length:Int) :: sgX now ks i)) (2 + i) [.int .i64 x] = Key.cells (nm,(ks.length:Int) :: sgX now ks (i + 1)):=by
 have e:ks[i]? = some k:=hk
 have:i = 0 ∨ i = 1 ∨ i = 2 ∨ i = 3:=by omega
 rcases this with rfl | rfl | rfl | rfl <;> simp [lay,Key.cells,sgX,List.range,List.range.loop,e,hx]
theorem Zol (now ks:List Int) {i:Nat} (hi:ks.length ≤ i) (h4:ks.length ≤ 4):sgX now ks i = sgX now ks 4:=by
 unfold sgX
 refine List.map_congr_left fun j hj => ?_
 have hj4:j < 4:=by simpa using hj
 by_cases h:j < ks.length
 ·rw [if_pos (by omega),if_pos hj4]
 ·rw [if_pos hj4,List.getElem?_eq_none (by omega)]
  simp
theorem Zz3 {fr:FI} {s0 s:St} {t0:PT AVal} {p Bn Bk:Pos} {nds:List (List UInt8 × List Int)} {nd:List UInt8 × List Int} {a:Nat} {now:List Int} {c0 c1:Cap} {Q:Ex→PT AVal→St→Prop}
  (hN:NodesG s0 p nds) (hk0:Keeps s0 s) (hnd:nds[a]? = some nd) (h4:nd.2.length ≤ 4) (hin:∀ k ∈ nd.2,0 ≤ k∧k < nds.length) (hlen:now.length = nds.length)
  (h0:PT.get (posOf 0) t0 = some (.slice p 0 nds.length c0)) (h11:PT.get (posOf 11) t0 = some (.int .i64 a)) (h5:PT.get (posOf 5) t0 = some (.slice Bn 0 nds.length c1)) (h12:PT.get (posOf 12) t0 = some (.ptr Bk 0))
  (hBn:s.cells Bn = some (now.map fun k => .int .i64 k)) (hob:s.Old Bn) (hne:Bn ≠ Bk) (hBk:s.own Bk = some (sgK now nd 0).cells) (hoBk:s.Old Bk) (hfr:¬ s0.Old Bk)
  (q:∀ t s',Fr [13,14,55,56,57,58] t0 t→Same [Bk] s s'→s'.own Bk = some (sgK now nd 4).cells→Q .normal t s'):wp Tryd.prog Zsz fr t0 s Q:=by
 have hf:∀ b ∈ [Bk],¬ s0.Old b:=by simpa using hfr
 obtain ⟨cs,hcs,hle,hel⟩:=(hN.keep hk0).ex
 obtain ⟨hel0,kv,hel1,hkv⟩:=hel a nd hnd
 have ha:a < nds.length:=(List.getElem?_eq_some_iff.1 hnd).1
 have hkv0:Z0e s0 kv nd.2:=by
  obtain ⟨cs0,hcs0,_,hel00⟩:=hN.ex
  have e:cs0 = cs:=by
   have:=hk0.cells hN.old
   rw [hcs,hcs0] at this
   exact (Option.some.inj this).symm
  subst e
  obtain ⟨_,kv',h1,h2⟩:=hel00 a nd hnd
  rw [hel1] at h1
  cases h1
  exact h2
 refine Z00 ?_
 simp [h0,h11,ha,hcs,hel1,hkv.len]
 refine AM.wp_block ?_
 refine AM.wp_loop (fun m t s' => ∃ i:Nat,i ≤ nd.2.length∧m = nd.2.length - i∧Fr [13,14,55,56,57,58] t0 t∧PT.get (posOf 55) t = some kv∧PT.get (posOf 56) t = some (.int .i64 nd.2.length)∧PT.get (posOf 57) t = some (.int .i64 i)∧Same [Bk] s s'∧s'.own Bk = some (sgK now nd i).cells) nd.2.length ⟨0,by simp,by simp,?_,by simp,by simp,by simp,Same.refl _ _,hBk⟩ ?_
 ·intro x hx
  simp at hx
  simp [hx]
 rintro m t s' ⟨i,hi,rfl,hF,t55,t56,t57,hS,hO⟩
 refine Z00 ?_
 simp [t56,t57]
 refine AM.wp_seq ?_
 refine AM.Z03 ?_
 by_cases hlt:i < nd.2.length
 ·obtain ⟨k,hk⟩:∃ k,nd.2[i]? = some k:=⟨_,List.getElem?_eq_getElem hlt⟩
  obtain ⟨hk1,hk2⟩:=hin k (List.mem_of_getElem? hk)
  obtain ⟨x,hx⟩:∃ x,now[k.toNat]? = some x:=⟨_,List.getElem?_eq_getElem (by omega)⟩
  have hwr:IntKind.wrap .i64 ((i:Int) + 1) = ((i + 1:Nat):Int):=by rw [IntWalk.i64_in _ (by omega)]; omega
  have hkeep:Keeps s0 s':=Same.keeps hk0 hS hf
  have hBn':s'.cells Bn = some (now.map fun k => .int .i64 k):=(hS.cells (by simpa using hne) hob).trans hBn
  have hgx:(now.map fun k => AVal.int .i64 k)[k.toNat]? = some (.int .i64 x):=by rw [List.getElem?_map,hx]; rfl
  have hlay:lay (sgK now nd i).cells (2 + i) [.int .i64 x] = (sgK now nd (i + 1)).cells:=Zuo (nm:=nd.1) (by omega) hk hx
  have hsl:2 + i + 1 ≤ (sgK now nd i).cells.length:=by simp [sgK,Key.cells,Z9u]; omega
  have hi4:(i:Int) < 4:=by omega
  simp [lay] at hlay
  have t5:=(hF 5 (by simp)).trans h5
  have t12:=(hF 12 (by simp)).trans h12
  rcases hkv0.keep hkeep with ⟨_,e0⟩ | ⟨b,o,c,ks,rfl,hb,hks,hle2,hel2⟩
  ·rw [e0] at hlt
   simp at hlt
  have hg:=hel2 i k hk
  simp [hlt]
  refine AM.wp_skip ?_
  simp
  refine AM.wp_seq ?_
  refine AM.wp_block ?_
  refine Z00 ?_
  simp [t55,t57,hlt,hks,hg]
  refine AM.wp_region ?_
  simp [t5,t12,hk1,hk2,hBn',hgx,hO]
  refine ⟨hi4,hsl,?_⟩
  rw [hlay]
  refine AM.wp_region ?_
  simp [t57,hwr]
  refine ⟨nd.2.length - (i + 1),by omega,i + 1,by omega,by omega,?_,by simp [t55],by simp [t56],by simp,?_,by simp⟩
  ·intro y hy
   simp at hy
   simp [hy]
   exact hF y (by simp [hy])
  ·exact hS.put _ (by simp) (hS.old hoBk)
 ·simp [hlt]
  refine AM.wp_exit ?_
  simp
  have hie:i = nd.2.length:=by omega
  subst hie
  refine q _ s' ?_ hS ?_
  ·intro y hy
   simp at hy
   simp [hy]
   exact hF y (by simp [hy])
  ·rw [hO]
   unfold sgK
   rw [Zol now nd.2 (Nat.le_refl _) h4]
def addK (D:List Key) (k:Key):List Key:=if k ∈ D then D else D ++ [k]
theorem Zbl (D:List Key) (k:Key):k ∈ addK D k:=by
 unfold addK
 split
 ·assumption
 ·simp
theorem Zmq {w:Nat} {D:List Key} {k:Key} (hD:∀ d ∈ D,d.2.length = w) (hk:k.2.length = w):∀ d ∈ addK D k,d.2.length = w:=by
 unfold addK
 split
 ·exact hD
 ·intro d hd
  rcases List.mem_append.1 hd with h | h
  ·exact hD d h
  ·simp at h
   subst h
   exact hk
theorem Zyh {fr:FI} {s0 s:St} {t0:PT AVal} {p Bn Bx Bm:Pos} {nds:List (List UInt8 × List Int)} {nd:List UInt8 × List Int} {a:Nat} {now nxt:List Int} {c0 c1 c2:Cap} {D:List Key} {Q:Ex→PT AVal→St→Prop}
  (hN:NodesG s0 p nds) (hk0:Keeps s0 s) (hw:s.Wf) (hnd:nds[a]? = some nd) (h4:nd.2.length ≤ 4) (hin:∀ k ∈ nd.2,0 ≤ k∧k < nds.length) (hlen:now.length = nds.length) (hlx:nxt.length = nds.length)
  (h0:PT.get (posOf 0) t0 = some (.slice p 0 nds.length c0)) (h11:PT.get (posOf 11) t0 = some (.int .i64 a)) (h5:PT.get (posOf 5) t0 = some (.slice Bn 0 nds.length c1)) (h7:PT.get (posOf 7) t0 = some (.slice Bx 0 nds.length c2)) (h9:PT.get (posOf 9) t0 = some (.map Bm))
  (hBn:s.cells Bn = some (now.map fun k => .int .i64 k)) (hob:s.Old Bn) (hBx:s.own Bx = some (nxt.map fun k => .int .i64 k)) (hBm:s.obj Bm = some (.map (Z16 0 D) D.length)) (hD:∀ d ∈ D,d.2.length = 5)
  (hnx:Bn ≠ Bx) (hnm:Bn ≠ Bm) (hxm:Bx ≠ Bm) (hfx:¬ s0.Old Bx) (hfm:¬ s0.Old Bm)
  (q:∀ t s',Fr [11,12,13,14,16,39,40,41,42,43,44,45,46,47,48,49,50,55,56,57,58,77] t0 t→Same [Bx,Bm] s s' →
   s'.own Bx = some ((nxt.set a ((addK D (sgK now nd 4)).idxOf (sgK now nd 4):Nat)).map fun k => .int .i64 k)→s'.obj Bm = some (.map (Z16 0 (addK D (sgK now nd 4))) (addK D (sgK now nd 4)).length)→Q .normal t s'):wp Tryd.prog Zsy fr t0 s Q:=by
 obtain ⟨cs,hcs,hle,hel⟩:=(hN.keep hk0).ex
 obtain ⟨hel0,kv,hel1,hkv⟩:=hel a nd hnd
 have ha:a < nds.length:=(List.getElem?_eq_some_iff.1 hnd).1
 have hoX:s.Old Bx:=Z0c hw hBx
 have hoM:s.Old Bm:=Z3k hw hBm
 refine Z00 ?_
 simp [h0,h11,ha,hcs,hel0,hel1,hkv.len,hw]
 have hK1:Keeps s ((s.alloc (.cells [.str [],.int .i64 0,.int .i64 0,.int .i64 0,.int .i64 0,.int .i64 0] false)).put s.next (.cells [.str nd.1,.int .i64 nd.2.length,.int .i64 0,.int .i64 0,.int .i64 0,.int .i64 0] false)) :=
  (Keeps.alloc _ _).put _ (Z08 _) (Z19 _ _)
 have hoK:((s.alloc (.cells [.str [],.int .i64 0,.int .i64 0,.int .i64 0,.int .i64 0,.int .i64 0] false)).put s.next (.cells [.str nd.1,.int .i64 nd.2.length,.int .i64 0,.int .i64 0,.int .i64 0,.int .i64 0] false)).Old s.next:=Zgi.2 (Z19 _ _)
 have hwK:((s.alloc (.cells [.str [],.int .i64 0,.int .i64 0,.int .i64 0,.int .i64 0,.int .i64 0] false)).put s.next (.cells [.str nd.1,.int .i64 nd.2.length,.int .i64 0,.int .i64 0,.int .i64 0,.int .i64 0] false)).own s.next = some (sgK now nd 0).cells:=Z7w _ _ _
 generalize (s.alloc (.cells [.str [],.int .i64 0,.int .i64 0,.int .i64 0,.int .i64 0,.int .i64 0] false)).put s.next (.cells [.str nd.1,.int .i64 nd.2.length,.int .i64 0,.int .i64 0,.int .i64 0,.int .i64 0] false) = S1 at hK1 hoK hwK ⊢
 have hfk:¬ s0.Old s.next:=fun h => Z08 s (hk0.old h)
 have hnk:Bn ≠ s.next:=ne_next hob
 have hxk:Bx ≠ s.next:=ne_next hoX
 have hmk:Bm ≠ s.next:=ne_next hoM
 have hsk:¬ s.Old s.next:=Z08 s
 generalize s.next = Bk at hoK hwK hfk hnk hxk hmk hsk ⊢
 refine AM.wp_seq ?_
 refine Zz3 (c0:=c0) (c1:=c1) (Bn:=Bn) (Bk:=Bk) hN (hk0.trans hK1) hnd h4 hin hlen (by simp [h0]) (by simp [h11]) (by simp [h5]) (by simp) ((hK1.cells hob).trans hBn) (hK1.old hob) hnk hwK hoK hfk fun t2 s2 hF2 hS2 hO2 => ?_
 have hX2:s2.own Bx = some (nxt.map fun k => .int .i64 k):=((hS2.own (by simpa using hxk) (hK1.old hoX)).trans (hK1.own hoX)).trans hBx
 have hM2:s2.obj Bm = some (.map (Z16 0 D) D.length):=((hS2.obj Bm (by simpa using hmk) (hK1.old hoM)).trans (hK1.obj Bm hoM)).trans hBm
 have g9:PT.get (posOf 9) t2 = some (.map Bm):=(hF2 9 (by simp)).trans (by simp [h9])
 have g12:PT.get (posOf 12) t2 = some (.ptr Bk 0):=(hF2 12 (by simp)).trans (by simp)
 have g7:PT.get (posOf 7) t2 = some (.slice Bx 0 nds.length c2):=(hF2 7 (by simp)).trans (by simp [h7])
 have g11:PT.get (posOf 11) t2 = some (.int .i64 a):=(hF2 11 (by simp)).trans (by simp [h11])
 have hwf2:s2.Wf:=hS2.wf (hK1.wf hw)
 have hoX2:s2.Old Bx:=hS2.old (hK1.old hoX)
 have hoM2:s2.Old Bm:=hS2.old (hK1.old hoM)
 have hl6:(sgK now nd 4).cells.length = 6:=by simp [sgK,Key.cells,Z9u]
 have ht6:(sgK now nd 4).cells.take 6 = (sgK now nd 4).cells:=List.take_of_length_le (by omega)
 have hk5:(sgK now nd 4).2.length = 5:=by simp [sgK,Z9u]
 have hSa:Same [Bx,Bm] s s2:=⟨fun b hb ho => (hS2.obj b (by intro hm; simp at hm; subst hm; exact hsk ho) (hK1.old ho)).trans (hK1.obj b ho),Nat.le_trans hK1.next hS2.next,fun h => hwf2⟩
 have hcB:=Z0i hO2
 have fin:∀ (t3:PT AVal) (s3:St),Fr [11,12,13,14,16,39,40,41,42,43,44,45,46,47,48,49,50,55,56,57,58,77] t0 t3→PT.get (posOf 12) t3 = some (.ptr Bk 0)→Same [Bx,Bm] s s3→s3.cells Bk = some (sgK now nd 4).cells →
   s3.own Bx = some (nxt.map fun k => .int .i64 k)→s3.obj Bm = some (.map (Z16 0 (addK D (sgK now nd 4))) (addK D (sgK now nd 4)).length)→PT.get (posOf 11) t3 = some (.int .i64 a)→wp Tryd.prog Zt0 fr t3 s3 Q:=by
  intro t3 s3 hF3 f12 hS3 hB3 hX3 hM3 f11
  have f7:PT.get (posOf 7) t3 = some (.slice Bx 0 nds.length c2):=(hF3 7 (by simp)).trans h7
  have f9:PT.get (posOf 9) t3 = some (.map Bm):=(hF3 9 (by simp)).trans h9
  refine AM.wp_region ?_
  simp [f7,f9,f11,f12,hB3,hl6,ht6]
  refine Zdz (w:=5) hM3 hk5 (Zmq hD hk5) (fun hm => ?_) (fun hm => (hm (Zbl D _)).elim)
  have hlay:=Z8f nxt a ((addK D (sgK now nd 4)).idxOf (sgK now nd 4):Nat) (by omega)
  have hax:a + 1 ≤ nxt.length:=by omega
  simp [lay] at hlay
  simp [ha,hX3,hax]
  refine q t3 _ hF3 (hS3.put _ (by simp) (hS3.old hoX)) ?_ ?_
  ·rw [hlay]
   simp
  ·rw [Z3z (fun e => hxm e.symm)]
   exact hM3
 have hF2':∀ (b:Bool),Fr [11,12,13,14,16,39,40,41,42,43,44,45,46,47,48,49,50,55,56,57,58,77] t0 (PT.set (posOf 77) (.bool b) (PT.set (posOf 16) (.bool (!b)) t2)):=by
  intro b y hy
  simp at hy
  simp [hy]
  rw [hF2 y (by simp [hy])]
  simp [hy]
 simp
 refine AM.wp_seq ?_
 refine Z00 ?_
 simp [g9,g12,hcB,hl6,ht6]
 refine Zdz (w:=5) hM2 hk5 hD (fun hm => ?_) (fun hm => ?_)
 ·have e:addK D (sgK now nd 4) = D:=if_pos hm
  simp
  refine Z00 ?_
  simp
  refine AM.Z03 ?_
  simp
  refine AM.wp_skip ?_
  simp
  refine fin _ s2 (hF2' false) (by simp [g12]) hSa hcB hX2 ?_ (by simp [g11])
  rw [e]
  exact hM2
 ·have e:addK D (sgK now nd 4) = D ++ [sgK now nd 4]:=if_neg hm
  simp
  refine Z00 ?_
  simp
  refine AM.Z03 ?_
  simp
  refine AM.wp_region ?_
  simp [g9,g12,hcB,hl6,ht6]
  refine Z7t hM2 ?_
  rw [entsFrom_len]
  refine Zm4 (w:=5) hM2 hk5 hD hm ?_
  simp
  refine fin _ _ (hF2' true) (by simp [g12]) (hSa.put _ (by simp) hoM2) ?_ ?_ ?_ (by simp [g11])
  ·rw [Zbo (fun e => hmk e.symm)]
   exact hcB
  ·rw [Z5j hxm]
   exact hX2
  ·rw [e]
   simp
def keyA (now:List Int) (nds:List (List UInt8 × List Int)) (a:Nat):Key:=match nds[a]? with
 | some nd => sgK now nd 4
 | none => ([],[])
def Z53 (now:List Int) (nds:List (List UInt8 × List Int)) (x:List Key × List Int) (a:Nat):List Key × List Int :=
 (addK x.1 (keyA now nds a),x.2.set a ((addK x.1 (keyA now nds a)).idxOf (keyA now nds a):Nat))
def Z0q (now:List Int) (nds:List (List UInt8 × List Int)) (L:List Nat):List Key × List Int:=L.foldl (Z53 now nds) ([],List.replicate nds.length (-1))
theorem Zba (now:List Int) (nds:List (List UInt8 × List Int)):∀ (L:List Nat) (x:List Key × List Int),(L.foldl (Z53 now nds) x).2.length = x.2.length
 | [],x => rfl
 | a :: L,x => by
  rw [List.foldl_cons,Zba now nds L]
  simp [Z53]
theorem Zvn {now:List Int} {nds:List (List UInt8 × List Int)} {a:Nat} (ha:a < nds.length):(keyA now nds a).2.length = 5:=by
 unfold keyA
 rw [List.getElem?_eq_getElem ha]
 simp [sgK,Z9u]
theorem Zct {now:List Int} {nds:List (List UInt8 × List Int)}:∀ (L:List Nat) (x:List Key × List Int),(∀ a ∈ L,a < nds.length)→(∀ d ∈ x.1,d.2.length = 5)→∀ d ∈ (L.foldl (Z53 now nds) x).1,d.2.length = 5
 | [],x,_,h => h
 | a :: L,x,hL,h => by
  rw [List.foldl_cons]
  exact Zct L _ (fun b hb => hL b (by simp [hb])) (Zmq h (Zvn (hL a (by simp))))
theorem Zz4 {fr:FI} {s0 s:St} {t0:PT AVal} {p Bn Bx Bm:Pos} {nds:List (List UInt8 × List Int)} {now:List Int} {c0 c1 c2:Cap} {Lv:AVal} {L:List Nat} {Q:Ex→PT AVal→St→Prop}
  (hN:NodesG s0 p nds) (hk0:Keeps s0 s) (hw:s.Wf) (hL:Z0e s0 Lv (L.map fun (a:Nat) => (a:Int))) (hLn:∀ a ∈ L,a < nds.length) (hLl:L.length ≤ 1000)
  (hkids:∀ (a:Nat) nd,nds[a]? = some nd→nd.2.length ≤ 4∧∀ k ∈ nd.2,0 ≤ k∧k < nds.length) (hlen:now.length = nds.length)
  (h0:PT.get (posOf 0) t0 = some (.slice p 0 nds.length c0)) (h1:PT.get (posOf 1) t0 = some Lv) (h5:PT.get (posOf 5) t0 = some (.slice Bn 0 nds.length c1)) (h7:PT.get (posOf 7) t0 = some (.slice Bx 0 nds.length c2)) (h9:PT.get (posOf 9) t0 = some (.map Bm))
  (hBn:s.cells Bn = some (now.map fun k => .int .i64 k)) (hob:s.Old Bn) (hBx:s.own Bx = some ((List.replicate nds.length (-1)).map fun k => .int .i64 k)) (hBm:s.obj Bm = some (.map [] 0))
  (hnx:Bn ≠ Bx) (hnm:Bn ≠ Bm) (hxm:Bx ≠ Bm) (hfx:¬ s0.Old Bx) (hfm:¬ s0.Old Bm)
  (q:∀ t s',Fr [11,12,13,14,16,33,34,35,36,39,40,41,42,43,44,45,46,47,48,49,50,55,56,57,58,77] t0 t→Same [Bx,Bm] s s' →
   s'.own Bx = some ((Z0q now nds L).2.map fun k => .int .i64 k)→s'.obj Bm = some (.map (Z16 0 (Z0q now nds L).1) (Z0q now nds L).1.length)→Q .normal t s'):wp Tryd.prog Zsx fr t0 s Q:=by
 have hoX:s.Old Bx:=Z0c hw hBx
 have hoM:s.Old Bm:=Z3k hw hBm
 have hLlen:=(hL.keep hk0).len
 have hLt:=hL.ntup
 simp at hLlen
 have hf:∀ b ∈ [Bx,Bm],¬ s0.Old b:=by
  intro b hb
  simp at hb
  rcases hb with rfl | rfl
  ·exact hfx
  ·exact hfm
 refine Z00 ?_
 simp [h1,hLlen]
 refine AM.wp_block ?_
 refine AM.wp_loop (fun m t s' => ∃ i:Nat,i ≤ L.length∧m = L.length - i∧Fr [11,12,13,14,16,33,34,35,36,39,40,41,42,43,44,45,46,47,48,49,50,55,56,57,58,77] t0 t∧PT.get (posOf 33) t = some Lv∧PT.get (posOf 34) t = some (.int .i64 L.length)∧PT.get (posOf 35) t = some (.int .i64 i)∧Same [Bx,Bm] s s' ∧
  s'.own Bx = some ((Z0q now nds (L.take i)).2.map fun k => .int .i64 k)∧s'.obj Bm = some (.map (Z16 0 (Z0q now nds (L.take i)).1) (Z0q now nds (L.take i)).1.length)) L.length ⟨0,by simp,by simp,?_,by simp,by simp,by simp,Same.refl _ _,?_,?_⟩ ?_
 ·intro y hy
  simp at hy
  simp [hy]
 ·simpa [Z0q] using hBx
 ·simpa [Z0q,Z16] using hBm
 rintro m t s' ⟨i,hi,rfl,hF,t33,t34,t35,hS,hX,hM⟩
 refine Z00 ?_
 simp [t34,t35]
 refine AM.wp_seq ?_
 refine AM.Z03 ?_
 by_cases hlt:i < L.length
 ·obtain ⟨a,ha⟩:∃ a,L[i]? = some a:=⟨_,List.getElem?_eq_getElem hlt⟩
  have han:a < nds.length:=hLn a (List.mem_of_getElem? ha)
  obtain ⟨nd,hnd⟩:∃ nd,nds[a]? = some nd:=⟨_,List.getElem?_eq_getElem han⟩
  obtain ⟨h4,hin⟩:=hkids a nd hnd
  have hwr:IntKind.wrap .i64 ((i:Int) + 1) = ((i + 1:Nat):Int):=by rw [IntWalk.i64_in _ (by omega)]; omega
  have hkeep:Keeps s0 s':=Same.keeps hk0 hS hf
  have hal:(L.map fun (a:Nat) => (a:Int))[i]? = some (a:Int):=by rw [List.getElem?_map,ha]; rfl
  have hkey:keyA now nds a = sgK now nd 4:=by unfold keyA; rw [hnd]
  have htk:L.take (i + 1) = L.take i ++ [a]:=by
   rw [List.take_add_one,ha]
   rfl
  have hrd:Z0q now nds (L.take (i + 1)) = Z53 now nds (Z0q now nds (L.take i)) a:=by
   unfold Z0q
   rw [htk,List.foldl_append]
   rfl
  rcases hL.keep hkeep with ⟨_,e0⟩ | ⟨b,o,c,ks,rfl,hb,hks,hle2,hel2⟩
  ·have:(L.map fun (a:Nat) => (a:Int)).length = 0:=by rw [e0]; rfl
   rw [List.length_map] at this
   omega
  have hg:=hel2 i a hal
  simp at t33
  simp [hlt]
  refine AM.wp_skip ?_
  simp
  refine AM.wp_seq ?_
  refine AM.wp_block ?_
  refine Z00 ?_
  simp [t33,t35,hlt,hks,hg]
  refine Zyh (c0:=c0) (c1:=c1) (c2:=c2) (D:=(Z0q now nds (L.take i)).1) (nxt:=(Z0q now nds (L.take i)).2) hN hkeep (hS.wf hw) hnd h4 hin hlen ?_ ?_ ?_ ?_ ?_ ?_ ((hS.cells (by simp [hnx,hnm]) hob).trans hBn) (hS.old hob) hX hM ?_ hnx hnm hxm hfx hfm fun t2 s2 hF2 hS2 hX2 hM2 => ?_
  ·rw [Z0q,Zba]
   simp
  ·simp
   exact (hF 0 (by simp)).trans h0
  ·simp
  ·simp
   exact (hF 5 (by simp)).trans h5
  ·simp
   exact (hF 7 (by simp)).trans h7
  ·simp
   exact (hF 9 (by simp)).trans h9
  ·exact Zct _ _ (fun a ha => hLn a (List.mem_of_mem_take ha)) (by simp)
  have g33:PT.get (posOf 33) t2 = some (.slice b o L.length c):=(hF2 33 (by simp)).trans (by simp [t33])
  have g34:PT.get (posOf 34) t2 = some (.int .i64 L.length):=(hF2 34 (by simp)).trans (by simp [t34])
  have g35:PT.get (posOf 35) t2 = some (.int .i64 i):=(hF2 35 (by simp)).trans (by simp [t35])
  simp
  refine AM.wp_region ?_
  simp [g35,hwr]
  refine ⟨L.length - (i + 1),by omega,i + 1,by omega,by omega,?_,by simp [g33],by simp [g34],by simp,hS.trans hS2,?_,?_⟩
  ·intro y hy
   simp at hy
   simp [hy]
   rw [hF2 y (by simp [hy])]
   simp [hy]
   exact hF y (by simp [hy])
  ·rw [hrd,hX2,← hkey]
   rfl
  ·rw [hrd,hM2,← hkey]
   rfl
 ·simp [hlt]
  refine AM.wp_exit ?_
  simp
  have hie:i = L.length:=by omega
  subst hie
  rw [List.take_length] at hX hM
  refine q _ s' ?_ hS hX hM
  intro y hy
  simp at hy
  simp [hy]
  exact hF y (by simp [hy])
theorem Zoe {α:Type} (A B:α) (n i:Nat):List.drop (i + 1) (List.replicate i A ++ List.replicate (n - i) B) = List.replicate (n - (i + 1)) B:=by
 rw [List.drop_append,List.drop_eq_nil_of_le (by simp),List.length_replicate,List.drop_replicate,List.nil_append]
 congr 1
 omega
theorem Zof {α:Type} (A B:α) (n i:Nat):List.replicate i A ++ A :: List.replicate (n - (i + 1)) B = List.replicate (i + 1) A ++ List.replicate (n - (i + 1)) B:=by
 rw [List.replicate_succ']
 simp
theorem Zz1 {fr:FI} {s:St} {t0:PT AVal} {Bx:Pos} {n:Nat} {c2:Cap} {Q:Ex→PT AVal→St→Prop} (hw:s.Wf) (hn:n ≤ 1000)
  (h7:PT.get (posOf 7) t0 = some (.slice Bx 0 n c2)) (hBx:s.own Bx = some ((List.replicate n (0:Int)).map fun k => .int .i64 k))
  (q:∀ t s',Fr [8,24,25,26] t0 t→Same [Bx] s s'→s'.own Bx = some ((List.replicate n (-1:Int)).map fun k => .int .i64 k)→Q .normal t s'):wp Tryd.prog Zsw fr t0 s Q:=by
 have hoX:s.Old Bx:=Z0c hw hBx
 refine Z00 ?_
 simp [h7]
 refine AM.wp_block ?_
 refine AM.wp_loop (fun m t s' => ∃ i:Nat,i ≤ n∧m = n - i∧Fr [8,24,25,26] t0 t∧PT.get (posOf 24) t = some (.int .i64 n)∧PT.get (posOf 25) t = some (.int .i64 i)∧Same [Bx] s s' ∧
  s'.own Bx = some (List.replicate i (.int .i64 (-1)) ++ List.replicate (n - i) (.int .i64 0))) n ⟨0,by simp,by simp,?_,by simp,by simp,Same.refl _ _,?_⟩ ?_
 ·intro y hy
  simp at hy
  simp [hy]
 ·simpa using hBx
 rintro m t s' ⟨i,hi,rfl,hF,t24,t25,hS,hX⟩
 refine Z00 ?_
 simp [t24,t25]
 refine AM.wp_seq ?_
 refine AM.Z03 ?_
 by_cases hlt:i < n
 ·have hwr:IntKind.wrap .i64 ((i:Int) + 1) = ((i + 1:Nat):Int):=by rw [IntWalk.i64_in _ (by omega)]; omega
  have t7:=(hF 7 (by simp)).trans h7
  have hle:i + 1 ≤ i + (n - i):=by omega
  simp [hlt]
  refine AM.wp_skip ?_
  simp
  refine AM.wp_seq ?_
  refine AM.wp_block ?_
  refine Z00 ?_
  simp [t25]
  refine AM.wp_region ?_
  simp [t7,hlt,hX,hle,Zoe]
  refine AM.wp_region ?_
  simp [t25,hwr]
  refine ⟨n - (i + 1),by omega,i + 1,by omega,by omega,?_,by simp [t24],by simp,hS.put _ (by simp) (hS.old hoX),?_⟩
  ·intro y hy
   simp at hy
   simp [hy]
   exact hF y (by simp [hy])
  ·rw [Zof]
 ·simp [hlt]
  refine AM.wp_exit ?_
  simp
  have hie:i = n:=by omega
  subst hie
  refine q _ s' ?_ hS (by simpa using hX)
  intro y hy
  simp at hy
  simp [hy]
  exact hF y (by simp [hy])
def nowI (nds:List (List UInt8 × List Int)) (L:List Nat):Nat→List Int
 | 0 => List.replicate nds.length 0
 | r + 1 => (Z0q (nowI nds L r) nds L).2
def cntI (nds:List (List UInt8 × List Int)) (L:List Nat):Nat→Nat
 | 0 => 0
 | r + 1 => (Z0q (nowI nds L r) nds L).1.length
theorem Z6k (nds:List (List UInt8 × List Int)) (L:List Nat):∀ r,(nowI nds L r).length = nds.length
 | 0 => by simp [nowI]
 | r + 1 => by
  show (Z0q (nowI nds L r) nds L).2.length = _
  rw [Z0q,Zba]
  simp
theorem Zqp {s:St} {p:Pos} {nds:List (List UInt8 × List Int)} {c0:Cap} {Lv:AVal} {L:List Nat} {R:Nat} {Q:AVal→St→Prop}
  (hw:s.Wf) (hN:NodesG s p nds) (hn:nds.length ≤ 1000) (hL:Z0e s Lv (L.map fun (a:Nat) => (a:Int))) (hLn:∀ a ∈ L,a < nds.length) (hLl:L.length ≤ 1000)
  (hkids:∀ (a:Nat) nd,nds[a]? = some nd→nd.2.length ≤ 4∧∀ k ∈ nd.2,0 ≤ k∧k < nds.length)
  (hR:∀ r,r < R→cntI nds L (r + 1) ≠ cntI nds L r) (hE:cntI nds L (R + 1) = cntI nds L R)
  (q:∀ Bx s',Keeps s s'→¬ s.Old Bx→s'.own Bx = some ((nowI nds L (R + 1)).map fun k => .int .i64 k)→Q (.slice Bx 0 nds.length (.lim nds.length)) s'):Z0f Tryd.prog 49 [.slice p 0 nds.length c0,Lv] s Q:=by
 have hLt:=hL.ntup
 refine Z09 (Z0n (by decide)) fi49 rfl (by decide) rfl ?_
 refine Z00 ?_
 simp
 refine Z00 ?_
 have hs1:nds.length * 8 ≤ Z0j:=by unfold Z0j; omega
 have hs2:nds.length ≤ Z0j:=by unfold Z0j; omega
 simp [hs1,hs2]
 have hK1:Keeps s (s.alloc (.cells (List.replicate nds.length (.int .i64 0)) false)):=Keeps.alloc _ _
 have hX1:(s.alloc (.cells (List.replicate nds.length (.int .i64 0)) false)).own s.next = some ((nowI nds L 0).map fun k => .int .i64 k):=by simp [nowI]
 have hf1:¬ s.Old s.next:=Z08 s
 have ho1:(s.alloc (.cells (List.replicate nds.length (.int .i64 0)) false)).Old s.next:=Z19 _ _
 generalize s.alloc (.cells (List.replicate nds.length (.int .i64 0)) false) = s1 at hK1 hX1 ho1 ⊢
 generalize s.next = B1 at hX1 hf1 ho1 ⊢
 refine Z00 ?_
 simp
 refine AM.wp_block ?_
 refine AM.wp_loop (fun m t s' => ∃ (r:Nat) (Bn:Pos),r ≤ R∧m = R - r∧PT.get (posOf 0) t = some (.slice p 0 nds.length c0)∧PT.get (posOf 1) t = some Lv∧PT.get (posOf 5) t = some (.slice Bn 0 nds.length (.lim nds.length))∧PT.get (posOf 6) t = some (.int .i64 (cntI nds L r))∧Keeps s s'∧¬ s.Old Bn∧s'.Old Bn ∧
  s'.own Bn = some ((nowI nds L r).map fun k => .int .i64 k)) R ⟨0,B1,by simp,by simp,by simp,by simp,by simp,by simp [cntI],hK1,hf1,ho1,hX1⟩ ?_
 rintro m t s' ⟨r,Bn,hr,rfl,t0,t1,t5,t6,hk,hfn,hon,hXn⟩
 refine AM.wp_block ?_
 refine Z00 ?_
 simp [t0,hs1,hs2]
 have hw':s'.Wf:=hk.wf hw
 have hK2:Keeps s' (s'.alloc (.cells (List.replicate nds.length (.int .i64 0)) false)):=Keeps.alloc _ _
 have hX2:(s'.alloc (.cells (List.replicate nds.length (.int .i64 0)) false)).own s'.next = some ((List.replicate nds.length (0:Int)).map fun k => .int .i64 k):=by simp
 have hfx:¬ s.Old s'.next:=fun h => Z08 s' (hk.old h)
 have hnx:Bn ≠ s'.next:=ne_next hon
 have hfx':¬ s'.Old s'.next:=Z08 s'
 generalize s'.alloc (.cells (List.replicate nds.length (.int .i64 0)) false) = s2 at hK2 hX2 ⊢
 generalize s'.next = Bx at hX2 hfx hnx hfx' ⊢
 have hw2:s2.Wf:=hK2.wf hw'
 refine AM.wp_seq ?_
 refine Zz1 (n:=nds.length) (Bx:=Bx) (c2:=.lim nds.length) hw2 hn (by simp) hX2 fun t3 s3 hF3 hS3 hX3 => ?_
 have hw3:s3.Wf:=hS3.wf hw2
 have hk3:Keeps s' s3:=Same.keeps hK2 hS3 (by simpa using hfx')
 have g0:PT.get (posOf 0) t3 = some (.slice p 0 nds.length c0):=(hF3 0 (by simp)).trans (by simp [t0])
 have g1:PT.get (posOf 1) t3 = some Lv:=(hF3 1 (by simp)).trans (by simp [t1])
 have g5:PT.get (posOf 5) t3 = some (.slice Bn 0 nds.length (.lim nds.length)):=(hF3 5 (by simp)).trans (by simp [t5])
 have g6:PT.get (posOf 6) t3 = some (.int .i64 (cntI nds L r)):=(hF3 6 (by simp)).trans (by simp [t6])
 have g7:PT.get (posOf 7) t3 = some (.slice Bx 0 nds.length (.lim nds.length)):=(hF3 7 (by simp)).trans (by simp)
 simp
 refine Z00 ?_
 simp
 have hK4:Keeps s3 (s3.alloc (.map [] 0)):=Keeps.alloc _ _
 have hM4:(s3.alloc (.map [] 0)).obj s3.next = some (.map [] 0):=Z4u _ _
 have hoX3:s3.Old Bx:=Z0c hw3 hX3
 have hfm:¬ s.Old s3.next:=fun h => Z08 s3 (hk3.old (hk.old h))
 have hnm:Bn ≠ s3.next:=ne_next (hk3.old hon)
 have hxm:Bx ≠ s3.next:=ne_next hoX3
 generalize s3.alloc (.map [] 0) = s4 at hK4 hM4 ⊢
 generalize s3.next = Bm at hM4 hfm hnm hxm ⊢
 have hw4:s4.Wf:=hK4.wf hw3
 have hk4:Keeps s s4:=(hk.trans hk3).trans hK4
 have hX4:s4.own Bx = some ((List.replicate nds.length (-1:Int)).map fun k => .int .i64 k):=(hK4.own hoX3).trans hX3
 have hN4:s4.own Bn = some ((nowI nds L r).map fun k => .int .i64 k):=(hK4.own (hk3.old hon)).trans ((hk3.own hon).trans hXn)
 refine AM.wp_seq ?_
 refine Zz4 (p:=p) (Bn:=Bn) (Bx:=Bx) (Bm:=Bm) (c0:=c0) (c1:=.lim nds.length) (c2:=.lim nds.length) (now:=nowI nds L r) (Lv:=Lv) (L:=L) hN hk4 hw4 hL hLn hLl hkids (Z6k nds L r) (by simp [g0]) (by simp [g1]) (by simp [g5]) (by simp [g7]) (by simp) (Z0i hN4) (hK4.old (hk3.old hon)) hX4 hM4 hnx hnm hxm hfx hfm fun t5' s5 hF5 hS5 hX5 hM5 => ?_
 have hk5:Keeps s s5:=Same.keeps hk4 hS5 (by
  intro b hb
  simp at hb
  rcases hb with rfl | rfl
  ·exact hfx
  ·exact hfm)
 have j0:PT.get (posOf 0) t5' = some (.slice p 0 nds.length c0):=(hF5 0 (by simp)).trans (by simp [g0])
 have j1:PT.get (posOf 1) t5' = some Lv:=(hF5 1 (by simp)).trans (by simp [g1])
 have j6:PT.get (posOf 6) t5' = some (.int .i64 (cntI nds L r)):=(hF5 6 (by simp)).trans (by simp [g6])
 have j7:PT.get (posOf 7) t5' = some (.slice Bx 0 nds.length (.lim nds.length)):=(hF5 7 (by simp)).trans (by simp [g7])
 have j9:PT.get (posOf 9) t5' = some (.map Bm):=(hF5 9 (by simp)).trans (by simp)
 have hcnt:(Z0q (nowI nds L r) nds L).1.length = cntI nds L (r + 1):=rfl
 simp
 refine AM.wp_seq ?_
 refine Z00 ?_
 simp [j9]
 refine Z7t hM5 ?_
 rw [entsFrom_len,hcnt]
 by_cases he:cntI nds L (r + 1) = cntI nds L r
 ·have hrR:r = R:=by
   rcases Nat.lt_or_ge r R with h | h
   ·exact (hR r h he).elim
   ·omega
  subst hrR
  simp [j6,he]
  refine AM.Z03 ?_
  simp
  refine Z00 ?_
  simp [j7]
  refine AM.wp_ret ?_
  simp
  exact q Bx s5 hk5 hfx hX5
 ·have hrR:r < R:=by
   rcases Nat.lt_or_ge r R with h | h
   ·exact h
   ·have:r = R:=by omega
    subst this
    exact (he hE).elim
  have he':¬ ((cntI nds L (r + 1):Nat):Int) = (cntI nds L r:Nat):=by omega
  simp [j6,he,he']
  refine AM.Z03 ?_
  simp
  refine AM.wp_skip ?_
  simp
  refine AM.wp_region ?_
  simp [j7,j9]
  refine Z7t hM5 ?_
  rw [entsFrom_len,hcnt]
  simp
  refine ⟨R - (r + 1),by omega,r + 1,by omega,rfl,by simp [j0],by simp [j1],rfl,hk5,hfx,Z0c (hk5.wf hw) hX5,hX5⟩
theorem Zn9:∀ (l:List RC) (i:Nat) (c:RC),l[i]? = some c→((encs l).drop (i * 4)).take 4 = c.enc
 | [],i,c,h => by simp at h
 | d :: l,0,c,h => by
  simp at h
  subst h
  have:(encs (d :: l)) = d.enc ++ encs l:=rfl
  rw [this,Nat.zero_mul,List.drop_zero,List.take_append_of_le_length (by simp [RC.enc])]
  rfl
 | d :: l,i + 1,c,h => by
  have:(encs (d :: l)) = d.enc ++ encs l:=rfl
  have e:(i + 1) * 4 = d.enc.length + i * 4:=by simp [RC.enc]; omega
  rw [this,e,List.drop_length_add_append]
  exact Zn9 l i c (by simpa using h)
theorem Zjw {s:St} {p B:Pos} {l:List RC} {yv:AVal} {I:Nat→St→Prop} {Q:AVal→St→Prop} (hl:l.length ≤ 400) (hyt:∀ t,¬ yv = .tup t)
  (hI:∀ i s',I i s'→s'.Wf∧s'.Old p∧s'.Old B∧s'.cells p = some (encs l)∧s'.cells B = some [.slice p 0 l.length (.lim l.length)])
  (hst:∀ i s' s'',I i s'→Keeps s' s''→I i s'') (hskip:∀ i c s',l[i]? = some c→c.taken = false→I i s'→I (i + 1) s')
  (hy:∀ (i:Nat) c s' (R:AVal→St→Prop),l[i]? = some c→c.taken = true→I i s'→(∀ s'',I (i + 1) s''→R (.bool true) s'')→Z4d Tryd.prog yv [.int .i64 i] s' R)
  (h0:I 0 s) (q:∀ s',I l.length s'→Q (.tup []) s'):Z0f Tryd.prog 87 [yv,.ptr B 0] s Q:=by
 obtain ⟨_,_,_,_,hB⟩:=hI 0 s h0
 refine Z09 (Z0n (by decide)) fi87 rfl (by decide) rfl ?_
 refine Z00 ?_
 simp [hB]
 refine AM.wp_block ?_
 refine AM.wp_loop (fun m t s' => ∃ i:Nat,i ≤ l.length∧m = l.length - i∧PT.get (posOf 0) t = some yv∧PT.get (posOf 6) t = some (.slice p 0 l.length (.lim l.length))∧PT.get (posOf 7) t = some (.int .i64 l.length)∧PT.get (posOf 8) t = some (.int .i64 i)∧I i s') l.length ⟨0,by simp,by simp,by simp,by simp,by simp,by simp,h0⟩ ?_
 rintro m t s' ⟨i,hi,rfl,t0,t6,t7,t8,hIi⟩
 obtain ⟨hw,hp,hBo,hc,hB'⟩:=hI i s' hIi
 refine Z00 ?_
 simp [t7,t8]
 refine AM.wp_seq ?_
 refine AM.Z03 ?_
 by_cases hlt:i < l.length
 ·obtain ⟨c,hci⟩:∃ c,l[i]? = some c:=⟨_,List.getElem?_eq_getElem hlt⟩
  have hseg:=Zn9 l i c hci
  have hle:i * 4 + 4 ≤ (encs l).length:=by rw [Z4f]; omega
  have hwr:IntKind.wrap .i64 ((i:Int) + 1) = ((i + 1:Nat):Int):=by rw [IntWalk.i64_in _ (by omega)]; omega
  simp [hlt]
  refine AM.wp_skip ?_
  simp
  refine AM.wp_seq ?_
  refine AM.wp_block ?_
  refine Z00 ?_
  simp [t6,t8,hlt,hc,hle,hseg,RC.enc]
  have hK:Keeps s' ((s'.alloc (.cells [.bool false,.str [],.nilSlice,.int .i64 0] false)).put s'.next (.cells c.enc false)):=(Keeps.alloc _ _).put _ (Z08 _) (Z19 _ _)
  have hO:((s'.alloc (.cells [.bool false,.str [],.nilSlice,.int .i64 0] false)).put s'.next (.cells c.enc false)).cells s'.next = some c.enc:=Zkz _ _ _ _
  simp only [RC.enc] at hK hO
  generalize (s'.alloc (.cells [.bool false,.str [],.nilSlice,.int .i64 0] false)).put s'.next (.cells [.bool c.taken,.str c.name,c.kv,.int .i64 c.held] false) = s1 at hK hO ⊢
  generalize s'.next = V at hO ⊢
  have hI1:=hst i s' s1 hIi hK
  refine Z00 ?_
  cases hct:c.taken with
  | false =>
   rw [hct] at hO
   simp [hO]
   refine AM.Z03 ?_
   simp
   refine AM.wp_skip ?_
   simp
   refine AM.wp_region ?_
   simp [t8,hwr]
   exact ⟨l.length - (i + 1),by omega,i + 1,by omega,by omega,by simp [t0],by simp [t6],by simp [t7],by simp,hskip i c s1 hci hct hI1⟩
  | true =>
   rw [hct] at hO
   simp [hO,t0,hyt]
   refine hy i c s1 _ hci hct hI1 fun s2 hI2 => ?_
   simp
   refine AM.Z03 ?_
   simp
   refine AM.wp_skip ?_
   simp
   refine AM.wp_region ?_
   simp [t8,hwr]
   exact ⟨l.length - (i + 1),by omega,i + 1,by omega,by omega,by simp [t0],by simp [t6],by simp [t7],by simp,hI2⟩
 ·simp [hlt]
  refine AM.wp_exit ?_
  simp
  have hie:i = l.length:=by omega
  subst hie
  exact q s' hIi
theorem Zee {s:St} {v:AVal} {Q:AVal→St→Prop} (q:∀ B,B = s.next→Q (.fn 87 [] [.ptr B 0]) (s.alloc (.cells [v] false))):Z0f Tryd.prog 55 [.agg [v]] s Q:=by
 refine Z09 (Z0n (by decide)) fi55 rfl (by decide) rfl ?_
 refine Z00 ?_
 simp
 refine Z00 ?_
 simp
 refine AM.wp_ret ?_
 simp
 exact q _ rfl
theorem Zhe {fr:FI} {s:St} {t:PT AVal} {Q:Ex→PT AVal→St→Prop} {f:RO} {k k':Nat} {b:MCode} {fi:FInfo} {p B:Pos} {l:List RC} {I:Nat→St→Prop} (hl:l.length ≤ 400)
  (hx:getO t [] f = some (.fn 87 [] [.ptr B 0])) (hr:fr.round = none) (hfi:funInfo Tryd.prog fr.fn = some fi) (hpl:Z7i fi.ps fi.ntmps [k] = some [some (posOf k)])
  (hI:∀ i s',I i s'→s'.Wf∧s'.Old p∧s'.Old B∧s'.cells p = some (encs l)∧s'.cells B = some [.slice p 0 l.length (.lim l.length)])
  (hst:∀ i s' s'',I i s'→Same [s.next] s' s''→I i s'') (hskip:∀ i c s',l[i]? = some c→c.taken = false→I i s'→I (i + 1) s')
  (hbody:∀ (i:Nat) c s1 (W:Ex→PT AVal→St→Prop),l[i]? = some c→c.taken = true→I i s1→s1.Old s.next→(∀ t s2,I (i + 1) s2→s2.obj s.next = s1.obj s.next→W .normal t s2) →
   wp Tryd.prog b { fn:=fr.fn,ntmps:=fi.ntmps,ps:=fi.ps,round:=some s.next } (PT.set (posOf k') (.int .i64 i) (PT.set (posOf k) (.int .i64 i) t)) s1 W)
  (h0:I 0 s) (q:∀ s',I l.length s'→Q .normal t s'):wp Tryd.prog (.range f [k] (.region [.run none (.move (.per (posOf k)))] [some (posOf k')]) b) fr t s Q:=by
 refine AM.Zoq hx (fun l0 e => by rw [hr] at e; cases e) ?_
 have hw0:=(hI 0 s h0).1
 have hL0:(s.alloc (.loop { state:=.ready,pending:=none,fn:=fr.fn,tm:=t,params:=[k],assign:=.region [.run none (.move (.per (posOf k)))] [some (posOf k')],body:=b })).obj s.next = some (.loop { state:=.ready,pending:=none,fn:=fr.fn,tm:=t,params:=[k],assign:=.region [.run none (.move (.per (posOf k)))] [some (posOf k')],body:=b }):=Z4u _ _
 have hS0:Same [s.next] s (s.alloc (.loop { state:=.ready,pending:=none,fn:=fr.fn,tm:=t,params:=[k],assign:=.region [.run none (.move (.per (posOf k)))] [some (posOf k')],body:=b })):=Same.Z8h (Keeps.alloc _ _)
 generalize s.alloc (.loop { state:=.ready,pending:=none,fn:=fr.fn,tm:=t,params:=[k],assign:=.region [.run none (.move (.per (posOf k)))] [some (posOf k')],body:=b }) = s0 at hL0 hS0 ⊢
 refine Zjw (I:=fun i s' => I i s'∧s'.obj s.next = some (.loop { state:=.ready,pending:=none,fn:=fr.fn,tm:=t,params:=[k],assign:=.region [.run none (.move (.per (posOf k)))] [some (posOf k')],body:=b })) hl (by simp) (fun i s' h => hI i s' h.1) ?_ ?_ ?_ ⟨hst 0 s s0 h0 hS0,hL0⟩ ?_
 ·rintro i s' s'' ⟨h1,h2⟩ hk
  have hw:=(hI i s' h1).1
  exact ⟨hst i s' s'' h1 (Same.Z8h hk),(hk.obj _ (Z3k hw h2)).trans h2⟩
 ·rintro i c s' hci hct ⟨h1,h2⟩
  exact ⟨hskip i c s' hci hct h1,h2⟩
 ·rintro i c s' R hci hct ⟨h1,h2⟩ hR
  have hw:=(hI i s' h1).1
  have ho:=Z3k hw h2
  refine Zhh (pl:=[some (posOf k)]) (tree:=PT.set (posOf k) (.int .i64 i) t) h2 hfi hpl rfl rfl ?_
  refine AM.wp_region ?_
  simp
  refine ⟨_,h2,rfl,?_⟩
  refine hbody i c _ _ hci hct (hst i s' _ h1 ((Same.refl _ _).put _ (by simp) ho)) (Zgi.2 ho) fun t2 s2 hI2 hobj => ?_
  have hw2:=(hI (i + 1) s2 hI2).1
  rw [Zgh] at hobj
  refine ⟨_,hobj,?_⟩
  refine hR _ ⟨hst (i + 1) s2 _ hI2 ((Same.refl _ _).put _ (by simp) (Z3k hw2 hobj)),?_⟩
  simp
 ·rintro s2 ⟨h1,h2⟩
  have hw:=(hI _ s2 h1).1
  refine ⟨_,h2,rfl,?_⟩
  exact q _ (hst _ s2 _ h1 ((Same.refl _ _).put _ (by simp) (Z3k hw h2)))
def penc (l:List (List UInt8 × AVal)):List AVal:=l.flatMap fun x => [.str x.1,x.2]
theorem Zby:∀ (l:List (List UInt8 × AVal)),(penc l).length = 2 * l.length
 | [] => rfl
 | c :: l => by
  have:=Zby l
  simp [penc] at this ⊢
  omega
theorem Zi6:∀ (l:List (List UInt8 × AVal)) (i:Nat) (c:List UInt8 × AVal),l[i]? = some c→(penc l)[i * 2]? = some (.str c.1)∧(penc l)[i * 2 + 1]? = some c.2
 | [],i,c,h => by simp at h
 | d :: l,0,c,h => by
  simp at h
  subst h
  exact ⟨rfl,rfl⟩
 | d :: l,i + 1,c,h => by
  have e:penc (d :: l) = .str d.1 :: d.2 :: penc l:=rfl
  have e1:(i + 1) * 2 = i * 2 + 1 + 1:=by omega
  have e2:(i + 1) * 2 + 1 = (i * 2 + 1) + 1 + 1:=by omega
  obtain ⟨h1,h2⟩:=Zi6 l i c (by simpa using h)
  rw [e,e2,e1]
  simp only [List.getElem?_cons_succ]
  exact ⟨h1,h2⟩
theorem Zo6:∀ (l:List (List UInt8 × AVal)) (i:Nat) (c:List UInt8 × AVal),i < l.length→lay (penc l) (i * 2) [.str c.1,c.2] = penc (l.set i c)
 | [],i,c,h => by simp at h
 | d :: l,0,c,h => by
  simp [lay,penc]
 | d :: l,i + 1,c,h => by
  have e:penc (d :: l) = [.str d.1,d.2] ++ penc l:=rfl
  have e2:penc ((d :: l).set (i + 1) c) = [.str d.1,d.2] ++ penc (l.set i c):=rfl
  have ih:=Zo6 l i c (by simpa using h)
  have e3:(i + 1) * 2 = [AVal.str d.1,d.2].length + i * 2:=by simp; omega
  rw [e,e2,← ih]
  unfold lay
  rw [e3,List.take_length_add_append,Nat.add_assoc,List.drop_length_add_append]
  simp
def nlI (l:List RC) (i:Nat):List (List UInt8 × AVal):=l.mapIdx fun j c => if j < i∧c.taken = true then (c.name,c.kv) else ([],.nilSlice)
theorem Z6w (l:List RC) (i:Nat):(nlI l i).length = l.length:=by simp [nlI]
theorem Z8s {l:List RC} {i j:Nat} {c:RC} (h:l[j]? = some c):(nlI l i)[j]? = some (if j < i∧c.taken = true then (c.name,c.kv) else ([],.nilSlice)):=by
 simp [nlI,h]
theorem Zvv (l:List RC):penc (nlI l 0) = (List.replicate l.length [AVal.str [],.nilSlice]).flatten:=by
 have:nlI l 0 = List.replicate l.length ([],.nilSlice):=by
  refine List.ext_getElem? fun j => ?_
  by_cases hj:j < l.length
  ·rw [Z8s (List.getElem?_eq_getElem hj)]
   simp [hj]
  ·rw [List.getElem?_eq_none (by rw [Z6w]; omega),List.getElem?_eq_none (by simp; omega)]
 rw [this]
 simp [penc,List.flatMap]
theorem Zvt {l:List RC} {i:Nat} {c:RC} (h:l[i]? = some c) (hc:c.taken = true):(nlI l i).set i (c.name,c.kv) = nlI l (i + 1):=by
 have hi:i < l.length:=(List.getElem?_eq_some_iff.1 h).1
 refine List.ext_getElem? fun j => ?_
 by_cases hj:j < l.length
 ·rw [List.getElem?_set]
  by_cases e:i = j
  ·subst e
   have e2:=Z8s (i:=i + 1) h
   rw [e2,Z6w]
   simp [hi,hc]
  ·rw [if_neg e,Z8s (List.getElem?_eq_getElem hj),Z8s (List.getElem?_eq_getElem hj)]
   have:j < i ↔ j < i + 1:=by omega
   simp [this]
 ·rw [List.getElem?_eq_none (by rw [List.length_set,Z6w]; omega),List.getElem?_eq_none (by rw [Z6w]; omega)]
theorem Zvu {l:List RC} {i:Nat} {c:RC} (h:l[i]? = some c) (hc:c.taken = false):nlI l i = nlI l (i + 1):=by
 refine List.ext_getElem? fun j => ?_
 by_cases hj:j < l.length
 ·rw [Z8s (List.getElem?_eq_getElem hj),Z8s (List.getElem?_eq_getElem hj)]
  by_cases e:i = j
  ·subst e
   have:l[i] = c:=(List.getElem?_eq_some_iff.1 h).2
   simp [this,hc]
  ·have:j < i ↔ j < i + 1:=by omega
   simp [this]
 ·rw [List.getElem?_eq_none (by rw [Z6w]; omega),List.getElem?_eq_none (by rw [Z6w]; omega)]
def takI (l:List RC) (i:Nat):List Nat:=(List.range i).filter fun j => match l[j]? with
 | some c => c.taken
 | none => false
theorem Z7l {l:List RC} {i:Nat} {c:RC} (h:l[i]? = some c) (hc:c.taken = true):takI l (i + 1) = takI l i ++ [i]:=by
 unfold takI
 rw [List.range_succ,List.filter_append]
 simp [h,hc]
theorem Zfz {l:List RC} {i:Nat} {c:RC} (h:l[i]? = some c) (hc:c.taken = false):takI l (i + 1) = takI l i:=by
 unfold takI
 rw [List.range_succ,List.filter_append]
 simp [h,hc]
theorem Zom (l:List RC) (i:Nat):(takI l i).length ≤ i:=by
 unfold takI
 exact Nat.le_trans (List.length_filter_le _ _) (by simp)
structure GrI (s0:St) (p B1 B4 B5 pn Lb:Pos) (l:List RC) (i:Nat) (s:St):Prop where
 wf:s.Wf
 k:Keeps s0 s
 b1:s.own B1 = some [.slice p 0 l.length (.lim l.length)]
 b4:s.own B4 = some [.slice pn 0 l.length (.lim l.length)]
 n:s.own pn = some (penc (nlI l i))
 b5:∃ lv,s.own B5 = some [lv]∧((lv = .nilSlice∧takI l i = []) ∨ ∃ q,lv = .slice q 0 (takI l i).length (.opn 1)∧takI l i ≠ []∧s.own q = some ((takI l i).map fun (a:Nat) => .int .i64 (a:Int))∧¬ s0.Old q∧q ≠ B1∧q ≠ B4∧q ≠ B5∧q ≠ pn∧q ≠ Lb)
theorem GrI.same {s0 s s':St} {p B1 B4 B5 pn Lb:Pos} {l:List RC} {i:Nat} (h:GrI s0 p B1 B4 B5 pn Lb l i s) (hk:Same [Lb] s s') (hL:¬ s0.Old Lb) (h1:B1 ≠ Lb) (h4:B4 ≠ Lb) (h5:B5 ≠ Lb) (hn:pn ≠ Lb):GrI s0 p B1 B4 B5 pn Lb l i s':=by
 have hf:∀ b ∈ [Lb],¬ s0.Old b:=by simpa using hL
 refine ⟨hk.wf h.wf,Same.keeps h.k hk hf,(hk.own (by simpa using h1) (Z0c h.wf h.b1)).trans h.b1,(hk.own (by simpa using h4) (Z0c h.wf h.b4)).trans h.b4,(hk.own (by simpa using hn) (Z0c h.wf h.n)).trans h.n,?_⟩
 obtain ⟨lv,e5,hlv⟩:=h.b5
 refine ⟨lv,(hk.own (by simpa using h5) (Z0c h.wf e5)).trans e5,?_⟩
 rcases hlv with h0 | ⟨q,g1,g2,g3,g4,g5,g6,g7,g8,g9⟩
 ·exact .inl h0
 ·exact .inr ⟨q,g1,g2,(hk.own (by simpa using g9) (Z0c h.wf g3)).trans g3,g4,g5,g6,g7,g8,g9⟩
def Zb6 (l:List RC) (K:Nat→List Int):List (List UInt8 × List Int):=l.mapIdx fun j c => if c.taken = true then (c.name,K j) else ([],[])
theorem Zl8 {s:St} {p:Pos} {l:List RC} {K:Nat→List Int} {Q:AVal→St→Prop} (hw:s.Wf) (hp:s.Old p) (hc:s.cells p = some (encs l)) (hl:l.length ≤ 400) (hK:∀ j c,l[j]? = some c→Z0e s c.kv (K j))
  (q:∀ pn lv s',Keeps s s'→¬ s.Old pn→s'.own pn = some (penc (nlI l l.length))→((lv = .nilSlice∧takI l l.length = []) ∨ ∃ q,lv = .slice q 0 (takI l l.length).length (.opn 1)∧takI l l.length ≠ []∧s'.own q = some ((takI l l.length).map fun (a:Nat) => .int .i64 (a:Int))∧¬ s.Old q∧q ≠ pn)→NodesG s' pn (Zb6 l K)→Z0e s' lv ((takI l l.length).map fun (a:Nat) => (a:Int))→Q (.tup [.slice pn 0 l.length (.lim l.length),lv]) s'):Z0f Tryd.prog 50 [.agg [.slice p 0 l.length (.lim l.length)]] s Q:=by
 refine Z09 (Z0n (by decide)) fi50 rfl (by decide) rfl ?_
 refine Z00 ?_
 simp
 have hK1:Keeps s (s.alloc (.cells [.slice p 0 l.length (.lim l.length)] false)):=Keeps.alloc _ _
 have hB1:(s.alloc (.cells [.slice p 0 l.length (.lim l.length)] false)).own s.next = some [.slice p 0 l.length (.lim l.length)]:=Z1s _ _
 have hf1:¬ s.Old s.next:=Z08 s
 generalize s.alloc (.cells [.slice p 0 l.length (.lim l.length)] false) = s1 at hK1 hB1 ⊢
 generalize s.next = B1 at hB1 hf1 ⊢
 have hw1:s1.Wf:=hK1.wf hw
 have ho1:s1.Old B1:=Z0c hw1 hB1
 have hz1:l.length * 40 ≤ Z0j:=by unfold Z0j; omega
 have hz2:l.length ≤ Z0j:=by unfold Z0j; omega
 refine Z00 ?_
 simp [Z0i hB1,hz1,hz2]
 have hK2:Keeps s1 (s1.alloc (.cells (List.replicate l.length [AVal.str [],.nilSlice]).flatten false)):=Keeps.alloc _ _
 have hN2:(s1.alloc (.cells (List.replicate l.length [AVal.str [],.nilSlice]).flatten false)).own s1.next = some (penc (nlI l 0)):=by rw [Zvv]; exact Z1s _ _
 have hfn:¬ s1.Old s1.next:=Z08 s1
 have hn1:B1 ≠ s1.next:=ne_next ho1
 generalize s1.alloc (.cells (List.replicate l.length [AVal.str [],.nilSlice]).flatten false) = s2 at hK2 hN2 ⊢
 generalize s1.next = pn at hN2 hfn hn1 ⊢
 have hw2:s2.Wf:=hK2.wf hw1
 have hon:s2.Old pn:=Z0c hw2 hN2
 have hK3:Keeps s2 ((s2.alloc (.cells [.nilSlice] false)).put s2.next (.cells [.slice pn 0 l.length (.lim l.length)] false)):=(Keeps.alloc _ _).put _ (Z08 _) (Z19 _ _)
 have hB3:((s2.alloc (.cells [.nilSlice] false)).put s2.next (.cells [.slice pn 0 l.length (.lim l.length)] false)).own s2.next = some [.slice pn 0 l.length (.lim l.length)]:=Z7w _ _ _
 have hf4:¬ s2.Old s2.next:=Z08 s2
 have hn4:pn ≠ s2.next:=ne_next hon
 have h14:B1 ≠ s2.next:=ne_next (hK2.old ho1)
 generalize (s2.alloc (.cells [.nilSlice] false)).put s2.next (.cells [.slice pn 0 l.length (.lim l.length)] false) = s3 at hK3 hB3 ⊢
 generalize s2.next = B4 at hB3 hf4 hn4 h14 ⊢
 have hw3:s3.Wf:=hK3.wf hw2
 have ho4:s3.Old B4:=Z0c hw3 hB3
 refine Z00 ?_
 simp
 have hK4:Keeps s3 (s3.alloc (.cells [.nilSlice] false)):=Keeps.alloc _ _
 have hB5:(s3.alloc (.cells [.nilSlice] false)).own s3.next = some [.nilSlice]:=Z1s _ _
 have hf5:¬ s3.Old s3.next:=Z08 s3
 have hn5:pn ≠ s3.next:=ne_next (hK3.old hon)
 have h15:B1 ≠ s3.next:=ne_next (hK3.old (hK2.old ho1))
 have h45:B4 ≠ s3.next:=ne_next ho4
 generalize s3.alloc (.cells [.nilSlice] false) = s4 at hK4 hB5 ⊢
 generalize s3.next = B5 at hB5 hf5 hn5 h15 h45 ⊢
 have hw4:s4.Wf:=hK4.wf hw3
 have ho5:s4.Old B5:=Z0c hw4 hB5
 have hB1':s4.own B1 = some [.slice p 0 l.length (.lim l.length)]:=(hK4.own (hK3.old (hK2.old ho1))).trans ((hK3.own (hK2.old ho1)).trans ((hK2.own ho1).trans hB1))
 have hN4:s4.own pn = some (penc (nlI l 0)):=(hK4.own (hK3.old hon)).trans ((hK3.own hon).trans hN2)
 have hB4:s4.own B4 = some [.slice pn 0 l.length (.lim l.length)]:=(hK4.own ho4).trans hB3
 have hk4:Keeps s s4:=((hK1.trans hK2).trans hK3).trans hK4
 refine AM.wp_seq ?_
 refine Z00 ?_
 simp [Z0i hB1']
 refine Z05 ?_
 refine Zee fun BB hBB => ?_
 have hK5:Keeps s4 (s4.alloc (.cells [.slice p 0 l.length (.lim l.length)] false)):=Keeps.alloc _ _
 have hBB5:(s4.alloc (.cells [.slice p 0 l.length (.lim l.length)] false)).own BB = some [.slice p 0 l.length (.lim l.length)]:=by rw [hBB]; exact Z1s _ _
 generalize s4.alloc (.cells [.slice p 0 l.length (.lim l.length)] false) = s5 at hK5 hBB5 ⊢
 have hw5:s5.Wf:=hK5.wf hw4
 have hk5:Keeps s s5:=hk4.trans hK5
 simp
 refine AM.wp_block ?_
 have hLo:∀ b,s5.Old b→b ≠ s5.next:=fun b hb => ne_next hb
 have hG0:GrI s p B1 B4 B5 pn s5.next l 0 s5:=⟨hw5,hk5,(hK5.own (Z0c hw4 hB1')).trans hB1',(hK5.own (Z0c hw4 hB4)).trans hB4,(hK5.own (Z0c hw4 hN4)).trans hN4,.nilSlice,(hK5.own ho5).trans hB5,.inl ⟨rfl,rfl⟩⟩
 have hp5:s5.Old p:=hk5.old hp
 have hc5:s5.cells p = some (encs l):=(hk5.cells hp).trans hc
 have hBo:s5.Old BB:=Z0c hw5 hBB5
 have hBf:¬ s.Old BB:=fun h => by
  rw [hBB] at h
  exact Z08 s4 (hk4.old h)
 refine Zhe (I:=fun i s' => GrI s p B1 B4 B5 pn s5.next l i s'∧s'.own BB = some [.slice p 0 l.length (.lim l.length)]) (p:=p) (B:=BB) (l:=l) hl (by simp) rfl fi50 rfl ?_ ?_ ?_ ?_ ⟨hG0,hBB5⟩ ?_
 ·rintro i s' ⟨h,hb⟩
  exact ⟨h.wf,h.k.old hp,Z0c h.wf hb,(h.k.cells hp).trans hc,Z0i hb⟩
 ·rintro i s' s'' ⟨h,hb⟩ hS
  refine ⟨h.same hS (fun h => Z08 s5 (hk5.old h)) (hLo _ (hK5.old (Z0c hw4 hB1'))) (hLo _ (hK5.old (Z0c hw4 hB4))) (hLo _ (hK5.old ho5)) (hLo _ (hK5.old (Z0c hw4 hN4))),?_⟩
  exact (hS.own (by simpa using hLo _ hBo) (Z0c h.wf hb)).trans hb
 ·rintro i c s' hci hct ⟨h,hb⟩
  refine ⟨⟨h.wf,h.k,h.b1,h.b4,by rw [← Zvu hci hct]; exact h.n,?_⟩,hb⟩
  rw [Zfz hci hct]
  exact h.b5
 ·rintro i c s' W hci hct ⟨h,hb⟩ hoL hW
  have hi:i < l.length:=(List.getElem?_eq_some_iff.1 hci).1
  have hcp:s'.cells p = some (encs l):=(h.k.cells hp).trans hc
  have hg1:(encs l)[i * 4 + 1]? = some (.str c.name):=Z4e l i 1 c hci (by decide)
  have hg2:(encs l)[i * 4 + 2]? = some c.kv:=Z4e l i 2 c hci (by decide)
  have hkt:∀ t,¬ c.kv = .tup t:=(hK i c hci).ntup
  have hkc:c.kv.cells = [c.kv]:=by
   rcases hK i c hci with ⟨h0,_⟩ | ⟨_,_,_,_,h0,_⟩
   ·cases e:c.kv <;> rw [e] at h0 <;> simp [Z1b] at h0 <;> rfl
   ·rw [h0]; rfl
  have hlay:=Zo6 (nlI l i) i (c.name,c.kv) (by rw [Z6w]; exact hi)
  rw [Zvt hci hct] at hlay
  have hle:i * 2 + 2 ≤ (penc (nlI l i)).length:=by rw [Zby,Z6w]; omega
  obtain ⟨lv,e5,hlv⟩:=h.b5
  refine AM.wp_block ?_
  refine Z00 ?_
  simp [lay] at hlay
  simp [Z0i h.b1,Z0i h.b4,hi,hcp,hg1,hg2,hkt,hkc,h.n,hle]
  rw [hlay]
  have hwA:(s'.put pn (.cells (penc (nlI l (i + 1))) false)).Wf:=Zg2 _ h.wf (Z0c h.wf h.n)
  have h5A:(s'.put pn (.cells (penc (nlI l (i + 1))) false)).own B5 = some [lv]:=(Z5j (fun e => hn5 e.symm)).trans e5
  have hnA:(s'.put pn (.cells (penc (nlI l (i + 1))) false)).own pn = some (penc (nlI l (i + 1))):=Z7w _ _ _
  have hSA:Same [pn] s' (s'.put pn (.cells (penc (nlI l (i + 1))) false)):=(Same.refl _ _).put _ (by simp) (Z0c h.wf h.n)
  generalize s'.put pn (.cells (penc (nlI l (i + 1))) false) = sA at hwA h5A hnA hSA ⊢
  have hlt:∀ t,¬ lv = .tup t:=by
   rintro t rfl
   rcases hlv with ⟨h0,_⟩ | ⟨q,h0,_⟩ <;> cases h0
  have ho5A:=Z0c hwA h5A
  have hspn:¬ s.Old pn:=fun h => hfn (hK1.old h)
  have hsB5:¬ s.Old B5:=fun h => hf5 (((hK1.trans hK2).trans hK3).old h)
  have hoB1:=Z0c h.wf h.b1
  have hoB4:=Z0c h.wf h.b4
  have hoBB:=Z0c h.wf hb
  have hfin:∀ (t:PT AVal) (sB:St) (qN:Pos) (ex:List Pos),Same ex sA sB→sB.own qN = some ((takI l (i + 1)).map fun (a:Nat) => .int .i64 (a:Int))→¬ sA.Old qN →
    (∀ b ∈ ex,b ≠ pn∧b ≠ B1∧b ≠ B4∧b ≠ B5∧b ≠ BB∧b ≠ s5.next∧¬ s.Old b)→W .normal t (sB.put B5 (.cells [.slice qN 0 (takI l (i + 1)).length (.opn 1)] false)):=by
   intro t sB qN ex hSB hqB hqo hex
   have hoBn:=hSA.old (Z0c h.wf h.n)
   have hne:∀ b,sA.Old b→b ≠ qN:=fun b hb e => hqo (e ▸ hb)
   have gp:∀ b,b ≠ pn→b ≠ B5→b ∉ ex→s'.Old b→(sB.put B5 (.cells [.slice qN 0 (takI l (i + 1)).length (.opn 1)] false)).obj b = s'.obj b:=by
    intro b h1 h2 h3 h4
    rw [Z3z h2,hSB.obj b h3 (hSA.old h4)]
    exact hSA.obj b (by simpa using h1) h4
   have hwF:(sB.put B5 (.cells [.slice qN 0 (takI l (i + 1)).length (.opn 1)] false)).Wf:=Zg2 _ (hSB.wf hwA) (hSB.old ho5A)
   have hown:∀ b cs,b ≠ pn→b ≠ B5→b ∉ ex→s'.own b = some cs→(sB.put B5 (.cells [.slice qN 0 (takI l (i + 1)).length (.opn 1)] false)).own b = some cs:=by
    intro b cs h1 h2 h3 h4
    unfold St.own
    rw [gp b h1 h2 h3 (Z0c h.wf h4)]
    exact h4
   have n1:B1 ∉ ex:=fun hm => (hex _ hm).2.1 rfl
   have n4:B4 ∉ ex:=fun hm => (hex _ hm).2.2.1 rfl
   have nB:BB ∉ ex:=fun hm => (hex _ hm).2.2.2.2.1 rfl
   have nL:s5.next ∉ ex:=fun hm => (hex _ hm).2.2.2.2.2.1 rfl
   have nP:pn ∉ ex:=fun hm => (hex _ hm).1 rfl
   refine hW t _ ⟨⟨hwF,?_,hown _ _ hn1 h15 n1 h.b1,hown _ _ (fun e => hn4 e.symm) h45 n4 h.b4,?_,_,Z7w _ _ _,.inr ⟨qN,rfl,?_,?_,?_,?_,?_,?_,?_,?_⟩⟩,hown _ _ ?_ ?_ nB hb⟩ ?_
   ·refine ⟨fun b hb => ?_,Nat.le_trans h.k.next (Nat.le_trans hSA.next hSB.next),fun _ => hwF⟩
    rw [gp b (fun e => hspn (e ▸ hb)) (fun e => hsB5 (e ▸ hb)) (fun hm => (hex _ hm).2.2.2.2.2.2 hb) (h.k.old hb)]
    exact h.k.obj b hb
   ·rw [Z5j hn5,hSB.own nP hoBn]
    exact hnA
   ·rw [Z7l hci hct]
    simp
   ·rw [Z5j (fun e => hne _ ho5A e.symm)]
    exact hqB
   ·exact fun h' => hqo (hSA.old (h.k.old h'))
   ·exact fun e => hne _ (hSA.old hoB1) e.symm
   ·exact fun e => hne _ (hSA.old hoB4) e.symm
   ·exact fun e => hne _ ho5A e.symm
   ·exact fun e => hne _ hoBn e.symm
   ·exact fun e => hne _ (hSA.old hoL) e.symm
   ·intro e
    have h1:=h.n
    rw [← e,hb] at h1
    have h2:=congrArg Option.some (Option.some.inj h1)
    have h3:(penc (nlI l i)).length = 1:=by rw [← Option.some.inj h1]; rfl
    rw [Zby] at h3
    omega
   ·intro e
    rw [e,e5] at hb
    have:=List.head_eq_of_cons_eq (Option.some.inj hb)
    rcases hlv with ⟨h0,_⟩ | ⟨q',h0,_⟩
    ·rw [h0] at this
     cases this
    ·rw [h0] at this
     simp at this
   ·exact gp _ (fun e => hLo _ (hK5.old (Z0c hw4 hN4)) e.symm) (fun e => hLo _ (hK5.old ho5) e.symm) nL hoL
  refine AM.wp_region ?_
  rcases hlv with ⟨rfl,hl0⟩ | ⟨q',rfl,hl0,hq,hqf,hq1,hq4,hq5,hqn,hqL⟩
  ·simp [Z0i h5A,Z13,srcP,appP,Z4a,h5A,ho5A]
   refine ⟨by unfold Z0j; omega,?_⟩
   have hKF:Keeps sA ((sA.alloc (.cells [.int .i64 i] false)).alloc (.cells [.int .i64 i] false)):=(Keeps.alloc _ _).trans (Keeps.alloc _ _)
   have hqN:((sA.alloc (.cells [.int .i64 i] false)).alloc (.cells [.int .i64 i] false)).own (sA.alloc (.cells [.int .i64 i] false)).next = some [.int .i64 i]:=Z1s _ _
   have hqo:¬ sA.Old (sA.alloc (.cells [.int .i64 i] false)).next:=fun h => Z08 _ ((Keeps.alloc sA (.cells [.int .i64 i] false)).old h)
   generalize (sA.alloc (.cells [.int .i64 i] false)).next = qN at hqN hqo ⊢
   generalize (sA.alloc (.cells [.int .i64 i] false)).alloc (.cells [.int .i64 i] false) = sB at hKF hqN ⊢
   have hlen:(takI l (i + 1)).length = 1:=by rw [Z7l hci hct,hl0]; rfl
   have:=fun t => hfin t sB qN [] (Same.Z8h hKF) (by rw [hqN,Z7l hci hct,hl0]; rfl) hqo (by simp)
   rw [hlen] at this
   exact this _
  ·have hoq:=Z0c h.wf hq
   have hqA:sA.own q' = some ((takI l i).map fun (a:Nat) => .int .i64 (a:Int)):=(hSA.own (by simpa using hqn) hoq).trans hq
   have hoqA:sA.Old q':=hSA.old hoq
   have hsz:((takI l i).length + 1) * 8 ≤ Z0j:=by have:=Zom l i; unfold Z0j; omega
   have hq5':¬ B5 = q':=fun e => hq5 e.symm
   have hnle:¬ (takI l i).length + 1 ≤ (takI l i).length:=by omega
   simp [Z0i h5A,Z13,srcP,appP,Z4a,h5A,ho5A,hqA,hoqA,hl0,hsz,hq5',hnle]
   have htk:List.take (takI l i).length ((takI l i).map fun (a:Nat) => AVal.int .i64 (a:Int)) = (takI l i).map fun (a:Nat) => AVal.int .i64 (a:Int):=List.take_of_length_le (by simp)
   rw [htk]
   have hTo:(sA.alloc (.cells [.int .i64 i] false)).Old q':=Zlo _ hoqA
   have hSB:Same [q'] sA (((sA.alloc (.cells [.int .i64 i] false)).put q' .dead).alloc (.cells ((takI l i).map (fun (a:Nat) => AVal.int .i64 (a:Int)) ++ [.int .i64 i]) false)) :=
    ((Same.Z8h (Keeps.alloc _ _)).put _ (by simp) hTo).trans (Same.Z8h (Keeps.alloc _ _))
   have hqN:(((sA.alloc (.cells [.int .i64 i] false)).put q' .dead).alloc (.cells ((takI l i).map (fun (a:Nat) => AVal.int .i64 (a:Int)) ++ [.int .i64 i]) false)).own (sA.alloc (.cells [.int .i64 i] false)).next = some ((takI l i).map (fun (a:Nat) => AVal.int .i64 (a:Int)) ++ [.int .i64 i]):=Z1s _ _
   have hqo:¬ sA.Old (sA.alloc (.cells [.int .i64 i] false)).next:=fun h => Z08 _ ((Keeps.alloc sA (.cells [.int .i64 i] false)).old h)
   generalize (sA.alloc (.cells [.int .i64 i] false)).next = qN at hqN hqo ⊢
   generalize ((sA.alloc (.cells [.int .i64 i] false)).put q' .dead).alloc (.cells ((takI l i).map (fun (a:Nat) => AVal.int .i64 (a:Int)) ++ [.int .i64 i]) false) = sB at hSB hqN ⊢
   have hlen:(takI l (i + 1)).length = (takI l i).length + 1:=by rw [Z7l hci hct]; simp
   have:=fun t => hfin t sB qN [q'] hSB (by rw [hqN,Z7l hci hct]; simp) hqo (by
    intro b hb'
    simp at hb'
    subst hb'
    refine ⟨hqn,hq1,hq4,hq5,?_,hqL,hqf⟩
    intro e
    rw [e,hb] at hq
    cases hti:takI l i with
    | nil => exact hl0 hti
    | cons x r =>
     rw [hti] at hq
     simp at hq)
   rw [hlen] at this
   exact this _
 ·rintro s' ⟨h,hb⟩
  obtain ⟨lv,e5,hlv⟩:=h.b5
  have hlt:∀ t,¬ lv = .tup t:=by
   rintro t rfl
   rcases hlv with ⟨h0,_⟩ | ⟨q,h0,_⟩ <;> cases h0
  simp
  refine Z00 ?_
  simp [Z0i h.b4,Z0i e5]
  refine AM.wp_ret ?_
  simp
  refine q pn lv s' h.k (fun ho => hfn (hK1.old ho)) h.n (hlv.imp id fun ⟨q',g1,g2,g3,g4,_,_,_,g8,_⟩ => ⟨q',g1,g2,g3,g4,g8⟩) ⟨Z0c h.wf h.n,_,Z0i h.n,?_,?_⟩ ?_
  ·rw [Zby,Z6w]
   simp [Zb6]
  ·intro j nd hnd
   have hj:j < l.length:=by
    have:=(List.getElem?_eq_some_iff.1 hnd).1
    simpa [Zb6] using this
   have hcj:l[j]? = some l[j]:=List.getElem?_eq_getElem hj
   have hnl:=Z8s (i:=l.length) hcj
   obtain ⟨h1,h2⟩:=Zi6 _ _ _ hnl
   have hnd':nd = if l[j].taken = true then (l[j].name,K j) else ([],[]):=by
    simp [Zb6,hcj] at hnd
    exact hnd.symm
   rw [hnd']
   rw [h1]
   refine ⟨?_,_,h2,?_⟩
   ·by_cases ht:l[j].taken = true
    ·simp [ht,hj]
    ·simp [ht]
   ·by_cases ht:l[j].taken = true
    ·simp only [ht,hj,and_self,if_true]
     exact (hK j _ hcj).keep h.k
    ·simp [ht,Z0e,Z1b]
  ·rcases hlv with ⟨rfl,h0⟩ | ⟨q',rfl,h0,h1,h2⟩
   ·rw [h0]
    exact .inl ⟨rfl,rfl⟩
   ·refine .inr ⟨q',0,.opn 1,_,by simp,Z0c h.wf h1,Z0i h1,by simp,?_⟩
    intro j k hk
    simp at hk ⊢
    obtain ⟨a,ha,rfl⟩:=hk
    exact ⟨a,ha,rfl⟩
theorem Zvh {s:St} {p:Pos} {l:List RC} {K:Nat→List Int} {Q:AVal→St→Prop} (hw:s.Wf) (hp:s.Old p) (hc:s.cells p = some (encs l)) (hl:l.length ≤ 400) (hK:∀ j c,l[j]? = some c→Z0e s c.kv (K j))
  (q:∀ pn lv s',Keeps s s'→NodesG s' pn (Zb6 l K)→Z0e s' lv ((takI l l.length).map fun (a:Nat) => (a:Int))→Q (.tup [.slice pn 0 l.length (.lim l.length),lv]) s'):Z0f Tryd.prog 50 [.agg [.slice p 0 l.length (.lim l.length)]] s Q :=
 Zl8 hw hp hc hl hK fun pn lv s' k _ _ _ => q pn lv s' k
@[simp] theorem ls103:Z45 Tryd.prog 103 = some (some 3):=by kernel_rfl
def Z5h (l:List RC):Nat→Int
 | 0 => 0
 | i + 1 => match l[i]? with
  | some c => if c.taken = true then IntKind.wrap .i64 (Z5h l i + c.held) else Z5h l i
  | none => Z5h l i
theorem Ztf {s:St} {p:Pos} {l:List RC} {Q:AVal→St→Prop} (hw:s.Wf) (hp:s.Old p) (hc:s.cells p = some (encs l)) (hl:l.length ≤ 400)
  (q:∀ s',Keeps s s'→Q (.agg [.int .i64 l.length,.int .i64 (takI l l.length).length,.int .i64 (Z5h l l.length)]) s'):Z0f Tryd.prog 59 [.agg [.slice p 0 l.length (.lim l.length)]] s Q:=by
 refine Z09 (Z0n (by decide)) fi59 rfl (by decide) rfl ?_
 refine Z00 ?_
 simp
 have hK1:Keeps s (s.alloc (.cells [.slice p 0 l.length (.lim l.length)] false)):=Keeps.alloc _ _
 have hB1:(s.alloc (.cells [.slice p 0 l.length (.lim l.length)] false)).own s.next = some [.slice p 0 l.length (.lim l.length)]:=Z1s _ _
 have hf1:¬ s.Old s.next:=Z08 s
 generalize s.alloc (.cells [.slice p 0 l.length (.lim l.length)] false) = s1 at hK1 hB1 ⊢
 generalize s.next = B1 at hB1 hf1 ⊢
 have hw1:s1.Wf:=hK1.wf hw
 have ho1:s1.Old B1:=Z0c hw1 hB1
 have hK2:Keeps s1 (s1.alloc (.cells [.int .i64 0,.int .i64 0,.int .i64 0] false)):=Keeps.alloc _ _
 have hB2:(s1.alloc (.cells [.int .i64 0,.int .i64 0,.int .i64 0] false)).own s1.next = some [.int .i64 0,.int .i64 0,.int .i64 0]:=Z1s _ _
 have hf2:¬ s1.Old s1.next:=Z08 s1
 have h12:B1 ≠ s1.next:=ne_next ho1
 generalize s1.alloc (.cells [.int .i64 0,.int .i64 0,.int .i64 0] false) = s2 at hK2 hB2 ⊢
 generalize s1.next = B2 at hB2 hf2 h12 ⊢
 have hw2:s2.Wf:=hK2.wf hw1
 have ho2:s2.Old B2:=Z0c hw2 hB2
 have hB1':s2.own B1 = some [.slice p 0 l.length (.lim l.length)]:=(hK2.own ho1).trans hB1
 refine Z00 ?_
 simp [Z0i hB1']
 have hK3:Keeps s2 ((s2.alloc (.cells [.int .i64 0,.int .i64 0,.int .i64 0] false)).put s2.next (.cells [.int .i64 l.length,.int .i64 0,.int .i64 0] false)):=(Keeps.alloc _ _).put _ (Z08 _) (Z19 _ _)
 have hB3:((s2.alloc (.cells [.int .i64 0,.int .i64 0,.int .i64 0] false)).put s2.next (.cells [.int .i64 l.length,.int .i64 0,.int .i64 0] false)).own s2.next = some [.int .i64 l.length,.int .i64 0,.int .i64 0]:=Z7w _ _ _
 have hf3:¬ s2.Old s2.next:=Z08 s2
 have h13:B1 ≠ s2.next:=ne_next (hK2.old ho1)
 have h23:B2 ≠ s2.next:=ne_next ho2
 generalize (s2.alloc (.cells [.int .i64 0,.int .i64 0,.int .i64 0] false)).put s2.next (.cells [.int .i64 l.length,.int .i64 0,.int .i64 0] false) = s3 at hK3 hB3 ⊢
 generalize s2.next = B3 at hB3 hf3 h13 h23 ⊢
 have hw3:s3.Wf:=hK3.wf hw2
 have ho3:s3.Old B3:=Z0c hw3 hB3
 have hB1'':s3.own B1 = some [.slice p 0 l.length (.lim l.length)]:=(hK3.own (hK2.old ho1)).trans hB1'
 have hB2':s3.own B2 = some [.int .i64 0,.int .i64 0,.int .i64 0]:=(hK3.own ho2).trans hB2
 have hk3:Keeps s s3:=(hK1.trans hK2).trans hK3
 refine AM.wp_seq ?_
 refine Z00 ?_
 simp [Z0i hB1'']
 refine Z05 ?_
 refine Zee fun BB hBB => ?_
 have hK5:Keeps s3 (s3.alloc (.cells [.slice p 0 l.length (.lim l.length)] false)):=Keeps.alloc _ _
 have hBB5:(s3.alloc (.cells [.slice p 0 l.length (.lim l.length)] false)).own BB = some [.slice p 0 l.length (.lim l.length)]:=by rw [hBB]; exact Z1s _ _
 have hB3B:B3 ≠ BB:=by rw [hBB]; exact ne_next ho3
 generalize s3.alloc (.cells [.slice p 0 l.length (.lim l.length)] false) = s5 at hK5 hBB5 ⊢
 have hw5:s5.Wf:=hK5.wf hw3
 have hk5:Keeps s s5:=hk3.trans hK5
 simp
 refine AM.wp_block ?_
 have hLo:∀ b,s5.Old b→b ≠ s5.next:=fun b hb => ne_next hb
 have hs3:¬ s.Old B3:=fun h => hf3 ((hK1.trans hK2).old h)
 have hs2:¬ s.Old B2:=fun h => hf2 (hK1.old h)
 have hBo:s5.Old BB:=Z0c hw5 hBB5
 refine Zhe (I:=fun i s' => s'.Wf∧Keeps s s'∧s'.own B1 = some [.slice p 0 l.length (.lim l.length)]∧s'.own B2 = some [.int .i64 0,.int .i64 0,.int .i64 0]∧s'.own BB = some [.slice p 0 l.length (.lim l.length)] ∧
  s'.own B3 = some [.int .i64 l.length,.int .i64 (takI l i).length,.int .i64 (Z5h l i)]) (p:=p) (B:=BB) (l:=l) hl (by simp) rfl fi59 rfl ?_ ?_ ?_ ?_ ⟨hw5,hk5,(hK5.own (hK3.old (hK2.old ho1))).trans hB1'',(hK5.own (hK3.old ho2)).trans hB2',hBB5,(hK5.own ho3).trans hB3⟩ ?_
 ·rintro i s' ⟨h,hk,_,_,hb,_⟩
  exact ⟨h,hk.old hp,Z0c h hb,(hk.cells hp).trans hc,Z0i hb⟩
 ·rintro i s' s'' ⟨h,hk,g1,g2,hb,g3⟩ hS
  refine ⟨hS.wf h,Same.keeps hk hS (by simpa using fun h => Z08 s5 (hk5.old h)),(hS.own (by simpa using hLo _ (hK5.old (hK3.old (hK2.old ho1)))) (Z0c h g1)).trans g1,
   (hS.own (by simpa using hLo _ (hK5.old (hK3.old ho2))) (Z0c h g2)).trans g2,(hS.own (by simpa using hLo _ hBo) (Z0c h hb)).trans hb,(hS.own (by simpa using hLo _ (hK5.old ho3)) (Z0c h g3)).trans g3⟩
 ·rintro i c s' hci hct ⟨h,hk,g1,g2,hb,g3⟩
  refine ⟨h,hk,g1,g2,hb,?_⟩
  rw [Zfz hci hct]
  simp only [Z5h,hci,hct]
  exact g3
 ·rintro i c s' W hci hct ⟨h,hk,g1,g2,hb,g3⟩ hoL hW
  have hi:i < l.length:=(List.getElem?_eq_some_iff.1 hci).1
  have hcp:s'.cells p = some (encs l):=(hk.cells hp).trans hc
  have hg3:(encs l)[i * 4 + 3]? = some (.int .i64 c.held):=Z4e l i 3 c hci (by decide)
  have hwr:IntKind.wrap .i64 (((takI l i).length:Int) + 1) = (((takI l i).length + 1:Nat):Int):=by have:=Zom l i; rw [IntWalk.i64_in _ (by omega)]; omega
  have hp3:p ≠ B3:=fun e => hs3 (e ▸ hp)
  refine AM.wp_block ?_
  refine Z00 ?_
  simp [Z0i g3,g3,hwr]
  refine AM.wp_region ?_
  simp [Zbo h13,Z0i g1,hi,Zbo hp3,hcp,hg3]
  have hh:Z5h l (i + 1) = IntKind.wrap .i64 (Z5h l i + c.held):=by simp [Z5h,hci,hct]
  have ht:((takI l (i + 1)).length:Int) = (takI l i).length + 1:=by rw [Z7l hci hct]; simp
  have hw3':=Z0c h g3
  have hSF:Same [B3] s' ((s'.put B3 (.cells [.int .i64 l.length,.int .i64 ((takI l i).length + 1),.int .i64 (Z5h l i)] false)).put B3 (.cells [.int .i64 l.length,.int .i64 ((takI l i).length + 1),.int .i64 (IntKind.wrap .i64 (Z5h l i + c.held))] false)) :=
   ((Same.refl _ _).put _ (by simp) hw3').put _ (by simp) (Zgi.2 hw3')
  have h3F:((s'.put B3 (.cells [.int .i64 l.length,.int .i64 ((takI l i).length + 1),.int .i64 (Z5h l i)] false)).put B3 (.cells [.int .i64 l.length,.int .i64 ((takI l i).length + 1),.int .i64 (IntKind.wrap .i64 (Z5h l i + c.held))] false)).own B3 = some [.int .i64 l.length,.int .i64 ((takI l i).length + 1),.int .i64 (IntKind.wrap .i64 (Z5h l i + c.held))]:=Z7w _ _ _
  generalize (s'.put B3 (.cells [.int .i64 l.length,.int .i64 ((takI l i).length + 1),.int .i64 (Z5h l i)] false)).put B3 (.cells [.int .i64 l.length,.int .i64 ((takI l i).length + 1),.int .i64 (IntKind.wrap .i64 (Z5h l i + c.held))] false) = sF at hSF h3F ⊢
  refine hW _ sF ⟨hSF.wf h,Same.keeps hk hSF (by simpa using hs3),(hSF.own (by simpa using h13) (Z0c h g1)).trans g1,(hSF.own (by simpa using h23) (Z0c h g2)).trans g2,(hSF.own (by simpa using fun e:BB = B3 => hB3B e.symm) (Z0c h hb)).trans hb,?_⟩ ?_
  ·rw [h3F,hh,ht]
  ·exact hSF.obj _ (by simpa using fun e:s5.next = B3 => hLo _ (hK5.old ho3) e.symm) hoL
 ·rintro s' ⟨h,hk,g1,g2,hb,g3⟩
  simp
  refine Z00 ?_
  simp [Z0i g3,g2]
  refine AM.wp_ret ?_
  simp
  have hFk:Keeps s (s'.put B2 (.cells [.int .i64 l.length,.int .i64 (takI l l.length).length,.int .i64 (Z5h l l.length)] false)):=hk.put _ hs2 (Z0c h g2)
  exact q _ hFk
theorem Zqc {s:St} {hb p:Pos} {vs:AVal} {l:List RC} {Q:AVal→St→Prop} (h:HeapAt s hb p vs l) (q:∀ s',Keeps s s'→Q (.int .i64 (takI l l.length).length) s'):Z0f Tryd.prog 14 [.ptr hb 0] s Q:=by
 have hc:=Z0i h.ob
 have hno:l.length ≠ 0:=by have:=h.pos; omega
 refine Z09 (Z0n (by decide)) fi14 rfl (by decide) rfl ?_
 refine Z00 ?_
 simp
 refine AM.wp_seq ?_
 refine Z00 ?_
 simp
 refine Z05 ?_
 refine Z9v hc rfl hno ?_
 simp
 refine AM.Z03 ?_
 simp
 refine AM.wp_skip ?_
 simp
 refine Z00 ?_
 simp [hc]
 refine Z05 ?_
 refine Ztf h.wf (Z0c h.wf h.op) (Z0i h.op) h.max fun s' hk => ?_
 simp
 refine AM.wp_ret ?_
 simp
 exact q s' hk
theorem Zr9 {s:St} {v:AVal} {ks:List Int} {k:Int} {Q:AVal→St→Prop} (hv:Z0e s v ks) (hmax:ks.length ≤ 2 ^ 62)
  (q:Q (.int .i64 (Z4i (fun d => decide (k = d)) ks)) s):Z0f Tryd.prog 53 [v,.int .i64 k] s Q:=by
 refine Z09 (Z0n (by decide)) fi53 rfl (by decide) rfl ?_
 refine Z00 ?_
 simp
 refine AM.wp_seq ?_
 refine Z00 ?_
 simp [hv.len]
 refine AM.wp_block ?_
 refine AM.wp_loop (fun m t s' => ∃ i:Nat,i ≤ ks.length∧m = ks.length - i∧PT.get (posOf 0) t = some v∧PT.get (posOf 1) t = some (.int .i64 k)∧PT.get (posOf 7) t = some (.int .i64 ks.length)∧PT.get (posOf 8) t = some (.int .i64 i)∧s' = s∧∀ j d,j < i→ks[j]? = some d→decide (k = d) = false) ks.length ⟨0,by simp,by simp,by simp,by simp,by simp,by simp,rfl,by simp⟩ ?_
 rintro m t s' ⟨i,hi,rfl,t0,t1,t7,t8,rfl,hall⟩
 refine Z00 ?_
 simp [t7,t8]
 refine AM.wp_seq ?_
 refine AM.Z03 ?_
 by_cases hlt:i < ks.length
 ·obtain ⟨x,hx⟩:∃ x,ks[i]? = some x:=⟨_,List.getElem?_eq_getElem hlt⟩
  have hwr:IntKind.wrap .i64 ((i:Int) + 1) = ((i + 1:Nat):Int):=by rw [IntWalk.i64_in _ (by omega)]; omega
  rcases hv with ⟨_,h0⟩ | ⟨b,o,c,cs,rfl,hb,hcs,hle,hel⟩
  ·subst h0
   simp at hlt
  have hg:=hel i x hx
  simp [hlt]
  refine AM.wp_skip ?_
  simp
  refine AM.wp_seq ?_
  refine AM.wp_block ?_
  refine Z00 ?_
  simp [t8]
  refine Z00 ?_
  simp [t0,t1,hlt,hcs,hg]
  refine AM.Z03 ?_
  by_cases hct:k = x
  ·simp [hct]
   refine Z00 ?_
   simp
   refine AM.wp_ret ?_
   simp
   rw [Zf7 hall hx (by simp [hct])] at q
   exact q
  ·simp [hct]
   refine AM.wp_skip ?_
   simp
   refine AM.wp_region ?_
   simp [t8,hwr]
   refine ⟨ks.length - (i + 1),by omega,i + 1,by omega,by omega,by simp [t0],by simp [t1],by simp [t7],by simp,?_⟩
   intro j d hj hd
   by_cases hji:j = i
   ·subst hji
    rw [hx] at hd
    cases hd
    exact hct
   ·simpa using hall j d (by omega) hd
 ·simp [hlt]
  refine AM.wp_exit ?_
  simp
  refine Z00 ?_
  simp
  refine AM.wp_ret ?_
  simp
  rw [Zcn (fun j d hj hd => hall j d (by omega) hd)] at q
  exact q
def Zg8:RC:=⟨false,[],.nilSlice,0⟩
def rel (l:List RC) (gone:List Int):List RC:=gone.foldl (fun l k => l.set k.toNat Zg8) l
theorem Zkl:∀ (gone:List Int) (l:List RC),(rel l gone).length = l.length
 | [],l => rfl
 | k :: r,l => by
  show (rel (l.set k.toNat Zg8) r).length = _
  rw [Zkl r]
  simp
theorem Zry {s:St} {p:Pos} {l:List RC} {v:AVal} {gone:List Int} {Q:AVal→St→Prop} (hw:s.Wf) (hp:s.own p = some (encs l)) (hmax:gone.length ≤ 1000) (hin:∀ k ∈ gone,0 ≤ k∧k < l.length)
  (hv:∀ s',Same [p] s s'→Z0e s' v gone) (q:∀ s',Same [p] s s'→s'.own p = some (encs (rel l gone))→Q (.tup []) s'):Z0f Tryd.prog 58 [.agg [.slice p 0 l.length (.lim l.length)],v] s Q:=by
 have hop:=Z0c hw hp
 have hv0:=hv s (Same.refl _ _)
 have hvt:=hv0.ntup
 refine Z09 (Z0n (by decide)) fi58 rfl (by decide) rfl ?_
 refine Z00 ?_
 simp
 have hK1:Keeps s (s.alloc (.cells [.slice p 0 l.length (.lim l.length)] false)):=Keeps.alloc _ _
 have hB1:(s.alloc (.cells [.slice p 0 l.length (.lim l.length)] false)).own s.next = some [.slice p 0 l.length (.lim l.length)]:=Z1s _ _
 have h1p:s.next ≠ p:=fun e => ne_next hop e.symm
 generalize s.alloc (.cells [.slice p 0 l.length (.lim l.length)] false) = s1 at hK1 hB1 ⊢
 generalize s.next = B at hB1 h1p ⊢
 have hw1:s1.Wf:=hK1.wf hw
 have hoB:s1.Old B:=Z0c hw1 hB1
 have hS1:Same [p] s s1:=Same.Z8h hK1
 refine Z00 ?_
 simp [hv0.len]
 refine AM.wp_block ?_
 refine AM.wp_loop (fun m t s' => ∃ i:Nat,i ≤ gone.length∧m = gone.length - i∧PT.get (posOf 2) t = some (.ptr B 0)∧PT.get (posOf 6) t = some v∧PT.get (posOf 7) t = some (.int .i64 gone.length)∧PT.get (posOf 8) t = some (.int .i64 i)∧Same [p] s1 s'∧s'.own p = some (encs (rel l (gone.take i)))) gone.length ⟨0,by simp,by simp,by simp,by simp,by simp,by simp,Same.refl _ _,(hK1.own hop).trans hp⟩ ?_
 rintro m t s' ⟨i,hi,rfl,t2,t6,t7,t8,hS,hO⟩
 refine Z00 ?_
 simp [t7,t8]
 refine AM.wp_seq ?_
 refine AM.Z03 ?_
 by_cases hlt:i < gone.length
 ·obtain ⟨k,hk⟩:∃ k,gone[i]? = some k:=⟨_,List.getElem?_eq_getElem hlt⟩
  obtain ⟨hk0,hk1⟩:=hin k (List.mem_of_getElem? hk)
  have hwr:IntKind.wrap .i64 ((i:Int) + 1) = ((i + 1:Nat):Int):=by rw [IntWalk.i64_in _ (by omega)]; omega
  have htk:rel l (gone.take (i + 1)) = (rel l (gone.take i)).set k.toNat Zg8:=by
   unfold rel
   rw [List.take_add_one,hk,List.foldl_append]
   rfl
  have hB':s'.cells B = some [.slice p 0 l.length (.lim l.length)]:=Z0i ((hS.own (by simpa using h1p) hoB).trans hB1)
  have hlay:=Zhp (rel l (gone.take i)) k.toNat Zg8 (by rw [Zkl]; omega)
  rw [← htk] at hlay
  have hle:k.toNat * 4 + 4 ≤ (encs (rel l (gone.take i))).length:=by rw [Z4f,Zkl]; omega
  have hop':s'.Old p:=hS.old (hK1.old hop)
  rcases hv s' (hS1.trans hS) with ⟨_,h0⟩ | ⟨b,o,c,cs,hvv,hb,hcs,hle2,hel⟩
  ·subst h0
   simp at hlt
  subst hvv
  have hg:=hel i k hk
  simp [hlt]
  refine AM.wp_skip ?_
  simp
  refine AM.wp_seq ?_
  refine AM.wp_block ?_
  refine Z00 ?_
  simp [t6,t8,hlt,hcs,hg]
  refine AM.wp_region ?_
  simp [lay,RC.enc,Zg8] at hlay
  simp [t2,hB',hk0,hk1,hO,hle]
  rw [hlay]
  refine AM.wp_region ?_
  simp [t8,hwr]
  exact ⟨gone.length - (i + 1),by omega,i + 1,by omega,by omega,by simp [t2],by simp [t6],by simp [t7],by simp,hS.put _ (by simp) hop',by simp⟩
 ·simp [hlt]
  refine AM.wp_exit ?_
  simp
  have hie:i = gone.length:=by omega
  subst hie
  rw [List.take_length] at hO
  exact q s' (hS1.trans hS) hO
def cpI (l:List RC) (kvs:Nat→AVal) (i:Nat):List RC:=l.mapIdx fun j c => if j < i then { c with kv:=kvs j } else c
theorem Z9g (l:List RC) (kvs:Nat→AVal) (i:Nat):(cpI l kvs i).length = l.length:=by simp [cpI]
theorem Zd1 {l:List RC} {kvs:Nat→AVal} {i j:Nat} {c:RC} (h:l[j]? = some c):(cpI l kvs i)[j]? = some (if j < i then { c with kv:=kvs j } else c):=by simp [cpI,h]
theorem Zvb (l:List RC) (kvs:Nat→AVal):cpI l kvs 0 = l:=by
 refine List.ext_getElem? fun j => ?_
 by_cases hj:j < l.length
 ·rw [Zd1 (List.getElem?_eq_getElem hj),List.getElem?_eq_getElem hj]
  simp
 ·rw [List.getElem?_eq_none (by rw [Z9g]; omega),List.getElem?_eq_none (by omega)]
theorem Zva {l:List RC} {kvs:Nat→AVal} {i:Nat} {c:RC} {kv:AVal} (h:l[i]? = some c):(cpI l kvs i).set i { c with kv:=kv } = cpI l (fun j => if j = i then kv else kvs j) (i + 1):=by
 have hi:i < l.length:=(List.getElem?_eq_some_iff.1 h).1
 refine List.ext_getElem? fun j => ?_
 by_cases hj:j < l.length
 ·rw [List.getElem?_set]
  have hc2:=Zd1 (kvs:=fun j => if j = i then kv else kvs j) (i:=i + 1) (List.getElem?_eq_getElem hj)
  rw [hc2]
  by_cases e:i = j
  ·subst e
   have:l[i] = c:=(List.getElem?_eq_some_iff.1 h).2
   rw [Z9g]
   simp [hi,this]
  ·rw [if_neg e,Zd1 (List.getElem?_eq_getElem hj)]
   have e':¬ j = i:=fun h => e h.symm
   have:j < i ↔ j < i + 1:=by omega
   simp [this,e']
 ·rw [List.getElem?_eq_none (by rw [List.length_set,Z9g]; omega),List.getElem?_eq_none (by rw [Z9g]; omega)]
theorem Zl3:∀ (l:List RC) (i:Nat) (c:RC) (kv:AVal),l[i]? = some c→lay (encs l) (i * 4 + 2) [kv] = encs (l.set i { c with kv:=kv })
 | [],i,c,kv,h => by simp at h
 | d :: l,0,c,kv,h => by
  simp at h
  subst h
  have e:encs (d :: l) = d.enc ++ encs l:=rfl
  have e2:encs ((d :: l).set 0 { d with kv:=kv }) = (RC.enc { d with kv:=kv }) ++ encs l:=rfl
  rw [e,e2]
  simp [lay,RC.enc]
 | d :: l,i + 1,c,kv,h => by
  have e:encs (d :: l) = d.enc ++ encs l:=rfl
  have e2:encs ((d :: l).set (i + 1) { c with kv:=kv }) = d.enc ++ encs (l.set i { c with kv:=kv }):=rfl
  have ih:=Zl3 l i c kv (by simpa using h)
  have hd:d.enc.length = 4:=rfl
  have e3:(i + 1) * 4 + 2 = d.enc.length + (i * 4 + 2):=by rw [hd]; omega
  rw [e,e2,← ih]
  unfold lay
  rw [e3,List.take_length_add_append,Nat.add_assoc,List.drop_length_add_append]
  simp
structure OwnK (s0 s:St) (pn:Pos) (K:Nat→List Int) (kvs:Nat→AVal) (i:Nat):Prop where
 kid:∀ j,j < i→KidV s (kvs j) (K j)
 fresh:∀ j q c,j < i→kvs j = .slice q 0 (K j).length c→K j ≠ []→¬ s0.Old q∧q ≠ pn
 sep:∀ j j' q c c',j < i→j' < i→K j ≠ []→K j' ≠ []→kvs j = .slice q 0 (K j).length c→kvs j' = .slice q 0 (K j').length c'→j = j'
theorem Zji {s:St} {q b:Pos} {ks:List Int} {x:AVal} {r:List AVal} (h:s.own q = some (ks.map fun k => .int .i64 k)) (hb:s.own b = some (x :: r)) (hx:∀ n,x ≠ .int .i64 n):q ≠ b:=by
 rintro rfl
 rw [hb] at h
 cases ks with
 | nil => simp at h
 | cons k ks =>
  simp at h
  exact hx k h.1
theorem KidV.mono {s s':St} {kv:AVal} {ks:List Int} (h:KidV s kv ks) (hs:∀ (q:Pos) (ks:List Int),s.own q = some (ks.map fun (k:Int) => .int .i64 k)→s'.own q = some (ks.map fun (k:Int) => .int .i64 k)):KidV s' kv ks:=by
 rcases h with h | ⟨q,c,h1,h2⟩
 ·exact .inl h
 ·exact .inr ⟨q,c,h1,hs q ks h2⟩
theorem Ztj {l:List RC} (h:1 ≤ l.length):∃ b r,encs l = .bool b :: r:=by
 match l,h with
 | c :: l,_ => exact ⟨c.taken,_,rfl⟩
@[simp] theorem ls77:Z45 Tryd.prog 77 = some (some 1):=by kernel_rfl
theorem Zwq (n:Nat):(List.replicate n [AVal.bool false,.str [],.nilSlice,.int .i64 0]).flatten.length = 4 * n:=by
 simp [List.length_flatten]
 omega
theorem own_wp {s:St} {p:Pos} {l:List RC} {K:Nat→List Int} {Q:AVal→St→Prop} (hw:s.Wf) (hp:s.Old p) (hc:s.cells p = some (encs l)) (h1:1 ≤ l.length) (hl:l.length ≤ 400) (hK:∀ j c,l[j]? = some c→Z0e s c.kv (K j)∧(K j).length ≤ 1000)
  (q:∀ pn kvs s',Keeps s s'→¬ s.Old pn→s'.own pn = some (encs (cpI l kvs l.length))→OwnK s s' pn K kvs l.length→Q (.agg [.slice pn 0 l.length (.lim l.length)]) s'):Z0f Tryd.prog 51 [.agg [.slice p 0 l.length (.lim l.length)]] s Q:=by
 refine Z09 (Z0n (by decide)) fi51 rfl (by decide) rfl ?_
 refine Z00 ?_
 simp
 have hK1:Keeps s (s.alloc (.cells [.slice p 0 l.length (.lim l.length)] false)):=Keeps.alloc _ _
 have hB1:(s.alloc (.cells [.slice p 0 l.length (.lim l.length)] false)).own s.next = some [.slice p 0 l.length (.lim l.length)]:=Z1s _ _
 have hf1:¬ s.Old s.next:=Z08 s
 generalize s.alloc (.cells [.slice p 0 l.length (.lim l.length)] false) = s1 at hK1 hB1 ⊢
 generalize s.next = B1 at hB1 hf1 ⊢
 have hw1:s1.Wf:=hK1.wf hw
 have ho1:s1.Old B1:=Z0c hw1 hB1
 have hK2:Keeps s1 (s1.alloc (.cells [.nilSlice] false)):=Keeps.alloc _ _
 have hB2:(s1.alloc (.cells [.nilSlice] false)).own s1.next = some [.nilSlice]:=Z1s _ _
 have hf2:¬ s1.Old s1.next:=Z08 s1
 have h12:B1 ≠ s1.next:=ne_next ho1
 generalize s1.alloc (.cells [.nilSlice] false) = s2 at hK2 hB2 ⊢
 generalize s1.next = B2 at hB2 hf2 h12 ⊢
 have hw2:s2.Wf:=hK2.wf hw1
 have ho2:s2.Old B2:=Z0c hw2 hB2
 have hB1':s2.own B1 = some [.slice p 0 l.length (.lim l.length)]:=(hK2.own ho1).trans hB1
 have hz1:l.length * 56 ≤ Z0j:=by unfold Z0j; omega
 have hz2:l.length ≤ Z0j:=by unfold Z0j; omega
 refine Z00 ?_
 simp [Z0i hB1',hz1,hz2]
 have hK3:Keeps s2 (s2.alloc (.cells (List.replicate l.length [AVal.bool false,.str [],.nilSlice,.int .i64 0]).flatten false)):=Keeps.alloc _ _
 have hN3:(s2.alloc (.cells (List.replicate l.length [AVal.bool false,.str [],.nilSlice,.int .i64 0]).flatten false)).own s2.next = some (List.replicate l.length [AVal.bool false,.str [],.nilSlice,.int .i64 0]).flatten:=Z1s _ _
 have hfn:¬ s2.Old s2.next:=Z08 s2
 have hn1:B1 ≠ s2.next:=ne_next (hK2.old ho1)
 have hn2:B2 ≠ s2.next:=ne_next ho2
 have hzl:=Zwq l.length
 generalize (List.replicate l.length [AVal.bool false,.str [],.nilSlice,.int .i64 0]).flatten = zs at hK3 hN3 hzl ⊢
 generalize s2.alloc (.cells zs false) = s3 at hK3 hN3 ⊢
 generalize s2.next = pn at hN3 hfn hn1 hn2 ⊢
 have hw3:s3.Wf:=hK3.wf hw2
 have hon:s3.Old pn:=Z0c hw3 hN3
 have hK4:Keeps s3 ((s3.alloc (.cells [.nilSlice] false)).put s3.next (.cells [.slice pn 0 l.length (.lim l.length)] false)):=(Keeps.alloc _ _).put _ (Z08 _) (Z19 _ _)
 have hB4:((s3.alloc (.cells [.nilSlice] false)).put s3.next (.cells [.slice pn 0 l.length (.lim l.length)] false)).own s3.next = some [.slice pn 0 l.length (.lim l.length)]:=Z7w _ _ _
 have hf3:¬ s3.Old s3.next:=Z08 s3
 have hn3:pn ≠ s3.next:=ne_next hon
 have h13:B1 ≠ s3.next:=ne_next (hK3.old (hK2.old ho1))
 have h23:B2 ≠ s3.next:=ne_next (hK3.old ho2)
 generalize (s3.alloc (.cells [.nilSlice] false)).put s3.next (.cells [.slice pn 0 l.length (.lim l.length)] false) = s4 at hK4 hB4 ⊢
 generalize s3.next = B3 at hB4 hf3 hn3 h13 h23 ⊢
 have hw4:s4.Wf:=hK4.wf hw3
 have ho3:s4.Old B3:=Z0c hw4 hB4
 have hk4:Keeps s s4:=((hK1.trans hK2).trans hK3).trans hK4
 have hN4:s4.own pn = some zs:=(hK4.own hon).trans hN3
 have hB1'':s4.own B1 = some [.slice p 0 l.length (.lim l.length)]:=(hK4.own (hK3.old (hK2.old ho1))).trans ((hK3.own (hK2.old ho1)).trans hB1')
 have hB2':s4.own B2 = some [.nilSlice]:=(hK4.own (hK3.old ho2)).trans ((hK3.own ho2).trans hB2)
 have hcp:s4.cells p = some (encs l):=(hk4.cells hp).trans hc
 refine Z00 ?_
 simp [Z0i hB1'',Z0i hB4]
 refine Zny (ox:=0) (o:=0) (n:=l.length) (cx:=.lim l.length) (c:=.lim l.length) (bx:=pn) (b:=p) (by simp) (by simp) (by omega) hN4 hcp (by rw [Z4f]; omega) (by omega) ?_
 have hcopy:lay zs 0 (((encs l).drop 0).take (l.length * 4)) = encs l:=by
  have e:List.take (l.length * 4) (encs l) = encs l:=List.take_of_length_le (by rw [Z4f]; omega)
  unfold lay
  rw [List.drop_zero,e,List.take_zero,List.drop_eq_nil_of_le (by rw [Z4f]; omega)]
  simp
 rw [hcopy]
 have hspn:¬ s.Old pn:=fun h => hfn ((hK1.trans hK2).old h)
 have hS5:Same [pn] s4 (s4.put pn (.cells (encs l) false)):=(Same.refl _ _).put _ (by simp) (hK4.old hon)
 have hN5:(s4.put pn (.cells (encs l) false)).own pn = some (encs l):=Z7w _ _ _
 generalize s4.put pn (.cells (encs l) false) = s5 at hS5 hN5 ⊢
 have hw5:s5.Wf:=hS5.wf hw4
 have hk5:Keeps s s5:=Same.keeps hk4 hS5 (by simpa using hspn)
 have hB3:s5.own B3 = some [.slice pn 0 l.length (.lim l.length)]:=(hS5.own (by simpa using fun e:B3 = pn => hn3 e.symm) ho3).trans hB4
 have hB2:s5.own B2 = some [.nilSlice]:=(hS5.own (by simpa using hn2) (Z0c hw4 hB2')).trans hB2'
 have ho3':=Z0c hw5 hB3
 refine AM.wp_seq ?_
 refine Z00 ?_
 simp [Z0i hB3]
 refine AM.wp_block ?_
 refine AM.wp_loop (fun m t s' => ∃ (i:Nat) (kvs:Nat→AVal),i ≤ l.length∧m = l.length - i∧PT.get (posOf 2) t = some (.ptr B2 0)∧PT.get (posOf 3) t = some (.ptr B3 0)∧PT.get (posOf 17) t = some (.int .i64 l.length)∧PT.get (posOf 18) t = some (.int .i64 i)∧Same [pn] s5 s'∧s'.own pn = some (encs (cpI l kvs i))∧OwnK s s' pn K kvs i) l.length
  ⟨0,fun _ => .nilSlice,by simp,by simp,by simp,by simp,by simp,by simp,Same.refl _ _,by rw [Zvb]; exact hN5,⟨fun j hj => by omega,fun j q c hj => by omega,fun j j' q c c' hj => by omega⟩⟩ ?_
 rintro m t s' ⟨i,kvs,hi,rfl,t2,t3,t17,t18,hS,hO,hV⟩
 refine Z00 ?_
 simp [t17,t18]
 refine AM.wp_seq ?_
 refine AM.Z03 ?_
 by_cases hlt:i < l.length
 ·obtain ⟨c,hci⟩:∃ c,l[i]? = some c:=⟨_,List.getElem?_eq_getElem hlt⟩
  have hwr:IntKind.wrap .i64 ((i:Int) + 1) = ((i + 1:Nat):Int):=by rw [IntWalk.i64_in _ (by omega)]; omega
  have hw':s'.Wf:=hS.wf hw5
  have hk':Keeps s s':=Same.keeps hk5 hS (by simpa using hspn)
  have hB3s:s'.own B3 = some [.slice pn 0 l.length (.lim l.length)]:=(hS.own (by simpa using fun e:B3 = pn => hn3 e.symm) ho3').trans hB3
  have hcc:(cpI l kvs i)[i]? = some c:=by rw [Zd1 hci]; simp
  have hg:(encs (cpI l kvs i))[i * 4 + 2]? = some c.kv:=Z4e _ i 2 c hcc (by decide)
  obtain ⟨hkI,hkl⟩:=hK i c hci
  simp [hlt]
  refine AM.wp_skip ?_
  simp
  refine AM.wp_seq ?_
  refine AM.wp_block ?_
  refine Z00 ?_
  simp [t18]
  refine AM.wp_region ?_
  simp [t3,Z0i hB3s,hlt,Z0i hO,hg]
  refine Z05 ?_
  refine Zn2 hw' (hkI.keep hk') hkl fun kv s2' hk2 hkv hfr => ?_
  have hB3t:s2'.own B3 = some [.slice pn 0 l.length (.lim l.length)]:=(hk2.own (Z0c hw' hB3s)).trans hB3s
  have hOt:s2'.own pn = some (encs (cpI l kvs i)):=(hk2.own (Z0c hw' hO)).trans hO
  have hlay:=Zl3 (cpI l kvs i) i c kv hcc
  rw [Zva hci] at hlay
  have hle:i * 4 + 2 + 1 ≤ (encs (cpI l kvs i)).length:=by rw [Z4f,Z9g]; omega
  have hkc:kv.cells = [kv]:=by
   rcases hkv with ⟨h0,_⟩ | ⟨q,c,h0,_⟩
   ·cases kv <;> simp [Z1b] at h0
    ·rfl
    ·rfl
   ·rw [h0]; rfl
  have hkt:∀ t,¬ kv = .tup t:=by
   rintro t rfl
   rcases hkv with ⟨h0,_⟩ | ⟨q,c,h0,_⟩ <;> cases h0
  simp [lay] at hlay
  simp [Z0i hB3t,Zf2,hlt,hOt,hle,hkc,hkt]
  rw [hlay]
  have hop':s2'.Old pn:=Z0c (hk2.wf hw') hOt
  obtain ⟨eb,er,ee⟩:=Ztj (l:=cpI l kvs i) (by rw [Z9g]; exact h1)
  have hmono:∀ (q:Pos) (ks:List Int),s2'.own q = some (ks.map fun (k:Int) => .int .i64 k)→(s2'.put pn (.cells (encs (cpI l (fun j => if j = i then kv else kvs j) (i + 1))) false)).own q = some (ks.map fun (k:Int) => .int .i64 k):=by
   intro q ks hq
   rw [ee] at hOt
   rw [Z5j (Zji hq hOt (by simp))]
   exact hq
  refine AM.wp_region ?_
  simp [t18,hwr]
  refine ⟨l.length - (i + 1),by omega,i + 1,by omega,by omega,by simp [t2],by simp [t3],by simp [t17],by simp,(hS.trans (Same.Z8h hk2)).put _ (by simp) hop',fun j => if j = i then kv else kvs j,by simp,⟨?_,?_,?_⟩⟩
  ·intro j hj
   by_cases e:j = i
   ·subst e
    simp
    exact hkv.mono hmono
   ·simp [e]
    exact ((hV.kid j (by omega)).keep hw' hk2).mono hmono
  ·intro j q' c' hj he hne
   by_cases e:j = i
   ·subst e
    simp at he
    obtain ⟨g1,g2⟩:=hfr q' c' he
    refine ⟨fun h => g1 (hk'.old h),fun h => g1 ?_⟩
    rw [h]
    exact Z0c hw' hO
   ·simp [e] at he
    exact hV.fresh j q' c' (by omega) he hne
  ·intro j j' q' c' c'' hj hj' hne hne' he he'
   have key:∀ (j:Nat) c',j < i→K j ≠ []→kvs j = .slice q' 0 (K j).length c'→s'.Old q':=by
    intro j c' hj hne he
    rcases hV.kid j hj with ⟨_,h0⟩ | ⟨q2,c2,g1,g2⟩
    ·exact (hne h0).elim
    ·rw [he] at g1
     cases g1
     exact Z0c hw' g2
   by_cases e:j = i
   ·by_cases e':j' = i
    ·omega
    ·subst e
     simp at he
     simp [e'] at he'
     exact ((hfr q' c' he).1 (key j' c'' (by omega) hne' he')).elim
   ·by_cases e':j' = i
    ·subst e'
     simp at he'
     simp [e] at he
     exact ((hfr q' c'' he').1 (key j c' (by omega) hne he)).elim
    ·simp [e] at he
     simp [e'] at he'
     exact hV.sep j j' q' c' c'' (by omega) (by omega) hne hne' he he'
 ·simp [hlt]
  refine AM.wp_exit ?_
  simp
  have hie:i = l.length:=by omega
  subst hie
  have hw':s'.Wf:=hS.wf hw5
  have hk':Keeps s s':=Same.keeps hk5 hS (by simpa using hspn)
  have hB3s:s'.own B3 = some [.slice pn 0 l.length (.lim l.length)]:=(hS.own (by simpa using fun e:B3 = pn => hn3 e.symm) ho3').trans hB3
  have hB2s:s'.own B2 = some [.nilSlice]:=(hS.own (by simpa using hn2) (Z0c hw5 hB2)).trans hB2
  refine Z00 ?_
  simp [t2,t3,Z0i hB3s,hB2s]
  refine AM.wp_ret ?_
  simp [t2]
  have hmono:∀ (q:Pos) (ks:List Int),s'.own q = some (ks.map fun (k:Int) => .int .i64 k)→(s'.put B2 (.cells [.slice pn 0 l.length (.lim l.length)] false)).own q = some (ks.map fun (k:Int) => .int .i64 k):=by
   intro q ks hq
   rw [Z5j (Zji hq hB2s (by simp))]
   exact hq
  refine q pn kvs _ (hk'.put _ (fun h => hf2 (hK1.old h)) (Z0c hw' hB2s)) hspn ?_ ⟨fun j hj => (hV.kid j hj).mono hmono,hV.fresh,hV.sep⟩
  rw [Z5j (fun e => hn2 e.symm)]
  exact hO
abbrev C (cs:List AVal):AObj:=.cells cs false
abbrev Lets:=List (Pos × AObj)
structure Ctx (s0:St) (W:Pos→Prop) (m:Lets) (s:St):Prop where
 wf:s.Wf
 obj:∀ b,¬ W b→s0.Old b→s.obj b = s0.obj b
 next:s0.next.toNat ≤ s.next.toNat
 own:∀ x ∈ m,s.obj x.1 = some x.2
 nodup:(m.map (·.1)).Nodup
 free:∀ x ∈ m,s0.Old x.1→W x.1
theorem Ctx.start {s:St} (W:Pos→Prop) (hw:s.Wf):Ctx s W [] s:=⟨hw,fun _ _ _ => rfl,Nat.le_refl _,by simp,by simp,by simp⟩
theorem Z1l {s:St} {b:Pos} {cs:List AVal} (h:s.obj b = some (C cs)):s.own b = some cs:=by unfold St.own; rw [h]
section
variable {s0 s:St} {W:Pos→Prop} {m r:Lets}
theorem Ctx.x (h:Ctx s0 W m s) {b:Pos} {x:AObj} (i:Nat) (hi:m[i]? = some (b,x)):s.obj b = some x:=h.own (b,x) (List.mem_of_getElem? hi)
theorem Ctx.o (h:Ctx s0 W m s) {b:Pos} {cs:List AVal} (i:Nat) (hi:m[i]? = some (b,C cs)):s.own b = some cs:=Z1l (h.x i hi)
theorem Ctx.c (h:Ctx s0 W m s) {b:Pos} {cs:List AVal} (i:Nat) (hi:m[i]? = some (b,C cs)):s.cells b = some cs:=Z0i (h.o i hi)
theorem Ctx.ob (h:Ctx s0 W m s) {x:Pos × AObj} (hx:x ∈ m):s.Old x.1:=Z3k h.wf (h.own x hx)
theorem Ctx.oi (h:Ctx s0 W m s) {b:Pos} {x:AObj} (i:Nat) (hi:m[i]? = some (b,x)):s.Old b:=h.ob (List.mem_of_getElem? hi)
theorem Ctx.old (h:Ctx s0 W m s) {b:Pos} (ho:s0.Old b):s.Old b:=Nat.lt_of_lt_of_le ho h.next
theorem Ctx.keeps (h:Ctx s0 W m s) {s':St} (k:Keeps s s'):Ctx s0 W m s' :=
 ⟨k.wf h.wf,fun b hb ho => (k.obj b (h.old ho)).trans (h.obj b hb ho),Nat.le_trans h.next k.next,fun x hx => (k.obj _ (h.ob hx)).trans (h.own x hx),h.nodup,h.free⟩
theorem Ctx.same (h:Ctx s0 W m s) {s':St} {bs:List Pos} (k:Same bs s s') (hb:∀ b ∈ bs,s0.Old b→W b) (hm:∀ x ∈ m,x.1 ∉ bs):Ctx s0 W m s' :=
 ⟨k.wf h.wf,fun b hW ho => (k.obj b (fun hbs => hW (hb b hbs ho)) (h.old ho)).trans (h.obj b hW ho),Nat.le_trans h.next k.next,fun x hx => (k.obj _ (hm x hx) (h.ob hx)).trans (h.own x hx),h.nodup,h.free⟩
theorem Ctx.add (h:Ctx s0 W m s) {b:Pos} {x:AObj} (ho:s.obj b = some x) (hW:s0.Old b→W b) (hn:b ∉ m.map (·.1)):Ctx s0 W ((b,x) :: m) s :=
 ⟨h.wf,h.obj,h.next,by simpa using ⟨ho,fun a b hx => h.own (a,b) hx⟩,by rw [List.map_cons,List.nodup_cons]; exact ⟨hn,h.nodup⟩,by simpa using ⟨hW,fun a b hx => h.free (a,b) hx⟩⟩
theorem Ctx.Zu4 (h:Ctx s0 W m s) {b:Pos} (hb:¬ s.Old b):b ∉ m.map (·.1):=by
 rw [List.mem_map]
 rintro ⟨x,hx,rfl⟩
 exact hb (h.ob hx)
theorem Ctx.made (h:Ctx s0 W m s) {s':St} (k:Keeps s s') {b:Pos} {x:AObj} (hb:¬ s.Old b) (hx:s'.obj b = some x):Ctx s0 W ((b,x) :: m) s' :=
 (h.keeps k).add hx (fun ho => (hb (h.old ho)).elim) (h.Zu4 hb)
theorem Ctx.alloc (h:Ctx s0 W m s) (x:AObj):Ctx s0 W ((s.next,x) :: m) (s.alloc x):=h.made (Keeps.alloc s x) (Z08 s) (Z4u _ _)
theorem Ctx.ne (h:Ctx s0 W m s) {b b':Pos} {x x':AObj} (i j:Nat) (hi:m[i]? = some (b,x)) (hj:m[j]? = some (b',x')) (hij:i ≠ j):b ≠ b':=by
 rintro rfl
 have hn:=h.nodup
 have h1:(m.map (·.1))[i]? = some b:=by rw [List.getElem?_map,hi]; rfl
 have h2:(m.map (·.1))[j]? = some b:=by rw [List.getElem?_map,hj]; rfl
 obtain ⟨h3,h4⟩:=List.getElem?_eq_some_iff.1 h1
 obtain ⟨h5,h6⟩:=List.getElem?_eq_some_iff.1 h2
 exact hij ((List.getElem_inj hn).1 (h4.trans h6.symm))
theorem Ctx.perm (h:Ctx s0 W m s) {m':Lets} (p:m.Perm m'):Ctx s0 W m' s :=
 ⟨h.wf,h.obj,h.next,fun x hx => h.own x (p.mem_iff.2 hx),(p.map _).nodup_iff.1 h.nodup,fun x hx => h.free x (p.mem_iff.2 hx)⟩
theorem Ctx.sub (h:Ctx s0 W m s) {m':Lets} (hs:m'.Sublist m):Ctx s0 W m' s :=
 ⟨h.wf,h.obj,h.next,fun x hx => h.own x (hs.subset hx),List.Pairwise.sublist (hs.map _) h.nodup,fun x hx => h.free x (hs.subset hx)⟩
theorem Ctx.tail {b:Pos} {x:AObj} (h:Ctx s0 W ((b,x) :: m) s):Ctx s0 W m s:=h.sub (List.sublist_cons_self _ _)
theorem Ctx.put0 {b:Pos} {x:AObj} (h:Ctx s0 W ((b,x) :: m) s) (y:AObj):Ctx s0 W ((b,y) :: m) (s.put b y):=by
 have hn:=h.nodup
 rw [List.map_cons,List.nodup_cons] at hn
 have hfr:=h.free (b,x) (by simp)
 have ho:=h.ob (x:=(b,x)) (by simp)
 refine ⟨Zg2 _ h.wf ho,?_,h.next,?_,by rw [List.map_cons,List.nodup_cons]; exact hn,?_⟩
 ·intro c hc hco
  have hne:c ≠ b:=fun e => hc (e ▸ hfr (e ▸ hco))
  rw [Z3z hne]
  exact h.obj c hc hco
 ·intro z hz
  rcases List.mem_cons.1 hz with rfl | hz
  ·exact Zgh _ _ _
  ·have hne:z.1 ≠ b:=fun e => hn.1 (List.mem_map.2 ⟨z,hz,e⟩)
   rw [Z3z hne]
   exact h.own z (List.mem_cons_of_mem _ hz)
 ·intro z hz
  rcases List.mem_cons.1 hz with rfl | hz
  ·exact hfr
  ·exact h.free z (List.mem_cons_of_mem _ hz)
theorem Z8c:∀ (m:Lets) (i:Nat) (x:Pos × AObj),m[i]? = some x→m.Perm (x :: m.eraseIdx i)
 | [],i,x,h => by simp at h
 | y :: m,0,x,h => by simp at h; subst h; simp
 | y :: m,i + 1,x,h => by
  have:=Z8c m i x (by simpa using h)
  exact (List.Perm.cons y this).trans (List.Perm.swap _ _ _)
theorem set_perm:∀ (m:Lets) (i:Nat) (x y:Pos × AObj),m[i]? = some x→(y :: m.eraseIdx i).Perm (m.set i y)
 | [],i,x,y,h => by simp at h
 | z :: m,0,x,y,h => by simp
 | z :: m,i + 1,x,y,h => by
  have:=set_perm m i x y (by simpa using h)
  exact (List.Perm.swap _ _ _).trans (List.Perm.cons z this)
theorem Ctx.put (h:Ctx s0 W m s) {b:Pos} {x:AObj} (i:Nat) (hi:m[i]? = some (b,x)) (y:AObj):Ctx s0 W (m.set i (b,y)) (s.put b y) :=
 ((h.perm (Z8c m i _ hi)).put0 y).perm (set_perm m i _ _ hi)
theorem Ctx.Zeu (h:Ctx s0 W m s) {b:Pos} (hb:¬ W b) (ho:s0.Old b):s.cells b = s0.cells b:=by unfold St.cells; rw [h.obj b hb ho]
theorem Ctx.Z0b (h:Ctx s0 (fun _ => False) m s):Keeps s0 s:=⟨fun b ho => h.obj b (fun h => h) ho,h.next,fun _ => h.wf⟩
theorem Ctx.on (h:Ctx s0 W (m ++ r) s) {m':Lets} {s':St} (h':Ctx s (fun b => b ∈ m.map (·.1)) m' s'):Ctx s0 W (m' ++ r) s':=by
 have hn:=h.nodup
 rw [List.map_append,List.nodup_append] at hn
 have hr:∀ x ∈ r,x.1 ∉ m.map (·.1):=fun x hx hm => hn.2.2 _ hm _ (List.mem_map.2 ⟨x,hx,rfl⟩) rfl
 have hro:∀ x ∈ r,s.Old x.1:=fun x hx => h.ob (List.mem_append_right _ hx)
 have hWm:∀ b,b ∈ m.map (·.1)→s0.Old b→W b:=by
  intro b hb ho
  obtain ⟨x,hx,rfl⟩:=List.mem_map.1 hb
  exact h.free x (List.mem_append_left _ hx) ho
 refine ⟨h'.wf,?_,Nat.le_trans h.next h'.next,?_,?_,?_⟩
 ·intro b hb ho
  rw [h'.obj b (fun hm => hb (hWm b hm ho)) (h.old ho)]
  exact h.obj b hb ho
 ·intro x hx
  rcases List.mem_append.1 hx with hx | hx
  ·exact h'.own x hx
  ·rw [h'.obj _ (hr x hx) (hro x hx)]
   exact h.own x (List.mem_append_right _ hx)
 ·rw [List.map_append,List.nodup_append]
  refine ⟨h'.nodup,hn.2.1,?_⟩
  intro a ha b hb e
  subst e
  obtain ⟨x,hx,rfl⟩:=List.mem_map.1 ha
  obtain ⟨y,hy,e⟩:=List.mem_map.1 hb
  have:=h'.free x hx (e ▸ hro y hy)
  exact hr y hy (e ▸ this)
 ·intro x hx ho
  rcases List.mem_append.1 hx with hx | hx
  ·exact hWm _ (h'.free x hx (h.old ho)) ho
  ·exact h.free x (List.mem_append_right _ hx) ho
end
structure CV where
 taken:Bool
 name:List UInt8
 kids:List Int
 held:Int
abbrev ints (ks:List Int):List AVal:=ks.map fun k => .int .i64 k
def RowR (kv:AVal) (ks:List Int) (m:Lets):Prop:=(ks = []∧Z1b kv = some 0∧m = []) ∨ ∃ q c,ks ≠ []∧kv = .slice q 0 ks.length c∧m = [(q,C (ints ks))]
def Z14:List (List Int)→List AVal→Lets→Prop
 | [],[],m => m = []
 | ks :: K,kv :: V,m => ∃ m1 m2,m.Perm (m1 ++ m2)∧RowR kv ks m1∧Z14 K V m2
 | _,_,_ => False
theorem Z14.len:∀ {K:List (List Int)} {V:List AVal} {m:Lets},Z14 K V m→V.length = K.length
 | [],[],m,h => rfl
 | ks :: K,kv :: V,m,⟨m1,m2,h1,h2,h3⟩ => by simp [h3.len]
 | [],_ :: _,_,h => h.elim
 | _ :: _,[],_,h => h.elim
theorem Z14.at:∀ {K:List (List Int)} {V:List AVal} {m:Lets} {i:Nat} {ks:List Int},Z14 K V m→K[i]? = some ks →
  ∃ kv m1 m2,V[i]? = some kv∧RowR kv ks m1∧m.Perm (m1 ++ m2)∧∀ ks' kv' m1',RowR kv' ks' m1'→Z14 (K.set i ks') (V.set i kv') (m1' ++ m2)
 | ks :: K,kv :: V,m,0,ks0,⟨m1,m2,h1,h2,h3⟩,h => by
  simp at h
  subst h
  exact ⟨kv,m1,m2,rfl,h2,h1,fun ks' kv' m1' h' => ⟨m1',m2,List.Perm.refl _,h',h3⟩⟩
 | ks :: K,kv :: V,m,i + 1,ks0,⟨m1,m2,h1,h2,h3⟩,h => by
  obtain ⟨kv0,n1,n2,g1,g2,g3,g4⟩:=Z14.at h3 (i:=i) (by simpa using h)
  refine ⟨kv0,n1,m1 ++ n2,by simpa using g1,g2,h1.trans ?_,fun ks' kv' m1' h' => ⟨m1,m1' ++ n2,?_,h2,g4 ks' kv' m1' h'⟩⟩
  ·refine ((List.Perm.refl m1).append g3).trans ?_
   rw [← List.append_assoc,← List.append_assoc]
   exact List.perm_append_comm.append (List.Perm.refl _)
  ·rw [← List.append_assoc,← List.append_assoc]
   exact List.perm_append_comm.append (List.Perm.refl _)
 | [],_,_,_,_,_,h => by simp at h
 | _ :: _,[],_,_,_,h,_ => h.elim
theorem Z14.each {K:List (List Int)} {V:List AVal} {m:Lets} {i:Nat} {ks:List Int} (h:Z14 K V m) (hi:K[i]? = some ks):∃ kv,V[i]? = some kv∧((ks = []∧Z1b kv = some 0) ∨ ∃ q c,ks ≠ []∧kv = .slice q 0 ks.length c∧(q,C (ints ks)) ∈ m):=by
 obtain ⟨kv,m1,m2,g1,g2,g3,_⟩:=h.at hi
 refine ⟨kv,g1,?_⟩
 rcases g2 with ⟨e1,e2,_⟩ | ⟨q,c,e1,e2,rfl⟩
 ·exact .inl ⟨e1,e2⟩
 ·exact .inr ⟨q,c,e1,e2,g3.mem_iff.2 (by simp)⟩
theorem Zq9 {s:St}:∀ (K:List (List Int)) (V:List AVal),V.length = K.length→(∀ (i:Nat) (ks:List Int) (kv:AVal),K[i]? = some ks→V[i]? = some kv→KidV s kv ks) →
  (∀ (i j:Nat) (ks ks':List Int) (q:Pos) (c c':Cap),K[i]? = some ks→K[j]? = some ks'→ks ≠ []→ks' ≠ []→V[i]? = some (AVal.slice q 0 ks.length c)→V[j]? = some (AVal.slice q 0 ks'.length c')→i = j) →
  ∃ m,Z14 K V m∧(∀ x ∈ m,s.obj x.1 = some x.2)∧(m.map (·.1)).Nodup∧∀ x ∈ m,∃ (i:Nat) (ks:List Int) (c:Cap),K[i]? = some ks∧ks ≠ []∧V[i]? = some (.slice x.1 0 ks.length c)
 | [],[],_,_,_ => ⟨[],rfl,by simp,by simp,by simp⟩
 | ks :: K,kv :: V,hl,hk,hs => by
  obtain ⟨m,h1,h2,h3,h4⟩:=Zq9 K V (by simpa using hl) (fun i ks kv a b => hk (i + 1) ks kv (by simpa using a) (by simpa using b)) (fun i j ks ks' q c c' a b d e f g => by
   have:=hs (i + 1) (j + 1) ks ks' q c c' (by simpa using a) (by simpa using b) d e (by simpa using f) (by simpa using g)
   omega)
  by_cases h0:ks = []
  ·subst h0
   rcases hk 0 [] kv rfl rfl with ⟨e,_⟩ | ⟨q,c,e,_⟩
   ·exact ⟨m,⟨[],m,List.Perm.refl _,.inl ⟨rfl,e,rfl⟩,h1⟩,h2,h3,fun x hx => by
     obtain ⟨i,ks,c,e1,e2,e3⟩:=h4 x hx
     exact ⟨i + 1,ks,c,by simpa using e1,e2,by simpa using e3⟩⟩
   ·exact ⟨m,⟨[],m,List.Perm.refl _,.inl ⟨rfl,by rw [e]; rfl,rfl⟩,h1⟩,h2,h3,fun x hx => by
     obtain ⟨i,ks,c,e1,e2,e3⟩:=h4 x hx
     exact ⟨i + 1,ks,c,by simpa using e1,e2,by simpa using e3⟩⟩
  ·rcases hk 0 ks kv rfl rfl with ⟨_,e⟩ | ⟨q,c,e,hq⟩
   ·exact (h0 e).elim
   ·refine ⟨(q,C (ints ks)) :: m,⟨[(q,C (ints ks))],m,List.Perm.refl _,.inr ⟨q,c,h0,e,rfl⟩,h1⟩,?_,?_,?_⟩
    ·intro x hx
     rcases List.mem_cons.1 hx with rfl | hx
     ·exact St.Z2v hq
     ·exact h2 x hx
    ·rw [List.map_cons,List.nodup_cons]
     refine ⟨fun hm => ?_,h3⟩
     obtain ⟨x,hx,e2⟩:=List.mem_map.1 hm
     obtain ⟨i,ks',c',e3,e4,e5⟩:=h4 x hx
     have e2:x.1 = q:=e2
     rw [e2] at e5
     have:=hs 0 (i + 1) ks ks' q c c' rfl (by simpa using e3) h0 e4 (by rw [e]; rfl) (by simpa using e5)
     omega
    ·intro x hx
     rcases List.mem_cons.1 hx with rfl | hx
     ·exact ⟨0,ks,c,rfl,h0,by rw [e]; rfl⟩
     ·obtain ⟨i,ks,c,e1,e2,e3⟩:=h4 x hx
      exact ⟨i + 1,ks,c,by simpa using e1,e2,by simpa using e3⟩
 | [],_ :: _,hl,_,_ => by simp at hl
 | _ :: _,[],hl,_,_ => by simp at hl
theorem Ctx.addL {s0 s:St} {W:Pos→Prop} {r:Lets}:∀ {m:Lets},Ctx s0 W r s→(∀ x ∈ m,s.obj x.1 = some x.2)→(m.map (·.1)).Nodup→(∀ x ∈ m,s0.Old x.1→W x.1)→(∀ x ∈ m,x.1 ∉ r.map (·.1))→Ctx s0 W (m ++ r) s
 | [],h,_,_,_,_ => h
 | x :: m,h,h1,h2,h3,h4 => by
  rw [List.map_cons,List.nodup_cons] at h2
  have ih:=Ctx.addL (m:=m) h (fun y hy => h1 y (List.mem_cons_of_mem _ hy)) h2.2 (fun y hy => h3 y (List.mem_cons_of_mem _ hy)) (fun y hy => h4 y (List.mem_cons_of_mem _ hy))
  refine ih.add (b:=x.1) (x:=x.2) (h1 x (by simp)) (h3 x (by simp)) ?_
  rw [List.map_append,List.mem_append]
  rintro (h | h)
  ·exact h2.1 h
  ·exact h4 x (by simp) h
def rcs (cs:List CV) (V:List AVal):List RC:=List.zipWith (fun d kv => ⟨d.taken,d.name,kv,d.held⟩) cs V
theorem Z34 {cs:List CV} {V:List AVal} (h:V.length = cs.length):(rcs cs V).length = cs.length:=by simp [rcs,h]
theorem Z3d {cs:List CV} {V:List AVal} {i:Nat} {d:CV} {kv:AVal} (h1:cs[i]? = some d) (h2:V[i]? = some kv):(rcs cs V)[i]? = some ⟨d.taken,d.name,kv,d.held⟩:=by
 simp [rcs,List.getElem?_zipWith,h1,h2]
theorem Zda:∀ {cs:List CV} {V:List AVal} {i:Nat} {d:CV} {kv:AVal},(rcs cs V).set i ⟨d.taken,d.name,kv,d.held⟩ = rcs (cs.set i d) (V.set i kv)
 | [],V,i,d,kv => by simp [rcs]
 | c :: cs,[],i,d,kv => by simp [rcs]
 | c :: cs,v :: V,0,d,kv => by simp [rcs]
 | c :: cs,v :: V,i + 1,d,kv => by
  have:=Zda (cs:=cs) (V:=V) (i:=i) (d:=d) (kv:=kv)
  simp [rcs] at this ⊢
  exact this
def Z29 (cs:List CV) (j:Nat):List Int:=match cs[j]? with
 | some d => d.kids
 | none => []
def Z3s (hb:Pos) (vs:AVal) (cs:List CV) (m:Lets):Prop :=
 ∃ p V mr,m.Perm ((hb,C [.slice p 0 cs.length (.lim cs.length),vs]) :: (p,C (encs (rcs cs V))) :: mr)∧Z14 (cs.map CV.kids) V mr∧1 ≤ cs.length∧cs.length ≤ 400
def Z06 (cs:List CV) (i:Int):Bool:=decide (0 ≤ i) && match cs[i.toNat]? with
 | some c => c.taken
 | none => false
theorem Zux {cs:List CV} {V:List AVal} (h:V.length = cs.length) (i:Int):Zc1 (rcs cs V) i = Z06 cs i:=by
 unfold Zc1 Z06
 by_cases hi:i.toNat < cs.length
 ·have h1:cs[i.toNat]? = some cs[i.toNat]:=List.getElem?_eq_getElem hi
  have h2:V[i.toNat]? = some (V[i.toNat]'(by omega)):=List.getElem?_eq_getElem (by omega)
  rw [Z3d h1 h2,h1]
 ·rw [List.getElem?_eq_none (by rw [Z34 h]; omega),List.getElem?_eq_none (by omega)]
def Z7a (cs:List CV):Int:=match cs.findIdx? (fun c => !c.taken) with
 | some i => i
 | none => -1
theorem Zvf:∀ {cs:List CV} {V:List AVal},V.length = cs.length→Zdt (rcs cs V) = Z7a cs:=by
 intro cs V h
 unfold Zdt Z7a
 have:(rcs cs V).findIdx? (fun c => !c.taken) = cs.findIdx? (fun c => !c.taken):=by
  induction cs generalizing V with
  | nil => simp [rcs]
  | cons c cs ih =>
   cases V with
   | nil => simp at h
   | cons v V =>
    have:=ih (V:=V) (by simpa using h)
    simp [rcs,List.findIdx?_cons] at this ⊢
    rw [this]
 rw [this]
 rfl
section
variable {s0 s:St} {W:Pos→Prop} {hb p:Pos} {vs:AVal} {cs:List CV} {V:List AVal} {m mr r:Lets}
theorem Zla (h:Ctx s0 W ((hb,C [.slice p 0 cs.length (.lim cs.length),vs]) :: (p,C (encs (rcs cs V))) :: (mr ++ r)) s) (hV:V.length = cs.length) (h1:1 ≤ cs.length) (h4:cs.length ≤ 400):HeapAt s hb p vs (rcs cs V):=by
 have hl:=Z34 hV
 refine ⟨h.wf,?_,h.o 1 rfl,h.ne 1 0 rfl rfl (by decide),by omega,by omega⟩
 rw [hl]
 exact h.o 0 rfl
theorem Zcd (hH:Z3s hb vs cs m) (h:Ctx s0 W (m ++ r) s):∃ p V mr,Ctx s0 W ((hb,C [.slice p 0 cs.length (.lim cs.length),vs]) :: (p,C (encs (rcs cs V))) :: (mr ++ r)) s∧Z14 (cs.map CV.kids) V mr∧V.length = cs.length∧1 ≤ cs.length∧cs.length ≤ 400:=by
 obtain ⟨p,V,mr,hp,hR,h1,h4⟩:=hH
 refine ⟨p,V,mr,h.perm ?_,hR,by simpa using hR.len,h1,h4⟩
 simpa using hp.append (List.Perm.refl r)
theorem Z6e (hR:Z14 (cs.map CV.kids) V mr) (h1:1 ≤ cs.length) (h4:cs.length ≤ 400):Z3s hb vs cs ((hb,C [.slice p 0 cs.length (.lim cs.length),vs]) :: (p,C (encs (rcs cs V))) :: mr):=⟨p,V,mr,List.Perm.refl _,hR,h1,h4⟩
end
theorem Z21 {l:List CV} {i:Int} (h:Z06 l i = true):0 ≤ i∧∃ c,l[i.toNat]? = some c∧c.taken = true∧i.toNat < l.length:=by
 unfold Z06 at h
 simp only [Bool.and_eq_true,decide_eq_true_eq] at h
 obtain ⟨h0,h1⟩:=h
 split at h1
 ·rename_i c hc
  exact ⟨h0,c,hc,h1,(List.getElem?_eq_some_iff.1 hc).1⟩
 ·cases h1
def Z15 (cs:List CV):Nat:=cs.countP fun c => c.taken
theorem Zjv:∀ (l:List RC),(takI l l.length).length = l.countP fun c => c.taken:=by
 intro l
 have key:∀ i,i ≤ l.length→(takI l i).length = (l.take i).countP fun c => c.taken:=by
  intro i
  induction i with
  | zero => intro _; rfl
  | succ i ih =>
   intro hi
   have hc:l[i]? = some l[i]:=List.getElem?_eq_getElem (by omega)
   rw [List.take_add_one,hc,List.countP_append]
   cases ht:l[i].taken with
   | true => rw [Z7l hc ht,List.length_append,ih (by omega)]; simp [List.countP_cons,ht]
   | false => rw [Zfz hc ht,ih (by omega)]; simp [List.countP_cons,ht]
 rw [key _ (Nat.le_refl _),List.take_length]
theorem Zif:∀ {cs:List CV} {V:List AVal},V.length = cs.length→(rcs cs V).countP (fun c => c.taken) = Z15 cs
 | [],V,_ => by simp [rcs,Z15]
 | c :: cs,[],h => by simp at h
 | c :: cs,v :: V,h => by
  have:=Zif (cs:=cs) (V:=V) (by simpa using h)
  simp [rcs,Z15,List.countP_cons] at this ⊢
  rw [this]
theorem Zjs {s0 s:St} {W:Pos→Prop} {hb:Pos} {vs:AVal} {cs:List CV} {m r:Lets} {Q:AVal→St→Prop} (hH:Z3s hb vs cs m) (h:Ctx s0 W (m ++ r) s)
  (q:∀ s',Ctx s0 W (m ++ r) s'→Q (.int .i64 (Z15 cs)) s'):Z0f Tryd.prog 14 [.ptr hb 0] s Q:=by
 obtain ⟨p,V,mr,hc,hR,hV,h1,h4⟩:=Zcd hH h
 refine Zqc (Zla hc hV h1 h4) fun s' hk => ?_
 have:=q s' (h.keeps hk)
 rw [Zjv,Zif hV]
 exact this
end Go.Proofs
end
section
open Go Go.AM
namespace Go.Proofs
theorem Zdg {D:List Key} {k k':Key} (h:k ∈ D):(addK D k').idxOf k = D.idxOf k:=by
 unfold addK
 split
 ·rfl
 ·rw [List.idxOf_append,if_pos h]
theorem Zdh {D:List Key} {k k':Key} (h:k ∈ D):k ∈ addK D k':=by
 unfold addK
 split
 ·exact h
 ·exact List.mem_append_left _ h
theorem Zne {now:List Int} {nds:List (List UInt8 × List Int)} {k:Key}:∀ (L:List Nat) (x:List Key × List Int),k ∈ x.1→k ∈ (L.foldl (Z53 now nds) x).1∧(L.foldl (Z53 now nds) x).1.idxOf k = x.1.idxOf k
 | [],x,h => ⟨h,rfl⟩
 | a :: L,x,h => by
  rw [List.foldl_cons]
  obtain ⟨h1,h2⟩:=Zne L (Z53 now nds x a) (Zdh h)
  exact ⟨h1,h2.trans (Zdg h)⟩
theorem Zpv {now:List Int} {nds:List (List UInt8 × List Int)}:∀ (L:List Nat) (x:List Key × List Int) (a:Nat),a < x.2.length→(a ∈ L ∨ (keyA now nds a ∈ x.1∧x.2[a]? = some (x.1.idxOf (keyA now nds a):Nat))) →
  (L.foldl (Z53 now nds) x).2[a]? = some ((L.foldl (Z53 now nds) x).1.idxOf (keyA now nds a):Nat)
 | [],x,a,ha,h => by
  rcases h with h | h
  ·cases h
  ·exact h.2
 | b :: L,x,a,ha,h => by
  rw [List.foldl_cons]
  refine Zpv L _ a (by simpa [Z53] using ha) ?_
  by_cases hL:a ∈ L
  ·exact .inl hL
  ·by_cases e:a = b
   ·subst e
    exact .inr ⟨Zbl _ _,by simp [Z53,ha]⟩
   ·rcases h with h | ⟨h1,h2⟩
    ·rcases List.mem_cons.1 h with h | h
     ·exact (e h).elim
     ·exact (hL h).elim
    ·refine .inr ⟨Zdh h1,?_⟩
     show (x.2.set b _)[a]? = _
     rw [List.getElem?_set_ne (fun h => e h.symm),h2]
     have h3:(addK x.1 (keyA now nds b)).idxOf (keyA now nds a) = x.1.idxOf (keyA now nds a):=Zdg h1
     exact congrArg (fun n:Nat => some (n:Int)) h3.symm
theorem Z9s {now:List Int} {nds:List (List UInt8 × List Int)} {L:List Nat} {a:Nat} (ha:a ∈ L) (hn:a < nds.length):(Z0q now nds L).2[a]? = some ((Z0q now nds L).1.idxOf (keyA now nds a):Nat) :=
 Zpv L _ a (by simpa using hn) (.inl ha)
theorem Zch {now:List Int} {nds:List (List UInt8 × List Int)}:∀ (L:List Nat) (x:List Key × List Int) (a:Nat),a ∈ L→keyA now nds a ∈ (L.foldl (Z53 now nds) x).1
 | b :: L,x,a,h => by
  rw [List.foldl_cons]
  rcases List.mem_cons.1 h with rfl | h
  ·exact (Zne L _ (Zbl _ _)).1
  ·exact Zch L _ a h
theorem Ze8 {now:List Int} {nds:List (List UInt8 × List Int)} {L:List Nat} {a b:Nat} (ha:a ∈ L) (hb:b ∈ L) (hna:a < nds.length) (hnb:b < nds.length) :
  (Z0q now nds L).2[a]? = (Z0q now nds L).2[b]? ↔ keyA now nds a = keyA now nds b:=by
 rw [Z9s ha hna,Z9s hb hnb]
 constructor
 ·intro h
  have h:(Z0q now nds L).1.idxOf (keyA now nds a) = (Z0q now nds L).1.idxOf (keyA now nds b):=by
   have:=Option.some.inj h
   omega
  have h1:=List.getElem_idxOf (List.idxOf_lt_length_of_mem (Zch (now:=now) (nds:=nds) L ([],List.replicate nds.length (-1)) a ha))
  have h2:=List.getElem_idxOf (List.idxOf_lt_length_of_mem (Zch (now:=now) (nds:=nds) L ([],List.replicate nds.length (-1)) b hb))
  unfold Z0q at h
  rw [← h1,← h2]
  congr 1
 ·intro h
  rw [h]
end Go.Proofs
end
section
open Go Go.AM
namespace Go.Proofs
theorem Zkb {now:List Int} {nds:List (List UInt8 × List Int)} {a b:Nat} {x y:List UInt8 × List Int} (hx:nds[a]? = some x) (hy:nds[b]? = some y) (h4:x.2.length ≤ 4) :
  keyA now nds a = keyA now nds b ↔ x.1 = y.1∧x.2.length = y.2.length∧∀ j,j < x.2.length→((x.2[j]?).bind fun k => now[k.toNat]?).getD 0 = ((y.2[j]?).bind fun k => now[k.toNat]?).getD 0:=by
 unfold keyA
 rw [hx,hy]
 show sgK now x 4 = sgK now y 4 ↔ _
 unfold sgK
 constructor
 ·intro h
  have h1:=congrArg Prod.fst h
  have h2:=congrArg Prod.snd h
  simp only at h1 h2
  have h3:=List.cons.inj h2
  have hl:x.2.length = y.2.length:=by have:=h3.1; omega
  refine ⟨h1,hl,fun j hj => ?_⟩
  have h5:=congrArg (fun l:List Int => l[j]?) h3.2
  simp only [sgX,List.getElem?_map] at h5
  have hj4:j < 4:=by omega
  rw [List.getElem?_range hj4] at h5
  simpa [hj4] using h5
 ·rintro ⟨h1,h2,h3⟩
  rw [h1,h2]
  have:sgX now x.2 4 = sgX now y.2 4:=by
   unfold sgX
   refine List.map_congr_left fun j hj => ?_
   have hj4:j < 4:=by simpa using hj
   rw [if_pos hj4,if_pos hj4]
   by_cases hlt:j < x.2.length
   ·exact h3 j hlt
   ·rw [List.getElem?_eq_none (by omega),List.getElem?_eq_none (by omega)]
  rw [this]
theorem Zfi {nds:List (List UInt8 × List Int)} {L:List Nat} (hL:∀ a ∈ L,a < nds.length) (hk:∀ a ∈ L,∀ x,nds[a]? = some x→x.2.length ≤ 4∧∀ k ∈ x.2,k.toNat ∈ L) :
  ∀ (r a b:Nat),a ∈ L→b ∈ L→(nowI nds L (r + 1))[a]? = (nowI nds L (r + 1))[b]?→(nowI nds L r)[a]? = (nowI nds L r)[b]?
 | 0,a,b,ha,hb,_ => by
  simp [nowI,hL a ha,hL b hb]
 | r + 1,a,b,ha,hb,h => by
  have hna:=hL a ha
  have hnb:=hL b hb
  have hx:nds[a]? = some nds[a]:=List.getElem?_eq_getElem hna
  have hy:nds[b]? = some nds[b]:=List.getElem?_eq_getElem hnb
  obtain ⟨h4,hkx⟩:=hk a ha _ hx
  obtain ⟨h4',hky⟩:=hk b hb _ hy
  have h1:=(Ze8 ha hb hna hnb).1 h
  obtain ⟨e1,e2,e3⟩:=(Zkb hx hy h4).1 h1
  refine (Ze8 ha hb hna hnb).2 ((Zkb hx hy h4).2 ⟨e1,e2,fun j hj => ?_⟩)
  have:=e3 j hj
  have hj':j < nds[b].2.length:=by omega
  have gx:nds[a].2[j]? = some nds[a].2[j]:=List.getElem?_eq_getElem hj
  have gy:nds[b].2[j]? = some nds[b].2[j]:=List.getElem?_eq_getElem hj'
  have mx:=hkx _ (List.getElem_mem hj)
  have my:=hky _ (List.getElem_mem hj')
  rw [gx,gy] at this ⊢
  simp only [Option.bind_some] at this ⊢
  have lx:nds[a].2[j].toNat < (nowI nds L (r + 1)).length:=by rw [Z6k]; exact hL _ mx
  have ly:nds[b].2[j].toNat < (nowI nds L (r + 1)).length:=by rw [Z6k]; exact hL _ my
  have heq:(nowI nds L (r + 1))[nds[a].2[j].toNat]? = (nowI nds L (r + 1))[nds[b].2[j].toNat]?:=by
   rw [List.getElem?_eq_getElem lx,List.getElem?_eq_getElem ly] at this ⊢
   simpa using this
  rw [Zfi hL hk r _ _ mx my heq]
end Go.Proofs
end
section
open Go Go.AM
namespace Go.Proofs
def news {α κ:Type} [DecidableEq κ] (f:α→κ):List α→List α→Nat
 | _,[] => 0
 | E,a :: L => (if E.any (fun e => decide (f e = f a)) = true then 0 else 1) + news f (E ++ [a]) L
theorem Zq1 {α κ:Type} [DecidableEq κ] (f:α→κ):∀ (L E:List α),news f E L ≤ L.length
 | [],E => Nat.le_refl _
 | a :: L,E => by
  have:=Zq1 f L (E ++ [a])
  simp only [news,List.length_cons]
  split <;> omega
theorem Zac {α κ:Type} [DecidableEq κ] {f:α→κ} {E:List α} {a:α}:E.any (fun e => decide (f e = f a)) = true ↔ ∃ e ∈ E,f e = f a:=by
 simp
theorem Zan {α κ μ:Type} [DecidableEq κ] [DecidableEq μ] {f:α→κ} {g:α→μ}:∀ (L E:List α),(∀ a ∈ E ++ L,∀ b ∈ E ++ L,f a = f b→g a = g b)→news g E L ≤ news f E L
 | [],E,_ => Nat.le_refl _
 | a :: L,E,h => by
  have ih:=Zan (f:=f) (g:=g) L (E ++ [a]) (by simpa using h)
  have h1:E.any (fun e => decide (f e = f a)) = true→E.any (fun e => decide (g e = g a)) = true:=by
   rw [Zac,Zac]
   rintro ⟨e,he,hf⟩
   exact ⟨e,he,h e (by simp [he]) a (by simp) hf⟩
  simp only [news]
  by_cases hf:E.any (fun e => decide (f e = f a)) = true
  ·rw [if_pos hf,if_pos (h1 hf)]; omega
  ·rw [if_neg hf]
   split <;> omega
theorem Zfg {α κ μ:Type} [DecidableEq κ] [DecidableEq μ] {f:α→κ} {g:α→μ}:∀ (L E:List α),(∀ a ∈ E ++ L,∀ b ∈ E ++ L,f a = f b→g a = g b)→news g E L = news f E L →
  (∀ a ∈ E,∀ b ∈ E,g a = g b→f a = f b)→∀ a ∈ E ++ L,∀ b ∈ E ++ L,g a = g b→f a = f b
 | [],E,_,_,hE => by simpa using hE
 | a :: L,E,h,he,hE => by
  have hm:=Zan (f:=f) (g:=g) L (E ++ [a]) (by simpa using h)
  have h1:E.any (fun e => decide (f e = f a)) = true→E.any (fun e => decide (g e = g a)) = true:=by
   rw [Zac,Zac]
   rintro ⟨e,he,hf⟩
   exact ⟨e,he,h e (by simp [he]) a (by simp) hf⟩
  simp only [news] at he
  have hkey:news g (E ++ [a]) L = news f (E ++ [a]) L∧(E.any (fun e => decide (g e = g a)) = true→E.any (fun e => decide (f e = f a)) = true):=by
   by_cases hf:E.any (fun e => decide (f e = f a)) = true
   ·rw [if_pos hf,if_pos (h1 hf)] at he
    exact ⟨by omega,fun _ => hf⟩
   ·rw [if_neg hf] at he
    by_cases hg:E.any (fun e => decide (g e = g a)) = true
    ·rw [if_pos hg] at he
     omega
    ·rw [if_neg hg] at he
     exact ⟨by omega,fun h => (hg h).elim⟩
  obtain ⟨e1,e2⟩:=hkey
  rw [Zac,Zac] at e2
  have hone:∀ x ∈ E,g x = g a→f x = f a:=by
   intro x hx hg
   obtain ⟨e,he,hf⟩:=e2 ⟨x,hx,hg⟩
   have:=h e (by simp [he]) a (by simp) hf
   rw [← hf]
   exact hE x hx e he (hg.trans this.symm)
  have ih:=Zfg (f:=f) (g:=g) L (E ++ [a]) (by simpa using h) e1 (by
   intro x hx y hy hg
   simp at hx hy
   rcases hx with hx | rfl
   ·rcases hy with hy | rfl
    ·exact hE x hx y hy hg
    ·exact hone x hx hg
   ·rcases hy with hy | rfl
    ·exact (hone y hy hg.symm).symm
    ·rfl)
  simpa using ih
theorem Zl6 {now:List Int} {nds:List (List UInt8 × List Int)}:∀ (L E:List Nat) (x:List Key × List Int),(∀ k,k ∈ x.1 ↔ ∃ e ∈ E,keyA now nds e = k) →
  (L.foldl (Z53 now nds) x).1.length = x.1.length + news (keyA now nds) E L
 | [],E,x,_ => rfl
 | a :: L,E,x,h => by
  rw [List.foldl_cons,Zl6 L (E ++ [a]) (Z53 now nds x a)]
  ·show (addK x.1 (keyA now nds a)).length + _ = _
   simp only [news]
   by_cases hm:keyA now nds a ∈ x.1
   ·have h2:=(Zac (f:=keyA now nds) (E:=E) (a:=a)).2 ((h _).1 hm)
    rw [if_pos h2]
    unfold addK
    rw [if_pos hm]
    omega
   ·have h2:¬ E.any (fun e => decide (keyA now nds e = keyA now nds a)) = true:=fun hh => hm ((h _).2 (Zac.1 hh))
    rw [if_neg h2]
    unfold addK
    rw [if_neg hm]
    simp
    omega
  ·intro k
   show k ∈ addK x.1 (keyA now nds a) ↔ _
   unfold addK
   split
   ·rename_i hm
    rw [h]
    constructor
    ·rintro ⟨e,he,hk⟩
     exact ⟨e,by simp [he],hk⟩
    ·rintro ⟨e,he,hk⟩
     simp at he
     rcases he with he | rfl
     ·exact ⟨e,he,hk⟩
     ·obtain ⟨e',he',hk'⟩:=(h _).1 hm
      exact ⟨e',he',hk'.trans hk⟩
   ·simp only [List.mem_append,List.mem_singleton]
    rw [h]
    constructor
    ·rintro (⟨e,he,hk⟩ | rfl)
     ·exact ⟨e,.inl he,hk⟩
     ·exact ⟨a,.inr rfl,rfl⟩
    ·rintro ⟨e,he | rfl,hk⟩
     ·exact .inl ⟨e,he,hk⟩
     ·exact .inr hk.symm
theorem Z5e (nds:List (List UInt8 × List Int)) (L:List Nat) (r:Nat):cntI nds L (r + 1) = news (keyA (nowI nds L r) nds) [] L:=by
 show (Z0q (nowI nds L r) nds L).1.length = _
 unfold Z0q
 rw [Zl6 L [] _ (by simp)]
 simp
structure Closed (nds:List (List UInt8 × List Int)) (L:List Nat):Prop where
 lt:∀ a ∈ L,a < nds.length
 kids:∀ a ∈ L,∀ x,nds[a]? = some x→x.2.length ≤ 4∧∀ k ∈ x.2,k.toNat ∈ L
def sim (nds:List (List UInt8 × List Int)):Nat→Nat→Nat→Prop
 | 0,_,_ => True
 | r + 1,a,b => ∃ x y,nds[a]? = some x∧nds[b]? = some y∧x.1 = y.1∧x.2.length = y.2.length∧∀ (j:Nat) (k m:Int),x.2[j]? = some k→y.2[j]? = some m→sim nds r k.toNat m.toNat
section
variable {nds:List (List UInt8 × List Int)} {L:List Nat} (hC:Closed nds L)
include hC
theorem Z9p:∀ (r a b:Nat),a ∈ L→b ∈ L→((nowI nds L r)[a]? = (nowI nds L r)[b]? ↔ sim nds r a b)
 | 0,a,b,ha,hb => by simp [nowI,sim,hC.lt a ha,hC.lt b hb]
 | r + 1,a,b,ha,hb => by
  have hna:=hC.lt a ha
  have hnb:=hC.lt b hb
  have hx:nds[a]? = some nds[a]:=List.getElem?_eq_getElem hna
  have hy:nds[b]? = some nds[b]:=List.getElem?_eq_getElem hnb
  obtain ⟨h4,hkx⟩:=hC.kids a ha _ hx
  obtain ⟨h4',hky⟩:=hC.kids b hb _ hy
  show (Z0q (nowI nds L r) nds L).2[a]? = (Z0q (nowI nds L r) nds L).2[b]? ↔ _
  rw [Ze8 ha hb hna hnb,Zkb hx hy h4]
  have hj:∀ (j:Nat) (k m:Int),nds[a].2[j]? = some k→nds[b].2[j]? = some m →
    ((((nds[a].2[j]?).bind fun k => (nowI nds L r)[k.toNat]?).getD 0 = ((nds[b].2[j]?).bind fun k => (nowI nds L r)[k.toNat]?).getD 0) ↔ sim nds r k.toNat m.toNat):=by
   intro j k m hk hm
   have mk:=hkx k (List.mem_of_getElem? hk)
   have mm:=hky m (List.mem_of_getElem? hm)
   rw [hk,hm,← Z9p r _ _ mk mm]
   simp only [Option.bind_some]
   have lx:k.toNat < (nowI nds L r).length:=by rw [Z6k]; exact hC.lt _ mk
   have ly:m.toNat < (nowI nds L r).length:=by rw [Z6k]; exact hC.lt _ mm
   rw [List.getElem?_eq_getElem lx,List.getElem?_eq_getElem ly]
   simp
  constructor
  ·rintro ⟨e1,e2,e3⟩
   refine ⟨_,_,hx,hy,e1,e2,fun j k m hk hm => (hj j k m hk hm).1 (e3 j ?_)⟩
   exact (List.getElem?_eq_some_iff.1 hk).1
  ·rintro ⟨x,y,hx',hy',e1,e2,e3⟩
   rw [hx] at hx'
   rw [hy] at hy'
   cases hx'
   cases hy'
   refine ⟨e1,e2,fun j hj' => ?_⟩
   have gk:nds[a].2[j]? = some nds[a].2[j]:=List.getElem?_eq_getElem hj'
   have gm:nds[b].2[j]? = some (nds[b].2[j]'(by omega)):=List.getElem?_eq_getElem (by omega)
   exact (hj j _ _ gk gm).2 (e3 j _ _ gk gm)
theorem Z62 (r a b:Nat) (ha:a ∈ L) (hb:b ∈ L):keyA (nowI nds L r) nds a = keyA (nowI nds L r) nds b ↔ sim nds (r + 1) a b:=by
 rw [← Z9p hC (r + 1) a b ha hb]
 exact (Ze8 ha hb (hC.lt a ha) (hC.lt b hb)).symm
theorem Zec {r a b:Nat} (ha:a ∈ L) (hb:b ∈ L) (h:sim nds (r + 1) a b):sim nds r a b :=
 (Z9p hC r a b ha hb).1 (Zfi hC.lt hC.kids r a b ha hb ((Z9p hC (r + 1) a b ha hb).2 h))
theorem Zwi {r m a b:Nat} (ha:a ∈ L) (hb:b ∈ L) (hm:m ≤ r) (h:sim nds r a b):sim nds m a b:=by
 induction r with
 | zero =>
  have:m = 0:=by omega
  subst this
  exact h
 | succ r ih =>
  rcases Nat.lt_or_ge m (r + 1) with h1 | h1
  ·exact ih (by omega) (Zec hC ha hb h)
  ·have:m = r + 1:=by omega
   subst this
   exact h
theorem Ztd (r:Nat):cntI nds L r ≤ cntI nds L (r + 1):=by
 cases r with
 | zero => exact Nat.zero_le _
 | succ r =>
  rw [Z5e,Z5e]
  refine Zan L [] fun a ha b hb h => ?_
  simp at ha hb
  exact (Z62 hC r a b ha hb).2 (Zec hC ha hb ((Z62 hC (r + 1) a b ha hb).1 h))
theorem Zv9 (r:Nat):cntI nds L r ≤ L.length:=by
 cases r with
 | zero => exact Nat.zero_le _
 | succ r => rw [Z5e]; exact Zq1 _ _ _
theorem Ziq:∀ (r:Nat),(∀ m,m < r→cntI nds L (m + 1) ≠ cntI nds L m)→r ≤ cntI nds L r
 | 0,_ => Nat.zero_le _
 | r + 1,h => by
  have h1:=Ziq r fun m hm => h m (by omega)
  have h2:=Ztd hC r
  have h3:=h r (by omega)
  omega
theorem Ze9:∃ R,cntI nds L (R + 1) = cntI nds L R∧∀ r,r < R→cntI nds L (r + 1) ≠ cntI nds L r:=by
 have hex:∃ R,R ≤ L.length∧cntI nds L (R + 1) = cntI nds L R:=by
  refine Classical.byContradiction fun hn => ?_
  have h1:=Ziq hC (L.length + 1) fun m hm he => hn ⟨m,by omega,he⟩
  have h2:=Zv9 hC (L.length + 1)
  omega
 obtain ⟨R,_,hR⟩:=hex
 revert hR
 refine Nat.strongRecOn (motive:=fun R => cntI nds L (R + 1) = cntI nds L R→_) R fun n ih hn => ?_
 by_cases h:∃ r,r < n∧cntI nds L (r + 1) = cntI nds L r
 ·obtain ⟨r,hr,he⟩:=h
  exact ih r hr he
 ·exact ⟨n,hn,fun r hr he => h ⟨r,hr,he⟩⟩
theorem Zm6 {R:Nat} (hE:cntI nds L (R + 1) = cntI nds L R):∀ (d a b:Nat),a ∈ L→b ∈ L→sim nds R a b→sim nds (R + d) a b
 | 0,a,b,_,_,h => h
 | d + 1,a,b,ha,hb,h => by
  have hone:∀ a b,a ∈ L→b ∈ L→sim nds R a b→sim nds (R + 1) a b:=by
   intro a b ha hb h
   cases R with
   | zero =>
    have h0:cntI nds L (0 + 1) = 0:=hE
    rw [Z5e] at h0
    cases L with
    | nil => cases ha
    | cons c L => simp [news] at h0
   | succ r =>
    rw [Z5e,Z5e] at hE
    have:=Zfg (f:=keyA (nowI nds L (r + 1)) nds) (g:=keyA (nowI nds L r) nds) L [] (by
     intro a ha b hb h
     simp at ha hb
     exact (Z62 hC r a b ha hb).2 (Zec hC ha hb ((Z62 hC (r + 1) a b ha hb).1 h))) hE.symm (by simp) a (by simpa using ha) b (by simpa using hb)
    exact (Z62 hC (r + 1) a b ha hb).1 (this ((Z62 hC r a b ha hb).2 h))
  have h1:=hone a b ha hb h
  obtain ⟨x,y,hx,hy,e1,e2,e3⟩:=h1
  refine ⟨x,y,hx,hy,e1,e2,fun j k m hk hm => ?_⟩
  exact Zm6 hE d _ _ ((hC.kids a ha x hx).2 k (List.mem_of_getElem? hk)) ((hC.kids b hb y hy).2 m (List.mem_of_getElem? hm)) (e3 j k m hk hm)
theorem Zgu {R:Nat} (hE:cntI nds L (R + 1) = cntI nds L R) {a b:Nat} (ha:a ∈ L) (hb:b ∈ L):(nowI nds L (R + 1))[a]? = (nowI nds L (R + 1))[b]? ↔ ∀ r,sim nds r a b:=by
 rw [Z9p hC (R + 1) a b ha hb]
 constructor
 ·intro h r
  have h1:=Zm6 hC hE r a b ha hb (Zec hC ha hb h)
  exact Zwi hC ha hb (by omega) h1
 ·intro h
  exact h _
end
theorem Zj4 {now:List Int} {nds:List (List UInt8 × List Int)}:∀ (L:List Nat) (x:List Key × List Int) (a:Nat),a ∉ L→(L.foldl (Z53 now nds) x).2[a]? = x.2[a]?
 | [],x,a,_ => rfl
 | b :: L,x,a,h => by
  simp at h
  rw [List.foldl_cons,Zj4 L _ a h.2]
  show (x.2.set b _)[a]? = _
  rw [List.getElem?_set_ne (fun e => h.1 e.symm)]
theorem Zfj (nds:List (List UInt8 × List Int)) (L:List Nat) (r a:Nat) (ha:a < nds.length) (h:a ∉ L):(nowI nds L (r + 1))[a]? = some (-1):=by
 show (Z0q (nowI nds L r) nds L).2[a]? = _
 unfold Z0q
 rw [Zj4 L _ a h]
 simp [ha]
end Go.Proofs
end
section
open Go Go.AM
namespace Go.Proofs
set_option maxRecDepth 100000
open Classical in
noncomputable def clsF (nds:List (List UInt8 × List Int)) (L:List Nat):List Int:=if h:Closed nds L then nowI nds L (Classical.choose (Ze9 h) + 1) else []
theorem Z9f {nds:List (List UInt8 × List Int)} {L:List Nat} (h:Closed nds L):∃ R,clsF nds L = nowI nds L (R + 1)∧cntI nds L (R + 1) = cntI nds L R∧∀ r,r < R→cntI nds L (r + 1) ≠ cntI nds L r:=by
 refine ⟨Classical.choose (Ze9 h),?_,Classical.choose_spec (Ze9 h)⟩
 unfold clsF
 rw [dif_pos h]
def Z0d (cs:List CV):List (List UInt8 × List Int):=cs.map fun c => if c.taken = true then (c.name,c.kids) else ([],[])
def Z17 (cs:List CV) (i:Nat):List Nat:=(List.range i).filter fun j => Z06 cs (j:Int)
theorem Z1g {cs:List CV} {j:Nat} {c:CV} (h:cs[j]? = some c):Z06 cs (j:Int) = c.taken:=by
 unfold Z06
 simp [h]
theorem Zh3 {cs:List CV} {i:Nat} {c:CV} (h:cs[i]? = some c) (hc:c.taken = true):Z17 cs (i + 1) = Z17 cs i ++ [i]:=by
 unfold Z17
 rw [List.range_succ,List.filter_append]
 simp [Z1g h,hc]
theorem Zh4 {cs:List CV} {i:Nat} {c:CV} (h:cs[i]? = some c) (hc:c.taken = false):Z17 cs (i + 1) = Z17 cs i:=by
 unfold Z17
 rw [List.range_succ,List.filter_append]
 simp [Z1g h,hc]
theorem Z5i {cs:List CV} {i a:Nat}:a ∈ Z17 cs i ↔ a < i∧Z06 cs (a:Int) = true:=by
 unfold Z17
 simp
structure HOk (cs:List CV):Prop where
 kids4:∀ c ∈ cs,c.kids.length ≤ 4
 kids:∀ c ∈ cs,c.taken = true→∀ k ∈ c.kids,Z06 cs k = true
theorem Z2k {cs:List CV} {a:Nat} {c:CV} (h:cs[a]? = some c):(Z0d cs)[a]? = some (if c.taken = true then (c.name,c.kids) else ([],[])):=by
 unfold Z0d
 rw [List.getElem?_map,h]
 rfl
theorem Z10 (cs:List CV):(Z0d cs).length = cs.length:=by simp [Z0d]
theorem HOk.closed {cs:List CV} (h:HOk cs):Closed (Z0d cs) (Z17 cs cs.length):=by
 refine ⟨fun a ha => ?_,fun a ha x hx => ?_⟩
 ·rw [Z10]
  exact (Z5i.1 ha).1
 ·obtain ⟨h1,h2⟩:=Z5i.1 ha
  have hc:cs[a]? = some cs[a]:=List.getElem?_eq_getElem h1
  rw [Z1g hc] at h2
  rw [Z2k hc,if_pos h2] at hx
  cases hx
  refine ⟨h.kids4 _ (List.getElem_mem h1),fun k hk => ?_⟩
  have h3:=h.kids _ (List.getElem_mem h1) h2 k hk
  obtain ⟨h0,d,hd,ht,hlt⟩:=Z21 h3
  rw [Z5i]
  refine ⟨hlt,?_⟩
  rw [Z1g hd]
  exact ht
theorem HOk.Zdu {cs:List CV} (h:HOk cs):∀ (a:Nat) nd,(Z0d cs)[a]? = some nd→nd.2.length ≤ 4∧∀ k ∈ nd.2,0 ≤ k∧k < (Z0d cs).length:=by
 intro a nd hnd
 have h1:a < cs.length:=by have:=(List.getElem?_eq_some_iff.1 hnd).1; rwa [Z10] at this
 have hc:cs[a]? = some cs[a]:=List.getElem?_eq_getElem h1
 rw [Z2k hc] at hnd
 by_cases ht:cs[a].taken = true
 ·rw [if_pos ht] at hnd
  cases hnd
  refine ⟨h.kids4 _ (List.getElem_mem h1),fun k hk => ?_⟩
  obtain ⟨h0,d,hd,_,hlt⟩:=Z21 (h.kids _ (List.getElem_mem h1) ht k hk)
  rw [Z10]
  exact ⟨h0,by omega⟩
 ·rw [if_neg ht] at hnd
  cases hnd
  exact ⟨by simp,by simp⟩
def Z37:CV:=⟨false,[],[],0⟩
def relC (cs:List CV) (gone:List Int):List CV:=gone.foldl (fun l k => l.set k.toNat Z37) cs
theorem Zia:∀ (gone:List Int) (cs:List CV),(relC cs gone).length = cs.length
 | [],cs => rfl
 | k :: r,cs => by
  show (relC (cs.set k.toNat Z37) r).length = _
  rw [Zia r]
  simp
theorem Zz6 {cs:List CV} {V:List AVal} (h:V.length = cs.length):Zb6 (rcs cs V) (Z29 cs) = Z0d cs:=by
 refine List.ext_getElem? fun j => ?_
 by_cases hj:j < cs.length
 ·have h1:cs[j]? = some cs[j]:=List.getElem?_eq_getElem hj
  have h2:V[j]? = some (V[j]'(by omega)):=List.getElem?_eq_getElem (by omega)
  rw [Z2k h1]
  unfold Zb6 Z29
  simp [Z3d h1 h2,h1]
 ·rw [List.getElem?_eq_none (by simp [Zb6,Z34 h]; omega),List.getElem?_eq_none (by rw [Z10]; omega)]
theorem Zzg {cs:List CV} {V:List AVal} (h:V.length = cs.length) (i:Nat):takI (rcs cs V) i = Z17 cs i:=by
 unfold takI Z17
 refine List.filter_congr fun j _ => ?_
 by_cases hj:j < cs.length
 ·have h1:cs[j]? = some cs[j]:=List.getElem?_eq_getElem hj
  have h2:V[j]? = some (V[j]'(by omega)):=List.getElem?_eq_getElem (by omega)
  rw [Z3d h1 h2,Z1g h1]
 ·have h1:cs[j]? = none:=List.getElem?_eq_none (by omega)
  have h2:(rcs cs V)[j]? = none:=List.getElem?_eq_none (by rw [Z34 h]; omega)
  rw [h2]
  unfold Z06
  simp [h1]
theorem Zf1:∀ (l:List RC) (i:Nat) (c:RC) (d:Int),l[i]? = some c→lay (encs l) (i * 4 + 3) [.int .i64 d] = encs (l.set i { c with held:=d })
 | [],i,c,d,h => by simp at h
 | e :: l,0,c,d,h => by
  simp at h
  subst h
  have e1:encs (e :: l) = e.enc ++ encs l:=rfl
  have e2:encs ((e :: l).set 0 { e with held:=d }) = (RC.enc { e with held:=d }) ++ encs l:=rfl
  rw [e1,e2]
  simp [lay,RC.enc]
 | e :: l,i + 1,c,d,h => by
  have e1:encs (e :: l) = e.enc ++ encs l:=rfl
  have e2:encs ((e :: l).set (i + 1) { c with held:=d }) = e.enc ++ encs (l.set i { c with held:=d }):=rfl
  have ih:=Zf1 l i c d (by simpa using h)
  have hd:e.enc.length = 4:=rfl
  have e3:(i + 1) * 4 + 3 = e.enc.length + (i * 4 + 3):=by rw [hd]; omega
  rw [e1,e2,← ih]
  unfold lay
  rw [e3,List.take_length_add_append,Nat.add_assoc,List.drop_length_add_append]
  simp
theorem Zyg {cs:List CV} {V:List AVal} {kvs:Nat→AVal} (h:V.length = cs.length):cpI (rcs cs V) kvs cs.length = rcs cs ((List.range cs.length).map kvs):=by
 refine List.ext_getElem? fun j => ?_
 by_cases hj:j < cs.length
 ·have h1:cs[j]? = some cs[j]:=List.getElem?_eq_getElem hj
  have h2:V[j]? = some (V[j]'(by omega)):=List.getElem?_eq_getElem (by omega)
  have h3:((List.range cs.length).map kvs)[j]? = some (kvs j):=by rw [List.getElem?_map,List.getElem?_range hj]; rfl
  rw [Zd1 (Z3d h1 h2),Z3d h1 h3]
  simp [hj]
 ·rw [List.getElem?_eq_none (by rw [Z9g,Z34 h]; omega),List.getElem?_eq_none (by rw [Z34 (by simp)]; omega)]
theorem Zod:∀ (gone:List Int) {cs:List CV} {V:List AVal} {m:Lets},V.length = cs.length→Z14 (cs.map CV.kids) V m→(∀ k ∈ gone,0 ≤ k∧k < cs.length) →
  ∃ V' m' d,rel (rcs cs V) gone = rcs (relC cs gone) V'∧Z14 ((relC cs gone).map CV.kids) V' m'∧m.Perm (m' ++ d)
 | [],cs,V,m,_,h,_ => ⟨V,m,[],rfl,h,by simp⟩
 | k :: gone,cs,V,m,hV,h,hin => by
  obtain ⟨h0,h1⟩:=hin k (by simp)
  have hlt:k.toNat < cs.length:=by omega
  obtain ⟨kv,m1,m2,g1,g2,g3,g4⟩:=h.at (i:=k.toNat) (ks:=cs[k.toNat].kids) (by rw [List.getElem?_map,List.getElem?_eq_getElem hlt]; rfl)
  have h2:=g4 [] .nilSlice [] (.inl ⟨rfl,rfl,rfl⟩)
  have h3:(cs.map CV.kids).set k.toNat [] = (cs.set k.toNat Z37).map CV.kids:=by rw [List.map_set]; rfl
  rw [h3] at h2
  obtain ⟨V',m',d,e1,e2,e3⟩:=Zod gone (cs:=cs.set k.toNat Z37) (V:=V.set k.toNat .nilSlice) (by simpa using hV) h2 (fun k' hk' => by simpa using hin k' (by simp [hk']))
  refine ⟨V',m',d ++ m1,?_,e2,?_⟩
  ·rw [← show rcs (relC (cs.set k.toNat Z37) gone) V' = rcs (relC cs (k :: gone)) V' from rfl,← e1]
   show rel ((rcs cs V).set k.toNat Zg8) gone = _
   have:=Zda (cs:=cs) (V:=V) (i:=k.toNat) (d:=Z37) (kv:=.nilSlice)
   rw [← this]
   rfl
  ·refine g3.trans ?_
   refine (List.perm_append_comm (l₁:=m1) (l₂:=m2)).trans ?_
   rw [← List.append_assoc]
   exact (by simpa using e3:m2.Perm (m' ++ d)).append (List.Perm.refl m1)
theorem KidV.ints {s:St} {kv:AVal} {ks:List Int} (h:KidV s kv ks) (hw:s.Wf):Z0e s kv ks:=by
 rcases h with h | ⟨q,c,rfl,h⟩
 ·exact .inl h
 ·exact .inr ⟨q,0,c,_,rfl,Z0c hw h,Z0i h,by simp,fun i k hk => by simp [hk]⟩
theorem Z5q {s:St} {b:Pos} {ks:List Int} (hw:s.Wf) (h:s.own b = some (ints ks)) (c:Cap):Z0e s (.slice b 0 ks.length c) ks:=KidV.ints (.inr ⟨b,c,rfl,h⟩) hw
def Z1a (lv:AVal) (g:List Int) (m:Lets):Prop:=(g = []∧lv = .nilSlice∧m = []) ∨ ∃ q,g ≠ []∧lv = .slice q 0 g.length (.opn 1)∧m = [(q,C (ints g))]
theorem Z1a.len {lv:AVal} {g:List Int} {m:Lets} (h:Z1a lv g m):Z1b lv = some g.length:=by
 rcases h with ⟨rfl,rfl,_⟩ | ⟨q,_,rfl,_⟩ <;> rfl
theorem Z1a.ntup {lv:AVal} {g:List Int} {m:Lets} (h:Z1a lv g m):∀ t,¬ lv = .tup t:=by
 rintro t rfl
 have:=h.len
 cases this
theorem Z1a.cells {lv:AVal} {g:List Int} {m:Lets} (h:Z1a lv g m):lv.cells = [lv]:=by
 rcases h with ⟨rfl,rfl,_⟩ | ⟨q,_,rfl,_⟩ <;> rfl
theorem Z1a.row {lv:AVal} {g:List Int} {m:Lets} (h:Z1a lv g m):RowR lv g m:=by
 rcases h with ⟨h1,rfl,h2⟩ | ⟨q,h1,h2,h3⟩
 ·exact .inl ⟨h1,rfl,h2⟩
 ·exact .inr ⟨q,_,h1,h2,h3⟩
theorem RowR.kid {s:St} {kv:AVal} {ks:List Int} {m:Lets} (h:RowR kv ks m) (ho:∀ x ∈ m,s.obj x.1 = some x.2):KidV s kv ks:=by
 rcases h with ⟨h1,h2,h3⟩ | ⟨q,c,h1,h2,rfl⟩
 ·exact .inl ⟨h2,h1⟩
 ·exact .inr ⟨q,c,h2,Z1l (ho (q,C (ints ks)) (by simp))⟩
section
variable {s0 s:St} {W:Pos→Prop} {m r:Lets}
theorem Ctx.chg0 {b:Pos} {x y:AObj} (h:Ctx s0 W ((b,x) :: m) s) {s':St} (k:Same [b] s s') (hy:s'.obj b = some y):Ctx s0 W ((b,y) :: m) s':=by
 have hn:=h.nodup
 rw [List.map_cons,List.nodup_cons] at hn
 refine (h.tail.same k ?_ ?_).add hy (h.free (b,x) (by simp)) hn.1
 ·intro c hc ho
  simp at hc
  subst hc
  exact h.free (c,x) (by simp) ho
 ·intro z hz hb
  simp at hb
  exact hn.1 (List.mem_map.2 ⟨z,hz,hb⟩)
theorem Ctx.chg {b:Pos} {x y:AObj} (h:Ctx s0 W m s) (i:Nat) (hi:m[i]? = some (b,x)) {s':St} (k:Same [b] s s') (hy:s'.obj b = some y):Ctx s0 W (m.set i (b,y)) s' :=
 ((h.perm (Z8c m i _ hi)).chg0 k hy).perm (set_perm m i _ _ hi)
theorem Z4t {pre mg:Lets} {lv:AVal} {g:List Int} {x:Int} {Q:AVal→St→Prop} (h:Ctx s0 W (pre ++ (mg ++ r)) s) (hg:Z1a lv g mg) (hs:g.length ≤ 1000)
  (q:∀ lv' mg' s',Z1a lv' (g ++ [x]) mg'→Ctx s0 W (pre ++ (mg' ++ r)) s'→Q lv' s'):appP (1,8) lv [.int .i64 x] 1 s Q:=by
 rcases hg with ⟨rfl,rfl,rfl⟩ | ⟨b,hne,rfl,rfl⟩
 ·simp only [appP,Z4a]
  rw [if_neg (by decide)]
  refine ⟨by unfold Z0j; omega,?_⟩
  have:=h.alloc (C [.int .i64 x])
  refine q (.slice s.next 0 1 (.opn 1)) [(s.next,C (ints [x]))] _ (.inr ⟨_,by simp,rfl,rfl⟩) (this.perm ?_)
  simp only [List.nil_append]
  exact List.perm_middle.symm
 ·have hb:s.own b = some (ints g):=Z1l (h.own (b,C (ints g)) (by simp))
  have hl:g.length ≠ 0:=by simpa using hne
  have h1:Ctx s0 W ((b,C (ints g)) :: (pre ++ r)) s:=h.perm (by simp)
  have h2:=(h1.put0 .dead).tail.alloc (C (ints g ++ [.int .i64 x]))
  simp only [appP,Z4a]
  rw [if_neg (by decide)]
  refine ⟨trivial,?_⟩
  rw [hb]
  simp only [Z0x]
  rw [if_neg hl,if_neg (by simp)]
  refine ⟨by simp,by unfold Z0j; omega,?_⟩
  have ht:List.take (g.length * 1) (List.drop 0 (ints g)) = ints g:=by rw [List.drop_zero]; exact List.take_of_length_le (by simp)
  rw [ht]
  have hi:ints g ++ [AVal.int .i64 x] = ints (g ++ [x]):=by simp [ints]
  rw [hi] at h2 ⊢
  have hn:(s.put b .dead).next = s.next:=rfl
  refine q (.slice s.next 0 (g.length + 1) (.opn 1)) [(s.next,C (ints (g ++ [x])))] _ (.inr ⟨_,by simp,by simp,rfl⟩) (h2.perm ?_)
  rw [hn]
  exact List.perm_middle.symm
theorem Zek {fr:FI} {t:PT AVal} {Q:Ex→PT AVal→St→Prop} {f:RO} {k k':Nat} {b:MCode} {fi:FInfo} {p B:Pos} {l:List RC} {n:Nat} {m0:Lets} (J:Nat→Lets→Prop) (hn:l.length = n) (hl:n ≤ 400)
  (hx:getO t [] f = some (.fn 87 [] [.ptr B 0])) (hr:fr.round = none) (hfi:funInfo Tryd.prog fr.fn = some fi) (hpl:Z7i fi.ps fi.ntmps [k] = some [some (posOf k)])
  (hp:∀ i m s',J i m→Ctx s0 W m s'→s'.Old p∧s'.cells p = some (encs l))
  (hskip:∀ i c m,l[i]? = some c→c.taken = false→J i m→J (i + 1) m)
  (hbody:∀ (i:Nat) c s1 m Lb X (Wx:Ex→PT AVal→St→Prop),l[i]? = some c→c.taken = true→J i m→Ctx s0 W ((Lb,X) :: (B,C [.slice p 0 n (.lim n)]) :: m) s1 →
   (∀ t s2 m',J (i + 1) m'→Ctx s0 W ((Lb,X) :: (B,C [.slice p 0 n (.lim n)]) :: m') s2→Wx .normal t s2) →
   wp Tryd.prog b { fn:=fr.fn,ntmps:=fi.ntmps,ps:=fi.ps,round:=some Lb } (PT.set (posOf k') (.int .i64 i) (PT.set (posOf k) (.int .i64 i) t)) s1 Wx)
  (h0:J 0 m0) (hc:Ctx s0 W ((B,C [.slice p 0 n (.lim n)]) :: m0) s) (q:∀ s' m,J n m→Ctx s0 W m s'→Q .normal t s') :
  wp Tryd.prog (.range f [k] (.region [.run none (.move (.per (posOf k)))] [some (posOf k')]) b) fr t s Q:=by
 subst hn
 refine AM.Zoq hx (fun l0 e => by rw [hr] at e; cases e) ?_
 have c0:=hc.alloc (.loop { state:=.ready,pending:=none,fn:=fr.fn,tm:=t,params:=[k],assign:=.region [.run none (.move (.per (posOf k)))] [some (posOf k')],body:=b })
 generalize s.alloc (.loop { state:=.ready,pending:=none,fn:=fr.fn,tm:=t,params:=[k],assign:=.region [.run none (.move (.per (posOf k)))] [some (posOf k')],body:=b }) = sA at c0 ⊢
 generalize s.next = Lb at c0 ⊢
 refine Zjw (p:=p) (I:=fun i s' => ∃ m,J i m∧Ctx s0 W ((Lb,.loop { state:=.ready,pending:=none,fn:=fr.fn,tm:=t,params:=[k],assign:=.region [.run none (.move (.per (posOf k)))] [some (posOf k')],body:=b }) :: (B,C [.slice p 0 l.length (.lim l.length)]) :: m) s') hl (by simp) ?_ ?_ ?_ ?_ ⟨m0,h0,c0⟩ ?_
 ·rintro i s' ⟨m,hj,hc⟩
  obtain ⟨a,b⟩:=hp i m s' hj hc.tail.tail
  exact ⟨hc.wf,a,hc.oi 1 rfl,b,hc.c 1 rfl⟩
 ·rintro i s' s'' ⟨m,hj,hc⟩ hk
  exact ⟨m,hj,hc.keeps hk⟩
 ·rintro i c s' hci hct ⟨m,hj,hc⟩
  exact ⟨m,hskip i c m hci hct hj,hc⟩
 ·rintro i c s' R hci hct ⟨m,hj,hc⟩ hR
  refine Zhh (pl:=[some (posOf k)]) (tree:=PT.set (posOf k) (.int .i64 i) t) (hc.x 0 rfl) hfi hpl rfl rfl ?_
  refine AM.wp_region ?_
  simp
  refine ⟨_,hc.x 0 rfl,rfl,?_⟩
  refine hbody i c _ m Lb _ _ hci hct hj (hc.put 0 rfl _) fun t2 s2 m' hj' hc' => ?_
  refine ⟨_,hc'.x 0 rfl,?_⟩
  exact hR _ ⟨m',hj',hc'.put 0 rfl _⟩
 ·rintro s2 ⟨m,hj,hc⟩
  refine ⟨_,hc.x 0 rfl,rfl,?_⟩
  exact q _ m hj (hc.put 0 rfl _).tail.tail
end
theorem Zyv {s:St} {p:Pos} {l:List RC} {n:Nat} {K:Nat→List Int} {Q:AVal→St→Prop} (hn:l.length = n) (hw:s.Wf) (hp:s.Old p) (hc:s.cells p = some (encs l)) (hl:n ≤ 400) (hK:∀ j c,l[j]? = some c→Z0e s c.kv (K j))
  (q:∀ pn lv s',Keeps s s'→NodesG s' pn (Zb6 l K)→Z0e s' lv ((takI l n).map fun (a:Nat) => (a:Int))→Q (.tup [.slice pn 0 n (.lim n),lv]) s'):Z0f Tryd.prog 50 [.agg [.slice p 0 n (.lim n)]] s Q:=by
 subst hn
 exact Zvh hw hp hc hl hK q
theorem Zl1 {s:St} {p:Pos} {nds:List (List UInt8 × List Int)} {n:Nat} {c0:Cap} {Lv:AVal} {L:List Nat} {Q:AVal→St→Prop}
  (hnl:nds.length = n) (hw:s.Wf) (hN:NodesG s p nds) (hn:n ≤ 1000) (hL:Z0e s Lv (L.map fun (a:Nat) => (a:Int))) (hLl:L.length ≤ 1000) (hC:Closed nds L)
  (hkids:∀ (a:Nat) nd,nds[a]? = some nd→nd.2.length ≤ 4∧∀ k ∈ nd.2,0 ≤ k∧k < nds.length)
  (q:∀ Bx s',Keeps s s'→¬ s.Old Bx→s'.own Bx = some (ints (clsF nds L))→Q (.slice Bx 0 n (.lim n)) s'):Z0f Tryd.prog 49 [.slice p 0 n c0,Lv] s Q:=by
 subst hnl
 obtain ⟨R,h1,h2,h3⟩:=Z9f hC
 rw [h1] at q
 exact Zqp hw hN hn hL hC.lt hLl hkids h3 h2 q
theorem Zbp {nds:List (List UInt8 × List Int)} {L:List Nat} (h:Closed nds L):(clsF nds L).length = nds.length:=by
 obtain ⟨R,h1,_⟩:=Z9f h
 rw [h1,Z6k]
theorem own_w {s:St} {p:Pos} {l:List RC} {n:Nat} {K:Nat→List Int} {Q:AVal→St→Prop} (hn:l.length = n) (hw:s.Wf) (hp:s.Old p) (hc:s.cells p = some (encs l)) (h1:1 ≤ n) (hl:n ≤ 400) (hK:∀ j c,l[j]? = some c→Z0e s c.kv (K j)∧(K j).length ≤ 1000)
  (q:∀ pn kvs s',Keeps s s'→¬ s.Old pn→s'.own pn = some (encs (cpI l kvs n))→OwnK s s' pn K kvs n→Q (.agg [.slice pn 0 n (.lim n)]) s'):Z0f Tryd.prog 51 [.agg [.slice p 0 n (.lim n)]] s Q:=by
 subst hn
 exact own_wp hw hp hc h1 hl hK q
theorem Zuk {s:St} {p:Pos} {l:List RC} {n:Nat} {v:AVal} {gone:List Int} {Q:AVal→St→Prop} (hn:l.length = n) (hw:s.Wf) (hp:s.own p = some (encs l)) (hmax:gone.length ≤ 1000) (hin:∀ k ∈ gone,0 ≤ k∧k < n)
  (hv:∀ s',Same [p] s s'→Z0e s' v gone) (q:∀ s',Same [p] s s'→s'.own p = some (encs (rel l gone))→Q (.tup []) s'):Z0f Tryd.prog 58 [.agg [.slice p 0 n (.lim n)],v] s Q:=by
 subst hn
 exact Zry hw hp hmax (by simpa using hin) hv q
theorem Z1z {cs:List CV} {j:Nat} {d:CV} (h:cs[j]? = some d):Z29 cs j = d.kids:=by unfold Z29; rw [h]
theorem Zdx {cs:List CV} {j:Nat} {ks:List Int} (h:(cs.map CV.kids)[j]? = some ks):j < cs.length∧Z29 cs j = ks:=by
 rw [List.getElem?_map] at h
 cases hd:cs[j]? with
 | none => rw [hd] at h; cases h
 | some d =>
  rw [hd] at h
  cases h
  exact ⟨(List.getElem?_eq_some_iff.1 hd).1,Z1z hd⟩
theorem Zcf {α:Type} {n j:Nat} {f:Nat→α} (h:j < n):((List.range n).map f)[j]? = some (f j):=by
 rw [List.getElem?_map,List.getElem?_range h]
 rfl
theorem Zw0 {s0 s:St} {pn:Pos} {cs:List CV} {kvs:Nat→AVal} (h:OwnK s0 s pn (Z29 cs) kvs cs.length) :
  ∃ m,Z14 (cs.map CV.kids) ((List.range cs.length).map kvs) m∧(∀ x ∈ m,s.obj x.1 = some x.2)∧(m.map (·.1)).Nodup∧∀ x ∈ m,¬ s0.Old x.1∧x.1 ≠ pn:=by
 obtain ⟨m,h1,h2,h3,h4⟩:=Zq9 (s:=s) (cs.map CV.kids) ((List.range cs.length).map kvs) (by simp) (fun i ks kv hk hv => by
  obtain ⟨hi,e⟩:=Zdx hk
  rw [Zcf hi] at hv
  cases hv
  rw [← e]
  exact h.kid i hi) (fun i j ks ks' q c c' hk hk' hn hn' hv hv' => by
  obtain ⟨hi,e⟩:=Zdx hk
  obtain ⟨hj,e'⟩:=Zdx hk'
  rw [Zcf hi] at hv
  rw [Zcf hj] at hv'
  rw [← e] at hv hn
  rw [← e'] at hv' hn'
  exact h.sep i j q c c' hi hj hn hn' (Option.some.inj hv) (Option.some.inj hv'))
 refine ⟨m,h1,h2,h3,fun x hx => ?_⟩
 obtain ⟨i,ks,c,e1,e2,e3⟩:=h4 x hx
 obtain ⟨hi,e⟩:=Zdx e1
 rw [Zcf hi] at e3
 rw [← e] at e2 e3
 exact h.fresh i x.1 c hi (Option.some.inj e3) e2
theorem Ctx.apart {s0 s:St} {W:Pos→Prop} {m:Lets} (h:Ctx s0 W m s) {b:Pos} {x:AObj} (i:Nat) (hi:m[i]? = some (b,x)) {y:Pos × AObj} (hy:y ∈ m.drop (i + 1)):b ≠ y.1:=by
 obtain ⟨j,hj⟩:=List.getElem?_of_mem hy
 rw [List.getElem?_drop] at hj
 exact h.ne i (i + 1 + j) hi (x':=y.2) hj (by omega)
end Go.Proofs
end
section
namespace Go.Proofs
end Go.Proofs
end
section
open Go Go.AM
namespace Go.Proofs
set_option maxRecDepth 100000
theorem Zdn {nds:List (List UInt8 × List Int)} {L:List Nat} (h:Closed nds L) {a b:Nat} (ha:a ∈ L) (hb:b ∈ L):(clsF nds L)[a]? = (clsF nds L)[b]? ↔ ∀ r,sim nds r a b:=by
 obtain ⟨R,h1,h2,_⟩:=Z9f h
 rw [h1]
 exact Zgu h h2 ha hb
def Zqj (s:St) (v:AVal) (xs:List AVal):Prop:=(Z1b v = some 0∧xs = []) ∨
 ∃ b o c cs,v = .slice b o xs.length c∧s.Old b∧s.cells b = some cs∧o + xs.length ≤ cs.length∧∀ (i:Nat) x,xs[i]? = some x→cs[o + i]? = some x
theorem new_c {s0 s:St} {W:Pos→Prop} {r:Lets} {n:Int} {Q:AVal→St→Prop} (h:Ctx s0 W r s) (h1:1 ≤ n) (h2:n ≤ 400)
  (q:∀ hb m s',Z3s hb .nilSlice (List.replicate n.toNat Z37) m→Ctx s0 W (m ++ r) s'→Q (.tup [.ptr hb 0,.int .i64 0]) s'):Z0f Tryd.prog 10 [.int .i64 n] s Q:=by
 refine new_wp h.wf h1 h2 ?_
 have hV:∀ n:Nat,(List.replicate n [AVal.bool false,.str [],.nilSlice,.int .i64 0]).flatten = encs (rcs (List.replicate n Z37) (List.replicate n .nilSlice)):=by
  intro n
  simp [encs,rcs,RC.enc,Z37,List.zipWith_replicate,List.flatMap]
 have hR:∀ n:Nat,Z14 ((List.replicate n Z37).map CV.kids) (List.replicate n .nilSlice) []:=by
  intro n
  induction n with
  | zero => rfl
  | succ n ih =>
   rw [List.replicate_succ,List.replicate_succ]
   exact ⟨[],[],List.Perm.refl _,.inl ⟨rfl,rfl,rfl⟩,ih⟩
 have c1:=h.alloc (C (List.replicate n.toNat [AVal.bool false,.str [],.nilSlice,.int .i64 0]).flatten)
 have c2:=c1.alloc (C [.slice s.next 0 n.toNat (.lim n.toNat),.nilSlice])
 refine q _ _ _ (Z6e (p:=s.next) (V:=List.replicate n.toNat .nilSlice) (mr:=[]) (hR _) (by simp; omega) (by simp; omega)) ?_
 rw [List.length_replicate,← hV]
 exact c2
end Go.Proofs
end
