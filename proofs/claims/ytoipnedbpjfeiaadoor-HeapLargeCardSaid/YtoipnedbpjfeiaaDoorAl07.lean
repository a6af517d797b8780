/- Parts of the proof: Brd1, Brd2, Brd3, Hm1, Get1, Get2, Get3, Abr, Abr2, AC1, AC2, AC3, AC4, AC5, Ord, Mgd, Swp. -/
import Derived.Test.YtoipnedbpjfeiaaDoorAl06
set_option linter.all false
set_option linter.unusedSectionVars false
set_option linter.unusedSimpArgs false
set_option linter.unusedVariables false
section
/- breadth: what it is,and its closure. -/
open Go Go.AM
namespace Go.Proofs
set_option maxRecDepth 100000
/-! ### In plain -/
def addN (v:List Nat) (k:Nat):List Nat:=if k ∈ v then v else v ++ [k]
def Z0g (v:List Nat) (ks:List Nat):List Nat:=ks.foldl addN v
def runB (K:Nat→List Nat):Nat→List Nat→Nat→List Nat
 | 0,v,_ => v
 | f + 1,v,i => match v[i]? with
  | none => v
  | some a => runB K f (Z0g v (K a)) (i + 1)
def bfsF (K:Nat→List Nat) (n:Nat) (roots:List Nat):List Nat:=roots.foldl (fun v r => runB K (n + 1 - v.length) (addN v r) v.length) []
theorem Zvb {v:List Nat} {k a:Nat} (h:a ∈ v):a ∈ addN v k:=by
 unfold addN
 split
 ·exact h
 ·exact List.mem_append_left _ h
theorem Zn6 (v:List Nat) (k:Nat):∃ w,addN v k = v ++ w:=by
 unfold addN
 split
 ·exact ⟨[],by simp⟩
 ·exact ⟨[k],rfl⟩
theorem Z7w:∀ (ks v:List Nat),∃ w,Z0g v ks = v ++ w
 | [],v => ⟨[],by simp [Z0g]⟩
 | k :: ks,v => by
  obtain ⟨w,h⟩:=Zn6 v k
  obtain ⟨w',h'⟩:=Z7w ks (addN v k)
  exact ⟨w ++ w',by show Z0g (addN v k) ks = _; rw [h',h,List.append_assoc]⟩
theorem Zh7 {v ks:List Nat} {j k:Nat} (h:ks[j]? = some k):Z0g v (ks.take (j + 1)) = addN (Z0g v (ks.take j)) k:=by
 unfold Z0g
 rw [List.take_add_one,h,List.foldl_append]
 rfl
theorem Z9a {v:List Nat} {k:Nat} (h:v.Nodup):(addN v k).Nodup:=by
 unfold addN
 split
 ·exact h
 ·rename_i hk
  rw [List.nodup_append]
  exact ⟨h,by simp,by rintro a ha b hb rfl; simp at hb; exact hk (hb ▸ ha)⟩
theorem Zd4 {v:List Nat} {k n:Nat} (h:∀ a ∈ v,a < n) (hk:k < n):∀ a ∈ addN v k,a < n:=by
 unfold addN
 split
 ·exact h
 ·intro a ha
  rcases List.mem_append.1 ha with ha | ha
  ·exact h a ha
  ·simp at ha
   omega
theorem Zc2 {n:Nat}:∀ {ks v:List Nat},v.Nodup→(∀ a ∈ v,a < n)→(∀ k ∈ ks,k < n)→(Z0g v ks).Nodup∧∀ a ∈ Z0g v ks,a < n
 | [],v,h1,h2,_ => ⟨h1,h2⟩
 | k :: ks,v,h1,h2,h3 => Zc2 (ks:=ks) (v:=addN v k) (Z9a h1) (Zd4 h2 (h3 k (by simp))) (fun x hx => h3 x (by simp [hx]))
theorem Z2l:∀ {n:Nat} {v:List Nat},v.Nodup→(∀ a ∈ v,a < n)→v.length ≤ n
 | 0,v,_,h => by
  cases v with
  | nil => simp
  | cons a v => exact (Nat.not_lt_zero a (h a (by simp))).elim
 | n + 1,v,h1,h2 => by
  have ih:=Z2l (n:=n) (v:=v.erase n) (h1.erase n) (fun a ha => by
   have h3:=h2 a (List.mem_of_mem_erase ha)
   have h4:a ≠ n:=fun e => by
    subst e
    exact (List.Nodup.mem_erase_iff h1).1 ha |>.1 rfl
   omega)
  rw [List.length_erase] at ih
  split at ih <;> omega
/-! ### As it lies -/
def metL (n:Nat) (v:List Nat):List AVal:=(List.range n).map fun i => .bool (decide (i ∈ v))
theorem Z5h {n a:Nat} (v:List Nat) (h:a < n):(metL n v)[a]? = some (.bool (decide (a ∈ v))):=by
 unfold metL
 rw [List.getElem?_map,List.getElem?_range h]
 rfl
theorem Z38 (n:Nat) (v:List Nat):(metL n v).length = n:=by simp [metL]
theorem Zdr {n a:Nat} {v:List Nat} (h:a < n) (hv:a ∉ v):lay (metL n v) a [.bool true] = metL n (addN v a):=by
 have e:addN v a = v ++ [a]:=by unfold addN; rw [if_neg hv]
 refine List.ext_getElem? fun j => ?_
 unfold lay
 by_cases hj:j < n
 ·rw [Z5h _ hj]
  rcases Nat.lt_trichotomy j a with hl | rfl | hg
  ·rw [List.append_assoc,List.getElem?_append_left (by simp [Z38]; omega),List.getElem?_take_of_lt hl,Z5h _ hj,e]
   have:¬ j = a:=by omega
   simp [this]
  ·rw [List.append_assoc,List.getElem?_append_right (by simp [Z38]; omega)]
   simp [Z38,e,Nat.min_eq_left (Nat.le_of_lt h)]
  ·rw [List.getElem?_append_right (by simp [Z38]; omega),List.getElem?_drop]
   have e2:a + [AVal.bool true].length + (j - (List.take a (metL n v) ++ [AVal.bool true]).length) = j:=by simp [Z38]; omega
   rw [e2,Z5h _ hj,e]
   have:¬ j = a:=by omega
   simp [this]
 ·rw [List.getElem?_eq_none (by simp [Z38]; omega),List.getElem?_eq_none (by rw [Z38]; omega)]
def Z76 (qv:AVal) (g:List Int) (m:Lets):Prop:=(g = []∧qv = .nilSlice∧m = []) ∨ ∃ b pre,qv = .slice b pre.length g.length (.opn 1)∧m = [(b,C (ints (pre ++ g)))]
theorem Z76.len {qv:AVal} {g:List Int} {m:Lets} (h:Z76 qv g m):Z1b qv = some g.length:=by
 rcases h with ⟨rfl,rfl,_⟩ | ⟨q,_,rfl,_⟩ <;> rfl
theorem Z76.ntup {qv:AVal} {g:List Int} {m:Lets} (h:Z76 qv g m):∀ t,¬ qv = .tup t:=by
 rintro t rfl
 have:=h.len
 cases this
theorem Z76.cells {qv:AVal} {g:List Int} {m:Lets} (h:Z76 qv g m):qv.cells = [qv]:=by
 rcases h with ⟨rfl,rfl,_⟩ | ⟨q,_,rfl,_⟩ <;> rfl
theorem Zt7 {s0 s:St} {W:Pos→Prop} {r pre mg:Lets} {qv:AVal} {g:List Int} {x:Int} {Q:AVal→St→Prop} (h:Ctx s0 W (pre ++ (mg ++ r)) s) (hg:Z76 qv g mg) (hs:g.length ≤ 1000)
  (q:∀ qv' mg' s',Z76 qv' (g ++ [x]) mg'→Ctx s0 W (pre ++ (mg' ++ r)) s'→Q qv' s'):appP (1,8) qv [.int .i64 x] 1 s Q:=by
 rcases hg with ⟨rfl,rfl,rfl⟩ | ⟨b,p0,rfl,rfl⟩
 ·simp only [appP,Z3t]
  rw [if_neg (by decide)]
  refine ⟨by unfold Z0h; omega,?_⟩
  have:=h.alloc (C [.int .i64 x])
  refine q (.slice s.next 0 1 (.opn 1)) [(s.next,C (ints ([] ++ [x])))] _ (.inr ⟨_,[],rfl,rfl⟩) (this.perm ?_)
  simp only [List.nil_append]
  exact List.perm_middle.symm
 ·have hb:s.own b = some (ints (p0 ++ g)):=Z0n (h.own (b,C (ints (p0 ++ g))) (by simp))
  have h1:Ctx s0 W ((b,C (ints (p0 ++ g))) :: (pre ++ r)) s:=h.perm (by simp)
  have hn:(s.put b .dead).next = s.next:=rfl
  simp only [appP,Z3t]
  rw [if_neg (by decide)]
  refine ⟨trivial,?_⟩
  rw [hb]
  simp only [Z0u]
  by_cases hl:g.length = 0
  ·rw [if_pos hl]
   have hg0:g = []:=List.length_eq_zero_iff.1 hl
   subst hg0
   refine ⟨by unfold Z0h; omega,?_⟩
   have h2:=(h1.put0 .dead).tail.alloc (C [.int .i64 x])
   refine q (.slice s.next 0 1 (.opn 1)) [(s.next,C (ints ([] ++ ([] ++ [x]))))] _ (.inr ⟨_,[],rfl,rfl⟩) (h2.perm ?_)
   rw [hn]
   exact List.perm_middle.symm
  ·have h2:=(h1.put0 .dead).tail.alloc (C (ints g ++ [.int .i64 x]))
   rw [if_neg hl,if_neg (by simp)]
   refine ⟨by simp,by unfold Z0h; omega,?_⟩
   have ht:List.take (g.length * 1) (List.drop p0.length (ints (p0 ++ g))) = ints g:=by
    unfold ints
    rw [List.map_append,List.drop_left' (by simp)]
    exact List.take_of_length_le (by simp)
   rw [ht]
   have hi:ints g ++ [AVal.int .i64 x] = ints ([] ++ (g ++ [x])):=by simp [ints]
   rw [hi] at h2 ⊢
   refine q (.slice s.next 0 (g.length + 1) (.opn 1)) [(s.next,C (ints ([] ++ (g ++ [x]))))] _ (.inr ⟨_,[],by simp,rfl⟩) (h2.perm ?_)
   rw [hn]
   exact List.perm_middle.symm
abbrev nats (v:List Nat):List Int:=v.map fun (a:Nat) => (a:Int)
theorem Zxv {s0 s:St} {W:Pos→Prop} {n a:Nat} {v g:List Nat} {qv fv:AVal} {B7 B6 Bm B4:Pos} {pre mq m base:Lets} {J:List Nat→Lets→Prop} {Q:AVal→St→Prop}
  (hc:Ctx s0 W ((B7,C [qv]) :: (B6,C [.slice Bm 0 n (.lim n)]) :: (Bm,C (metL n v)) :: (B4,C [fv]) :: (pre ++ (mq ++ (m ++ base)))) s) (hq:Z76 qv (nats g) mq) (hg:g.length ≤ 1000) (hJ:J v m) (ha:a < n) (hft:∀ t,¬ fv = .tup t)
  (hmeet:∀ (x m:Lets) (s':St) (R:AVal→St→Prop),J v m→a ∉ v→Ctx s0 W (x ++ (m ++ base)) s'→(∀ u m' s'',J (v ++ [a]) m'→Ctx s0 W (x ++ (m' ++ base)) s''→R u s'')→Z2u Tryd.prog fv [.int .i64 a] s' R)
  (q:∀ qv' mq' m' s',Z76 qv' (nats (if a ∈ v then g else g ++ [a])) mq'→J (addN v a) m'→Ctx s0 W ((B7,C [qv']) :: (B6,C [.slice Bm 0 n (.lim n)]) :: (Bm,C (metL n (addN v a))) :: (B4,C [fv]) :: (pre ++ (mq' ++ (m' ++ base)))) s'→Q (.tup []) s') :
  Z0b Tryd.prog 97 [.int .i64 a,.ptr B6 0,.ptr B7 0,.ptr B4 0] s Q:=by
 have hget:=Z5h v ha
 refine Z07 (Z0e (by decide)) fi97 rfl (by decide) rfl ?_
 refine Z00 ?_
 simp [hc.c 1 rfl,hc.c 2 rfl,ha,hget]
 refine AM.Z04 ?_
 by_cases hv:a ∈ v
 ·simp [hv]
  refine AM.wp_skip ?_
  simp
  refine q qv mq m s (by rw [if_pos hv]; exact hq) ?_ ?_
  ·unfold addN
   rw [if_pos hv]
   exact hJ
  ·unfold addN
   rw [if_pos hv]
   exact hc
 ·have hset:=Zdr ha hv
  have hle:a + 1 ≤ (metL n v).length:=by rw [Z38]; omega
  simp [lay] at hset
  simp [hv]
  refine Z00 ?_
  simp [hc.c 1 rfl,hc.c 2 rfl,hc.o 2 rfl,ha,hle]
  rw [hset]
  have c1:=hc.put 2 rfl (C (metL n (addN v a)))
  simp only [List.set_cons_succ,List.set_cons_zero] at c1
  generalize s.put Bm (.cells (metL n (addN v a)) false) = s1 at c1 ⊢
  refine Z00 ?_
  simp [c1.c 0 rfl,hq.ntup,hq.cells,Z1p,srcP]
  have c2:=c1.alloc (C [.int .i64 a])
  generalize s1.alloc (.cells [.int .i64 a] false) = s2 at c2 ⊢
  generalize s1.next = T at c2 ⊢
  refine Zt7 (pre:=(T,C [.int .i64 a]) :: (B7,C [qv]) :: (B6,C [.slice Bm 0 n (.lim n)]) :: (Bm,C (metL n (addN v a))) :: (B4,C [fv]) :: pre) (r:=m ++ base) (by simpa using c2) hq (by simpa using hg) fun qv' mq' s3 hq' c3 => ?_
  simp only [List.cons_append] at c3
  simp [hq'.ntup,hq'.cells,c3.o 1 rfl]
  have c4:=(c3.put 1 rfl (C [qv'])).tail
  simp only [List.set_cons_succ,List.set_cons_zero] at c4
  generalize s3.put B7 (.cells [qv'] false) = s4 at c4 ⊢
  refine AM.wp_region ?_
  simp [c4.c 3 rfl,hft]
  refine hmeet ((B7,C [qv']) :: (B6,C [.slice Bm 0 n (.lim n)]) :: (Bm,C (metL n (addN v a))) :: (B4,C [fv]) :: (pre ++ mq')) m s4 _ hJ hv (by simpa using c4) fun u m' s5 hJ' c5 => ?_
  simp
  refine q qv' mq' m' s5 (by rw [if_neg hv]; simpa using hq') ?_ (by simpa using c5)
  unfold addN
  rw [if_neg hv]
  exact hJ'
end Go.Proofs
end
section
/- breadth: the contract. -/
open Go Go.AM
namespace Go.Proofs
set_option maxRecDepth 100000
def kidN (cs:List CV) (a:Nat):List Nat:=(Z0j cs a).map Int.toNat
theorem Zfn {K:Nat→List Nat} {f:Nat} {v:List Nat} {i:Nat} (h:v.length ≤ i):runB K f v i = v:=by
 cases f with
 | zero => rfl
 | succ f =>
  unfold runB
  rw [List.getElem?_eq_none h]
theorem Zet {K:Nat→List Nat} {n:Nat} {v:List Nat} {i a:Nat} (hi:i ≤ n) (h:v[i]? = some a):runB K (n + 1 - i) v i = runB K (n + 1 - (i + 1)) (Z0g v (K a)) (i + 1):=by
 have e:n + 1 - i = (n + 1 - (i + 1)) + 1:=by omega
 rw [e]
 show (match v[i]? with | none => v | some a => runB K (n + 1 - (i + 1)) (Z0g v (K a)) (i + 1)) = _
 rw [h]
section
variable {s0 s:St} {W:Pos→Prop} {p:Pos} {cs:List CV} {V:List AVal} {base m0:Lets} {rv:AVal} {roots:List Nat} {J:List Nat→Lets→Prop} {f:Nat} {fx fy:List AVal}
structure Leans (s0:St) (W:Pos→Prop) (p:Pos) (cs:List CV) (V:List AVal) (base:Lets) (rv:AVal) (roots:List Nat) (J:List Nat→Lets→Prop) (fv:AVal):Prop where
 len:V.length = cs.length
 max:cs.length ≤ 400
 read:∀ (x m:Lets) s',Ctx s0 W (x ++ (m ++ base)) s'→(∃ v,J v m)→s'.Old p∧s'.cells p = some (encs (rcs cs V))∧Z0c s' rv (nats roots)∧∀ (i:Nat) (d:CV),cs[i]? = some d→∃ kv,V[i]? = some kv∧Z0c s' kv d.kids
 roots_ok:∀ a ∈ roots,a < cs.length
 rlen:roots.length ≤ 400
 kids:∀ a,a < cs.length→(Z0j cs a).length ≤ 4∧∀ k ∈ Z0j cs a,0 ≤ k∧k < cs.length
 meet:∀ (a:Nat) (v:List Nat) (x m:Lets) (s':St) (R:AVal→St→Prop),J v m→a ∉ v→a < cs.length→v.Nodup→(∀ y ∈ v,y < cs.length)→Ctx s0 W (x ++ (m ++ base)) s'→(∀ u m' s'',J (v ++ [a]) m'→Ctx s0 W (x ++ (m' ++ base)) s''→R u s'')→Z2u Tryd.prog fv [.int .i64 a] s' R
def BrdI (s0:St) (W:Pos→Prop) (p:Pos) (n:Nat) (base:Lets) (J:List Nat→Lets→Prop) (fv:AVal) (B7 B6 Bm B4 B3:Pos) (v g:List Nat) (s:St):Prop :=
 ∃ qv mq m,Z76 qv (nats g) mq∧J v m∧v.Nodup∧(∀ a ∈ v,a < n)∧Ctx s0 W ((B7,C [qv]) :: (B6,C [.slice Bm 0 n (.lim n)]) :: (Bm,C (metL n v)) :: (B4,C [fv]) :: (B3,C [.slice p 0 n (.lim n)]) :: (mq ++ (m ++ base))) s
theorem Zn5 {B7 B6 Bm B4 B3:Pos} {v g:List Nat} {a:Nat} {Q:AVal→St→Prop} (hL:Leans s0 W p cs V base rv roots J (.fn f fx fy)) (h:BrdI s0 W p cs.length base J (.fn f fx fy) B7 B6 Bm B4 B3 v g s) (hg:g.length ≤ 1000) (ha:a < cs.length)
  (q:∀ s',BrdI s0 W p cs.length base J (.fn f fx fy) B7 B6 Bm B4 B3 (addN v a) (if a ∈ v then g else g ++ [a]) s'→Q (.tup []) s'):Z2u Tryd.prog (.fn 97 [] [.ptr B6 0,.ptr B7 0,.ptr B4 0]) [.int .i64 a] s Q:=by
 obtain ⟨qv,mq,m,h1,h2,h3,h4,h5⟩:=h
 refine Z02 ?_
 refine Zxv (pre:=[(B3,C [.slice p 0 cs.length (.lim cs.length)])]) (by simpa using h5) h1 hg h2 ha (by simp) (fun x m s' R hJ hv hc hR => hL.meet a v x m s' R hJ hv ha h3 h4 hc hR) fun qv' mq' m' s' g1 g2 g3 => ?_
 exact q s' ⟨qv',mq',m',g1,g2,Z9a h3,Zd4 h4 ha,by simpa using g3⟩
theorem Zvk {fr:FI} {t0:PT AVal} {B7 B6 Bm B4 B3:Pos} {v:List Nat} {i a:Nat} {Q:Ex→PT AVal→St→Prop} (hL:Leans s0 W p cs V base rv roots J (.fn f fx fy)) (h:BrdI s0 W p cs.length base J (.fn f fx fy) B7 B6 Bm B4 B3 v (v.drop i) s) (hi:v[i]? = some a)
  (t3:PT.get (posOf 3) t0 = some (.ptr B3 0)) (t7:PT.get (posOf 7) t0 = some (.ptr B7 0)) (t8:PT.get (posOf 8) t0 = some (.fn 97 [] [.ptr B6 0,.ptr B7 0,.ptr B4 0]))
  (q:∀ t s',Fr [12,32,33,34,35,36,37,38,39,40,41,42] t0 t→BrdI s0 W p cs.length base J (.fn f fx fy) B7 B6 Bm B4 B3 (Z0g v (kidN cs a)) ((Z0g v (kidN cs a)).drop i) s'→Q .normal t s'):wp Tryd.prog Zsy fr t0 s Q:=by
 have hil:i < v.length:=(List.getElem?_eq_some_iff.1 hi).1
 obtain ⟨qv,mq,m,h1,h2,h3,h4,h5⟩:=h
 have ha:a < cs.length:=h4 a (List.mem_of_getElem? hi)
 have hcd:cs[a]? = some cs[a]:=List.getElem?_eq_getElem ha
 obtain ⟨r1,r2,_,r4⟩:=hL.read ((B7,C [qv]) :: (B6,C [.slice Bm 0 cs.length (.lim cs.length)]) :: (Bm,C (metL cs.length v)) :: (B4,C [.fn f fx fy]) :: (B3,C [.slice p 0 cs.length (.lim cs.length)]) :: mq) m s (by simpa using h5) ⟨v,h2⟩
 obtain ⟨kv,k1,k2⟩:=r4 a _ hcd
 have hko:=Z13 hcd
 obtain ⟨l4,lin⟩:=hL.kids a ha
 rw [hko] at l4 lin
 have hg2:(encs (rcs cs V))[a * 4 + 2]? = some kv:=Z2k _ a 2 _ (Z18 hcd k1) (by decide)
 have hdr:v.drop i = a :: v.drop (i + 1):=by
  rw [List.drop_eq_getElem_cons hil]
  congr 1
  have:=List.getElem?_eq_getElem hil
  rw [hi] at this
  exact (Option.some.inj this).symm
 have hq0:∃ b pre,qv = .slice b pre.length (v.drop i).length (.opn 1)∧mq = [(b,C (ints (pre ++ nats (v.drop i))))]:=by
  rcases h1 with ⟨e,_⟩ | ⟨b,pre,e1,e2⟩
  ·rw [hdr] at e
   simp at e
  ·exact ⟨b,pre,by simpa using e1,e2⟩
 obtain ⟨bq,pre,rfl,rfl⟩:=hq0
 have hqc:s.cells bq = some (ints (pre ++ nats (v.drop i))):=h5.c 5 rfl
 have hqh:(ints (pre ++ nats (v.drop i)))[pre.length]? = some (.int .i64 a):=by
  unfold ints
  rw [List.getElem?_map,List.getElem?_append_right (Nat.le_refl _),Nat.sub_self,hdr]
  rfl
 have hlen1:0 < (v.drop i).length:=by rw [hdr]; simp
 have hlen0:(0:Int) < ((v.drop i).length:Int):=by omega
 clear hdr
 generalize hgd:v.drop i = g0 at h5 hqc hqh hlen0 hlen1
 obtain ⟨qcs,hqcs⟩:∃ x,x = ints (pre ++ nats g0):=⟨_,rfl⟩
 rw [← hqcs] at hqc hqh
 refine Z00 ?_
 have hkt:=k2.ntup
 have hkl:=k2.len
 simp [t3,t7,h5.c 4 rfl,h5.c 0 rfl,hqc,hqh,hlen0,hlen1,r2,hg2,ha,hkt,hkl]
 refine AM.wp_block ?_
 refine AM.wp_loop (fun k t s' => ∃ (j:Nat),j ≤ (Z0j cs a).length∧k = (Z0j cs a).length - j∧Fr [12,32,33,34,35,36,37,38,39,40,41,42] t0 t∧PT.get (posOf 39) t = some kv∧PT.get (posOf 40) t = some (.int .i64 (Z0j cs a).length)∧PT.get (posOf 41) t = some (.int .i64 j) ∧
   BrdI s0 W p cs.length base J (.fn f fx fy) B7 B6 Bm B4 B3 (Z0g v ((kidN cs a).take j)) ((Z0g v ((kidN cs a).take j)).drop i) s') (Z0j cs a).length
  ⟨0,by simp,by simp,?_,by simp,by simp [hko],by simp,by
   have:BrdI s0 W p cs.length base J (.fn f fx fy) B7 B6 Bm B4 B3 v g0 s:=⟨_,_,m,.inr ⟨bq,pre,by simp,rfl⟩,h2,h3,h4,h5⟩
   rw [← hgd] at this
   simpa [Z0g] using this⟩ ?_
 ·intro y hy
  simp at hy
  simp [hy]
 rintro k t s' ⟨j,hj,rfl,hF,t39,t40,t41,hI⟩
 refine Z00 ?_
 simp [t40,t41]
 refine AM.wp_seq ?_
 refine AM.Z04 ?_
 by_cases hlt:j < (Z0j cs a).length
 ·have hwr:IntKind.wrap .i64 ((j:Int) + 1) = ((j + 1:Nat):Int):=by rw [hko] at hlt; rw [IntWalk.i64_in _ (by omega)]; omega
  obtain ⟨kk,hkk⟩:∃ kk,(Z0j cs a)[j]? = some kk:=⟨_,List.getElem?_eq_getElem hlt⟩
  have hkm:=List.mem_of_getElem? hkk
  obtain ⟨kk0,kk1⟩:=lin kk (hko ▸ hkm)
  obtain ⟨kn,rfl⟩:∃ kn:Nat,kk = (kn:Int):=⟨kk.toNat,by omega⟩
  have hkN:(kidN cs a)[j]? = some kn:=by unfold kidN; rw [List.getElem?_map,hkk]; rfl
  have u8:=(hF 8 (by simp)).trans t8
  obtain ⟨qv2,mq2,m2,e1,e2,e3,e4,e5⟩:=hI
  obtain ⟨_,_,_,x4⟩:=hL.read ((B7,C [qv2]) :: (B6,C [.slice Bm 0 cs.length (.lim cs.length)]) :: (Bm,C (metL cs.length (Z0g v ((kidN cs a).take j)))) :: (B4,C [.fn f fx fy]) :: (B3,C [.slice p 0 cs.length (.lim cs.length)]) :: mq2) m2 s' (by simpa using e5) ⟨_,e2⟩
  obtain ⟨kv2,y1,y2⟩:=x4 a _ hcd
  rw [k1] at y1
  cases y1
  rw [← hko] at y2
  rcases y2 with ⟨_,h0⟩ | ⟨b,o,c,cells,rfl,hb,hcs,hle,hel⟩
  ·rw [h0] at hlt
   simp at hlt
  have hgk:=hel j _ hkk
  simp [hlt]
  refine AM.wp_skip ?_
  simp
  refine AM.wp_seq ?_
  refine AM.wp_block ?_
  refine Z00 ?_
  simp [t39,t41,hlt,hcs,hgk]
  refine AM.wp_region ?_
  simp [u8]
  have hglen:((Z0g v ((kidN cs a).take j)).drop i).length ≤ 1000:=by
   have:=Z2l e3 e4
   have hm:=hL.max
   rw [List.length_drop]
   omega
  refine Zn5 (a:=kn) hL ⟨qv2,mq2,m2,e1,e2,e3,e4,e5⟩ hglen (by omega) fun s3 hI3 => ?_
  have hnx:=Zh7 (v:=v) hkN
  have hil2:i ≤ (Z0g v ((kidN cs a).take j)).length:=by
   obtain ⟨w,hw⟩:=Z7w ((kidN cs a).take j) v
   rw [hw,List.length_append]
   omega
  have hdn:(addN (Z0g v ((kidN cs a).take j)) kn).drop i = if kn ∈ Z0g v ((kidN cs a).take j) then (Z0g v ((kidN cs a).take j)).drop i else (Z0g v ((kidN cs a).take j)).drop i ++ [kn]:=by
   unfold addN
   split
   ·rfl
   ·rw [List.drop_append_of_le_length hil2]
  rw [← hdn,← hnx] at hI3
  simp
  refine AM.wp_region ?_
  simp [t41,hwr]
  refine ⟨(Z0j cs a).length - (j + 1),by omega,j + 1,by omega,by omega,?_,by simp [t39],by simp [t40],by simp,hI3⟩
  intro y hy
  simp at hy
  simp [hy]
  exact hF y (by simp [hy])
 ·simp [hlt]
  refine AM.wp_exit ?_
  simp
  have hje:j = (Z0j cs a).length:=by omega
  subst hje
  have htk:(kidN cs a).take (Z0j cs a).length = kidN cs a:=List.take_of_length_le (by simp [kidN])
  rw [htk] at hI
  refine q _ s' ?_ hI
  intro y hy
  simp at hy
  simp [hy]
  exact hF y (by simp [hy])
end
end Go.Proofs
end
section
/- breadth: the contract. -/
open Go Go.AM
namespace Go.Proofs
set_option maxRecDepth 100000
section
variable {s0 s:St} {W:Pos→Prop} {p:Pos} {cs:List CV} {V:List AVal} {base m0:Lets} {rv:AVal} {roots:List Nat} {J:List Nat→Lets→Prop} {f:Nat} {fx fy:List AVal}
theorem Zna (K:Nat→List Nat):∀ (f:Nat) (v:List Nat) (i:Nat),∃ w,runB K f v i = v ++ w
 | 0,v,i => ⟨[],by simp [runB]⟩
 | f + 1,v,i => by
  unfold runB
  cases v[i]? with
  | none => exact ⟨[],by simp⟩
  | some a =>
   obtain ⟨w,h⟩:=Z7w (K a) v
   obtain ⟨w',h'⟩:=Zna K f (Z0g v (K a)) (i + 1)
   refine ⟨w ++ w',?_⟩
   show runB K f (Z0g v (K a)) (i + 1) = _
   rw [h',h,List.append_assoc]
theorem Zxn {fr:FI} {t0:PT AVal} {B7 B6 Bm B4 B3:Pos} {v:List Nat} {i:Nat} {Q:Ex→PT AVal→St→Prop} (hL:Leans s0 W p cs V base rv roots J (.fn f fx fy)) (h:BrdI s0 W p cs.length base J (.fn f fx fy) B7 B6 Bm B4 B3 v (v.drop i) s) (hi:i ≤ cs.length)
  (t3:PT.get (posOf 3) t0 = some (.ptr B3 0)) (t7:PT.get (posOf 7) t0 = some (.ptr B7 0)) (t8:PT.get (posOf 8) t0 = some (.fn 97 [] [.ptr B6 0,.ptr B7 0,.ptr B4 0]))
  (q:∀ t s',Fr [12,29,32,33,34,35,36,37,38,39,40,41,42] t0 t→BrdI s0 W p cs.length base J (.fn f fx fy) B7 B6 Bm B4 B3 (runB (kidN cs) (cs.length + 1 - i) v i) [] s'→Q .normal t s'):wp Tryd.prog Zsr fr t0 s Q:=by
 refine AM.wp_block ?_
 refine AM.wp_loop (fun k t s' => ∃ (j:Nat) (u:List Nat),j ≤ cs.length∧k = cs.length + 1 - j∧Fr [12,29,32,33,34,35,36,37,38,39,40,41,42] t0 t∧runB (kidN cs) (cs.length + 1 - i) v i = runB (kidN cs) (cs.length + 1 - j) u j ∧
   BrdI s0 W p cs.length base J (.fn f fx fy) B7 B6 Bm B4 B3 u (u.drop j) s') (cs.length + 1 - i) ⟨i,v,hi,rfl,fun y _ => rfl,rfl,h⟩ ?_
 rintro k t s' ⟨j,u,hj,rfl,hF,hrun,hI⟩
 have u3:=(hF 3 (by simp)).trans t3
 have u7:=(hF 7 (by simp)).trans t7
 have u8:=(hF 8 (by simp)).trans t8
 obtain ⟨qv,mq,m,e1,e2,e3,e4,e5⟩:=id hI
 have hul:=Z2l e3 e4
 refine AM.wp_seq ?_
 refine Z00 ?_
 have hql:=e1.len
 have hqt:=e1.ntup
 rw [List.length_map,List.length_drop] at hql
 by_cases hlt:j < u.length
 ·have hpos:0 < u.length - j:=by omega
  obtain ⟨a,ha⟩:∃ a,u[j]? = some a:=⟨_,List.getElem?_eq_getElem hlt⟩
  simp [u7,e5.c 0 rfl,hql,hqt,hpos]
  refine AM.Z04 ?_
  simp
  refine AM.wp_skip ?_
  simp
  refine AM.wp_seq ?_
  refine AM.wp_block ?_
  refine Zvk hL hI ha (by simp [u3]) (by simp [u7]) (by simp [u8]) fun t2 s2 hF2 hI2 => ?_
  obtain ⟨qv2,mq2,m2,g1,g2,g3,g4,g5⟩:=hI2
  have w7:PT.get (posOf 7) t2 = some (.ptr B7 0):=(hF2 7 (by simp)).trans (by simp [u7])
  obtain ⟨w,hw⟩:=Z7w (kidN cs a) u
  have hjl:j < (Z0g u (kidN cs a)).length:=by rw [hw,List.length_append]; omega
  have hdr:(Z0g u (kidN cs a)).drop j = (Z0g u (kidN cs a))[j] :: (Z0g u (kidN cs a)).drop (j + 1):=List.drop_eq_getElem_cons hjl
  have hq0:∃ b pre,qv2 = .slice b pre.length ((Z0g u (kidN cs a)).length - j) (.opn 1)∧mq2 = [(b,C (ints (pre ++ nats ((Z0g u (kidN cs a)).drop j))))]:=by
   rcases g1 with ⟨e,_⟩ | ⟨b,pre,e1,e2⟩
   ·have:=congrArg List.length e
    rw [List.length_map,List.length_drop] at this
    simp at this
    omega
   ·exact ⟨b,pre,by rw [List.length_map,List.length_drop] at e1; exact e1,e2⟩
  obtain ⟨b,pre,rfl,rfl⟩:=hq0
  simp
  refine AM.wp_region ?_
  simp [w7,g5.c 0 rfl]
  refine Zmy (a:=1) (b:=(Z0g u (kidN cs a)).length - j) (p:=b) (off:=pre.length) (n:=(Z0g u (kidN cs a)).length - j) (by simp) ⟨.i64,by simp⟩ rfl (by omega) (Nat.le_refl _) ?_
  simp [w7,g5.o 0 rfl]
  have c6:=g5.put 0 rfl (C [.slice b (pre.length + 1) ((Z0g u (kidN cs a)).length - j - 1) (.opn 1)])
  simp only [List.set_cons_zero] at c6
  refine ⟨cs.length + 1 - (j + 1),by omega,j + 1,by omega,rfl,?_,Z0g u (kidN cs a),?_,?_⟩
  ·intro y hy
   simp at hy
   rw [hF2 y (by simp [hy])]
   simp [hy]
   exact hF y (by simp [hy])
  ·rw [hrun,Zet hj ha]
  ·refine ⟨.slice b (pre.length + 1) ((Z0g u (kidN cs a)).length - j - 1) (.opn 1),_,m2,.inr ⟨b,pre ++ [(((Z0g u (kidN cs a))[j]:Nat):Int)],?_,rfl⟩,g2,g3,g4,?_⟩
   ·rw [List.length_map,List.length_drop,List.length_append,List.length_singleton]
    rfl
   ·have e:pre ++ [(((Z0g u (kidN cs a))[j]:Nat):Int)] ++ nats ((Z0g u (kidN cs a)).drop (j + 1)) = pre ++ nats ((Z0g u (kidN cs a)).drop j):=by
     rw [hdr,List.append_assoc]
     rfl
    rw [e]
    exact c6
 ·have hz:u.length - j = 0:=by omega
  have hd0:u.drop j = []:=List.drop_eq_nil_of_le (by omega)
  simp [u7,e5.c 0 rfl,hql,hqt,hz]
  refine AM.Z04 ?_
  simp
  refine AM.wp_exit ?_
  simp
  rw [hrun,Zfn (by omega)] at q
  rw [hd0] at hI
  refine q _ s' ?_ hI
  intro y hy
  simp at hy
  simp [hy]
  exact hF y (by simp [hy])
theorem Zu4 {K:Nat→List Nat} {n:Nat} (hK:∀ a,a < n→∀ k ∈ K a,k < n):∀ (f:Nat) (v:List Nat) (i:Nat),v.Nodup→(∀ a ∈ v,a < n)→(runB K f v i).Nodup∧∀ a ∈ runB K f v i,a < n
 | 0,v,i,h1,h2 => ⟨h1,h2⟩
 | f + 1,v,i,h1,h2 => by
  unfold runB
  cases hv:v[i]? with
  | none => exact ⟨h1,h2⟩
  | some a =>
   obtain ⟨h3,h4⟩:=Zc2 h1 h2 (hK a (h2 a (List.mem_of_getElem? hv)))
   exact Zu4 hK f _ _ h3 h4
theorem Zfo {Q:AVal→St→Prop} (hL:Leans s0 W p cs V base rv roots J (.fn f fx fy)) (hc:Ctx s0 W (m0 ++ base) s) (hJ:J [] m0) (hrt:∀ t,¬ rv = .tup t)
  (q:∀ (x m:Lets) s',J (bfsF (kidN cs) cs.length roots) m→Ctx s0 W (x ++ (m ++ base)) s'→Q (.tup []) s'):Z0b Tryd.prog 66 [.agg [.slice p 0 cs.length (.lim cs.length)],.fn f fx fy,rv] s Q:=by
 have hmax:=hL.max
 refine Z07 (Z0e (by decide)) fi66 rfl (by decide) rfl ?_
 refine Z00 ?_
 simp
 have c1:=hc.alloc (C [.slice p 0 cs.length (.lim cs.length)])
 generalize s.alloc (.cells [.slice p 0 cs.length (.lim cs.length)] false) = s1 at c1 ⊢
 generalize s.next = B3 at c1 ⊢
 have c2:=c1.alloc (C [.fn f fx fy])
 generalize s1.alloc (.cells [.fn f fx fy] false) = s2 at c2 ⊢
 generalize s1.next = B4 at c2 ⊢
 have hz1:cs.length ≤ Z0h:=by unfold Z0h; omega
 refine Z00 ?_
 simp [c2.c 1 rfl,hz1]
 have c3:=c2.alloc (C (List.replicate cs.length (.bool false)))
 generalize s2.alloc (.cells (List.replicate cs.length (.bool false)) false) = s3 at c3 ⊢
 generalize s2.next = Bm at c3 ⊢
 have c4:=(c3.alloc (C [.nilSlice])).put 0 rfl (C [.slice Bm 0 cs.length (.lim cs.length)])
 simp only [List.set_cons_zero] at c4
 generalize (s3.alloc (.cells [.nilSlice] false)).put s3.next (.cells [.slice Bm 0 cs.length (.lim cs.length)] false) = s4 at c4 ⊢
 generalize s3.next = B6 at c4 ⊢
 refine Z00 ?_
 simp
 have c5:=c4.alloc (C [.nilSlice])
 generalize s4.alloc (.cells [.nilSlice] false) = s5 at c5 ⊢
 generalize s4.next = B7 at c5 ⊢
 have hm0:List.replicate cs.length (AVal.bool false) = metL cs.length []:=by
  refine List.ext_getElem? fun j => ?_
  by_cases hj:j < cs.length
  ·rw [Z5h _ hj,List.getElem?_replicate,if_pos hj]
   simp
  ·rw [List.getElem?_eq_none (by simp; omega),List.getElem?_eq_none (by rw [Z38]; omega)]
 rw [hm0] at c5
 have hI0:BrdI s0 W p cs.length base J (.fn f fx fy) B7 B6 Bm B4 B3 [] [] s5:=by
  refine ⟨.nilSlice,[],m0,.inl ⟨rfl,rfl,rfl⟩,hJ,by simp,by simp,c5.perm ?_⟩
  refine List.Perm.cons _ (List.Perm.cons _ (List.Perm.cons _ ?_))
  exact List.Perm.refl _
 refine Z00 ?_
 simp
 obtain ⟨_,_,hrv,_⟩:=hL.read [(B7,C [.nilSlice]),(B6,C [.slice Bm 0 cs.length (.lim cs.length)]),(Bm,C (metL cs.length [])),(B4,C [.fn f fx fy]),(B3,C [.slice p 0 cs.length (.lim cs.length)])] m0 s5 (by simpa using c5) ⟨_,hJ⟩
 have hrl:=hrv.len
 have hrlen:=hL.rlen
 rw [List.length_map] at hrl
 refine Z00 ?_
 simp [hrt,hrl]
 refine AM.wp_block ?_
 refine AM.wp_loop (fun k t s' => ∃ (j:Nat),j ≤ roots.length∧k = roots.length - j∧PT.get (posOf 3) t = some (.ptr B3 0)∧PT.get (posOf 7) t = some (.ptr B7 0)∧PT.get (posOf 8) t = some (.fn 97 [] [.ptr B6 0,.ptr B7 0,.ptr B4 0])∧PT.get (posOf 18) t = some rv∧PT.get (posOf 19) t = some (.int .i64 roots.length)∧PT.get (posOf 20) t = some (.int .i64 j) ∧
   BrdI s0 W p cs.length base J (.fn f fx fy) B7 B6 Bm B4 B3 (bfsF (kidN cs) cs.length (roots.take j)) [] s') roots.length
  ⟨0,by simp,by simp,by simp,by simp,by simp,by simp,by simp,by simp,by simpa [bfsF] using hI0⟩ ?_
 rintro k t s' ⟨j,hj,rfl,t3,t7,t8,t18,t19,t20,hI⟩
 refine Z00 ?_
 simp [t19,t20]
 refine AM.wp_seq ?_
 refine AM.Z04 ?_
 by_cases hlt:j < roots.length
 ·have hwr:IntKind.wrap .i64 ((j:Int) + 1) = ((j + 1:Nat):Int):=by rw [IntWalk.i64_in _ (by omega)]; omega
  obtain ⟨a,ha⟩:∃ a,roots[j]? = some a:=⟨_,List.getElem?_eq_getElem hlt⟩
  have han:=hL.roots_ok a (List.mem_of_getElem? ha)
  obtain ⟨qv,mq,m,e1,e2,e3,e4,e5⟩:=id hI
  obtain ⟨_,_,hrv',_⟩:=hL.read ((B7,C [qv]) :: (B6,C [.slice Bm 0 cs.length (.lim cs.length)]) :: (Bm,C (metL cs.length (bfsF (kidN cs) cs.length (roots.take j)))) :: (B4,C [.fn f fx fy]) :: (B3,C [.slice p 0 cs.length (.lim cs.length)]) :: mq) m s' (by simpa using e5) ⟨_,e2⟩
  rcases hrv' with ⟨_,h0⟩ | ⟨b,o,c,cells,rfl,hb,hcs,hle,hel⟩
  ·have:roots = []:=by simpa using h0
   rw [this] at hlt
   simp at hlt
  have hgk:=hel j (a:Int) (by rw [List.getElem?_map,ha]; rfl)
  rw [List.length_map] at t18
  simp [hlt]
  refine AM.wp_skip ?_
  simp
  refine AM.wp_seq ?_
  refine AM.wp_block ?_
  refine Z00 ?_
  simp [t18,t20,hlt,hcs,hgk]
  refine Z00 ?_
  simp [t8]
  refine Zn5 (a:=a) hL hI (by simp) han fun s2 hI2 => ?_
  have hul:=Z2l e3 e4
  have hdn:(addN (bfsF (kidN cs) cs.length (roots.take j)) a).drop (bfsF (kidN cs) cs.length (roots.take j)).length = if a ∈ bfsF (kidN cs) cs.length (roots.take j) then [] else [] ++ [a]:=by
   unfold addN
   split
   ·exact List.drop_eq_nil_of_le (Nat.le_refl _)
   ·rw [List.drop_left]
    rfl
  rw [← hdn] at hI2
  simp
  refine Zxn hL hI2 hul (by simp [t3]) (by simp [t7]) (by simp [t8]) fun t3' s3 hF3 hI3 => ?_
  have hfin:runB (kidN cs) (cs.length + 1 - (bfsF (kidN cs) cs.length (roots.take j)).length) (addN (bfsF (kidN cs) cs.length (roots.take j)) a) (bfsF (kidN cs) cs.length (roots.take j)).length = bfsF (kidN cs) cs.length (roots.take (j + 1)):=by
   unfold bfsF
   rw [List.take_add_one,ha,List.foldl_append]
   rfl
  rw [hfin] at hI3
  simp
  have w20:=(hF3 20 (by simp))
  simp [t20] at w20
  refine AM.wp_region ?_
  simp [w20,hwr]
  refine ⟨roots.length - (j + 1),by omega,j + 1,by omega,by omega,?_,?_,?_,?_,?_,rfl,hI3⟩
  ·rw [hF3 3 (by simp)]
   simp [t3]
  ·rw [hF3 7 (by simp)]
   simp [t7]
  ·rw [hF3 8 (by simp)]
   simp [t8]
  ·rw [hF3 18 (by simp)]
   simp [t18]
  ·rw [hF3 19 (by simp)]
   simp [t19]
 ·simp [hlt]
  refine AM.wp_exit ?_
  simp
  have hje:j = roots.length:=by omega
  subst hje
  rw [List.take_length] at hI
  obtain ⟨qv,mq,m,e1,e2,e3,e4,e5⟩:=hI
  exact q ((B7,C [qv]) :: (B6,C [.slice Bm 0 cs.length (.lim cs.length)]) :: (Bm,C (metL cs.length (bfsF (kidN cs) cs.length roots))) :: (B4,C [.fn f fx fy]) :: (B3,C [.slice p 0 cs.length (.lim cs.length)]) :: mq) m s' e2 (by simpa using e5)
end
end Go.Proofs
end
section
/- A heap as blocks that lie apart: Hold,Drop,Free,Held. -/
open Go Go.AM
namespace Go.Proofs
set_option maxRecDepth 100000
theorem Z5a {s0 s:St} {W:Pos→Prop} {hb:Pos} {vs:AVal} {cs:List CV} {m r:Lets} (hH:Z1m hb vs cs m) (h:Ctx s0 W (m ++ r) s):∃ p V mr,Ctx s0 W ((hb,C [.slice p 0 cs.length (.lim cs.length),vs]) :: (p,C (encs (rcs cs V))) :: (mr ++ r)) s∧Z0x (cs.map CV.kids) V mr∧V.length = cs.length∧1 ≤ cs.length∧cs.length ≤ 400 ∧
  m.Perm ((hb,C [.slice p 0 cs.length (.lim cs.length),vs]) :: (p,C (encs (rcs cs V))) :: mr):=by
 obtain ⟨p,V,mr,hp,hR,h1,h4⟩:=hH
 refine ⟨p,V,mr,h.perm ?_,hR,by simpa using hR.len,h1,h4,hp⟩
 simpa using hp.append (List.Perm.refl r)
def setH (cs:List CV) (k:Nat) (x:Int):List CV:=match cs[k]? with
 | some c => cs.set k { c with held:=x }
 | none => cs
theorem Zvm (cs:List CV) (k:Nat) (x:Int):(setH cs k x).length = cs.length:=by
 unfold setH
 split <;> simp
theorem Zs1 (cs:List CV) (k:Nat) (x:Int):(setH cs k x).map CV.kids = cs.map CV.kids:=by
 unfold setH
 split
 ·rename_i c hc
  rw [List.map_set]
  refine List.ext_getElem? fun j => ?_
  rw [List.getElem?_set]
  split
  ·rename_i e
   subst e
   have:=(List.getElem?_eq_some_iff.1 hc).1
   rw [if_pos (by simpa using this),List.getElem?_map,hc]
   rfl
  ·rfl
 ·rfl
theorem Zvr {cs:List CV} {V:List AVal} {k:Nat} {c:CV} {kv:AVal} (hc:cs[k]? = some c) (hv:V[k]? = some kv) (x:Int):(rcs cs V).set k { taken:=c.taken,name:=c.name,kv:=kv,held:=x } = rcs (setH cs k x) V:=by
 unfold setH
 rw [hc]
 simp only
 have hV:V.set k kv = V:=by
  refine List.ext_getElem? fun y => ?_
  rw [List.getElem?_set]
  by_cases e:k = y
  ·subst e
   rw [if_pos rfl,hv,if_pos (List.getElem?_eq_some_iff.1 hv).1]
  ·rw [if_neg e]
 have:=Z9f (cs:=cs) (V:=V) (i:=k) (d:={ c with held:=x }) (kv:=kv)
 rw [hV] at this
 exact this
def Z9z (cs:List CV) (i:Int):Int × List CV :=
 if Z11 cs i = false then (1,cs) else match cs[i.toNat]? with
  | some c => if c.held = 1000 then (12,cs) else (0,setH cs i.toNat (IntKind.wrap .i64 (c.held + 1)))
  | none => (1,cs)
section
variable {s0 s:St} {W:Pos→Prop} {hb:Pos} {vs:AVal} {cs:List CV} {m r:Lets} {Q:AVal→St→Prop}
theorem Zp5 {p:Pos} {V:List AVal} {i:Int} (hw:s.Old p) (hc:s.cells p = some (encs (rcs cs V))) (hV:V.length = cs.length) (q:∀ s',Keeps s s'→Q (.bool (Z11 cs i)) s'):Z0b Tryd.prog 46 [.agg [.slice p 0 cs.length (.lim cs.length)],.int .i64 i] s Q :=
 Ze4 hw hc (Z17 hV) (by rw [Zah hV]; exact q)
theorem hold_c {i:Int} (hH:Z1m hb vs cs m) (h:Ctx s0 W (m ++ r) s)
  (q:∀ m' s',Z1m hb vs (Z9z cs i).2 m'→Ctx s0 W (m' ++ r) s'→Q (.int .i64 (Z9z cs i).1) s'):Z0b Tryd.prog 27 [.ptr hb 0,.int .i64 i] s Q:=by
 obtain ⟨p,V,mr,hc,hR,hV,h1,h4⟩:=Z8p hH h
 have hno:cs.length ≠ 0:=by omega
 refine Z07 (Z0e (by decide)) fi27 rfl (by decide) rfl ?_
 refine Z00 ?_
 simp
 refine AM.wp_seq ?_
 refine AM.wp_block ?_
 refine Z00 ?_
 simp
 refine Z02 ?_
 refine Z3o (hc.c 0 rfl) rfl hno ?_
 simp
 refine AM.Z04 ?_
 simp
 refine Z00 ?_
 simp [hc.c 0 rfl]
 refine Z02 ?_
 refine Zp5 (hc.oi 1 rfl) (hc.c 1 rfl) hV fun s1 k1 => ?_
 have c1:=hc.keeps k1
 cases ht:Z11 cs i with
 | false =>
  have:Z9z cs i = (1,cs):=by unfold Z9z; rw [if_pos ht]
  rw [this] at q
  simp
  refine AM.Z04 ?_
  simp
  refine Z00 ?_
  simp
  refine AM.wp_ret ?_
  simp
  exact q _ _ (Z21 hR h1 h4) c1
 | true =>
  obtain ⟨h0,d,hd,_,hlt⟩:=Z2m ht
  obtain ⟨kv,hkv⟩:∃ kv,V[i.toNat]? = some kv:=⟨_,List.getElem?_eq_getElem (by omega)⟩
  have hrg:=Z18 hd hkv
  have hg3:(encs (rcs cs V))[i.toNat * 4 + 3]? = some (.int .i64 d.held):=Z2k _ i.toNat 3 _ hrg (by decide)
  have hil:i < cs.length:=by omega
  simp
  refine AM.Z04 ?_
  simp
  refine Z00 ?_
  simp [c1.c 0 rfl,c1.c 1 rfl,h0,hil,hg3]
  refine AM.Z04 ?_
  by_cases he:d.held = 1000
  ·have:Z9z cs i = (12,cs):=by unfold Z9z; rw [if_neg (by simp [ht]),hd]; simp only; rw [if_pos he]
   rw [this] at q
   simp [he]
   refine Z00 ?_
   simp
   refine AM.wp_ret ?_
   simp
   exact q _ _ (Z21 hR h1 h4) c1
  ·have:Z9z cs i = (0,setH cs i.toNat (IntKind.wrap .i64 (d.held + 1))):=by unfold Z9z; rw [if_neg (by simp [ht]),hd]; simp only; rw [if_neg he]
   rw [this] at q
   have hlay:=Zfg _ i.toNat _ (IntKind.wrap .i64 (d.held + 1)) hrg
   rw [Zvr hd hkv] at hlay
   have hle:i.toNat * 4 + 3 + 1 ≤ (encs (rcs cs V)).length:=by rw [Z2c,Z17 hV]; omega
   simp [lay] at hlay
   simp [he]
   refine AM.wp_skip ?_
   simp
   refine Z00 ?_
   simp [c1.c 0 rfl,c1.c 1 rfl,c1.o 1 rfl,h0,hil,hg3,hle]
   rw [hlay]
   have c2:=c1.put 1 rfl (C (encs (rcs (setH cs i.toNat (IntKind.wrap .i64 (d.held + 1))) V)))
   simp only [List.set_cons_succ,List.set_cons_zero] at c2
   refine Z00 ?_
   simp
   refine AM.wp_ret ?_
   simp
   have hl:=Zvm cs i.toNat (IntKind.wrap .i64 (d.held + 1))
   refine q _ _ (Z21 (p:=p) (V:=V) (mr:=mr) (by rw [Zs1]; exact hR) (by simpa [hl] using h1) (by simpa [hl] using h4)) ?_
   rw [hl]
   exact c2
def Z1v (cs:List CV) (i:Nat):List Int:=((Z0k cs i).filter fun j => match cs[j]? with | some c => decide (0 < c.held) | none => false).map fun (j:Nat) => (j:Int)
theorem Zqs {cs:List CV} {i:Nat} {c:CV} (h:cs[i]? = some c) (ht:c.taken = true):Z1v cs (i + 1) = Z1v cs i ++ (if 0 < c.held then [(i:Int)] else []):=by
 unfold Z1v
 rw [Z80 h ht,List.filter_append]
 by_cases hh:0 < c.held <;> simp [h,hh]
theorem Zr0 {cs:List CV} {i:Nat} {c:CV} (h:cs[i]? = some c) (ht:c.taken = false):Z1v cs (i + 1) = Z1v cs i:=by
 unfold Z1v
 rw [Z9w h ht]
theorem Zf8 (cs:List CV) (i:Nat):(Z1v cs i).length ≤ i:=by
 unfold Z1v Z0k
 rw [List.length_map]
 refine Nat.le_trans (List.length_filter_le _ _) (Nat.le_trans (List.length_filter_le _ _) (by simp))
theorem Zjj {p:Pos} {V:List AVal} {base:Lets} (hc:Ctx s0 W base s) (hV:V.length = cs.length) (h4:cs.length ≤ 400) (hp:∀ x s',Ctx s0 W (x ++ base) s'→s'.Old p∧s'.cells p = some (encs (rcs cs V)))
  (q:∀ lv mg x s',Z1w lv (Z1v cs cs.length) mg→Ctx s0 W (x ++ (mg ++ base)) s'→Q lv s'):Z0b Tryd.prog 75 [.agg [.slice p 0 cs.length (.lim cs.length)]] s Q:=by
 have hl:=Z17 hV
 refine Z07 (Z0e (by decide)) fi75 rfl (by decide) rfl ?_
 refine Z00 ?_
 simp
 have c1:=hc.alloc (C [.slice p 0 cs.length (.lim cs.length)])
 generalize s.alloc (.cells [.slice p 0 cs.length (.lim cs.length)] false) = s1 at c1 ⊢
 generalize s.next = B1 at c1 ⊢
 refine Z00 ?_
 simp
 have c2:=c1.alloc (C [.nilSlice])
 generalize s1.alloc (.cells [.nilSlice] false) = s2 at c2 ⊢
 generalize s1.next = B3 at c2 ⊢
 refine AM.wp_seq ?_
 refine Z00 ?_
 simp [c2.c 1 rfl]
 refine Z02 ?_
 refine Z78 fun BB hBB => ?_
 have c3:=c2.alloc (C [.slice p 0 cs.length (.lim cs.length)])
 rw [← hBB] at c3
 generalize s2.alloc (.cells [.slice p 0 cs.length (.lim cs.length)] false) = s3 at c3 ⊢
 simp
 refine AM.wp_block ?_
 refine Zas (B:=BB) (p:=p) (l:=rcs cs V) (J:=fun i m => ∃ lv mg,Z1w lv (Z1v cs i) mg∧m = (B3,C [lv]) :: (B1,C [.slice p 0 cs.length (.lim cs.length)]) :: (mg ++ base))
  hl h4 (by simp) rfl fi75 rfl ?_ ?_ ?_ ⟨.nilSlice,[],.inl ⟨rfl,rfl,rfl⟩,rfl⟩ c3 ?_
 ·rintro i m s' ⟨lv,mg,hg,rfl⟩ hc'
  exact hp ((B3,C [lv]) :: (B1,C [.slice p 0 cs.length (.lim cs.length)]) :: mg) s' (by simpa using hc')
 ·rintro i c m hci hct ⟨lv,mg,hg,rfl⟩
  have hi:i < cs.length:=by have:=(List.getElem?_eq_some_iff.1 hci).1; rwa [hl] at this
  rw [Z18 (List.getElem?_eq_getElem hi) (List.getElem?_eq_getElem (show i < V.length by omega))] at hci
  cases hci
  exact ⟨lv,mg,by rw [Zr0 (List.getElem?_eq_getElem hi) hct]; exact hg,rfl⟩
 ·rintro i c s' m Lb X Wx hci hct ⟨lv,mg,hg,rfl⟩ hc' hW
  have hi:i < cs.length:=by have:=(List.getElem?_eq_some_iff.1 hci).1; rwa [hl] at this
  obtain ⟨_,hpc⟩:=hp ((Lb,X) :: (BB,C [.slice p 0 cs.length (.lim cs.length)]) :: (B3,C [lv]) :: (B1,C [.slice p 0 cs.length (.lim cs.length)]) :: mg) s' (by simpa using hc')
  have hg3:(encs (rcs cs V))[i * 4 + 3]? = some (.int .i64 c.held):=Z2k _ i 3 _ hci (by decide)
  rw [Z18 (List.getElem?_eq_getElem hi) (List.getElem?_eq_getElem (show i < V.length by omega))] at hci
  have hnx:=Zqs (List.getElem?_eq_getElem hi) (by cases hci; exact hct)
  have hhe:cs[i].held = c.held:=by cases hci; rfl
  rw [hhe] at hnx
  refine AM.wp_block ?_
  refine Z00 ?_
  simp [hc'.c 3 rfl,hi,hpc,hg3]
  refine AM.Z04 ?_
  by_cases hh:0 < c.held
  ·rw [if_pos hh] at hnx
   simp [hh]
   refine AM.wp_region ?_
   simp [hc'.c 2 rfl,hg.ntup,hg.cells,Z1p,srcP]
   have d2:=hc'.alloc (C [.int .i64 i])
   generalize s'.alloc (.cells [.int .i64 i] false) = sB at d2 ⊢
   generalize s'.next = T at d2 ⊢
   have hgl:=Zf8 cs i
   refine Z7i (pre:=[(T,C [.int .i64 i]),(Lb,X),(BB,C [.slice p 0 cs.length (.lim cs.length)]),(B3,C [lv]),(B1,C [.slice p 0 cs.length (.lim cs.length)])]) d2 hg (by omega) fun lv' mg' sC hg' d3 => ?_
   simp at d3
   rw [← hnx] at hg'
   simp [hg'.ntup,hg'.cells,d3.o 3 rfl]
   have d4:=(d3.put 3 rfl (C [lv'])).tail
   exact hW _ _ _ ⟨lv',mg',hg',rfl⟩ d4
  ·rw [if_neg hh,List.append_nil] at hnx
   simp [hh]
   refine AM.wp_skip ?_
   simp
   refine hW _ _ _ ⟨lv,mg,by rw [hnx]; exact hg,rfl⟩ hc'
 ·rintro s' m ⟨lv,mg,hg,rfl⟩ hc'
  simp
  refine Z00 ?_
  simp [hc'.c 0 rfl,hg.ntup]
  refine AM.wp_ret ?_
  simp
  exact q lv mg [(B3,C [lv]),(B1,C [.slice p 0 cs.length (.lim cs.length)])] s' hg (by simpa using hc')
theorem held_c (hH:Z1m hb vs cs m) (h:Ctx s0 W (m ++ r) s)
  (q:∀ lv mg s',Z1w lv (Z1v cs cs.length) mg→Ctx s0 W (mg ++ (m ++ r)) s'→Q (.tup [lv,.int .i64 0]) s'):Z0b Tryd.prog 38 [.ptr hb 0] s Q:=by
 obtain ⟨p,V,mr,hc,hR,hV,h1,h4,hP⟩:=Z5a hH h
 have hno:cs.length ≠ 0:=by omega
 have hmem:(p,C (encs (rcs cs V))) ∈ m:=hP.mem_iff.2 (by simp)
 refine Z07 (Z0e (by decide)) fi38 rfl (by decide) rfl ?_
 refine Z00 ?_
 simp
 refine AM.wp_seq ?_
 refine Z00 ?_
 simp
 refine Z02 ?_
 refine Z3o (hc.c 0 rfl) rfl hno ?_
 simp
 refine AM.Z04 ?_
 simp
 refine AM.wp_skip ?_
 simp
 refine Z00 ?_
 simp [hc.c 0 rfl]
 refine Z02 ?_
 refine Zjj (p:=p) (V:=V) h hV h4 (fun x s' hx => ?_) fun lv mg x s' hg hc' => ?_
 ·have hx':(p,C (encs (rcs cs V))) ∈ x ++ (m ++ r):=by simp [hmem]
  exact ⟨hx.ob hx',Z08 (Z0n (hx.own _ hx'))⟩
 ·simp [hg.ntup]
  refine AM.wp_ret ?_
  simp
  exact q lv mg s' hg (hc'.sub (List.sublist_append_right _ _))
end
end Go.Proofs
end
section
/- Get: in plain; its closure; the kids of one node. -/
open Go Go.AM
namespace Go.Proofs
set_option maxRecDepth 100000
/-! ### In plain -/
theorem Zh3 {K:Nat→List Nat} {n:Nat} (hK:∀ a,a < n→∀ k ∈ K a,k < n):∀ (f:Nat) (v:List Nat) (i:Nat),v.Nodup→(∀ a ∈ v,a < n)→n + 1 ≤ i + f→(∀ j a,j < i→v[j]? = some a→∀ k ∈ K a,k ∈ v) →
  ∀ a ∈ runB K f v i,∀ k ∈ K a,k ∈ runB K f v i
 | 0,v,i,h1,h2,h3,h4 => by
  intro a ha k hk
  have hl:=Z2l h1 h2
  obtain ⟨j,hj⟩:=List.getElem?_of_mem ha
  have hjl:=(List.getElem?_eq_some_iff.1 hj).1
  simp only [runB] at hj hjl
  exact h4 j a (by omega) hj k hk
 | f + 1,v,i,h1,h2,h3,h4 => by
  unfold runB
  cases hv:v[i]? with
  | none =>
   intro a ha k hk
   obtain ⟨j,hj⟩:=List.getElem?_of_mem ha
   have hjl:=(List.getElem?_eq_some_iff.1 hj).1
   have hil:=List.getElem?_eq_none_iff.1 hv
   exact h4 j a (by simp only at hjl; omega) hj k hk
  | some b =>
   have hb:=h2 b (List.mem_of_getElem? hv)
   obtain ⟨h5,h6⟩:=Zc2 h1 h2 (hK b hb)
   refine Zh3 hK f (Z0g v (K b)) (i + 1) h5 h6 (by omega) ?_
   intro j a hj ha k hk
   obtain ⟨w,hw⟩:=Z7w (K b) v
   have hil:=(List.getElem?_eq_some_iff.1 hv).1
   by_cases e:j = i
   ·subst e
    have hab:a = b:=by
     rw [hw,List.getElem?_append_left hil,hv] at ha
     exact (Option.some.inj ha).symm
    subst hab
    have key:∀ (ks v:List Nat) (k:Nat),k ∈ ks→k ∈ Z0g v ks:=by
     intro ks
     induction ks with
     | nil => intro v k h; cases h
     | cons x ks ih =>
      intro v k h
      show k ∈ Z0g (addN v x) ks
      rcases List.mem_cons.1 h with rfl | h
      ·obtain ⟨w',hw'⟩:=Z7w ks (addN v k)
       rw [hw']
       refine List.mem_append_left _ ?_
       unfold addN
       split
       ·assumption
       ·simp
      ·exact ih _ _ h
    exact key _ _ _ hk
   ·have ha':v[j]? = some a:=by
     rw [hw,List.getElem?_append_left (by omega)] at ha
     exact ha
    have:=h4 j a (by omega) ha' k hk
    rw [hw]
    exact List.mem_append_left _ this
theorem Znq {K:Nat→List Nat} {P:Nat→Prop} (hP:∀ a,P a→∀ k ∈ K a,P k):∀ (f:Nat) (v:List Nat) (i:Nat),(∀ a ∈ v,P a)→∀ a ∈ runB K f v i,P a
 | 0,v,i,h => h
 | f + 1,v,i,h => by
  unfold runB
  cases hv:v[i]? with
  | none => exact h
  | some b =>
   refine Znq hP f _ _ ?_
   have hb:=h b (List.mem_of_getElem? hv)
   have key:∀ (ks v:List Nat),(∀ a ∈ v,P a)→(∀ k ∈ ks,P k)→∀ a ∈ Z0g v ks,P a:=by
    intro ks
    induction ks with
    | nil => intro v h _; exact h
    | cons x ks ih =>
     intro v h h'
     refine ih (addN v x) ?_ (fun k hk => h' k (by simp [hk]))
     unfold addN
     split
     ·exact h
     ·intro a ha
      rcases List.mem_append.1 ha with ha | ha
      ·exact h a ha
      ·simp at ha
       rw [ha]
       exact h' x (by simp)
   exact key _ _ h (hP b hb)
theorem Zej {K:Nat→List Nat} {n:Nat} (hK:∀ a,a < n→∀ k ∈ K a,k < n):∀ (roots:List Nat),(∀ r ∈ roots,r < n) →
  (bfsF K n roots).Nodup∧(∀ a ∈ bfsF K n roots,a < n)∧(∀ a ∈ bfsF K n roots,∀ k ∈ K a,k ∈ bfsF K n roots)∧(∀ r ∈ roots,r ∈ bfsF K n roots)∧∀ (P:Nat→Prop),(∀ a,P a→∀ k ∈ K a,P k)→(∀ r ∈ roots,P r)→∀ a ∈ bfsF K n roots,P a:=by
 have step:∀ (roots done v:List Nat),v.Nodup→(∀ a ∈ v,a < n)→(∀ a ∈ v,∀ k ∈ K a,k ∈ v)→(∀ r ∈ done,r ∈ v)→(∀ r ∈ roots,r < n)→(∀ (P:Nat→Prop),(∀ a,P a→∀ k ∈ K a,P k)→(∀ r ∈ done,P r)→∀ a ∈ v,P a) →
   (roots.foldl (fun v r => runB K (n + 1 - v.length) (addN v r) v.length) v).Nodup∧(∀ a ∈ roots.foldl (fun v r => runB K (n + 1 - v.length) (addN v r) v.length) v,a < n)∧(∀ a ∈ roots.foldl (fun v r => runB K (n + 1 - v.length) (addN v r) v.length) v,∀ k ∈ K a,k ∈ roots.foldl (fun v r => runB K (n + 1 - v.length) (addN v r) v.length) v) ∧
   (∀ r ∈ done ++ roots,r ∈ roots.foldl (fun v r => runB K (n + 1 - v.length) (addN v r) v.length) v)∧∀ (P:Nat→Prop),(∀ a,P a→∀ k ∈ K a,P k)→(∀ r ∈ done ++ roots,P r)→∀ a ∈ roots.foldl (fun v r => runB K (n + 1 - v.length) (addN v r) v.length) v,P a:=by
  intro roots
  induction roots with
  | nil =>
   intro done v h1 h2 h3 h4 _ h6
   exact ⟨h1,h2,h3,by simpa using h4,fun P hP hr => h6 P hP (by simpa using hr)⟩
  | cons r roots ih =>
   intro done v h1 h2 h3 h4 h5 h6
   have hr:=h5 r (by simp)
   have hl:=Z2l h1 h2
   have a1:=Z9a (k:=r) h1
   have a2:=Zd4 h2 hr
   obtain ⟨b1,b2⟩:=Zu4 hK (n + 1 - v.length) (addN v r) v.length a1 a2
   have b3:=Zh3 hK (n + 1 - v.length) (addN v r) v.length a1 a2 (by omega) (by
    intro j a hj ha k hk
    obtain ⟨w,hw⟩:=Zn6 v r
    rw [hw,List.getElem?_append_left hj] at ha
    rw [hw]
    exact List.mem_append_left _ (h3 a (List.mem_of_getElem? ha) k hk))
   obtain ⟨w,hw⟩:=Zna K (n + 1 - v.length) (addN v r) v.length
   have hrm:r ∈ addN v r:=by
    unfold addN
    split
    ·assumption
    ·simp
   have:=ih (done ++ [r]) (runB K (n + 1 - v.length) (addN v r) v.length) b1 b2 b3 (by
    intro x hx
    rw [hw]
    refine List.mem_append_left _ ?_
    rcases List.mem_append.1 hx with hx | hx
    ·exact Zvb (h4 x hx)
    ·simp at hx
     rw [hx]
     exact hrm) (fun x hx => h5 x (by simp [hx])) (by
    intro P hP hd
    refine Znq hP _ _ _ ?_
    have hv:=h6 P hP (fun x hx => hd x (by simp [hx]))
    unfold addN
    split
    ·exact hv
    ·intro a ha
     rcases List.mem_append.1 ha with ha | ha
     ·exact hv a ha
     ·simp at ha
      rw [ha]
      exact hd r (by simp))
   simpa using this
 intro roots hr
 have:=step roots [] [] (by simp) (by simp) (by simp) (by simp) hr (by simp)
 simpa [bfsF] using this
def Z41 (cls:List Int) (nd:ND):ND:=(nd.1,nd.2.map fun k => (cls[k.toNat]?).getD 0)
def Z27 (cls:List Int) (nds:List ND) (out:List ND) (a:Nat):List ND:=match cls[a]?,nds[a]? with
 | some c,some nd => if c < out.length then out else out ++ [Z41 cls nd]
 | _,_ => out
def outF (cls:List Int) (nds:List ND) (l:List Nat):List ND:=l.foldl (Z27 cls nds) []
noncomputable def Zbt (cs:List CV) (i:Nat):List ND:=outF (clsF (Z0d cs) (bfsF (kidN cs) cs.length [i])) (Z0d cs) (bfsF (kidN cs) cs.length [i])
noncomputable def getF (cs:List CV) (i:Int):Int × List ND :=
 if Z11 cs i = false then (1,[]) else if 60 < (Zbt cs i.toNat).length then (2,[]) else (0,Zbt cs i.toNat)
theorem Zps {cs:List CV} (h:HOk cs) {a:Nat} (ha:Z11 cs (a:Int) = true):∀ k ∈ kidN cs a,Z11 cs (k:Int) = true:=by
 obtain ⟨_,d,hd,ht,_⟩:=Z2m ha
 rw [Int.toNat_natCast] at hd
 intro k hk
 unfold kidN at hk
 rw [Z13 hd] at hk
 obtain ⟨x,hx,rfl⟩:=List.mem_map.1 hk
 have h1:=h.kids d (List.mem_of_getElem? hd) ht x hx
 have h0:=(Z2m h1).1
 rw [Int.toNat_of_nonneg h0]
 exact h1
theorem Z6w {cs:List CV} {k:Nat} (h:Z11 cs (k:Int) = true):k < cs.length:=by
 obtain ⟨_,_,_,_,hlt⟩:=Z2m h
 simpa using hlt
structure HOk2 (cs:List CV):Prop extends HOk cs where
 free:∀ c ∈ cs,c.taken = false→c.kids = []
theorem HOk2.Zpj {cs:List CV} (h:HOk2 cs):∀ a,a < cs.length→∀ k ∈ kidN cs a,k < cs.length:=by
 intro a ha k hk
 have hd:cs[a]? = some cs[a]:=List.getElem?_eq_getElem ha
 cases ht:cs[a].taken with
 | true => exact Z6w (Zps h.toHOk (by rw [Z22 hd]; exact ht) k hk)
 | false =>
  unfold kidN at hk
  rw [Z13 hd,h.free _ (List.getElem_mem ha) ht] at hk
  simp at hk
theorem Ziw {cs:List CV} (h:HOk2 cs) {roots:List Nat} (hr:∀ r ∈ roots,Z11 cs (r:Int) = true):Closed (Z0d cs) (bfsF (kidN cs) cs.length roots)∧(bfsF (kidN cs) cs.length roots).Nodup∧(∀ a ∈ bfsF (kidN cs) cs.length roots,Z11 cs (a:Int) = true)∧∀ r ∈ roots,r ∈ bfsF (kidN cs) cs.length roots:=by
 obtain ⟨h1,h2,h3,h4,h5⟩:=Zej (n:=cs.length) (h.Zpj) roots (fun r hx => Z6w (hr r hx))
 have h6:=h5 (fun a => Z11 cs (a:Int) = true) (fun a ha => Zps h.toHOk ha) hr
 refine ⟨⟨fun a ha => by rw [Z0t]; exact h2 a ha,fun a ha x hx => ?_⟩,h1,h6,h4⟩
 have hd:cs[a]? = some (cs[a]'(h2 a ha)):=List.getElem?_eq_getElem (h2 a ha)
 have ht:=h6 a ha
 rw [Z22 hd] at ht
 rw [Z36 hd,if_pos ht] at hx
 cases hx
 refine ⟨h.kids4 _ (List.getElem_mem _),fun k hk => h3 a ha _ ?_⟩
 unfold kidN
 rw [Z13 hd]
 exact List.mem_map.2 ⟨k,hk,rfl⟩
/-! ### The closure -/
theorem Z5e {s0 s:St} {W:Pos→Prop} {L mr:Lets} {p:Pos} {cs:List CV} {V:List AVal} (h:Ctx s0 W L s) (hp:(p,C (encs (rcs cs V))) ∈ L) (hR:Z0x (cs.map CV.kids) V mr) (hmr:∀ x ∈ mr,x ∈ L) :
  s.Old p∧s.cells p = some (encs (rcs cs V))∧∀ (i:Nat) (d:CV),cs[i]? = some d→∃ kv,V[i]? = some kv∧Z0c s kv d.kids:=by
 refine ⟨h.ob hp,Z08 (Z0n (h.own _ hp)),fun i d hd => ?_⟩
 obtain ⟨kv,g1,g2⟩:=hR.each (i:=i) (ks:=d.kids) (by rw [List.getElem?_map,hd]; rfl)
 refine ⟨kv,g1,?_⟩
 rcases g2 with ⟨e1,e2⟩ | ⟨q,c,e1,e2,e3⟩
 ·exact .inl ⟨e2,e1⟩
 ·rw [e2]
  exact Z37 h.wf (Z0n (h.own _ (hmr _ e3))) c
theorem Zmr {s0 s:St} {W:Pos→Prop} {B6:Pos} {lv:AVal} {v:List Nat} {a:Nat} {mg pre r:Lets} {Q:AVal→St→Prop} (hc:Ctx s0 W (pre ++ ((B6,C [lv]) :: (mg ++ r))) s) (hg:Z1w lv (nats v) mg) (hl:v.length ≤ 1000)
  (q:∀ lv' mg' s',Z1w lv' (nats (v ++ [a])) mg'→Ctx s0 W (pre ++ ((B6,C [lv']) :: (mg' ++ r))) s'→Q (.tup []) s'):Z0b Tryd.prog 67 [.int .i64 a,.ptr B6 0] s Q:=by
 have hc0:Ctx s0 W ((B6,C [lv]) :: (pre ++ (mg ++ r))) s:=hc.perm List.perm_middle
 refine Z07 (Z0e (by decide)) fi67 rfl (by decide) rfl ?_
 refine AM.wp_region ?_
 simp [hc0.c 0 rfl,hg.ntup,hg.cells,Z1p,srcP]
 have c1:=hc0.alloc (C [.int .i64 a])
 generalize s.alloc (.cells [.int .i64 a] false) = s1 at c1 ⊢
 generalize s.next = T at c1 ⊢
 refine Z7i (pre:=(T,C [.int .i64 a]) :: (B6,C [lv]) :: pre) (by simpa using c1) hg (by simpa using hl) fun lv' mg' s2 hg' c2 => ?_
 simp only [List.cons_append] at c2
 simp [hg'.ntup,hg'.cells,c2.o 1 rfl]
 have c3:=(c2.put 1 rfl (C [lv'])).tail
 simp only [List.set_cons_zero] at c3
 refine q lv' mg' _ ?_ (c3.perm List.perm_middle.symm)
 simpa using hg'
end Go.Proofs
end
section
/- Get: the walk. -/
open Go Go.AM
namespace Go.Proofs
set_option maxRecDepth 100000
section
variable {sc s:St} {fr:FI} {t0:PT AVal} {cls:List Int} {nds:List ND} {pn Bx:Pos} {n:Nat} {cv nv0:AVal} {r:Lets} {Q:Ex→PT AVal→St→Prop}
theorem Zvt {B13:Pos} {nd:ND} {a:Nat} {nm:List UInt8} {c1:Cap} (hN:Z1c sc (.slice pn 0 n c1) nds) (hnl:nds.length = n) (hC:Z0c sc cv cls) (hcl:cls.length = n) (hnd:nds[a]? = some nd) (h4:nd.2.length ≤ 4) (hin:∀ k ∈ nd.2,0 ≤ k∧k < n)
  (hc:Ctx sc (fun _ => False) ((B13,C [.str nm,.nilSlice]) :: r) s) (t7:PT.get (posOf 7) t0 = some (.slice pn 0 n c1)) (t12:PT.get (posOf 12) t0 = some (.int .i64 a)) (t9:PT.get (posOf 9) t0 = some cv) (t13:PT.get (posOf 13) t0 = some (.ptr B13 0))
  (q:∀ t s' kv mg,Fr [15,77,78,79,80,83,84,85,86,87,88,89,90,91] t0 t→Z1w kv (Z41 cls nd).2 mg→Ctx sc (fun _ => False) ((B13,C [.str nm,kv]) :: (mg ++ r)) s'→Q .normal t s'):wp Tryd.prog Zt3 fr t0 s Q:=by
 have han:a < n:=by have:=(List.getElem?_eq_some_iff.1 hnd).1; omega
 have hN':=hN.keep hc.Z0f
 rcases hN' with ⟨e,_⟩ | ⟨b,o,c,cells,e,hb,hcs,hle,hel⟩
 ·have:n = 0:=by simpa using e
  omega
 cases e
 obtain ⟨_,kv0,e1,e2⟩:=hel a nd hnd
 rw [Nat.zero_add] at e1
 refine Z00 ?_
 simp [t7,t12,han,hcs,e1,e2.ntup,e2.len]
 refine AM.wp_block ?_
 refine AM.wp_loop (fun m t s' => ∃ (j:Nat) (kv:AVal) (mg:Lets),j ≤ nd.2.length∧m = nd.2.length - j∧Fr [15,77,78,79,80,83,84,85,86,87,88,89,90,91] t0 t∧PT.get (posOf 77) t = some kv0∧PT.get (posOf 78) t = some (.int .i64 nd.2.length)∧PT.get (posOf 79) t = some (.int .i64 j) ∧
   Z1w kv ((nd.2.take j).map fun k => (cls[k.toNat]?).getD 0) mg∧Ctx sc (fun _ => False) ((B13,C [.str nm,kv]) :: (mg ++ r)) s') nd.2.length ⟨0,.nilSlice,[],by simp,by simp,?_,by simp,by simp,by simp,.inl ⟨by simp,rfl,rfl⟩,hc⟩ ?_
 ·intro y hy
  simp at hy
  simp [hy]
 rintro m t s' ⟨j,kv,mg,hj,rfl,hF,t77,t78,t79,hg,hc'⟩
 refine Z00 ?_
 simp [t78,t79]
 refine AM.wp_seq ?_
 refine AM.Z04 ?_
 by_cases hlt:j < nd.2.length
 ·have hwr:IntKind.wrap .i64 ((j:Int) + 1) = ((j + 1:Nat):Int):=by rw [IntWalk.i64_in _ (by omega)]; omega
  obtain ⟨k,hk⟩:∃ k,nd.2[j]? = some k:=⟨_,List.getElem?_eq_getElem hlt⟩
  obtain ⟨k0,k1⟩:=hin k (List.mem_of_getElem? hk)
  obtain ⟨x,hx⟩:∃ x,cls[k.toNat]? = some x:=⟨_,List.getElem?_eq_getElem (by omega)⟩
  have u9:=(hF 9 (by simp)).trans t9
  have u13:=(hF 13 (by simp)).trans t13
  rcases (hC.keep hc'.Z0f) with ⟨_,h0⟩ | ⟨b2,o2,c2,cells2,rfl,hb2,hcs2,hle2,hel2⟩
  ·rw [h0] at hcl
   simp at hcl
   omega
  have hgx:=hel2 _ _ hx
  have hkN:=hN.keep hc'.Z0f
  rcases hkN with ⟨e,_⟩ | ⟨b3,o3,c3,cells3,e,hb3,hcs3,hle3,hel3⟩
  ·have:nds.length = 0:=by simpa using e
   omega
  cases e
  obtain ⟨_,kv3,e3,e4⟩:=hel3 a nd hnd
  rw [Nat.zero_add] at e3
  have hkv3:kv3 = kv0:=by
   have h5:s'.cells pn = s.cells pn:=by
    rcases hN with ⟨e,_⟩ | ⟨b4,_,_,_,e,hb4,_⟩
    ·have:nds.length = 0:=by simpa using e
     omega
    cases e
    rw [hc'.Zce (fun h => h) hb4,hc.Zce (fun h => h) hb4]
   rw [hcs,hcs3] at h5
   cases h5
   rw [e1] at e3
   exact (Option.some.inj e3).symm
  subst hkv3
  rcases e4 with ⟨_,h0⟩ | ⟨b5,o5,c5,cells5,rfl,hb5,hcs5,hle5,hel5⟩
  ·rw [h0] at hlt
   simp at hlt
  have hgk:=hel5 _ _ hk
  have hkn:k < (cls.length:Int):=by omega
  simp [hlt]
  refine AM.wp_skip ?_
  simp
  refine AM.wp_seq ?_
  refine AM.wp_block ?_
  refine Z00 ?_
  simp [t77,t79,hlt,hcs5,hgk]
  refine AM.wp_region ?_
  have hns:s'.obj s'.next = none:=hc'.wf _ (Z0a _)
  simp [u9,u13,hc'.c 0 rfl,hg.ntup,hg.cells,k0,hkn,hcs2,hgx,hns,Z1p,srcP]
  have d2:=hc'.alloc (C [.int .i64 x])
  generalize s'.alloc (.cells [.int .i64 x] false) = sB at d2 ⊢
  generalize s'.next = T at d2 ⊢
  have hgl:((nd.2.take j).map fun k => (cls[k.toNat]?).getD 0).length ≤ 1000:=by simp; omega
  refine Z7i (pre:=[(T,C [.int .i64 x]),(B13,C [.str nm,kv])]) d2 hg hgl fun kv' mg' sC hg' d3 => ?_
  simp only [List.cons_append,List.nil_append] at d3
  simp [hg'.ntup,hg'.cells,d3.o 1 rfl]
  have d4:=(d3.put 1 rfl (C [.str nm,kv'])).tail
  simp only [List.set_cons_zero] at d4
  have hnx:((nd.2.take j).map fun k => (cls[k.toNat]?).getD 0) ++ [x] = (nd.2.take (j + 1)).map fun k => (cls[k.toNat]?).getD 0:=by
   rw [List.take_add_one,hk,List.map_append]
   simp [hx]
  rw [hnx] at hg'
  refine AM.wp_region ?_
  simp [t79,hwr]
  refine ⟨nd.2.length - (j + 1),by omega,j + 1,by omega,by omega,?_,by simp [t77],by simp [t78],by simp,kv',mg',by simpa using hg',d4⟩
  intro y hy
  simp at hy
  simp [hy]
  exact hF y (by simp [hy])
 ·simp [hlt]
  refine AM.wp_exit ?_
  simp
  have hje:j = nd.2.length:=by omega
  subst hje
  rw [List.take_length] at hg
  refine q _ s' kv mg ?_ hg hc'
  intro y hy
  simp at hy
  simp [hy]
  exact hF y (by simp [hy])
end
end Go.Proofs
end
section
/- Get: the contract. -/
open Go Go.AM
namespace Go.Proofs
set_option maxRecDepth 100000
theorem Zc4 {cls:List Int} {nds:List ND} {l:List Nat} {i a:Nat} (h:l[i]? = some a):outF cls nds (l.take (i + 1)) = Z27 cls nds (outF cls nds (l.take i)) a:=by
 unfold outF
 rw [List.take_add_one,h,List.foldl_append]
 rfl
theorem Znk (cls:List Int) (nds:List ND):∀ (l:List Nat),(outF cls nds l).length ≤ l.length:=by
 have key:∀ (l:List Nat) (out:List ND),(l.foldl (Z27 cls nds) out).length ≤ out.length + l.length:=by
  intro l
  induction l with
  | nil => intro out; simp
  | cons a l ih =>
   intro out
   have h1:=ih (Z27 cls nds out a)
   have h2:(Z27 cls nds out a).length ≤ out.length + 1:=by
    unfold Z27
    split
    ·split
     ·omega
     ·simp
    ·omega
   simp only [List.foldl_cons,List.length_cons]
   omega
 intro l
 have:=key l []
 simpa [outF] using this
theorem Zfj (cls:List Int) (nds:List ND) (l:List Nat) (i:Nat):(outF cls nds (l.take i)).length ≤ (outF cls nds l).length:=by
 have key:∀ (l:List Nat) (out:List ND),out.length ≤ (l.foldl (Z27 cls nds) out).length:=by
  intro l
  induction l with
  | nil => intro out; simp
  | cons a l ih =>
   intro out
   have h1:=ih (Z27 cls nds out a)
   have h2:out.length ≤ (Z27 cls nds out a).length:=by
    unfold Z27
    split
    ·split
     ·omega
     ·simp
    ·omega
   simp only [List.foldl_cons]
   omega
 have h:=key (l.drop i) (outF cls nds (l.take i))
 unfold outF at h ⊢
 rw [← List.foldl_append,List.take_append_drop] at h
 exact h
theorem get_c {s0 s:St} {W:Pos→Prop} {hb:Pos} {vs:AVal} {cs:List CV} {m r:Lets} {i:Int} {Q:AVal→St→Prop} (hH:Z1m hb vs cs m) (h:Ctx s0 W (m ++ r) s) (hO:HOk2 cs)
  (q:∀ nv mn s',Z2q nv (getF cs i).2 mn→Ctx s0 W (mn ++ (m ++ r)) s'→Q (.tup [.agg [nv,.int .i64 0],.int .i64 (getF cs i).1]) s'):Z0b Tryd.prog 22 [.ptr hb 0,.int .i64 i] s Q:=by
 obtain ⟨p,V,mr,hc,hR,hV,h1,h4,hP⟩:=Z5a hH h
 have hl:=Z17 hV
 have hno:cs.length ≠ 0:=by omega
 have hpm:m.Perm ((hb,C [.slice p 0 cs.length (.lim cs.length),vs]) :: (p,C (encs (rcs cs V))) :: mr):=hP
 have hback:∀ {x:Lets} {s':St},Ctx s0 W (x ++ ((hb,C [.slice p 0 cs.length (.lim cs.length),vs]) :: (p,C (encs (rcs cs V))) :: (mr ++ r))) s'→Ctx s0 W (x ++ (m ++ r)) s':=by
  intro x s' hx
  refine hx.perm ((List.Perm.refl x).append ?_)
  have:=hpm.symm.append (List.Perm.refl r)
  simpa using this
 refine Z07 (Z0e (by decide)) fi22 rfl (by decide) rfl ?_
 refine Z00 ?_
 simp
 have c1:=hc.alloc (C [.nilSlice,.int .i64 0])
 generalize s.alloc (.cells [.nilSlice,.int .i64 0] false) = s1 at c1 ⊢
 generalize s.next = B4 at c1 ⊢
 refine AM.wp_seq ?_
 refine AM.wp_block ?_
 refine Z00 ?_
 simp
 refine Z02 ?_
 refine Z3o (c1.c 1 rfl) rfl hno ?_
 simp
 refine AM.Z04 ?_
 simp
 refine Z00 ?_
 simp [c1.c 1 rfl]
 refine Z02 ?_
 refine Zp5 (c1.oi 2 rfl) (c1.c 2 rfl) hV fun s2 k2 => ?_
 have c2:=c1.keeps k2
 cases ht:Z11 cs i with
 | false =>
  have:getF cs i = (1,[]):=by unfold getF; rw [if_pos ht]
  rw [this] at q
  simp
  refine AM.Z04 ?_
  simp
  refine Z00 ?_
  simp [c2.o 0 rfl]
  have c3:=c2.put 0 rfl (C [.nilSlice,.int .i64 0])
  simp only [List.set_cons_zero] at c3
  generalize s2.put B4 (.cells [.nilSlice,.int .i64 0] false) = s3 at c3 ⊢
  refine AM.wp_ret ?_
  simp [c3.c 0 rfl]
  exact q .nilSlice [] s3 (.inl ⟨rfl,rfl,rfl⟩) (hback (x:=[]) c3.tail)
 | true =>
 obtain ⟨h0,d,hd,hdt,hlt⟩:=Z2m ht
 obtain ⟨i,rfl⟩:∃ k:Nat,i = (k:Int):=⟨i.toNat,by omega⟩
 rw [Int.toNat_natCast] at hd hlt
 have hgF:getF cs (i:Int) = if 60 < (Zbt cs i).length then (2,[]) else (0,Zbt cs i):=by unfold getF; rw [if_neg (by simp [ht]),Int.toNat_natCast]
 rw [hgF] at q
 unfold Zbt at q
 obtain ⟨hC,hnd,hall,hroot⟩:=Ziw hO (roots:=[i]) (by simpa using ht)
 simp
 refine AM.Z04 ?_
 simp
 refine AM.wp_skip ?_
 simp
 refine Z00 ?_
 simp
 have c3:=c2.alloc (C [.nilSlice])
 generalize s2.alloc (.cells [.nilSlice] false) = s3 at c3 ⊢
 generalize s2.next = B6 at c3 ⊢
 refine Z00 ?_
 simp [c3.c 2 rfl]
 have c4:=c3.alloc (C [.int .i64 i])
 generalize s3.alloc (.cells [.int .i64 i] false) = s4 at c4 ⊢
 generalize s3.next = T at c4 ⊢
 refine Z02 ?_
 have c4':Ctx s0 W ([(B6,C [.nilSlice])] ++ ((T,C [.int .i64 i]) :: (B4,C [.nilSlice,.int .i64 0]) :: (hb,C [.slice p 0 cs.length (.lim cs.length),vs]) :: (p,C (encs (rcs cs V))) :: (mr ++ r))) s4:=c4.perm (List.Perm.swap _ _ _)
 refine Zfo (V:=V) (J:=fun v m => ∃ lv mg,Z1w lv (nats v) mg∧m = (B6,C [lv]) :: mg) (roots:=[i]) (rv:=.slice T 0 1 (.lim 1)) (f:=67) (fx:=[]) (fy:=[.ptr B6 0])
  ⟨hV,h4,?_,by simpa using hlt,by simp,fun a ha => ?_,?_⟩ c4' ⟨.nilSlice,[],.inl ⟨rfl,rfl,rfl⟩,rfl⟩ (by simp) ?_
 ·rintro x m' s' hx _
  obtain ⟨r1,r2,r3⟩:=Z5e (p:=p) (cs:=cs) (V:=V) hx (by simp) hR (fun y hy => by simp [hy])
  refine ⟨r1,r2,?_,r3⟩
  have hT:s'.own T = some (ints [(i:Int)]):=Z0n (hx.own (T,C [.int .i64 i]) (by simp))
  exact Z37 hx.wf hT (.lim 1)
 ·have hcd:cs[a]? = some cs[a]:=List.getElem?_eq_getElem ha
  rw [Z13 hcd]
  refine ⟨hO.kids4 _ (List.getElem_mem ha),fun k hk => ?_⟩
  cases hta:cs[a].taken with
  | true =>
   obtain ⟨k0,_,_,_,k1⟩:=Z2m (hO.kids _ (List.getElem_mem ha) hta k hk)
   exact ⟨k0,by omega⟩
  | false =>
   rw [hO.free _ (List.getElem_mem ha) hta] at hk
   cases hk
 ·rintro a v x m' s' R ⟨lv,mg,hg,rfl⟩ hav han hvn hvlt hx hq
  refine Z02 ?_
  have hvl:v.length ≤ 1000:=by have:=Z2l hvn hvlt; omega
  refine Zmr (pre:=x) (r:=(T,C [.int .i64 i]) :: (B4,C [.nilSlice,.int .i64 0]) :: (hb,C [.slice p 0 cs.length (.lim cs.length),vs]) :: (p,C (encs (rcs cs V))) :: (mr ++ r)) (by simpa using hx) hg hvl fun lv' mg' s'' hg' hx' => ?_
  exact hq _ _ _ ⟨lv',mg',hg',rfl⟩ (by simpa using hx')
 ·rintro x m' s5 ⟨lv,mg,hg,rfl⟩ hx
  have c5:=hx.sub (List.sublist_append_right x _)
  simp only [List.cons_append] at c5
  have c5:=c5.perm (m':=(B6,C [lv]) :: (T,C [.int .i64 i]) :: (B4,C [.nilSlice,.int .i64 0]) :: (hb,C [.slice p 0 cs.length (.lim cs.length),vs]) :: (p,C (encs (rcs cs V))) :: (mg ++ (mr ++ r))) (by
   refine List.Perm.cons _ ?_
   have:=List.perm_append_comm (l₁:=mg) (l₂:=[(T,C [.int .i64 i]),(B4,C [.nilSlice,.int .i64 0]),(hb,C [.slice p 0 cs.length (.lim cs.length),vs]),(p,C (encs (rcs cs V)))])
   have:=this.append (List.Perm.refl (mr ++ r))
   simpa using this)
  generalize hbf:bfsF (kidN cs) cs.length [i] = L at hC hnd hall hroot hg q
  have hLl:L.length ≤ cs.length:=Z2l hnd (fun a ha => Z6w (hall a ha))
  simp
  refine Z00 ?_
  simp [c5.c 3 rfl]
  refine Z02 ?_
  have hobs:∀ {s':St},Ctx s0 W ((B6,C [lv]) :: (T,C [.int .i64 i]) :: (B4,C [.nilSlice,.int .i64 0]) :: (hb,C [.slice p 0 cs.length (.lim cs.length),vs]) :: (p,C (encs (rcs cs V))) :: (mg ++ (mr ++ r))) s'→∀ j c,(rcs cs V)[j]? = some c→Z0c s' c.kv (Z0j cs j):=by
   intro s' hc' j c hj
   obtain ⟨_,_,r3⟩:=Z5e (p:=p) (cs:=cs) (V:=V) hc' (by simp) hR (fun y hy => by simp [hy])
   have hjl:j < cs.length:=by have:=(List.getElem?_eq_some_iff.1 hj).1; rwa [hl] at this
   obtain ⟨kv,e1,e2⟩:=r3 j _ (List.getElem?_eq_getElem hjl)
   rw [Z18 (List.getElem?_eq_getElem hjl) e1] at hj
   cases hj
   rw [Z13 (List.getElem?_eq_getElem hjl)]
   exact e2
  refine Zk0 (K:=Z0j cs) hl c5.wf (c5.oi 4 rfl) (c5.c 4 rfl) h4 (hobs c5) fun pn lv2 s6 k6 hN _ => ?_
  rw [Zjk hV] at hN
  have c6:=c5.keeps k6
  simp
  refine Z00 ?_
  simp [c6.c 0 rfl,hg.ntup]
  refine Z02 ?_
  have hlv6:Z0c s6 lv (nats L):=(hg.row.kid fun y hy => c6.own y (by simp [hy])).ints c6.wf
  have hkidsG:∀ (a:Nat) nd,(Z0d cs)[a]? = some nd→nd.2.length ≤ 4∧∀ k ∈ nd.2,0 ≤ k∧k < (Z0d cs).length:=hO.toHOk.Zb6
  refine Zcs (Z0t cs) c6.wf hN (by omega) hlv6 (by omega) hC hkidsG fun Bx s7 k7 hBx hox => ?_
  have hcl:=Z74 hC
  rw [Z0t] at hcl
  generalize clsF (Z0d cs) L = cls at hox hcl q
  have c7:=c6.keeps k7
  have hN7:Z1c s7 (.slice pn 0 cs.length (.lim cs.length)) (Z0d cs):=by
   have:=(hN.keep k7).of (.lim cs.length)
   rwa [Z0t] at this
  have hC7:Z0c s7 (.slice Bx 0 cs.length (.lim cs.length)) cls:=by
   have:=Z37 c7.wf hox (.lim cs.length)
   rwa [hcl] at this
  have hL7:Z0c s7 lv (nats L):=hlv6.keep k7
  simp
  refine Z00 ?_
  simp
  have d0:=(Ctx.start (fun _ => False) c7.wf).alloc (C [.nilSlice,.int .i64 0])
  generalize s7.alloc (.cells [.nilSlice,.int .i64 0] false) = s8 at d0 ⊢
  generalize s7.next = B10 at d0 ⊢
  refine AM.wp_seq ?_
  refine Z00 ?_
  have k8:=d0.Z0f
  simp [(k8.cells (c7.oi 0 rfl)).trans (c7.c 0 rfl),hg.ntup,hL7.len]
  have hout:∀ {nv:AVal} {mn:Lets} {s':St},Ctx s7 (fun _ => False) ((B10,C [nv,.int .i64 0]) :: mn) s'→Ctx s0 W ((B4,C [.nilSlice,.int .i64 0]) :: (B10,C [nv,.int .i64 0]) :: (mn ++ ((B6,C [lv]) :: (T,C [.int .i64 i]) :: (hb,C [.slice p 0 cs.length (.lim cs.length),vs]) :: (p,C (encs (rcs cs V))) :: (mg ++ (mr ++ r))))) s':=by
   intro nv mn s' hd
   have:=Ctx.on (m:=[]) (by simpa using c7) (m':=(B10,C [nv,.int .i64 0]) :: mn) (by simpa using hd)
   refine this.perm ?_
   have h2:((B10,C [nv,.int .i64 0]) :: mn ++ ((B6,C [lv]) :: (T,C [.int .i64 i]) :: (B4,C [.nilSlice,.int .i64 0]) :: (hb,C [.slice p 0 cs.length (.lim cs.length),vs]) :: (p,C (encs (rcs cs V))) :: (mg ++ (mr ++ r)))) = (((B10,C [nv,.int .i64 0]) :: mn) ++ [(B6,C [lv]),(T,C [.int .i64 i])]) ++ (B4,C [.nilSlice,.int .i64 0]) :: ((hb,C [.slice p 0 cs.length (.lim cs.length),vs]) :: (p,C (encs (rcs cs V))) :: (mg ++ (mr ++ r))):=by simp
   rw [h2]
   refine List.perm_middle.trans ?_
   simp
  have hend:∀ {nv:AVal} {x:Lets} {b4 b10:Pos × AObj} {s':St},Ctx s0 W (b4 :: b10 :: (x ++ ((B6,C [lv]) :: (T,C [.int .i64 i]) :: (hb,C [.slice p 0 cs.length (.lim cs.length),vs]) :: (p,C (encs (rcs cs V))) :: (mg ++ (mr ++ r))))) s'→Ctx s0 W (x ++ (m ++ r)) s':=by
   intro nv x b4 b10 s' hx'
   refine hback (hx'.sub (.cons _ (.cons _ ((List.Sublist.refl x).append (.cons _ (.cons _ (.cons_cons _ (.cons_cons _ (List.sublist_append_right mg _)))))))))
  refine AM.wp_block ?_
  refine AM.wp_loop (fun k t s' => ∃ (j:Nat) (nv:AVal) (mn:Lets),j ≤ L.length∧k = L.length - j∧PT.get (posOf 4) t = some (.ptr B4 0)∧PT.get (posOf 7) t = some (.slice pn 0 cs.length (.lim cs.length))∧PT.get (posOf 9) t = some (.slice Bx 0 cs.length (.lim cs.length))∧PT.get (posOf 10) t = some (.ptr B10 0) ∧
    PT.get (posOf 48) t = some lv∧PT.get (posOf 49) t = some (.int .i64 L.length)∧PT.get (posOf 50) t = some (.int .i64 j)∧Z2q nv (outF cls (Z0d cs) (L.take j)) mn∧(outF cls (Z0d cs) (L.take j)).length ≤ 60∧Ctx s7 (fun _ => False) ((B10,C [nv,.int .i64 0]) :: mn) s') L.length
   ⟨0,.nilSlice,[],by simp,by simp,by simp,by simp,by simp,by simp,by simp,by simp,by simp,.inl ⟨by simp [outF],rfl,rfl⟩,by simp [outF],d0⟩ ?_
  rintro k t s' ⟨j,nv,mn,hj,rfl,t4,t7,t9,t10,t48,t49,t50,hM,h60,hd'⟩
  refine Z00 ?_
  simp [t49,t50]
  refine AM.wp_seq ?_
  refine AM.Z04 ?_
  by_cases hlt:j < L.length
  ·have hwr:IntKind.wrap .i64 ((j:Int) + 1) = ((j + 1:Nat):Int):=by rw [IntWalk.i64_in _ (by omega)]; omega
   obtain ⟨a,ha⟩:∃ a,L[j]? = some a:=⟨_,List.getElem?_eq_getElem hlt⟩
   have hat:=hall a (List.mem_of_getElem? ha)
   have han:=Z6w hat
   have hda:cs[a]? = some cs[a]:=List.getElem?_eq_getElem han
   have htk:cs[a].taken = true:=by rw [Z22 hda] at hat; exact hat
   have hga:(Z0d cs)[a]? = some (cs[a].name,cs[a].kids):=by rw [Z36 hda,if_pos htk]
   obtain ⟨x,hxx⟩:∃ x,cls[a]? = some x:=⟨_,List.getElem?_eq_getElem (by omega)⟩
   have hnx:=Zc4 (cls:=cls) (nds:=Z0d cs) ha
   have hst:Z27 cls (Z0d cs) (outF cls (Z0d cs) (L.take j)) a = if x < (outF cls (Z0d cs) (L.take j)).length then outF cls (Z0d cs) (L.take j) else outF cls (Z0d cs) (L.take j) ++ [Z41 cls (cs[a].name,cs[a].kids)]:=by
    unfold Z27
    rw [hxx,hga]
   rw [hst] at hnx
   rcases hL7.keep hd'.Z0f with ⟨_,e0⟩ | ⟨bl,ol,cl,cellsl,rfl,hbl,hcsl,hlel,hell⟩
   ·have:L = []:=by simpa using e0
    rw [this] at hlt
    simp at hlt
   rw [List.length_map] at t48
   have hgl:=hell j (a:Int) (by rw [List.getElem?_map,ha]; rfl)
   rcases hC7.keep hd'.Z0f with ⟨e0,_⟩ | ⟨bx,ox,cx,cellsx,ex,hbx,hcsx,hlex,helx⟩
   ·have:cs.length = 0:=by simpa using e0
    omega
   have hbx':Bx = bx:=(AVal.slice.inj ex).1
   have hox':0 = ox:=(AVal.slice.inj ex).2.1
   subst hbx' hox'
   have hgx:=helx a x hxx
   rw [Nat.zero_add] at hgx
   rcases hN7.keep hd'.Z0f with ⟨e0,_⟩ | ⟨bn,on,cn,cellsn,en,hbn,hcsn,hlen,heln⟩
   ·have:cs.length = 0:=by simpa using e0
    omega
   have hbn':pn = bn:=(AVal.slice.inj en).1
   have hon':0 = on:=(AVal.slice.inj en).2.1
   subst hbn' hon'
   obtain ⟨hgn,_⟩:=heln a _ hga
   rw [Nat.zero_add] at hgn
   simp [hlt]
   refine AM.wp_skip ?_
   simp
   refine AM.wp_seq ?_
   refine AM.wp_block ?_
   refine Z00 ?_
   simp [t48,t50,hlt,hcsl,hgl]
   refine AM.wp_seq ?_
   refine Z00 ?_
   simp [t9,t10,han,hcsx,hgx,hd'.c 0 rfl,hM.ntup,hM.len]
   refine AM.Z04 ?_
   by_cases hxl:x < ((outF cls (Z0d cs) (L.take j)).length:Int)
   ·rw [if_pos hxl] at hnx
    simp [hxl]
    refine AM.wp_exit ?_
    simp
    refine AM.wp_region ?_
    simp [t50,hwr]
    refine ⟨L.length - (j + 1),by omega,j + 1,by omega,by omega,by simp [t4],by simp [t7],by simp [t9],by simp [t10],by simp [t48],by simp [t49],by simp,nv,mn,by rw [hnx]; exact hM,by rw [hnx]; exact h60,hd'⟩
   ·rw [if_neg hxl] at hnx
    simp [hxl]
    refine AM.wp_skip ?_
    simp
    refine AM.wp_seq ?_
    refine Z00 ?_
    simp [t10,hd'.c 0 rfl,hM.ntup,hM.len]
    refine AM.Z04 ?_
    by_cases h6:(outF cls (Z0d cs) (L.take j)).length = 60
    ·have hgt:60 < (outF cls (Z0d cs) L).length:=by
      have:=Zfj cls (Z0d cs) L (j + 1)
      rw [hnx] at this
      simp at this
      omega
     rw [if_pos hgt] at q
     have h6':((outF cls (Z0d cs) (L.take j)).length:Int) = 60:=by omega
     simp [h6,h6']
     refine Z00 ?_
     have e1:=hout hd'
     simp [t4,e1.o 0 rfl]
     have e2:=e1.put 0 rfl (C [.nilSlice,.int .i64 0])
     simp only [List.set_cons_zero] at e2
     generalize s'.put B4 (.cells [.nilSlice,.int .i64 0] false) = s9 at e2 ⊢
     refine AM.wp_ret ?_
     simp [t4,e2.c 0 rfl]
     refine q .nilSlice [] s9 (.inl ⟨rfl,rfl,rfl⟩) ?_
     have:=(hend (nv:=nv) (x:=mn) e2)
     exact this.sub (List.sublist_append_right mn _)
    ·have h6':¬ ((outF cls (Z0d cs) (L.take j)).length:Int) = 60:=by omega
     simp [h6,h6']
     refine AM.wp_skip ?_
     simp
     refine Z00 ?_
     simp [t7,han,hcsn,hgn]
     have d1:=(hd'.alloc (C [.str [],.nilSlice])).put 0 rfl (C [.str cs[a].name,.nilSlice])
     simp only [List.set_cons_zero] at d1
     generalize (s'.alloc (.cells [.str [],.nilSlice] false)).put s'.next (.cells [.str cs[a].name,.nilSlice] false) = sA at d1 ⊢
     generalize s'.next = B13 at d1 ⊢
     refine AM.wp_seq ?_
     obtain ⟨hk4,hkin⟩:=hkidsG a _ hga
     rw [Z0t] at hkin
     refine Zvt (nd:=(cs[a].name,cs[a].kids)) (a:=a) (B13:=B13) (nm:=cs[a].name) (pn:=pn) (n:=cs.length) (c1:=.lim cs.length) (cv:=.slice Bx 0 cs.length (.lim cs.length)) hN7 (Z0t cs) hC7 hcl hga hk4 hkin d1 (by simp [t7]) (by simp) (by simp [t9]) (by simp) fun t2 sB kv mk hF2 hgk d2 => ?_
     simp
     have w10:PT.get (posOf 10) t2 = some (.ptr B10 0):=(hF2 10 (by simp)).trans (by simp [t10])
     have w13:PT.get (posOf 13) t2 = some (.ptr B13 0):=(hF2 13 (by simp)).trans (by simp)
     have d3:=d2.perm (m':=(B13,C [.str cs[a].name,kv]) :: (B10,C [nv,.int .i64 0]) :: (mk ++ mn)) (List.Perm.cons _ List.perm_middle)
     refine AM.wp_region ?_
     simp [w10,w13,d3.c 0 rfl,d3.c 1 rfl,hM.ntup,hM.cells,hgk.ntup,hgk.cells,Z1p,srcP]
     have d4:=d3.alloc (C [.str cs[a].name,kv])
     generalize sB.alloc (.cells [.str cs[a].name,kv] false) = sC at d4 ⊢
     generalize sB.next = T2 at d4 ⊢
     refine Zl9 (pre:=[(T2,C [.str cs[a].name,kv]),(B13,C [.str cs[a].name,kv]),(B10,C [nv,.int .i64 0])]) (mk:=mk) (mn:=mn) (r:=[]) (ns:=outF cls (Z0d cs) (L.take j)) (ks:=(Z41 cls (cs[a].name,cs[a].kids)).2) (by simpa using d4) hM hgk.row (by omega) fun nv' mn' sD hM' d5 => ?_
     have hM':Z2q nv' (outF cls (Z0d cs) (L.take (j + 1))) mn':=by rw [hnx]; exact hM'
     simp only [List.cons_append,List.nil_append,List.append_nil] at d5
     simp [hM'.ntup,hM'.cells,d5.o 2 rfl]
     have d6:=(d5.put 2 rfl (C [nv',.int .i64 0])).tail.tail
     simp only [List.set_cons_succ,List.set_cons_zero] at d6
     refine AM.wp_region ?_
     have w50:=(hF2 50 (by simp))
     simp [t50] at w50
     simp [w50,hwr]
     refine ⟨L.length - (j + 1),by omega,j + 1,by omega,by omega,?_,?_,?_,by simp [w10],?_,?_,rfl,nv',mn',hM',?_,d6⟩
     ·rw [hF2 4 (by simp)]; simp [t4]
     ·rw [hF2 7 (by simp)]; simp [t7]
     ·rw [hF2 9 (by simp)]; simp [t9]
     ·rw [hF2 48 (by simp)]; simp [t48]
     ·rw [hF2 49 (by simp)]; simp [t49]
     ·rw [hnx]
      simp
      omega
  ·simp [hlt]
   refine AM.wp_exit ?_
   simp
   have hje:j = L.length:=by omega
   subst hje
   rw [List.take_length] at hM h60
   rw [if_neg (by omega)] at q
   have e1:=hout hd'
   refine Z00 ?_
   simp [t4,t10,e1.c 1 rfl,e1.o 0 rfl,hM.ntup,hM.cells]
   have e2:=e1.put 0 rfl (C [nv,.int .i64 0])
   simp only [List.set_cons_zero] at e2
   generalize s'.put B4 (.cells [nv,.int .i64 0] false) = s9 at e2 ⊢
   refine AM.wp_ret ?_
   simp [t4,e2.c 0 rfl]
   exact q nv mn s9 hM (hend (nv:=nv) e2)
end Go.Proofs
end
section
/- alike.breadth: the contract. -/
open Go Go.AM
namespace Go.Proofs
set_option maxRecDepth 100000
def kidG (ns:List ND) (a:Nat):List Nat:=match ns[a]? with
 | some nd => nd.2.map Int.toNat
 | none => []
theorem Zdu {ns:List ND} {a:Nat} {nd:ND} (h:ns[a]? = some nd):kidG ns a = nd.2.map Int.toNat:=by unfold kidG; rw [h]
def GrOk (ns:List ND):Prop:=∀ nd ∈ ns,nd.2.length ≤ 4∧∀ k ∈ nd.2,0 ≤ k∧k < ns.length
theorem GrOk.Zjg {ns:List ND} (h:GrOk ns):∀ a,a < ns.length→∀ k ∈ kidG ns a,k < ns.length:=by
 intro a ha k hk
 rw [Zdu (List.getElem?_eq_getElem ha)] at hk
 obtain ⟨x,hx,rfl⟩:=List.mem_map.1 hk
 have:=(h _ (List.getElem_mem ha)).2 x hx
 omega
section
variable {s0 s:St} {fr:FI} {t0:PT AVal} {ns:List ND} {nv lv rv:AVal} {n:Nat} {Bm:Pos} {v:List Nat} {mg:Lets} {Q:Ex→PT AVal→St→Prop}
theorem Zw3 {i a:Nat} (hN:Z1c s0 nv ns) (hO:GrOk ns) (hmax:ns.length ≤ 1000) (hg:Z1w lv (nats v) mg) (hnd:v.Nodup) (hlt:∀ x ∈ v,x < ns.length) (hi:v[i]? = some a)
  (hc:Ctx s0 (fun _ => False) ((Bm,C (metL ns.length v)) :: mg) s)
  (t0':PT.get (posOf 0) t0 = some nv) (t5:PT.get (posOf 5) t0 = some (.slice Bm 0 ns.length (.lim ns.length))) (t6:PT.get (posOf 6) t0 = some lv) (t9:PT.get (posOf 9) t0 = some (.int .i64 i))
  (q:∀ t s' lv' mg',Fr [6,11,48,49,50,51,58] t0 t→PT.get (posOf 6) t = some lv'→Z1w lv' (nats (Z0g v (kidG ns a))) mg'→Ctx s0 (fun _ => False) ((Bm,C (metL ns.length (Z0g v (kidG ns a)))) :: mg') s'→Q .normal t s'):wp Tryd.prog Zsz fr t0 s Q:=by
 have hil:i < v.length:=(List.getElem?_eq_some_iff.1 hi).1
 have ha:=hlt a (List.mem_of_getElem? hi)
 have hnda:ns[a]? = some ns[a]:=List.getElem?_eq_getElem ha
 obtain ⟨h4,hin⟩:=hO _ (List.getElem_mem ha)
 have hkg:=Zdu hnda
 rcases hN.keep hc.Z0f with ⟨_,e⟩ | ⟨b,o,c,cs,rfl,hb,hcs,hle,hel⟩
 ·rw [e] at ha
  simp at ha
 obtain ⟨_,kv,g2,g3⟩:=hel a _ hnda
 rcases hg with ⟨e,_⟩ | ⟨qb,hne,rfl,rfl⟩
 ·have:v = []:=by simpa using e
  rw [this] at hil
  simp at hil
 have hvq:(ints (nats v))[i]? = some (.int .i64 a):=by unfold ints; rw [List.getElem?_map,List.getElem?_map,hi]; rfl
 obtain ⟨iv,hiv⟩:∃ x,x = ints (nats v):=⟨_,rfl⟩
 have hq:=hc.c 1 rfl
 rw [← hiv] at hvq hq
 rw [List.length_map] at t6
 refine Z00 ?_
 simp [t0',t6,t9,hil,hq,hvq,ha,hcs,g2,g3.ntup,g3.len]
 refine AM.wp_block ?_
 refine AM.wp_loop (fun m t s' => ∃ (j:Nat) (lv':AVal) (mg':Lets),j ≤ ns[a].2.length∧m = ns[a].2.length - j∧Fr [6,11,48,49,50,51,58] t0 t∧PT.get (posOf 6) t = some lv'∧PT.get (posOf 48) t = some kv∧PT.get (posOf 49) t = some (.int .i64 ns[a].2.length)∧PT.get (posOf 50) t = some (.int .i64 j) ∧
   Z1w lv' (nats (Z0g v ((kidG ns a).take j))) mg'∧(Z0g v ((kidG ns a).take j)).Nodup∧(∀ x ∈ Z0g v ((kidG ns a).take j),x < ns.length)∧Ctx s0 (fun _ => False) ((Bm,C (metL ns.length (Z0g v ((kidG ns a).take j)))) :: mg') s') ns[a].2.length
  ⟨0,.slice qb 0 v.length (.opn 1),[(qb,C (ints (nats v)))],by simp,by simp,?_,by simp [t6],by simp,by simp,by simp,.inr ⟨qb,by simpa [Z0g] using hne,by simp [Z0g],by simp [Z0g]⟩,by simpa [Z0g] using hnd,by simpa [Z0g] using hlt,by simpa [Z0g] using hc⟩ ?_
 ·intro y hy
  simp at hy
  simp [hy]
 rintro m t s' ⟨j,lv',mg',hj,rfl,hF,t6',t48,t49,t50,hg',hnd',hlt',hc'⟩
 refine Z00 ?_
 simp [t49,t50]
 refine AM.wp_seq ?_
 refine AM.Z04 ?_
 by_cases hlj:j < ns[a].2.length
 ·have hwr:IntKind.wrap .i64 ((j:Int) + 1) = ((j + 1:Nat):Int):=by rw [IntWalk.i64_in _ (by omega)]; omega
  obtain ⟨kk,hkk⟩:∃ kk,ns[a].2[j]? = some kk:=⟨_,List.getElem?_eq_getElem hlj⟩
  obtain ⟨kk0,kk1⟩:=hin kk (List.mem_of_getElem? hkk)
  obtain ⟨kn,rfl⟩:∃ kn:Nat,kk = (kn:Int):=⟨kk.toNat,by omega⟩
  have hkn:kn < ns.length:=by omega
  have hkN:(kidG ns a)[j]? = some kn:=by rw [hkg,List.getElem?_map,hkk]; rfl
  have u5:=(hF 5 (by simp)).trans t5
  rcases hN.keep hc'.Z0f with ⟨_,e⟩ | ⟨b',o',c',cs',e,hb',hcs',hle',hel'⟩
  ·rw [e] at ha
   simp at ha
  cases e
  obtain ⟨_,kv',e2,e3⟩:=hel' a _ hnda
  have hcs2:cs' = cs:=by
   rcases hN with ⟨_,e⟩ | ⟨b3,o3,c3,cs3,e,hb3,hcs3,_⟩
   ·rw [e] at ha
    simp at ha
   cases e
   have h1:=hc'.Z0f.cells hb3
   have h2:=hc.Z0f.cells hb3
   rw [hcs'] at h1
   rw [hcs] at h2
   rw [← h2] at h1
   exact Option.some.inj h1
  subst hcs2
  rw [g2] at e2
  cases e2
  rcases e3 with ⟨_,h0⟩ | ⟨b4,o4,c4,cells4,rfl,hb4,hcs4,hle4,hel4⟩
  ·rw [h0] at hlj
   simp at hlj
  have hgk:=hel4 j _ hkk
  have hmet:=Z5h (Z0g v ((kidG ns a).take j)) hkn
  have hnx:=Zh7 (v:=v) hkN
  simp [hlj]
  refine AM.wp_skip ?_
  simp
  refine AM.wp_seq ?_
  refine AM.wp_block ?_
  refine Z00 ?_
  simp [t48,t50,hlj,hcs4,hgk]
  refine Z00 ?_
  simp [u5,hkn,hc'.c 0 rfl,hmet]
  refine AM.Z04 ?_
  have hvl:=Z2l hnd' hlt'
  by_cases hm:kn ∈ Z0g v ((kidG ns a).take j)
  ·have hadd:addN (Z0g v ((kidG ns a).take j)) kn = Z0g v ((kidG ns a).take j):=by unfold addN; rw [if_pos hm]
   rw [hadd] at hnx
   simp [hm]
   refine AM.wp_skip ?_
   simp
   refine AM.wp_region ?_
   simp [t50,hwr]
   refine ⟨ns[a].2.length - (j + 1),by omega,j + 1,by omega,by omega,?_,lv',by simp [t6'],by simp [t48],by simp [t49],by simp,mg',by rw [hnx]; exact hg',by rw [hnx]; exact hnd',by rw [hnx]; exact hlt',by rw [hnx]; exact hc'⟩
   intro y hy
   simp at hy
   simp [hy]
   exact hF y (by simp [hy])
  ·have hadd:addN (Z0g v ((kidG ns a).take j)) kn = Z0g v ((kidG ns a).take j) ++ [kn]:=by unfold addN; rw [if_neg hm]
   have hset:=Zdr hkn hm
   have hle5:kn + 1 ≤ (metL ns.length (Z0g v ((kidG ns a).take j))).length:=by rw [Z38]; omega
   have hnd2:=Z9a (k:=kn) hnd'
   have hlt2:=Zd4 hlt' hkn
   rw [← hnx] at hset hnd2 hlt2
   simp [lay] at hset
   simp [hm]
   refine Z00 ?_
   simp [u5,hkn,hc'.o 0 rfl,hle5]
   rw [hset]
   have d1:=hc'.put 0 rfl (C (metL ns.length (Z0g v ((kidG ns a).take (j + 1)))))
   simp only [List.set_cons_zero] at d1
   generalize s'.put Bm (.cells (metL ns.length (Z0g v ((kidG ns a).take (j + 1)))) false) = s1 at d1 ⊢
   refine AM.wp_region ?_
   simp [t6',hg'.ntup,Z1p,srcP]
   have d2:=d1.alloc (C [.int .i64 kn])
   generalize s1.alloc (.cells [.int .i64 kn] false) = s2 at d2 ⊢
   generalize s1.next = T at d2 ⊢
   refine Z7i (pre:=[(T,C [.int .i64 kn]),(Bm,C (metL ns.length (Z0g v ((kidG ns a).take (j + 1)))))]) (r:=[]) (by simpa using d2) hg' (by simp; omega) fun lv2 mg2 s3 hg2 d3 => ?_
   simp only [List.cons_append,List.nil_append,List.append_nil] at d3
   have hg2':Z1w lv2 (nats (Z0g v ((kidG ns a).take (j + 1)))) mg2:=by
    rw [hnx,hadd]
    simpa using hg2
   refine AM.wp_region ?_
   simp [t50,hwr]
   refine ⟨ns[a].2.length - (j + 1),by omega,j + 1,by omega,by omega,?_,by simp [t48],by simp [t49],by simp,mg2,hg2',hnd2,hlt2,d3.tail⟩
   intro y hy
   simp at hy
   simp [hy]
   exact hF y (by simp [hy])
 ·simp [hlj]
  refine AM.wp_exit ?_
  simp
  have hje:j = ns[a].2.length:=by omega
  subst hje
  have htk:(kidG ns a).take ns[a].2.length = kidG ns a:=List.take_of_length_le (by rw [hkg]; simp)
  rw [htk] at hg' hc'
  refine q _ s' lv' mg' ?_ (by simp [t6']) hg' hc'
  intro y hy
  simp at hy
  simp [hy]
  exact hF y (by simp [hy])
end
end Go.Proofs
end
section
/- alike.breadth: the contract. -/
open Go Go.AM
namespace Go.Proofs
set_option maxRecDepth 100000
section
variable {s0 s:St} {fr:FI} {t0:PT AVal} {ns:List ND} {nv lv rv:AVal} {n:Nat} {Bm:Pos} {v:List Nat} {mg:Lets}
theorem Zpm {i:Nat} {Q:Ex→PT AVal→St→Prop} (hN:Z1c s0 nv ns) (hO:GrOk ns) (hmax:ns.length ≤ 1000) (hg:Z1w lv (nats v) mg) (hnd:v.Nodup) (hlt:∀ x ∈ v,x < ns.length) (hi:i ≤ ns.length)
  (hc:Ctx s0 (fun _ => False) ((Bm,C (metL ns.length v)) :: mg) s)
  (t0':PT.get (posOf 0) t0 = some nv) (t5:PT.get (posOf 5) t0 = some (.slice Bm 0 ns.length (.lim ns.length))) (t6:PT.get (posOf 6) t0 = some lv) (t9:PT.get (posOf 9) t0 = some (.int .i64 i))
  (q:∀ t s' lv' mg',Fr [6,9,11,38,48,49,50,51,58] t0 t→PT.get (posOf 6) t = some lv'→Z1w lv' (nats (runB (kidG ns) (ns.length + 1 - i) v i)) mg'→Ctx s0 (fun _ => False) ((Bm,C (metL ns.length (runB (kidG ns) (ns.length + 1 - i) v i))) :: mg') s'→Q .normal t s'):wp Tryd.prog Zsb fr t0 s Q:=by
 refine AM.wp_block ?_
 refine AM.wp_loop (fun k t s' => ∃ (j:Nat) (u:List Nat) (lv':AVal) (mg':Lets),j ≤ ns.length∧k = ns.length + 1 - j∧Fr [6,9,11,38,48,49,50,51,58] t0 t∧PT.get (posOf 6) t = some lv'∧PT.get (posOf 9) t = some (.int .i64 j)∧runB (kidG ns) (ns.length + 1 - i) v i = runB (kidG ns) (ns.length + 1 - j) u j ∧
   Z1w lv' (nats u) mg'∧u.Nodup∧(∀ x ∈ u,x < ns.length)∧Ctx s0 (fun _ => False) ((Bm,C (metL ns.length u)) :: mg') s') (ns.length + 1 - i) ⟨i,v,lv,mg,hi,rfl,fun y _ => rfl,t6,t9,rfl,hg,hnd,hlt,hc⟩ ?_
 rintro k t s' ⟨j,u,lv',mg',hj,rfl,hF,t6',t9',hrun,hg',hnd',hlt',hc'⟩
 have hul:=Z2l hnd' hlt'
 have u0:=(hF 0 (by simp)).trans t0'
 have u5:=(hF 5 (by simp)).trans t5
 refine AM.wp_seq ?_
 refine Z00 ?_
 have hgl:=hg'.len
 rw [List.length_map] at hgl
 simp [t6',t9',hg'.ntup,hgl]
 refine AM.Z04 ?_
 by_cases hjl:j < u.length
 ·obtain ⟨a,ha⟩:∃ a,u[j]? = some a:=⟨_,List.getElem?_eq_getElem hjl⟩
  have hwr:IntKind.wrap .i64 ((j:Int) + 1) = ((j + 1:Nat):Int):=by rw [IntWalk.i64_in _ (by omega)]; omega
  simp [hjl]
  refine AM.wp_skip ?_
  simp
  refine AM.wp_seq ?_
  refine AM.wp_block ?_
  refine Zw3 hN hO hmax hg' hnd' hlt' ha hc' (by simp [u0]) (by simp [u5]) (by simp [t6']) (by simp [t9']) fun t2 s2 lv2 mg2 hF2 g6 hg2 hc2 => ?_
  have g9:PT.get (posOf 9) t2 = some (.int .i64 j):=(hF2 9 (by simp)).trans (by simp [t9'])
  obtain ⟨b1,b2⟩:=Zc2 hnd' hlt' (hO.Zjg a (hlt' a (List.mem_of_getElem? ha)))
  simp
  refine AM.wp_region ?_
  simp [g9,g6,hwr]
  refine ⟨ns.length + 1 - (j + 1),by omega,j + 1,by omega,by omega,?_,by simp,Z0g u (kidG ns a),?_,mg2,hg2,b1,b2,hc2⟩
  ·intro y hy
   simp at hy
   simp [hy]
   rw [hF2 y (by simp [hy])]
   simp [hy]
   exact hF y (by simp [hy])
  ·rw [hrun,Zet hj ha]
 ·simp [hjl]
  refine AM.wp_exit ?_
  simp
  rw [hrun,Zfn (by omega)] at q
  refine q _ s' lv' mg' ?_ (by simp [t6']) hg' hc'
  intro y hy
  simp at hy
  simp [hy]
  exact hF y (by simp [hy])
theorem Zmg {roots:List Nat} {Q:AVal→St→Prop} (hwf:s.Wf) (hN:Z1c s nv ns) (hO:GrOk ns) (hmax:ns.length ≤ 1000) (hrv:Z0c s rv (nats roots)) (hrl:roots.length ≤ 1000) (hr:∀ a ∈ roots,a < ns.length)
  (q:∀ lv mg s',Z1w lv (nats (bfsF (kidG ns) ns.length roots)) mg→Ctx s (fun _ => False) mg s'→Q lv s'):Z0b Tryd.prog 69 [nv,rv] s Q:=by
 have hz1:ns.length ≤ Z0h:=by unfold Z0h; omega
 have hrlen:=hrv.len
 rw [List.length_map] at hrlen
 refine Z07 (Z0e (by decide)) fi69 rfl (by decide) rfl ?_
 refine Z00 ?_
 simp
 refine Z00 ?_
 simp [hN.ntup,hN.len,hz1]
 have c1:=(Ctx.start (fun _ => False) hwf).alloc (C (List.replicate ns.length (.bool false)))
 generalize s.alloc (.cells (List.replicate ns.length (.bool false)) false) = s1 at c1 ⊢
 generalize s.next = Bm at c1 ⊢
 have hm0:List.replicate ns.length (AVal.bool false) = metL ns.length []:=by
  refine List.ext_getElem? fun j => ?_
  by_cases hj:j < ns.length
  ·rw [Z5h _ hj,List.getElem?_replicate,if_pos hj]
   simp
  ·rw [List.getElem?_eq_none (by simp; omega),List.getElem?_eq_none (by rw [Z38]; omega)]
 rw [hm0] at c1
 refine Z00 ?_
 simp
 refine AM.wp_seq ?_
 refine Z00 ?_
 simp [hrv.ntup,hrlen]
 refine AM.wp_block ?_
 refine AM.wp_loop (fun k t s' => ∃ (j:Nat) (lv:AVal) (mg:Lets),j ≤ roots.length∧k = roots.length - j∧PT.get (posOf 0) t = some nv∧PT.get (posOf 5) t = some (.slice Bm 0 ns.length (.lim ns.length))∧PT.get (posOf 6) t = some lv∧PT.get (posOf 15) t = some rv∧PT.get (posOf 16) t = some (.int .i64 roots.length)∧PT.get (posOf 17) t = some (.int .i64 j) ∧
   Z1w lv (nats (bfsF (kidG ns) ns.length (roots.take j))) mg∧Ctx s (fun _ => False) ((Bm,C (metL ns.length (bfsF (kidG ns) ns.length (roots.take j)))) :: mg) s') roots.length
  ⟨0,.nilSlice,[],by simp,by simp,by simp,by simp,by simp,by simp,by simp,by simp,.inl ⟨by simp [bfsF],rfl,rfl⟩,by simpa [bfsF] using c1⟩ ?_
 rintro k t s' ⟨j,lv,mg,hj,rfl,t0',t5,t6,t15,t16,t17,hg,hc⟩
 refine Z00 ?_
 simp [t16,t17]
 refine AM.wp_seq ?_
 refine AM.Z04 ?_
 by_cases hlt:j < roots.length
 ·have hwr:IntKind.wrap .i64 ((j:Int) + 1) = ((j + 1:Nat):Int):=by rw [IntWalk.i64_in _ (by omega)]; omega
  obtain ⟨a,ha⟩:∃ a,roots[j]? = some a:=⟨_,List.getElem?_eq_getElem hlt⟩
  have han:=hr a (List.mem_of_getElem? ha)
  rcases hrv.keep hc.Z0f with ⟨_,h0⟩ | ⟨b,o,c,cells,rfl,hb,hcs,hle,hel⟩
  ·have:roots = []:=by simpa using h0
   rw [this] at hlt
   simp at hlt
  have hgk:=hel j (a:Int) (by rw [List.getElem?_map,ha]; rfl)
  rw [List.length_map] at t15
  have hgl:=hg.len
  rw [List.length_map] at hgl
  obtain ⟨f1,f2,_⟩:=Zej (n:=ns.length) hO.Zjg (roots.take j) (fun x hx => hr x (List.mem_of_mem_take hx))
  have hful:=Z2l f1 f2
  have hmet:=Z5h (bfsF (kidG ns) ns.length (roots.take j)) han
  have hnx:bfsF (kidG ns) ns.length (roots.take (j + 1)) = runB (kidG ns) (ns.length + 1 - (bfsF (kidG ns) ns.length (roots.take j)).length) (addN (bfsF (kidG ns) ns.length (roots.take j)) a) (bfsF (kidG ns) ns.length (roots.take j)).length:=by
   unfold bfsF
   rw [List.take_add_one,ha,List.foldl_append]
   rfl
  generalize hv:bfsF (kidG ns) ns.length (roots.take j) = v at hg hc hgl f1 f2 hful hmet hnx
  simp [hlt]
  refine AM.wp_skip ?_
  simp
  refine AM.wp_seq ?_
  refine AM.wp_block ?_
  refine Z00 ?_
  simp [t15,t17,hlt,hcs,hgk]
  refine Z00 ?_
  simp [t6,hg.ntup,hgl]
  refine AM.wp_seq ?_
  refine Z00 ?_
  simp [t5,han,hc.c 0 rfl,hmet]
  refine AM.Z04 ?_
  by_cases hm:a ∈ v
  ·have hadd:addN v a = v:=by unfold addN; rw [if_pos hm]
   rw [hadd] at hnx
   simp [hm]
   refine AM.wp_skip ?_
   simp
   refine Zpm (i:=v.length) hN hO hmax hg f1 f2 hful hc (by simp [t0']) (by simp [t5]) (by simp [t6]) (by simp) fun t2 s2 lv2 mg2 hF2 g6 hg2 hc2 => ?_
   rw [← hnx] at hg2 hc2
   have g17:PT.get (posOf 17) t2 = some (.int .i64 j):=(hF2 17 (by simp)).trans (by simp [t17])
   simp
   refine AM.wp_region ?_
   simp [g17,g6,hwr]
   refine ⟨roots.length - (j + 1),by omega,j + 1,by omega,by omega,?_,?_,?_,?_,rfl,mg2,hg2,hc2⟩
   ·rw [hF2 0 (by simp)]; simp [t0']
   ·rw [hF2 5 (by simp)]; simp [t5]
   ·rw [hF2 15 (by simp)]; simp [t15]
   ·rw [hF2 16 (by simp)]; simp [t16]
  ·have hadd:addN v a = v ++ [a]:=by unfold addN; rw [if_neg hm]
   have hset:=Zdr han hm
   have hle5:a + 1 ≤ (metL ns.length v).length:=by rw [Z38]; omega
   have hnd2:=Z9a (k:=a) f1
   have hlt2:=Zd4 f2 han
   simp [lay] at hset
   simp [hm]
   refine AM.wp_seq ?_
   refine AM.wp_region ?_
   simp [t5,han,hc.o 0 rfl,hle5]
   rw [hset]
   have d1:=hc.put 0 rfl (C (metL ns.length (addN v a)))
   simp only [List.set_cons_zero] at d1
   generalize s'.put Bm (.cells (metL ns.length (addN v a)) false) = s2 at d1 ⊢
   refine AM.wp_region ?_
   simp [t6,hg.ntup,Z1p,srcP]
   have d2:=d1.alloc (C [.int .i64 a])
   generalize s2.alloc (.cells [.int .i64 a] false) = s3 at d2 ⊢
   generalize s2.next = T at d2 ⊢
   refine Z7i (pre:=[(T,C [.int .i64 a]),(Bm,C (metL ns.length (addN v a)))]) (r:=[]) (by simpa using d2) hg (by simp; omega) fun lv2 mg2 s4 hg2 d3 => ?_
   simp only [List.cons_append,List.nil_append,List.append_nil] at d3
   have hg2':Z1w lv2 (nats (addN v a)) mg2:=by
    rw [hadd]
    simpa using hg2
   refine Zpm (i:=v.length) hN hO hmax hg2' hnd2 hlt2 hful d3.tail (by simp [t0']) (by simp [t5]) (by simp) (by simp) fun t2 s5 lv5 mg5 hF2 g6 hg5 hc5 => ?_
   rw [← hnx] at hg5 hc5
   have g17:PT.get (posOf 17) t2 = some (.int .i64 j):=(hF2 17 (by simp)).trans (by simp [t17])
   simp
   refine AM.wp_region ?_
   simp [g17,g6,hwr]
   refine ⟨roots.length - (j + 1),by omega,j + 1,by omega,by omega,?_,?_,?_,?_,rfl,mg5,hg5,hc5⟩
   ·rw [hF2 0 (by simp)]; simp [t0']
   ·rw [hF2 5 (by simp)]; simp [t5]
   ·rw [hF2 15 (by simp)]; simp [t15]
   ·rw [hF2 16 (by simp)]; simp [t16]
 ·simp [hlt]
  refine AM.wp_exit ?_
  simp
  have hje:j = roots.length:=by omega
  subst hje
  rw [List.take_length] at hg hc
  refine Z00 ?_
  simp [t6,hg.ntup]
  refine AM.wp_ret ?_
  simp
  exact q lv mg s' hg hc.tail
end
end Go.Proofs
end
section
/- alike.classes: as heap's,with other registers. -/
open Go Go.AM
namespace Go.Proofs
set_option maxRecDepth 100000
theorem Zw0 {fr:FI} {s0 s:St} {t0:PT AVal} {p Bn Bk:Pos} {nds:List (List UInt8 × List Int)} {nd:List UInt8 × List Int} {a:Nat} {now:List Int} {c0 c1:Cap} {Q:Ex→PT AVal→St→Prop}
  (hN:NodesG s0 p nds) (hk0:Keeps s0 s) (hnd:nds[a]? = some nd) (h4:nd.2.length ≤ 4) (hin:∀ k ∈ nd.2,0 ≤ k∧k < nds.length) (hlen:now.length = nds.length)
  (h0:PT.get (posOf 0) t0 = some (.slice p 0 nds.length c0)) (h11:PT.get (posOf 12) t0 = some (.int .i64 a)) (h5:PT.get (posOf 6) t0 = some (.slice Bn 0 nds.length c1)) (h12:PT.get (posOf 13) t0 = some (.ptr Bk 0))
  (hBn:s.cells Bn = some (now.map fun k => .int .i64 k)) (hob:s.Old Bn) (hne:Bn ≠ Bk) (hBk:s.own Bk = some (sgK now nd 0).cells) (hoBk:s.Old Bk) (hfr:¬ s0.Old Bk)
  (q:∀ t s',Fr [14,15,56,57,58,59] t0 t→Same [Bk] s s'→s'.own Bk = some (sgK now nd 4).cells→Q .normal t s'):wp Tryd.prog Zss fr t0 s Q:=by
 have hf:∀ b ∈ [Bk],¬ s0.Old b:=by simpa using hfr
 obtain ⟨cs,hcs,hle,hel⟩:=(hN.keep hk0).ex
 obtain ⟨hel0,kv,hel1,hkv⟩:=hel a nd hnd
 have ha:a < nds.length:=(List.getElem?_eq_some_iff.1 hnd).1
 have hkv0:Z0c s0 kv nd.2:=by
  obtain ⟨cs0,hcs0,_,hel00⟩:=hN.ex
  have e:cs0 = cs:=by
   have:=hk0.cells hN.old
   rw [hcs,hcs0] at this
   exact (Option.some.inj this).symm
  subst e
  obtain ⟨_,kv',h1,h2⟩:=hel00 a nd hnd
  rw [hel1] at h1
  cases h1
  exact h2
 refine Z00 ?_
 simp [h0,h11,ha,hcs,hel1,hkv.len]
 refine AM.wp_block ?_
 refine AM.wp_loop (fun m t s' => ∃ i:Nat,i ≤ nd.2.length∧m = nd.2.length - i∧Fr [14,15,56,57,58,59] t0 t∧PT.get (posOf 56) t = some kv∧PT.get (posOf 57) t = some (.int .i64 nd.2.length)∧PT.get (posOf 58) t = some (.int .i64 i)∧Same [Bk] s s'∧s'.own Bk = some (sgK now nd i).cells) nd.2.length ⟨0,by simp,by simp,?_,by simp,by simp,by simp,Same.refl _ _,hBk⟩ ?_
 ·intro x hx
  simp at hx
  simp [hx]
 rintro m t s' ⟨i,hi,rfl,hF,t55,t56,t57,hS,hO⟩
 refine Z00 ?_
 simp [t56,t57]
 refine AM.wp_seq ?_
 refine AM.Z04 ?_
 by_cases hlt:i < nd.2.length
 ·obtain ⟨k,hk⟩:∃ k,nd.2[i]? = some k:=⟨_,List.getElem?_eq_getElem hlt⟩
  obtain ⟨hk1,hk2⟩:=hin k (List.mem_of_getElem? hk)
  obtain ⟨x,hx⟩:∃ x,now[k.toNat]? = some x:=⟨_,List.getElem?_eq_getElem (by omega)⟩
  have hwr:IntKind.wrap .i64 ((i:Int) + 1) = ((i + 1:Nat):Int):=by rw [IntWalk.i64_in _ (by omega)]; omega
  have hkeep:Keeps s0 s':=Same.keeps hk0 hS hf
  have hBn':s'.cells Bn = some (now.map fun k => .int .i64 k):=(hS.cells (by simpa using hne) hob).trans hBn
  have hgx:(now.map fun k => AVal.int .i64 k)[k.toNat]? = some (.int .i64 x):=by rw [List.getElem?_map,hx]; rfl
  have hlay:lay (sgK now nd i).cells (2 + i) [.int .i64 x] = (sgK now nd (i + 1)).cells:=Zsw (nm:=nd.1) (by omega) hk hx
  have hsl:2 + i + 1 ≤ (sgK now nd i).cells.length:=by simp [sgK,Key.cells,Z9t]; omega
  have hi4:(i:Int) < 4:=by omega
  simp [lay] at hlay
  have t5:=(hF 6 (by simp)).trans h5
  have t12:=(hF 13 (by simp)).trans h12
  rcases hkv0.keep hkeep with ⟨_,e0⟩ | ⟨b,o,c,ks,rfl,hb,hks,hle2,hel2⟩
  ·rw [e0] at hlt
   simp at hlt
  have hg:=hel2 i k hk
  simp [hlt]
  refine AM.wp_skip ?_
  simp
  refine AM.wp_seq ?_
  refine AM.wp_block ?_
  refine Z00 ?_
  simp [t55,t57,hlt,hks,hg]
  refine AM.wp_region ?_
  simp [t5,t12,hk1,hk2,hBn',hgx,hO]
  refine ⟨hi4,hsl,?_⟩
  rw [hlay]
  refine AM.wp_region ?_
  simp [t57,hwr]
  refine ⟨nd.2.length - (i + 1),by omega,i + 1,by omega,by omega,?_,by simp [t55],by simp [t56],by simp,?_,by simp⟩
  ·intro y hy
   simp at hy
   simp [hy]
   exact hF y (by simp [hy])
  ·exact hS.put _ (by simp) (hS.old hoBk)
 ·simp [hlt]
  refine AM.wp_exit ?_
  simp
  have hie:i = nd.2.length:=by omega
  subst hie
  refine q _ s' ?_ hS ?_
  ·intro y hy
   simp at hy
   simp [hy]
   exact hF y (by simp [hy])
  ·rw [hO]
   unfold sgK
   rw [Zlv now nd.2 (Nat.le_refl _) h4]
theorem Zvs {fr:FI} {s:St} {t0:PT AVal} {Bx:Pos} {n:Nat} {c2:Cap} {Q:Ex→PT AVal→St→Prop} (hw:s.Wf) (hn:n ≤ 1000)
  (h7:PT.get (posOf 8) t0 = some (.slice Bx 0 n c2)) (hBx:s.own Bx = some ((List.replicate n (0:Int)).map fun k => .int .i64 k))
  (q:∀ t s',Fr [9,25,26,27] t0 t→Same [Bx] s s'→s'.own Bx = some ((List.replicate n (-1:Int)).map fun k => .int .i64 k)→Q .normal t s'):wp Tryd.prog Zrw fr t0 s Q:=by
 have hoX:s.Old Bx:=Z09 hw hBx
 refine Z00 ?_
 simp [h7]
 refine AM.wp_block ?_
 refine AM.wp_loop (fun m t s' => ∃ i:Nat,i ≤ n∧m = n - i∧Fr [9,25,26,27] t0 t∧PT.get (posOf 25) t = some (.int .i64 n)∧PT.get (posOf 26) t = some (.int .i64 i)∧Same [Bx] s s' ∧
  s'.own Bx = some (List.replicate i (.int .i64 (-1)) ++ List.replicate (n - i) (.int .i64 0))) n ⟨0,by simp,by simp,?_,by simp,by simp,Same.refl _ _,?_⟩ ?_
 ·intro y hy
  simp at hy
  simp [hy]
 ·simpa using hBx
 rintro m t s' ⟨i,hi,rfl,hF,t24,t25,hS,hX⟩
 refine Z00 ?_
 simp [t24,t25]
 refine AM.wp_seq ?_
 refine AM.Z04 ?_
 by_cases hlt:i < n
 ·have hwr:IntKind.wrap .i64 ((i:Int) + 1) = ((i + 1:Nat):Int):=by rw [IntWalk.i64_in _ (by omega)]; omega
  have t7:=(hF 8 (by simp)).trans h7
  have hle:i + 1 ≤ i + (n - i):=by omega
  simp [hlt]
  refine AM.wp_skip ?_
  simp
  refine AM.wp_seq ?_
  refine AM.wp_block ?_
  refine Z00 ?_
  simp [t25]
  refine AM.wp_region ?_
  simp [t7,hlt,hX,hle,Zhz]
  refine AM.wp_region ?_
  simp [t25,hwr]
  refine ⟨n - (i + 1),by omega,i + 1,by omega,by omega,?_,by simp [t24],by simp,hS.put _ (by simp) (hS.old hoX),?_⟩
  ·intro y hy
   simp at hy
   simp [hy]
   exact hF y (by simp [hy])
  ·rw [Zhd]
 ·simp [hlt]
  refine AM.wp_exit ?_
  simp
  have hie:i = n:=by omega
  subst hie
  refine q _ s' ?_ hS (by simpa using hX)
  intro y hy
  simp at hy
  simp [hy]
  exact hF y (by simp [hy])
end Go.Proofs
end
section
/- alike.classes: as heap's,with other registers. -/
open Go Go.AM
namespace Go.Proofs
set_option maxRecDepth 100000
theorem Zv7 {fr:FI} {s0 s:St} {t0:PT AVal} {p Bn Bx Bm:Pos} {nds:List (List UInt8 × List Int)} {nd:List UInt8 × List Int} {a:Nat} {now nxt:List Int} {c0 c1 c2:Cap} {D:List Key} {Q:Ex→PT AVal→St→Prop}
  (hN:NodesG s0 p nds) (hk0:Keeps s0 s) (hw:s.Wf) (hnd:nds[a]? = some nd) (h4:nd.2.length ≤ 4) (hin:∀ k ∈ nd.2,0 ≤ k∧k < nds.length) (hlen:now.length = nds.length) (hlx:nxt.length = nds.length)
  (h0:PT.get (posOf 0) t0 = some (.slice p 0 nds.length c0)) (h11:PT.get (posOf 12) t0 = some (.int .i64 a)) (h5:PT.get (posOf 6) t0 = some (.slice Bn 0 nds.length c1)) (h7:PT.get (posOf 8) t0 = some (.slice Bx 0 nds.length c2)) (h9:PT.get (posOf 10) t0 = some (.map Bm))
  (hBn:s.cells Bn = some (now.map fun k => .int .i64 k)) (hob:s.Old Bn) (hBx:s.own Bx = some (nxt.map fun k => .int .i64 k)) (hBm:s.obj Bm = some (.map (Z1d 0 D) D.length)) (hD:∀ d ∈ D,d.2.length = 5)
  (hnx:Bn ≠ Bx) (hnm:Bn ≠ Bm) (hxm:Bx ≠ Bm) (hfx:¬ s0.Old Bx) (hfm:¬ s0.Old Bm)
  (q:∀ t s',Fr [12,13,14,15,16,17,40,41,42,43,44,45,46,47,48,49,50,51,56,57,58,59,78] t0 t→Same [Bx,Bm] s s' →
   s'.own Bx = some ((nxt.set a ((addK D (sgK now nd 4)).idxOf (sgK now nd 4):Nat)).map fun k => .int .i64 k)→s'.obj Bm = some (.map (Z1d 0 (addK D (sgK now nd 4))) (addK D (sgK now nd 4)).length)→Q .normal t s'):wp Tryd.prog Ztm fr t0 s Q:=by
 obtain ⟨cs,hcs,hle,hel⟩:=(hN.keep hk0).ex
 obtain ⟨hel0,kv,hel1,hkv⟩:=hel a nd hnd
 have ha:a < nds.length:=(List.getElem?_eq_some_iff.1 hnd).1
 have hoX:s.Old Bx:=Z09 hw hBx
 have hoM:s.Old Bm:=Z39 hw hBm
 refine Z00 ?_
 simp [h0,h11,ha,hcs,hel0,hel1,hkv.len,hw]
 have hK1:Keeps s ((s.alloc (.cells [.str [],.int .i64 0,.int .i64 0,.int .i64 0,.int .i64 0,.int .i64 0] false)).put s.next (.cells [.str nd.1,.int .i64 nd.2.length,.int .i64 0,.int .i64 0,.int .i64 0,.int .i64 0] false)) :=
  (Keeps.alloc _ _).put _ (Z0a _) (Z16 _ _)
 have hoK:((s.alloc (.cells [.str [],.int .i64 0,.int .i64 0,.int .i64 0,.int .i64 0,.int .i64 0] false)).put s.next (.cells [.str nd.1,.int .i64 nd.2.length,.int .i64 0,.int .i64 0,.int .i64 0,.int .i64 0] false)).Old s.next:=Zgf.2 (Z16 _ _)
 have hwK:((s.alloc (.cells [.str [],.int .i64 0,.int .i64 0,.int .i64 0,.int .i64 0,.int .i64 0] false)).put s.next (.cells [.str nd.1,.int .i64 nd.2.length,.int .i64 0,.int .i64 0,.int .i64 0,.int .i64 0] false)).own s.next = some (sgK now nd 0).cells:=Z7o _ _ _
 generalize (s.alloc (.cells [.str [],.int .i64 0,.int .i64 0,.int .i64 0,.int .i64 0,.int .i64 0] false)).put s.next (.cells [.str nd.1,.int .i64 nd.2.length,.int .i64 0,.int .i64 0,.int .i64 0,.int .i64 0] false) = S1 at hK1 hoK hwK ⊢
 have hfk:¬ s0.Old s.next:=fun h => Z0a s (hk0.old h)
 have hnk:Bn ≠ s.next:=ne_next hob
 have hxk:Bx ≠ s.next:=ne_next hoX
 have hmk:Bm ≠ s.next:=ne_next hoM
 have hsk:¬ s.Old s.next:=Z0a s
 generalize s.next = Bk at hoK hwK hfk hnk hxk hmk hsk ⊢
 refine AM.wp_seq ?_
 refine Zw0 (c0:=c0) (c1:=c1) (Bn:=Bn) (Bk:=Bk) hN (hk0.trans hK1) hnd h4 hin hlen (by simp [h0]) (by simp [h11]) (by simp [h5]) (by simp) ((hK1.cells hob).trans hBn) (hK1.old hob) hnk hwK hoK hfk fun t2 s2 hF2 hS2 hO2 => ?_
 have hX2:s2.own Bx = some (nxt.map fun k => .int .i64 k):=((hS2.own (by simpa using hxk) (hK1.old hoX)).trans (hK1.own hoX)).trans hBx
 have hM2:s2.obj Bm = some (.map (Z1d 0 D) D.length):=((hS2.obj Bm (by simpa using hmk) (hK1.old hoM)).trans (hK1.obj Bm hoM)).trans hBm
 have g9:PT.get (posOf 10) t2 = some (.map Bm):=(hF2 10 (by simp)).trans (by simp [h9])
 have g12:PT.get (posOf 13) t2 = some (.ptr Bk 0):=(hF2 13 (by simp)).trans (by simp)
 have g7:PT.get (posOf 8) t2 = some (.slice Bx 0 nds.length c2):=(hF2 8 (by simp)).trans (by simp [h7])
 have g11:PT.get (posOf 12) t2 = some (.int .i64 a):=(hF2 12 (by simp)).trans (by simp [h11])
 have hwf2:s2.Wf:=hS2.wf (hK1.wf hw)
 have hoX2:s2.Old Bx:=hS2.old (hK1.old hoX)
 have hoM2:s2.Old Bm:=hS2.old (hK1.old hoM)
 have hl6:(sgK now nd 4).cells.length = 6:=by simp [sgK,Key.cells,Z9t]
 have ht6:(sgK now nd 4).cells.take 6 = (sgK now nd 4).cells:=List.take_of_length_le (by omega)
 have hk5:(sgK now nd 4).2.length = 5:=by simp [sgK,Z9t]
 have hSa:Same [Bx,Bm] s s2:=⟨fun b hb ho => (hS2.obj b (by intro hm; simp at hm; subst hm; exact hsk ho) (hK1.old ho)).trans (hK1.obj b ho),Nat.le_trans hK1.next hS2.next,fun h => hwf2⟩
 have hcB:=Z08 hO2
 have fin:∀ (t3:PT AVal) (s3:St),Fr [12,13,14,15,16,17,40,41,42,43,44,45,46,47,48,49,50,51,56,57,58,59,78] t0 t3→PT.get (posOf 16) t3 = some (.int .i64 ((addK D (sgK now nd 4)).idxOf (sgK now nd 4):Nat))→Same [Bx,Bm] s s3 →
   s3.own Bx = some (nxt.map fun k => .int .i64 k)→s3.obj Bm = some (.map (Z1d 0 (addK D (sgK now nd 4))) (addK D (sgK now nd 4)).length)→PT.get (posOf 12) t3 = some (.int .i64 a)→wp Tryd.prog Zsp fr t3 s3 Q:=by
  intro t3 s3 hF3 f16 hS3 hX3 hM3 f12
  have f8:PT.get (posOf 8) t3 = some (.slice Bx 0 nds.length c2):=(hF3 8 (by simp)).trans h7
  refine AM.wp_region ?_
  have hlay:=Z68 nxt a ((addK D (sgK now nd 4)).idxOf (sgK now nd 4):Nat) (by omega)
  have hax:a + 1 ≤ nxt.length:=by omega
  simp [lay] at hlay
  simp [f8,f12,f16,ha,hX3,hax]
  refine q t3 _ hF3 (hS3.put _ (by simp) (hS3.old hoX)) ?_ ?_
  ·rw [hlay]
   simp
  ·rw [Z3q (fun e => hxm e.symm)]
   exact hM3
 have hF2':∀ y,y ∉ [12,13,14,15,16,17,40,41,42,43,44,45,46,47,48,49,50,51,56,57,58,59,78]→PT.get (posOf y) t2 = PT.get (posOf y) t0:=by
  intro y hy
  simp at hy
  rw [hF2 y (by simp [hy])]
  simp [hy]
 simp
 refine AM.wp_seq ?_
 refine AM.wp_region ?_
 simp [g9,g12,hcB,hl6,ht6]
 refine Zed (w:=5) hM2 hk5 hD (fun hm => ?_) (fun hm => ?_)
 ·have e:addK D (sgK now nd 4) = D:=if_pos hm
  simp
  refine AM.wp_seq ?_
  refine Z00 ?_
  simp
  refine AM.Z04 ?_
  simp
  refine AM.wp_skip ?_
  simp
  refine fin _ s2 ?_ (by rw [e]; simp) hSa hX2 (by rw [e]; exact hM2) (by simp [g11])
  intro y hy
  have h1:=hF2' y hy
  simp at hy
  simp [hy]
  exact h1
 ·have e:addK D (sgK now nd 4) = D ++ [sgK now nd 4]:=if_neg hm
  have hidx:(D ++ [sgK now nd 4]).idxOf (sgK now nd 4) = D.length:=by rw [List.idxOf_append,if_neg hm]; simp
  simp
  refine AM.wp_seq ?_
  refine Z00 ?_
  simp
  refine AM.Z04 ?_
  simp
  refine Z00 ?_
  simp [g9]
  refine Z7l hM2 ?_
  rw [entsFrom_len]
  refine AM.wp_region ?_
  simp [g9,g12,hcB,hl6,ht6]
  refine Zkv (w:=5) hM2 hk5 hD hm ?_
  simp
  refine fin _ _ ?_ (by rw [e,hidx]; simp) (hSa.put _ (by simp) hoM2) ?_ ?_ (by simp [g11])
  ·intro y hy
   have h1:=hF2' y hy
   simp at hy
   simp [hy]
   exact h1
  ·rw [Z5d hxm]
   exact hX2
  ·rw [e]
   simp
end Go.Proofs
end
section
/- alike.classes: as heap's,with other registers. -/
open Go Go.AM
namespace Go.Proofs
set_option maxRecDepth 100000
theorem Zw9 {fr:FI} {s0 s:St} {t0:PT AVal} {p Bn Bx Bm:Pos} {nds:List (List UInt8 × List Int)} {now:List Int} {c0 c1 c2:Cap} {Lv:AVal} {L:List Nat} {Q:Ex→PT AVal→St→Prop}
  (hN:NodesG s0 p nds) (hk0:Keeps s0 s) (hw:s.Wf) (hL:Z0c s0 Lv (L.map fun (a:Nat) => (a:Int))) (hLn:∀ a ∈ L,a < nds.length) (hLl:L.length ≤ 1000)
  (hkids:∀ (a:Nat) nd,nds[a]? = some nd→nd.2.length ≤ 4∧∀ k ∈ nd.2,0 ≤ k∧k < nds.length) (hlen:now.length = nds.length)
  (h0:PT.get (posOf 0) t0 = some (.slice p 0 nds.length c0)) (h1:PT.get (posOf 1) t0 = some Lv) (h5:PT.get (posOf 6) t0 = some (.slice Bn 0 nds.length c1)) (h7:PT.get (posOf 8) t0 = some (.slice Bx 0 nds.length c2)) (h9:PT.get (posOf 10) t0 = some (.map Bm))
  (hBn:s.cells Bn = some (now.map fun k => .int .i64 k)) (hob:s.Old Bn) (hBx:s.own Bx = some ((List.replicate nds.length (-1)).map fun k => .int .i64 k)) (hBm:s.obj Bm = some (.map [] 0))
  (hnx:Bn ≠ Bx) (hnm:Bn ≠ Bm) (hxm:Bx ≠ Bm) (hfx:¬ s0.Old Bx) (hfm:¬ s0.Old Bm)
  (q:∀ t s',Fr [12,13,14,15,16,17,34,35,36,37,40,41,42,43,44,45,46,47,48,49,50,51,56,57,58,59,78] t0 t→Same [Bx,Bm] s s' →
   s'.own Bx = some ((Z0m now nds L).2.map fun k => .int .i64 k)→s'.obj Bm = some (.map (Z1d 0 (Z0m now nds L).1) (Z0m now nds L).1.length)→Q .normal t s'):wp Tryd.prog Ztf fr t0 s Q:=by
 have hoX:s.Old Bx:=Z09 hw hBx
 have hoM:s.Old Bm:=Z39 hw hBm
 have hLlen:=(hL.keep hk0).len
 have hLt:=hL.ntup
 simp at hLlen
 have hf:∀ b ∈ [Bx,Bm],¬ s0.Old b:=by
  intro b hb
  simp at hb
  rcases hb with rfl | rfl
  ·exact hfx
  ·exact hfm
 refine Z00 ?_
 simp [h1,hLlen]
 refine AM.wp_block ?_
 refine AM.wp_loop (fun m t s' => ∃ i:Nat,i ≤ L.length∧m = L.length - i∧Fr [12,13,14,15,16,17,34,35,36,37,40,41,42,43,44,45,46,47,48,49,50,51,56,57,58,59,78] t0 t∧PT.get (posOf 34) t = some Lv∧PT.get (posOf 35) t = some (.int .i64 L.length)∧PT.get (posOf 36) t = some (.int .i64 i)∧Same [Bx,Bm] s s' ∧
  s'.own Bx = some ((Z0m now nds (L.take i)).2.map fun k => .int .i64 k)∧s'.obj Bm = some (.map (Z1d 0 (Z0m now nds (L.take i)).1) (Z0m now nds (L.take i)).1.length)) L.length ⟨0,by simp,by simp,?_,by simp,by simp,by simp,Same.refl _ _,?_,?_⟩ ?_
 ·intro y hy
  simp at hy
  simp [hy]
 ·simpa [Z0m] using hBx
 ·simpa [Z0m,Z1d] using hBm
 rintro m t s' ⟨i,hi,rfl,hF,t33,t34,t35,hS,hX,hM⟩
 refine Z00 ?_
 simp [t34,t35]
 refine AM.wp_seq ?_
 refine AM.Z04 ?_
 by_cases hlt:i < L.length
 ·obtain ⟨a,ha⟩:∃ a,L[i]? = some a:=⟨_,List.getElem?_eq_getElem hlt⟩
  have han:a < nds.length:=hLn a (List.mem_of_getElem? ha)
  obtain ⟨nd,hnd⟩:∃ nd,nds[a]? = some nd:=⟨_,List.getElem?_eq_getElem han⟩
  obtain ⟨h4,hin⟩:=hkids a nd hnd
  have hwr:IntKind.wrap .i64 ((i:Int) + 1) = ((i + 1:Nat):Int):=by rw [IntWalk.i64_in _ (by omega)]; omega
  have hkeep:Keeps s0 s':=Same.keeps hk0 hS hf
  have hal:(L.map fun (a:Nat) => (a:Int))[i]? = some (a:Int):=by rw [List.getElem?_map,ha]; rfl
  have hkey:keyA now nds a = sgK now nd 4:=by unfold keyA; rw [hnd]
  have htk:L.take (i + 1) = L.take i ++ [a]:=by
   rw [List.take_add_one,ha]
   rfl
  have hrd:Z0m now nds (L.take (i + 1)) = Z4v now nds (Z0m now nds (L.take i)) a:=by
   unfold Z0m
   rw [htk,List.foldl_append]
   rfl
  rcases hL.keep hkeep with ⟨_,e0⟩ | ⟨b,o,c,ks,rfl,hb,hks,hle2,hel2⟩
  ·have:(L.map fun (a:Nat) => (a:Int)).length = 0:=by rw [e0]; rfl
   rw [List.length_map] at this
   omega
  have hg:=hel2 i a hal
  simp at t33
  simp [hlt]
  refine AM.wp_skip ?_
  simp
  refine AM.wp_seq ?_
  refine AM.wp_block ?_
  refine Z00 ?_
  simp [t33,t35,hlt,hks,hg]
  refine Zv7 (c0:=c0) (c1:=c1) (c2:=c2) (D:=(Z0m now nds (L.take i)).1) (nxt:=(Z0m now nds (L.take i)).2) hN hkeep (hS.wf hw) hnd h4 hin hlen ?_ ?_ ?_ ?_ ?_ ?_ ((hS.cells (by simp [hnx,hnm]) hob).trans hBn) (hS.old hob) hX hM ?_ hnx hnm hxm hfx hfm fun t2 s2 hF2 hS2 hX2 hM2 => ?_
  ·rw [Z0m,Zay]
   simp
  ·simp
   exact (hF 0 (by simp)).trans h0
  ·simp
  ·simp
   exact (hF 6 (by simp)).trans h5
  ·simp
   exact (hF 8 (by simp)).trans h7
  ·simp
   exact (hF 10 (by simp)).trans h9
  ·exact Zcy _ _ (fun a ha => hLn a (List.mem_of_mem_take ha)) (by simp)
  have g33:PT.get (posOf 34) t2 = some (.slice b o L.length c):=(hF2 34 (by simp)).trans (by simp [t33])
  have g34:PT.get (posOf 35) t2 = some (.int .i64 L.length):=(hF2 35 (by simp)).trans (by simp [t34])
  have g35:PT.get (posOf 36) t2 = some (.int .i64 i):=(hF2 36 (by simp)).trans (by simp [t35])
  simp
  refine AM.wp_region ?_
  simp [g35,hwr]
  refine ⟨L.length - (i + 1),by omega,i + 1,by omega,by omega,?_,by simp [g33],by simp [g34],by simp,hS.trans hS2,?_,?_⟩
  ·intro y hy
   simp at hy
   simp [hy]
   rw [hF2 y (by simp [hy])]
   simp [hy]
   exact hF y (by simp [hy])
  ·rw [hrd,hX2,← hkey]
   rfl
  ·rw [hrd,hM2,← hkey]
   rfl
 ·simp [hlt]
  refine AM.wp_exit ?_
  simp
  have hie:i = L.length:=by omega
  subst hie
  rw [List.take_length] at hX hM
  refine q _ s' ?_ hS hX hM
  intro y hy
  simp at hy
  simp [hy]
  exact hF y (by simp [hy])
end Go.Proofs
end
section
/- alike.classes: the contract. -/
open Go Go.AM
namespace Go.Proofs
set_option maxRecDepth 100000
def cnA (nds:List (List UInt8 × List Int)) (L:List Nat):Nat→Nat
 | 0 => 1
 | r + 1 => cntI nds L (r + 1)
theorem Zon {s:St} {p:Pos} {nds:List (List UInt8 × List Int)} {c0:Cap} {Lv:AVal} {L:List Nat} {R:Nat} {Q:AVal→St→Prop}
  (hw:s.Wf) (hN:NodesG s p nds) (hn:nds.length ≤ 1000) (hL:Z0c s Lv (L.map fun (a:Nat) => (a:Int))) (hLn:∀ a ∈ L,a < nds.length) (hLl:L.length ≤ 1000)
  (hkids:∀ (a:Nat) nd,nds[a]? = some nd→nd.2.length ≤ 4∧∀ k ∈ nd.2,0 ≤ k∧k < nds.length)
  (hR:∀ r,r < R→cntI nds L (r + 1) ≠ cnA nds L r) (hE:cntI nds L (R + 1) = cnA nds L R)
  (q:∀ Bx s',Keeps s s'→¬ s.Old Bx→s'.own Bx = some ((nowI nds L (R + 1)).map fun k => .int .i64 k)→Q (.tup [.slice Bx 0 nds.length (.lim nds.length),.int .i64 (cntI nds L (R + 1):Nat)]) s'):Z0b Tryd.prog 70 [.slice p 0 nds.length c0,Lv] s Q:=by
 have hLt:=hL.ntup
 refine Z07 (Z0e (by decide)) fi70 rfl (by decide) rfl ?_
 refine Z00 ?_
 simp
 refine Z00 ?_
 have hs1:nds.length * 8 ≤ Z0h:=by unfold Z0h; omega
 have hs2:nds.length ≤ Z0h:=by unfold Z0h; omega
 simp [hs1,hs2]
 have hK1:Keeps s (s.alloc (.cells (List.replicate nds.length (.int .i64 0)) false)):=Keeps.alloc _ _
 have hX1:(s.alloc (.cells (List.replicate nds.length (.int .i64 0)) false)).own s.next = some ((nowI nds L 0).map fun k => .int .i64 k):=by simp [nowI]
 have hf1:¬ s.Old s.next:=Z0a s
 have ho1:(s.alloc (.cells (List.replicate nds.length (.int .i64 0)) false)).Old s.next:=Z16 _ _
 generalize s.alloc (.cells (List.replicate nds.length (.int .i64 0)) false) = s1 at hK1 hX1 ho1 ⊢
 generalize s.next = B1 at hX1 hf1 ho1 ⊢
 refine Z00 ?_
 simp
 refine AM.wp_block ?_
 refine AM.wp_loop (fun m t s' => ∃ (r:Nat) (Bn:Pos),r ≤ R∧m = R - r∧PT.get (posOf 0) t = some (.slice p 0 nds.length c0)∧PT.get (posOf 1) t = some Lv∧PT.get (posOf 6) t = some (.slice Bn 0 nds.length (.lim nds.length))∧PT.get (posOf 7) t = some (.int .i64 (cnA nds L r:Nat))∧Keeps s s'∧¬ s.Old Bn∧s'.Old Bn ∧
  s'.own Bn = some ((nowI nds L r).map fun k => .int .i64 k)) R ⟨0,B1,by simp,by simp,by simp,by simp,by simp,by simp [cnA],hK1,hf1,ho1,hX1⟩ ?_
 rintro m t s' ⟨r,Bn,hr,rfl,t0,t1,t5,t6,hk,hfn,hon,hXn⟩
 refine AM.wp_block ?_
 refine Z00 ?_
 simp [t0,hs1,hs2]
 have hw':s'.Wf:=hk.wf hw
 have hK2:Keeps s' (s'.alloc (.cells (List.replicate nds.length (.int .i64 0)) false)):=Keeps.alloc _ _
 have hX2:(s'.alloc (.cells (List.replicate nds.length (.int .i64 0)) false)).own s'.next = some ((List.replicate nds.length (0:Int)).map fun k => .int .i64 k):=by simp
 have hfx:¬ s.Old s'.next:=fun h => Z0a s' (hk.old h)
 have hnx:Bn ≠ s'.next:=ne_next hon
 have hfx':¬ s'.Old s'.next:=Z0a s'
 generalize s'.alloc (.cells (List.replicate nds.length (.int .i64 0)) false) = s2 at hK2 hX2 ⊢
 generalize s'.next = Bx at hX2 hfx hnx hfx' ⊢
 have hw2:s2.Wf:=hK2.wf hw'
 refine AM.wp_seq ?_
 refine Zvs (n:=nds.length) (Bx:=Bx) (c2:=.lim nds.length) hw2 hn (by simp) hX2 fun t3 s3 hF3 hS3 hX3 => ?_
 have hw3:s3.Wf:=hS3.wf hw2
 have hk3:Keeps s' s3:=Same.keeps hK2 hS3 (by simpa using hfx')
 have g0:PT.get (posOf 0) t3 = some (.slice p 0 nds.length c0):=(hF3 0 (by simp)).trans (by simp [t0])
 have g1:PT.get (posOf 1) t3 = some Lv:=(hF3 1 (by simp)).trans (by simp [t1])
 have g5:PT.get (posOf 6) t3 = some (.slice Bn 0 nds.length (.lim nds.length)):=(hF3 6 (by simp)).trans (by simp [t5])
 have g6:PT.get (posOf 7) t3 = some (.int .i64 (cnA nds L r:Nat)):=(hF3 7 (by simp)).trans (by simp [t6])
 have g7:PT.get (posOf 8) t3 = some (.slice Bx 0 nds.length (.lim nds.length)):=(hF3 8 (by simp)).trans (by simp)
 simp
 refine Z00 ?_
 simp
 have hK4:Keeps s3 (s3.alloc (.map [] 0)):=Keeps.alloc _ _
 have hM4:(s3.alloc (.map [] 0)).obj s3.next = some (.map [] 0):=Z4l _ _
 have hoX3:s3.Old Bx:=Z09 hw3 hX3
 have hfm:¬ s.Old s3.next:=fun h => Z0a s3 (hk3.old (hk.old h))
 have hnm:Bn ≠ s3.next:=ne_next (hk3.old hon)
 have hxm:Bx ≠ s3.next:=ne_next hoX3
 generalize s3.alloc (.map [] 0) = s4 at hK4 hM4 ⊢
 generalize s3.next = Bm at hM4 hfm hnm hxm ⊢
 have hw4:s4.Wf:=hK4.wf hw3
 have hk4:Keeps s s4:=(hk.trans hk3).trans hK4
 have hX4:s4.own Bx = some ((List.replicate nds.length (-1:Int)).map fun k => .int .i64 k):=(hK4.own hoX3).trans hX3
 have hN4:s4.own Bn = some ((nowI nds L r).map fun k => .int .i64 k):=(hK4.own (hk3.old hon)).trans ((hk3.own hon).trans hXn)
 refine AM.wp_seq ?_
 refine Zw9 (p:=p) (Bn:=Bn) (Bx:=Bx) (Bm:=Bm) (c0:=c0) (c1:=.lim nds.length) (c2:=.lim nds.length) (now:=nowI nds L r) (Lv:=Lv) (L:=L) hN hk4 hw4 hL hLn hLl hkids (Z63 nds L r) (by simp [g0]) (by simp [g1]) (by simp [g5]) (by simp [g7]) (by simp) (Z08 hN4) (hK4.old (hk3.old hon)) hX4 hM4 hnx hnm hxm hfx hfm fun t5' s5 hF5 hS5 hX5 hM5 => ?_
 have hk5:Keeps s s5:=Same.keeps hk4 hS5 (by
  intro b hb
  simp at hb
  rcases hb with rfl | rfl
  ·exact hfx
  ·exact hfm)
 have j0:PT.get (posOf 0) t5' = some (.slice p 0 nds.length c0):=(hF5 0 (by simp)).trans (by simp [g0])
 have j1:PT.get (posOf 1) t5' = some Lv:=(hF5 1 (by simp)).trans (by simp [g1])
 have j6:PT.get (posOf 7) t5' = some (.int .i64 (cnA nds L r:Nat)):=(hF5 7 (by simp)).trans (by simp [g6])
 have j7:PT.get (posOf 8) t5' = some (.slice Bx 0 nds.length (.lim nds.length)):=(hF5 8 (by simp)).trans (by simp [g7])
 have j9:PT.get (posOf 10) t5' = some (.map Bm):=(hF5 10 (by simp)).trans (by simp)
 have hcnt:(Z0m (nowI nds L r) nds L).1.length = cntI nds L (r + 1):=rfl
 simp
 refine AM.wp_seq ?_
 refine Z00 ?_
 simp [j9]
 refine Z7l hM5 ?_
 rw [entsFrom_len,hcnt]
 by_cases he:cntI nds L (r + 1) = cnA nds L r
 ·have hrR:r = R:=by
   rcases Nat.lt_or_ge r R with h | h
   ·exact (hR r h he).elim
   ·omega
  subst hrR
  simp [j6,he]
  refine AM.Z04 ?_
  simp
  refine Z00 ?_
  simp [j7,j6]
  refine AM.wp_ret ?_
  simp
  rw [← he]
  exact q Bx s5 hk5 hfx hX5
 ·have hrR:r < R:=by
   rcases Nat.lt_or_ge r R with h | h
   ·exact h
   ·have:r = R:=by omega
    subst this
    exact (he hE).elim
  have he':¬ ((cntI nds L (r + 1):Nat):Int) = (cnA nds L r:Nat):=by omega
  have hcn:cnA nds L (r + 1) = cntI nds L (r + 1):=rfl
  simp [j6,he,he']
  refine AM.Z04 ?_
  simp
  refine AM.wp_skip ?_
  simp
  refine AM.wp_region ?_
  simp [j7,j9]
  refine Z7l hM5 ?_
  rw [entsFrom_len,hcnt]
  simp
  refine ⟨R - (r + 1),by omega,r + 1,by omega,rfl,by simp [j0],by simp [j1],rfl,hk5,hfx,Z09 (hk5.wf hw) hX5,hX5⟩
end Go.Proofs
end
section
/- classes,in plain: the numbers are those in which the classes come. -/
open Go Go.AM
namespace Go.Proofs
set_option maxRecDepth 100000
def Z1a (f:Nat→Key) (D:List Key) (L:List Nat):List Key:=L.foldl (fun D a => addK D (f a)) D
theorem Zca {now:List Int} {nds:List ND}:∀ (L:List Nat) (x:List Key × List Int),(L.foldl (Z4v now nds) x).1 = Z1a (keyA now nds) x.1 L
 | [],x => rfl
 | a :: L,x => by
  rw [List.foldl_cons,Zca L]
  rfl
theorem Zkm {f g:Nat→Key}:∀ (L E:List Nat) (D D':List Key),(∀ a ∈ E ++ L,∀ b ∈ E ++ L,(f a = f b ↔ g a = g b))→D.length = D'.length→(∀ e ∈ E,f e ∈ D∧g e ∈ D'∧D.idxOf (f e) = D'.idxOf (g e))→(∀ k ∈ D,∃ e ∈ E,f e = k)→(∀ k ∈ D',∃ e ∈ E,g e = k) →
  (Z1a f D L).length = (Z1a g D' L).length∧∀ e ∈ E ++ L,(Z1a f D L).idxOf (f e) = (Z1a g D' L).idxOf (g e)
 | [],E,D,D',_,hl,he,_,_ => ⟨hl,fun e h => (he e (by simpa using h)).2.2⟩
 | a :: L,E,D,D',hk,hl,he,hD,hD' => by
  have hmem:f a ∈ D ↔ g a ∈ D':=by
   constructor
   ·intro h
    obtain ⟨e,h1,h2⟩:=hD _ h
    have:=(hk e (by simp [h1]) a (by simp)).1 h2
    rw [← this]
    exact (he e h1).2.1
   ·intro h
    obtain ⟨e,h1,h2⟩:=hD' _ h
    have:=(hk e (by simp [h1]) a (by simp)).2 h2
    rw [← this]
    exact (he e h1).1
  have:=Zkm (f:=f) (g:=g) L (E ++ [a]) (addK D (f a)) (addK D' (g a)) (by simpa using hk) (by
   unfold addK
   by_cases h:f a ∈ D
   ·rw [if_pos h,if_pos (hmem.1 h)]
    exact hl
   ·rw [if_neg h,if_neg (fun h' => h (hmem.2 h'))]
    simp [hl]) (by
   intro e h
   rcases List.mem_append.1 h with h | h
   ·obtain ⟨h1,h2,h3⟩:=he e h
    exact ⟨Zdp h1,Zdp h2,by rw [Zdw h1,Zdw h2,h3]⟩
   ·simp at h
    subst h
    refine ⟨Zbp _ _,Zbp _ _,?_⟩
    unfold addK
    by_cases h:f e ∈ D
    ·rw [if_pos h,if_pos (hmem.1 h)]
     obtain ⟨e',h1,h2⟩:=hD _ h
     have h3:=(hk e' (by simp [h1]) e (by simp)).1 h2
     rw [← h2,← h3]
     exact (he e' h1).2.2
    ·rw [if_neg h,if_neg (fun h' => h (hmem.2 h')),List.idxOf_append,if_neg h,List.idxOf_append,if_neg (fun h' => h (hmem.2 h'))]
     simp [hl]) (by
   intro k hk'
   unfold addK at hk'
   split at hk'
   ·obtain ⟨e,h1,h2⟩:=hD k hk'
    exact ⟨e,by simp [h1],h2⟩
   ·rcases List.mem_append.1 hk' with h | h
    ·obtain ⟨e,h1,h2⟩:=hD k h
     exact ⟨e,by simp [h1],h2⟩
    ·simp at h
     exact ⟨a,by simp,h.symm⟩) (by
   intro k hk'
   unfold addK at hk'
   split at hk'
   ·obtain ⟨e,h1,h2⟩:=hD' k hk'
    exact ⟨e,by simp [h1],h2⟩
   ·rcases List.mem_append.1 hk' with h | h
    ·obtain ⟨e,h1,h2⟩:=hD' k h
     exact ⟨e,by simp [h1],h2⟩
    ·simp at h
     exact ⟨a,by simp,h.symm⟩)
  simpa [Z1a] using this
section
variable {nds:List ND} {L:List Nat} (hC:Closed nds L)
include hC
theorem Zv9 {r1 r2:Nat} (h:∀ a ∈ L,∀ b ∈ L,(sim nds (r1 + 1) a b ↔ sim nds (r2 + 1) a b)):nowI nds L (r1 + 1) = nowI nds L (r2 + 1)∧cntI nds L (r1 + 1) = cntI nds L (r2 + 1):=by
 have hk:=Zkm (f:=keyA (nowI nds L r1) nds) (g:=keyA (nowI nds L r2) nds) L [] [] [] (by
  intro a ha b hb
  simp at ha hb
  rw [Z5p hC r1 a b ha hb,Z5p hC r2 a b ha hb]
  exact h a ha b hb) rfl (by simp) (by simp) (by simp)
 have e1:(Z0m (nowI nds L r1) nds L).1 = Z1a (keyA (nowI nds L r1) nds) [] L:=Zca L _
 have e2:(Z0m (nowI nds L r2) nds L).1 = Z1a (keyA (nowI nds L r2) nds) [] L:=Zca L _
 refine ⟨List.ext_getElem? fun j => ?_,?_⟩
 ·by_cases hj:j < nds.length
  ·by_cases hm:j ∈ L
   ·show (Z0m (nowI nds L r1) nds L).2[j]? = (Z0m (nowI nds L r2) nds L).2[j]?
    rw [Z9h hm hj,Z9h hm hj,e1,e2]
    have:=hk.2 j (by simpa using hm)
    rw [this]
   ·rw [Zk8 nds L r1 j hj hm,Zk8 nds L r2 j hj hm]
  ·rw [List.getElem?_eq_none (by rw [Z63]; omega),List.getElem?_eq_none (by rw [Z63]; omega)]
 ·show (Z0m (nowI nds L r1) nds L).1.length = (Z0m (nowI nds L r2) nds L).1.length
  rw [e1,e2]
  exact hk.1
theorem Zot (hne:L ≠ []):∃ R,(∀ r,r < R→cntI nds L (r + 1) ≠ cnA nds L r)∧cntI nds L (R + 1) = cnA nds L R∧nowI nds L (R + 1) = clsF nds L:=by
 obtain ⟨R,h1,h2,h3⟩:=Zbe hC
 have hpos:cntI nds L 1 ≠ 0:=by
  rw [Z56]
  cases L with
  | nil => exact (hne rfl).elim
  | cons a L => simp [news]
 cases R with
 | zero => exact (hpos h2).elim
 | succ R =>
  by_cases h1':cntI nds L 1 = 1
  ·refine ⟨0,by simp,h1',?_⟩
   rw [h1]
   have hone:∀ a ∈ L,∀ b ∈ L,sim nds 1 a b:=by
    rw [Z56] at h1'
    intro a ha b hb
    refine (Z5p hC 0 a b ha hb).1 ?_
    have:=Zf7 (f:=keyA (nowI nds L 0) nds) (g:=fun _:Nat => (0:Nat)) L [] (fun _ _ _ _ _ => rfl) (by
     rw [h1']
     cases L with
     | nil => exact (hne rfl).elim
     | cons c L =>
      have key:∀ (L E:List Nat),E ≠ []→news (fun _:Nat => (0:Nat)) E L = 0:=by
       intro L
       induction L with
       | nil => intro E _; rfl
       | cons x L ih =>
        intro E hE
        have h2:=ih (E ++ [x]) (by simp)
        cases E with
        | nil => exact (hE rfl).elim
        | cons y E =>
         simp only [news]
         rw [h2]
         simp
      simp only [news]
      rw [key L ([] ++ [c]) (by simp)]
      simp) (by simp) a (by simpa using ha) b (by simpa using hb) rfl
    exact this
   refine (Zv9 hC (r1:=0) (r2:=R + 1) fun a ha b hb => ?_).1
   constructor
   ·intro _
    have hall:∀ r a b,a ∈ L→b ∈ L→sim nds r a b:=by
     intro r
     induction r with
     | zero => intro a b _ _; trivial
     | succ r ih =>
      intro a b ha hb
      obtain ⟨x,y,hx,hy,e1,e2,_⟩:=hone a ha b hb
      exact ⟨x,y,hx,hy,e1,e2,fun j k m hk hm => ih _ _ ((hC.kids a ha x hx).2 k (List.mem_of_getElem? hk)) ((hC.kids b hb y hy).2 m (List.mem_of_getElem? hm))⟩
    exact hall _ a b ha hb
   ·intro _
    exact hone a ha b hb
  ·refine ⟨R + 1,?_,h2,h1.symm⟩
   intro r hr
   cases r with
   | zero => exact h1'
   | succ r => exact h3 (r + 1) hr
noncomputable def Zi8 (nds:List ND) (L:List Nat):Nat:=news (fun a => (clsF nds L)[a]?) [] L
theorem Zp9 {R:Nat} (h:nowI nds L (R + 1) = clsF nds L):cntI nds L (R + 1) = Zi8 nds L:=by
 rw [Z56]
 unfold Zi8
 rw [← h]
 have hiff:∀ a ∈ L,∀ b ∈ L,(keyA (nowI nds L R) nds a = keyA (nowI nds L R) nds b ↔ (nowI nds L (R + 1))[a]? = (nowI nds L (R + 1))[b]?):=fun a ha b hb => by
  rw [Z5p hC R a b ha hb,Z9b hC (R + 1) a b ha hb]
 have h1:=Zak (f:=keyA (nowI nds L R) nds) (g:=fun a => (nowI nds L (R + 1))[a]?) L [] (fun a ha b hb h => (hiff a (by simpa using ha) b (by simpa using hb)).1 h)
 have h2:=Zak (f:=fun a => (nowI nds L (R + 1))[a]?) (g:=keyA (nowI nds L R) nds) L [] (fun a ha b hb h => (hiff a (by simpa using ha) b (by simpa using hb)).2 h)
 omega
theorem Zfe {a:Nat} (ha:a ∈ L):∃ c:Nat,(clsF nds L)[a]? = some (c:Int)∧c < Zi8 nds L:=by
 obtain ⟨R,h1,h2,h3⟩:=Zbe hC
 have hm:=Zp9 hC h1.symm
 rw [h1]
 refine ⟨_,Z9h ha (hC.lt a ha),?_⟩
 rw [← hm]
 show _ < (Z0m (nowI nds L R) nds L).1.length
 exact List.idxOf_lt_length_of_mem (Zcn L _ a ha)
end
end Go.Proofs
end
section
/- The classes come in their order. -/
open Go Go.AM
namespace Go.Proofs
set_option maxRecDepth 100000
theorem Zpu {α:Type} {motive:List α→Prop} (nil:motive []) (append_singleton:∀ (l:List α) (a:α),motive l→motive (l ++ [a])) (l:List α):motive l:=by
 have:∀ r:List α,motive r.reverse:=by
  intro r
  induction r with
  | nil => exact nil
  | cons a r ih =>
   rw [List.reverse_cons]
   exact append_singleton _ a ih
 have h:=this l.reverse
 rwa [List.reverse_reverse] at h
theorem Zan (f:Nat→Key) (D:List Key) (P S:List Nat):Z1a f D (P ++ S) = Z1a f (Z1a f D P) S:=by
 unfold Z1a
 rw [List.foldl_append]
theorem Zaz (f:Nat→Key):∀ (S:List Nat) (D:List Key),∃ T,Z1a f D S = D ++ T
 | [],D => ⟨[],by simp [Z1a]⟩
 | a :: S,D => by
  obtain ⟨T,h⟩:=Zaz f S (addK D (f a))
  have h1:Z1a f D (a :: S) = Z1a f (addK D (f a)) S:=rfl
  rw [h1,h]
  unfold addK
  split
  ·exact ⟨T,rfl⟩
  ·exact ⟨[f a] ++ T,by simp⟩
theorem Zil (f:Nat→Key):∀ (S:List Nat) (D:List Key) (k:Key),k ∈ Z1a f D S ↔ k ∈ D ∨ ∃ a ∈ S,f a = k
 | [],D,k => by simp [Z1a]
 | a :: S,D,k => by
  have h1:Z1a f D (a :: S) = Z1a f (addK D (f a)) S:=rfl
  rw [h1,Zil f S]
  have h2:k ∈ addK D (f a) ↔ k ∈ D ∨ f a = k:=by
   unfold addK
   split
   ·rename_i h
    constructor
    ·exact .inl
    ·rintro (h' | rfl)
     ·exact h'
     ·exact h
   ·simp [eq_comm]
  rw [h2]
  constructor
  ·rintro ((h | h) | ⟨b,hb,h⟩)
   ·exact .inl h
   ·exact .inr ⟨a,by simp,h⟩
   ·exact .inr ⟨b,by simp [hb],h⟩
  ·rintro (h | ⟨b,hb,h⟩)
   ·exact .inl (.inl h)
   ·rcases List.mem_cons.1 hb with rfl | hb
    ·exact .inl (.inr h)
    ·exact .inr ⟨b,hb,h⟩
theorem Zvl {nds:List ND} {L:List Nat} (hC:Closed nds L):∃ f:Nat→Key,(∀ a ∈ L,(clsF nds L)[a]? = some ((Z1a f [] L).idxOf (f a):Nat))∧∀ a ∈ L,∀ b ∈ L,(f a = f b ↔ ∀ r,sim nds r a b):=by
 obtain ⟨R,h1,h2,_⟩:=Zbe hC
 refine ⟨keyA (nowI nds L R) nds,fun a ha => ?_,fun a ha b hb => ?_⟩
 ·have e1:(Z0m (nowI nds L R) nds L).1 = Z1a (keyA (nowI nds L R) nds) [] L:=Zca L _
  rw [h1,← e1]
  exact Z9h ha (hC.lt a ha)
 ·rw [← Zh2 hC h2 ha hb,Z9b hC (R + 1) a b ha hb,← Z5p hC R a b ha hb]
theorem Ze3 {nds:List ND} {L P S:List Nat} {a:Nat} (hC:Closed nds L) (hL:L = P ++ a :: S) :
  ∃ c:Nat,(clsF nds L)[a]? = some (c:Int)∧c ≤ (outF (clsF nds L) nds P).length∧(c < (outF (clsF nds L) nds P).length ↔ ∃ e ∈ P,∀ r,sim nds r e a):=by
 obtain ⟨f,hf0,hs⟩:=Zvl hC
 have hf:∀ x ∈ L,(clsF nds L)[x]? = some (((Z1a f [] L).idxOf (f x):Nat):Int):=hf0
 have ha:a ∈ L:=by rw [hL]; simp
 have hPL:∀ x ∈ P,x ∈ L:=fun x hx => by rw [hL]; simp [hx]
 have key:∀ (P' Q':List Nat),P = P' ++ Q'→(outF (clsF nds L) nds P').length = (Z1a f [] P').length:=by
  intro P'
  induction P' using Zpu with
  | nil => intro Q' _; rfl
  | append_singleton P' x ih =>
   intro Q' hQ
   have ihp:=ih (x :: Q') (by rw [hQ]; simp)
   have hx:x ∈ L:=hPL x (by rw [hQ]; simp)
   have hnd:nds[x]? = some (nds[x]'(hC.lt x hx)):=List.getElem?_eq_getElem _
   have e1:outF (clsF nds L) nds (P' ++ [x]) = Z27 (clsF nds L) nds (outF (clsF nds L) nds P') x:=by unfold outF; rw [List.foldl_append]; rfl
   have e2:Z1a f [] (P' ++ [x]) = addK (Z1a f [] P') (f x):=by rw [Zan]; rfl
   rw [e1,e2]
   unfold Z27
   rw [hf x hx,hnd]
   simp only
   obtain ⟨T,hT⟩:=Zaz f (x :: (Q' ++ a :: S)) (Z1a f [] P')
   have hLx:L = P' ++ x :: (Q' ++ a :: S):=by rw [hL,hQ]; simp
   have hk:Z1a f [] L = Z1a f [] P' ++ T:=by rw [hLx,Zan]; exact hT
   rw [hk,List.idxOf_append]
   unfold addK
   by_cases hm:f x ∈ Z1a f [] P'
   ·rw [if_pos hm,if_pos hm,if_pos (by have:=List.idxOf_lt_length_of_mem hm; omega)]
    exact ihp
   ·rw [if_neg hm,if_neg hm,if_neg (by omega)]
    simp [ihp]
 have hlen:=key P [] (by simp)
 obtain ⟨T,hT⟩:=Zaz f (a :: S) (Z1a f [] P)
 have hk:Z1a f [] L = Z1a f [] P ++ T:=by rw [hL,Zan]; exact hT
 refine ⟨_,hf a ha,?_⟩
 rw [hlen,hk,List.idxOf_append]
 have hmem:f a ∈ Z1a f [] P ↔ ∃ e ∈ P,∀ r,sim nds r e a:=by
  rw [Zil]
  constructor
  ·rintro (h | ⟨e,he,h⟩)
   ·cases h
   ·exact ⟨e,he,(hs e (hPL e he) a ha).1 h⟩
  ·rintro ⟨e,he,h⟩
   exact .inr ⟨e,he,(hs e (hPL e he) a ha).2 h⟩
 by_cases hm:f a ∈ Z1a f [] P
 ·rw [if_pos hm]
  have:=List.idxOf_lt_length_of_mem hm
  exact ⟨by omega,⟨fun _ => hmem.1 hm,fun _ => this⟩⟩
 ·rw [if_neg hm]
  have hz:T.idxOf (f a) = 0:=by
   have h1:Z1a f (Z1a f [] P) (a :: S) = Z1a f (addK (Z1a f [] P) (f a)) S:=rfl
   obtain ⟨T',hT'⟩:=Zaz f S (addK (Z1a f [] P) (f a))
   rw [h1,hT'] at hT
   unfold addK at hT
   rw [if_neg hm,List.append_assoc] at hT
   have:=List.append_cancel_left hT
   rw [← this]
   simp
  rw [hz]
  refine ⟨by omega,⟨fun h => by omega,fun h => (hm (hmem.2 h)).elim⟩⟩
theorem Zmp {nds:List ND} {L:List Nat} (hC:Closed nds L):(outF (clsF nds L) nds L).length = Zi8 nds L:=by
 have hb:∀ a ∈ L,∃ c:Nat,(clsF nds L)[a]? = some (c:Int):=fun a ha => by
  obtain ⟨c,h,_⟩:=Zfe hC ha
  exact ⟨c,h⟩
 have key:∀ (P S:List Nat),L = P ++ S→(outF (clsF nds L) nds P).length = news (fun a => (clsF nds L)[a]?) [] P:=by
  intro P
  induction P using Zpu with
  | nil => intro S _; rfl
  | append_singleton P x ih =>
   intro S hS
   have ihp:=ih (x :: S) (by rw [hS]; simp)
   obtain ⟨c,hc,h1,h2⟩:=Ze3 (P:=P) (a:=x) (S:=S) hC (by rw [hS]; simp)
   have hx:x ∈ L:=by rw [hS]; simp
   have e1:outF (clsF nds L) nds (P ++ [x]) = Z27 (clsF nds L) nds (outF (clsF nds L) nds P) x:=by unfold outF; rw [List.foldl_append]; rfl
   have hnd:nds[x]? = some (nds[x]'(hC.lt x hx)):=List.getElem?_eq_getElem _
   have hap:∀ (P E:List Nat) (y:Nat) (f:Nat→Option Int),news f E (P ++ [y]) = news f E P + (if (E ++ P).any (fun e => decide (f e = f y)) = true then 0 else 1):=by
    intro P
    induction P with
    | nil => intro E y f; simp [news]
    | cons z P ih =>
     intro E y f
     have:=ih (E ++ [z]) y f
     simp only [List.cons_append,news]
     rw [this]
     have e:(E ++ [z] ++ P) = E ++ z :: P:=by simp
     rw [e]
     omega
   rw [hap,e1,← ihp]
   unfold Z27
   rw [hc,hnd]
   simp only
   have hany:([] ++ P).any (fun e => decide ((clsF nds L)[e]? = (clsF nds L)[x]?)) = true ↔ ∃ e ∈ P,∀ r,sim nds r e x:=by
    simp only [List.nil_append,List.any_eq_true,decide_eq_true_eq]
    constructor
    ·rintro ⟨e,he,h⟩
     exact ⟨e,he,(Zb7 hC (by rw [hS]; simp [he]) hx).1 h⟩
    ·rintro ⟨e,he,h⟩
     exact ⟨e,he,(Zb7 hC (by rw [hS]; simp [he]) hx).2 h⟩
   rw [hc] at hany
   by_cases hlt:c < (outF (clsF nds L) nds P).length
   ·rw [if_pos (hany.2 (h2.1 hlt)),if_pos (by omega)]
    omega
   ·rw [if_neg (fun h => hlt (h2.2 (hany.1 h))),if_neg (by omega)]
    simp
 exact key L [] (by simp)
end Go.Proofs
end
section
/- alike.merged: the contract. -/
open Go Go.AM
namespace Go.AM
theorem Zu9 {P:Program} {γ:RO→Option AVal} {s:St} {Q:AVal→St→Prop} {es ox:Nat} {x y:RO} {bx:Pos} {cx:Cap} {yv:AVal}
  (hx:γ x = some (.slice bx ox 0 cx)) (hy:γ y = some yv) (hs:Z1b yv = some 0) (h:Q (.int .i64 0) s):opP P (.copy (some es) x y) γ s Q:=by
 refine ⟨_,_,fun rec K hK => ?_,h⟩
 refine Z01.2 ⟨_,hx,Z01.2 ⟨_,hy,?_⟩⟩
 cases yv <;> cases hs <;> exact hK
end Go.AM
namespace Go.Proofs
set_option maxRecDepth 100000
def clOf (cls:List Int) (k:Int):Int:=(cls[k.toNat]?).getD 0
def Z4c (f:Int→Int) (ks:List Int) (j:Nat):List Int:=(ks.take j).map f ++ ks.drop j
theorem Zq1 (f:Int→Int) (ks:List Int):Z4c f ks 0 = ks:=by simp [Z4c]
theorem Zke (f:Int→Int) (ks:List Int) (j:Nat):(Z4c f ks j).length = ks.length:=by
 simp [Z4c]
 omega
theorem Zul (f:Int→Int) (ks:List Int):Z4c f ks ks.length = ks.map f:=by simp [Z4c]
theorem Zug {f:Int→Int} {ks:List Int} {j:Nat} {k:Int} (h:ks[j]? = some k):(Z4c f ks j)[j]? = some k:=by
 have hj:=(List.getElem?_eq_some_iff.1 h).1
 unfold Z4c
 rw [List.getElem?_append_right (by simp; omega)]
 have e:j - ((ks.take j).map f).length = 0:=by simp; omega
 rw [e,List.getElem?_drop]
 simpa using h
theorem Zpx {f:Int→Int} {ks:List Int} {j:Nat} {k:Int} (h:ks[j]? = some k):(Z4c f ks j).set j (f k) = Z4c f ks (j + 1):=by
 have hj:=(List.getElem?_eq_some_iff.1 h).1
 unfold Z4c
 have hl:((ks.take j).map f).length = j:=by simp; omega
 rw [List.set_append_right _ _ (by omega),hl,Nat.sub_self,List.take_add_one,h]
 have hd:ks.drop j = k :: ks.drop (j + 1):=by
  rw [List.drop_eq_getElem_cons hj]
  have:ks[j] = k:=(List.getElem?_eq_some_iff.1 h).2
  rw [this]
 rw [hd]
 simp
theorem Zl5:∀ (l:List (List UInt8 × AVal)) (i:Nat) (c:List UInt8 × AVal) (nm:List UInt8),l[i]? = some c→lay (penc l) (i * 2) [.str nm] = penc (l.set i (nm,c.2))
 | [],i,c,nm,h => by simp at h
 | d :: l,0,c,nm,h => by
  simp at h
  subst h
  simp [lay,penc]
 | d :: l,i + 1,c,nm,h => by
  have ih:=Zl5 l i c nm (by simpa using h)
  have e:penc (d :: l) = [.str d.1,d.2] ++ penc l:=rfl
  have e2:penc ((d :: l).set (i + 1) (nm,c.2)) = [.str d.1,d.2] ++ penc (l.set i (nm,c.2)):=rfl
  rw [e,e2,← ih]
  have e3:(i + 1) * 2 = i * 2 + 2:=by omega
  rw [e3]
  simp [lay]
theorem Zkf:∀ (l:List (List UInt8 × AVal)) (i:Nat) (c:List UInt8 × AVal) (kv:AVal),l[i]? = some c→lay (penc l) (i * 2 + 1) [kv] = penc (l.set i (c.1,kv))
 | [],i,c,nm,h => by simp at h
 | d :: l,0,c,nm,h => by
  simp at h
  subst h
  simp [lay,penc]
 | d :: l,i + 1,c,nm,h => by
  have ih:=Zkf l i c nm (by simpa using h)
  have e:penc (d :: l) = [.str d.1,d.2] ++ penc l:=rfl
  have e2:penc ((d :: l).set (i + 1) (c.1,nm)) = [.str d.1,d.2] ++ penc (l.set i (c.1,nm)):=rfl
  rw [e,e2,← ih]
  have e3:(i + 1) * 2 + 1 = i * 2 + 1 + 2:=by omega
  rw [e3]
  simp [lay]
theorem Zni:∀ (ns:List ND) (V:List AVal) (i:Nat) (nm:List UInt8) (ks:List Int) (kv:AVal),V[i]? = some kv→(List.zipWith (fun nd kv => (nd.1,kv)) ns V).set i (nm,kv) = List.zipWith (fun (nd:ND) kv => (nd.1,kv)) (ns.set i (nm,ks)) V
 | [],V,i,nm,ks,kv,h => by simp
 | n :: ns,[],i,nm,ks,kv,h => by simp at h
 | n :: ns,v :: V,0,nm,ks,kv,h => by simp at h; subst h; simp
 | n :: ns,v :: V,i + 1,nm,ks,kv,h => by
  have:=Zni ns V i nm ks kv (by simpa using h)
  simpa using this
theorem Znj:∀ (ns:List ND) (V:List AVal) (i:Nat) (nd:ND) (kv:AVal),ns[i]? = some nd→(List.zipWith (fun (nd:ND) kv => (nd.1,kv)) ns V).set i (nd.1,kv) = List.zipWith (fun (nd:ND) kv => (nd.1,kv)) ns (V.set i kv)
 | [],V,i,nm,kv,h => by simp at h
 | n :: ns,[],i,nm,kv,h => by simp
 | n :: ns,v :: V,0,nm,kv,h => by simp at h; subst h; simp
 | n :: ns,v :: V,i + 1,nm,kv,h => by
  have:=Znj ns V i nm kv (by simpa using h)
  simpa using this
theorem Zqo {ns:List ND} {V:List AVal} {i:Nat} {nd:ND} {kv:AVal} (nm:List UInt8) (ks:List Int) (h1:ns[i]? = some nd) (h2:V[i]? = some kv):lay (Z0p ns V) (i * 2) [.str nm] = Z0p (ns.set i (nm,ks)) V:=by
 unfold Z0p
 rw [Zl5 _ i (nd.1,kv) nm (by simp [List.getElem?_zipWith,h1,h2]),Zni ns V i nm ks kv h2]
theorem Zq6 {ns:List ND} {V:List AVal} {i:Nat} {nd:ND} {kv:AVal} (kv':AVal) (h1:ns[i]? = some nd) (h2:V[i]? = some kv):lay (Z0p ns V) (i * 2 + 1) [kv'] = Z0p ns (V.set i kv'):=by
 unfold Z0p
 rw [Zkf _ i (nd.1,kv) kv' (by simp [List.getElem?_zipWith,h1,h2]),Znj ns V i nd kv' h1]
def Zde (Bn:Pos) (ns:List ND) (m:Lets):Prop:=∃ V mr,m.Perm ((Bn,C (Z0p ns V)) :: mr)∧Z0x (ns.map Prod.snd) V mr
theorem Zde.at {s0 s:St} {W:Pos→Prop} {Bn:Pos} {ns:List ND} {m:Lets} (h:Zde Bn ns m) (c:Cap) (hc:Ctx s0 W m s):Z1c s (.slice Bn 0 ns.length c) ns:=by
 obtain ⟨V,mr,hp,hR⟩:=h
 have hc':=hc.perm hp
 have hV:V.length = ns.length:=by simpa using hR.len
 refine .inr ⟨Bn,0,c,_,rfl,hc'.oi 0 rfl,hc'.c 0 rfl,by rw [Z5z hV]; omega,fun i nd hi => ?_⟩
 obtain ⟨kv,g1,g2⟩:=hR.each (i:=i) (ks:=nd.2) (by rw [List.getElem?_map,hi]; rfl)
 obtain ⟨e1,e2⟩:=Z8i hi g1
 rw [Nat.zero_add]
 refine ⟨e1,kv,e2,?_⟩
 rcases g2 with ⟨e3,e4⟩ | ⟨q',c',e3,e4,e5⟩
 ·exact .inl ⟨e4,e3⟩
 ·rw [e4]
  exact Z37 hc'.wf (Z0n (hc'.own _ (List.mem_cons_of_mem _ e5))) c'
theorem Zlw {cls:List Int} {nds:List ND}:∀ {l:List Nat} {x:ND},x ∈ outF cls nds l→∃ a nd,a ∈ l∧nds[a]? = some nd∧x = Z41 cls nd:=by
 have key:∀ (l:List Nat) (out:List ND) (x:ND),x ∈ l.foldl (Z27 cls nds) out→x ∈ out ∨ ∃ a nd,a ∈ l∧nds[a]? = some nd∧x = Z41 cls nd:=by
  intro l
  induction l with
  | nil => intro out x h; exact .inl h
  | cons a l ih =>
   intro out x h
   rcases ih _ x h with h | ⟨b,nd,h1,h2,h3⟩
   ·unfold Z27 at h
    split at h
    ·rename_i c nd hc hnd
     split at h
     ·exact .inl h
     ·rcases List.mem_append.1 h with h | h
      ·exact .inl h
      ·exact .inr ⟨a,nd,by simp,hnd,by simpa using h⟩
    ·exact .inl h
   ·exact .inr ⟨b,nd,by simp [h1],h2,h3⟩
 intro l x h
 rcases key l [] x h with h | h
 ·cases h
 ·exact h
def padF (M:Nat) (l:List ND):List ND:=l ++ List.replicate (M - l.length) ([],[])
theorem Zvo {M:Nat} {l:List ND} (h:l.length ≤ M):(padF M l).length = M:=by
 simp [padF]
 omega
theorem Zv6 {M:Nat} {l:List ND} (h:l.length < M):(padF M l)[l.length]? = some ([],[]):=by
 unfold padF
 rw [List.getElem?_append_right (Nat.le_refl _),Nat.sub_self,List.getElem?_replicate,if_pos (by omega)]
theorem Zn7 {M:Nat} {l:List ND} {i:Nat} {x:ND} (h:l[i]? = some x):(padF M l)[i]? = some x:=by
 unfold padF
 rw [List.getElem?_append_left (List.getElem?_eq_some_iff.1 h).1]
 exact h
theorem Zn9 {M:Nat} {l:List ND} (x:ND) (h:l.length < M):(padF M l).set l.length x = padF M (l ++ [x]):=by
 unfold padF
 rw [List.set_append_right _ _ (Nat.le_refl _),Nat.sub_self]
 have e:M - l.length = (M - (l ++ [x]).length) + 1:=by simp; omega
 rw [e,List.replicate_succ,List.set_cons_zero]
 simp
theorem Zoo {ns ns':List ND} (V:List AVal) (h:ns.map Prod.fst = ns'.map Prod.fst):Z0p ns V = Z0p ns' V:=by
 have key:∀ l:List ND,List.zipWith (fun (nd:ND) kv => (nd.1,kv)) l V = List.zipWith (fun (n:List UInt8) kv => (n,kv)) (l.map Prod.fst) V:=fun l => by rw [List.zipWith_map_left]
 unfold Z0p
 rw [key,key,h]
theorem Zuw {cs:List AVal} {o:Nat} {ks:List Int} (hl:o + ks.length ≤ cs.length) (h:∀ i k,ks[i]? = some k→cs[o + i]? = some (.int .i64 k)):(cs.drop o).take ks.length = ints ks:=by
 refine List.ext_getElem? fun i => ?_
 rw [List.getElem?_take,List.getElem?_drop,List.getElem?_map]
 by_cases hi:i < ks.length
 ·rw [if_pos hi,h i _ (List.getElem?_eq_getElem hi),List.getElem?_eq_getElem hi]
  rfl
 ·rw [if_neg hi,List.getElem?_eq_none (by omega)]
  rfl
theorem Zrp {P:Program} {γ:RO→Option AVal} {s0 s:St} {W:Pos→Prop} {Q:AVal→St→Prop} {pre r:Lets} {x y:RO} {Bk:Pos} {kv:AVal} {ks:List Int} {c:Cap}
  (hc:Ctx s0 W (pre ++ (Bk,C (List.replicate ks.length (.int .i64 0))) :: r) s) (hx:γ x = some (.slice Bk 0 ks.length c)) (hy:γ y = some kv) (hk:Z0c s kv ks)
  (q:∀ v s',Ctx s0 W (pre ++ (Bk,C (ints ks)) :: r) s'→Q v s'):opP P (.copy (some 1) x y) γ s Q:=by
 by_cases h0:ks = []
 ·subst h0
  exact Zu9 hx hy hk.len (q _ _ hc)
 ·have hl:ks.length ≠ 0:=by simpa using h0
  rcases hk with ⟨_,e⟩ | ⟨b,o,c',cs,rfl,hb,hcs,hle,hel⟩
  ·exact (h0 e).elim
  ·have hk0:s.own Bk = some (List.replicate ks.length (.int .i64 0)):=Z0n (hc.own (Bk,C _) (by simp))
   refine Zm0 (ox:=0) (o:=o) hx hy hl hk0 hcs (by omega) (by simp) ?_
   rw [Nat.mul_one,Zuw hle hel]
   have e:lay (List.replicate ks.length (AVal.int .i64 0)) 0 (ints ks) = ints ks:=by simp [lay]
   rw [e]
   have hi:(pre ++ (Bk,C (List.replicate ks.length (.int .i64 0))) :: r)[pre.length]? = some (Bk,C (List.replicate ks.length (.int .i64 0))):=by simp
   have:=hc.put pre.length hi (C (ints ks))
   rw [List.set_append_right _ _ (Nat.le_refl _),Nat.sub_self,List.set_cons_zero] at this
   exact q _ _ this
end Go.Proofs
end
section
/- Sweep: the contract. -/
open Go Go.AM
namespace Go.Proofs
set_option maxRecDepth 100000
theorem Zes (p:Pos) (o n c:Nat):Z2y 8 (.agg [.slice p o n (.lim c)]) (.agg [.slice p o n (.lim c)]) = true:=by
 simp [Z2y,Zeg]
theorem Zry {s0 s:St} {W:Pos→Prop} {n a:Nat} {v:List Nat} {B4 Bm:Pos} {pre r:Lets} {Q:AVal→St→Prop} (hc:Ctx s0 W (pre ++ ((B4,C [.slice Bm 0 n (.lim n)]) :: (Bm,C (metL n v)) :: r)) s) (ha:a < n) (hav:a ∉ v)
  (q:∀ s',Ctx s0 W (pre ++ ((B4,C [.slice Bm 0 n (.lim n)]) :: (Bm,C (metL n (v ++ [a]))) :: r)) s'→Q (.tup []) s'):Z0b Tryd.prog 74 [.int .i64 a,.ptr B4 0] s Q:=by
 have hc0:Ctx s0 W ((B4,C [.slice Bm 0 n (.lim n)]) :: (Bm,C (metL n v)) :: (pre ++ r)) s:=hc.perm (List.perm_middle.trans (List.Perm.cons _ List.perm_middle))
 have hset:=Zdr ha hav
 have e:addN v a = v ++ [a]:=by unfold addN; rw [if_neg hav]
 rw [e] at hset
 have hle:a + 1 ≤ (metL n v).length:=by rw [Z38]; omega
 simp [lay] at hset
 refine Z07 (Z0e (by decide)) fi74 rfl (by decide) rfl ?_
 refine AM.wp_region ?_
 simp [hc0.c 0 rfl,hc0.o 1 rfl,ha,hle]
 rw [hset]
 have c1:=hc0.put 1 rfl (C (metL n (v ++ [a])))
 simp only [List.set_cons_succ,List.set_cons_zero] at c1
 exact q _ (c1.perm (List.perm_middle.trans (List.Perm.cons _ List.perm_middle)).symm)
def Z44 (cs:List CV):List Nat:=bfsF (kidN cs) cs.length ((Z1v cs cs.length).map Int.toNat)
def Z4e (cs:List CV) (v:List Nat) (i:Nat):List Int:=((Z0k cs i).filter fun j => decide (j ∉ v)).map fun (j:Nat) => (j:Int)
def Zda (cs:List CV):Int × Int × List CV:=((Z4e cs (Z44 cs) cs.length).length,0,relC cs (Z4e cs (Z44 cs) cs.length))
theorem Zr8 {cs:List CV} {v:List Nat} {i:Nat} {c:CV} (h:cs[i]? = some c) (ht:c.taken = true):Z4e cs v (i + 1) = Z4e cs v i ++ (if i ∈ v then [] else [(i:Int)]):=by
 unfold Z4e
 rw [Z80 h ht,List.filter_append]
 by_cases hh:i ∈ v <;> simp [hh]
theorem Zqz {cs:List CV} {v:List Nat} {i:Nat} {c:CV} (h:cs[i]? = some c) (ht:c.taken = false):Z4e cs v (i + 1) = Z4e cs v i:=by
 unfold Z4e
 rw [Z9w h ht]
theorem Zl0 (cs:List CV) (v:List Nat) (i:Nat):(Z4e cs v i).length ≤ i:=by
 unfold Z4e Z0k
 rw [List.length_map]
 refine Nat.le_trans (List.length_filter_le _ _) (Nat.le_trans (List.length_filter_le _ _) (by simp))
theorem Zum {cs:List CV} {v:List Nat} {i:Nat} {k:Int}:k ∈ Z4e cs v i ↔ 0 ≤ k∧k < i∧Z11 cs k = true∧k.toNat ∉ v:=by
 unfold Z4e
 simp only [List.mem_map,List.mem_filter,Z3v,decide_eq_true_eq]
 constructor
 ·rintro ⟨j,⟨⟨h1,h2⟩,h3⟩,rfl⟩
  exact ⟨by omega,by omega,h2,by simpa using h3⟩
 ·rintro ⟨h0,h1,h2,h3⟩
  have e:((k.toNat:Nat):Int) = k:=by omega
  exact ⟨k.toNat,⟨⟨by omega,by rw [e]; exact h2⟩,h3⟩,e⟩
theorem Zcq {cs:List CV} {i:Nat} {k:Int} (h:k ∈ Z1v cs i):0 ≤ k∧k < i∧Z11 cs k = true:=by
 unfold Z1v at h
 simp only [List.mem_map,List.mem_filter,Z3v] at h
 obtain ⟨j,⟨⟨h1,h2⟩,_⟩,rfl⟩:=h
 exact ⟨by omega,by omega,h2⟩
theorem Zje {l:List Int} (h:∀ k ∈ l,0 ≤ k):nats (l.map Int.toNat) = l:=by
 unfold nats
 rw [List.map_map]
 have:∀ k ∈ l,((fun (a:Nat) => (a:Int)) ∘ Int.toNat) k = k:=fun k hk => by
  have:=h k hk
  simp only [Function.comp]
  omega
 exact (List.map_congr_left this).trans (by simp)
theorem Zmu {cs:List CV} (hO:HOk2 cs):∀ a,a < cs.length→(Z0j cs a).length ≤ 4∧∀ k ∈ Z0j cs a,0 ≤ k∧k < cs.length:=by
 intro a ha
 have hcd:cs[a]? = some cs[a]:=List.getElem?_eq_getElem ha
 rw [Z13 hcd]
 refine ⟨hO.kids4 _ (List.getElem_mem ha),fun k hk => ?_⟩
 cases hta:cs[a].taken with
 | true =>
  obtain ⟨k0,_,_,_,k1⟩:=Z2m (hO.kids _ (List.getElem_mem ha) hta k hk)
  exact ⟨k0,by omega⟩
 | false =>
  rw [hO.free _ (List.getElem_mem ha) hta] at hk
  cases hk
theorem Zyx {s0 s:St} {W:Pos→Prop} {hb:Pos} {vs:AVal} {cs:List CV} {m r:Lets} {Q:AVal→St→Prop} (hH:Z1m hb vs cs m) (h:Ctx s0 W (m ++ r) s) (hO:HOk2 cs)
  (q:∀ m' s',Z1m hb vs (Zda cs).2.2 m'→Ctx s0 W (m' ++ r) s'→Q (.tup [.int .i64 (Zda cs).1,.int .i64 (Zda cs).2.1]) s'):Z0b Tryd.prog 29 [.ptr hb 0] s Q:=by
 obtain ⟨p,V,mr,hc,hR,hV,h1,h4,hP⟩:=Z5a hH h
 have hl:=Z17 hV
 have hno:cs.length ≠ 0:=by omega
 have hz1:cs.length ≤ Z0h:=by unfold Z0h; omega
 refine Z07 (Z0e (by decide)) fi29 rfl (by decide) rfl ?_
 refine Z00 ?_
 simp
 refine AM.wp_seq ?_
 refine Z00 ?_
 simp
 refine Z02 ?_
 refine Z3o (hc.c 0 rfl) rfl hno ?_
 simp
 refine AM.Z04 ?_
 simp
 refine AM.wp_skip ?_
 simp
 refine Z00 ?_
 simp [hc.c 0 rfl,hz1]
 have c1:=hc.alloc (C (List.replicate cs.length (.bool false)))
 generalize s.alloc (.cells (List.replicate cs.length (.bool false)) false) = s1 at c1 ⊢
 generalize s.next = Bm at c1 ⊢
 have c2:=(c1.alloc (C [.nilSlice])).put 0 rfl (C [.slice Bm 0 cs.length (.lim cs.length)])
 simp only [List.set_cons_zero] at c2
 generalize (s1.alloc (.cells [.nilSlice] false)).put s1.next (.cells [.slice Bm 0 cs.length (.lim cs.length)] false) = s2 at c2 ⊢
 generalize s1.next = B4 at c2 ⊢
 have hm0:List.replicate cs.length (AVal.bool false) = metL cs.length []:=by
  refine List.ext_getElem? fun j => ?_
  by_cases hj:j < cs.length
  ·rw [Z5h _ hj,List.getElem?_replicate,if_pos hj]
   simp
  ·rw [List.getElem?_eq_none (by simp; omega),List.getElem?_eq_none (by rw [Z38]; omega)]
 rw [hm0] at c2
 refine Z00 ?_
 simp [c2.c 2 rfl]
 refine Z02 ?_
 refine Zjj (p:=p) (V:=V) (cs:=cs) c2 hV h4 (fun x s' hx => ?_) fun lv mg x s3 hg c3 => ?_
 ·have hx':(p,C (encs (rcs cs V))) ∈ x ++ ((B4,C [.slice Bm 0 cs.length (.lim cs.length)]) :: (Bm,C (metL cs.length [])) :: (hb,C [.slice p 0 cs.length (.lim cs.length),vs]) :: (p,C (encs (rcs cs V))) :: (mr ++ r)):=by simp
  exact ⟨hx.ob hx',Z08 (Z0n (hx.own _ hx'))⟩
 have c3:=(c3.sub (List.sublist_append_right x _))
 have c4:Ctx s0 W ([(B4,C [.slice Bm 0 cs.length (.lim cs.length)]),(Bm,C (metL cs.length []))] ++ ((hb,C [.slice p 0 cs.length (.lim cs.length),vs]) :: (p,C (encs (rcs cs V))) :: (mg ++ (mr ++ r)))) s3:=c3.perm (by
  have:=List.perm_append_comm (l₁:=mg) (l₂:=[(B4,C [.slice Bm 0 cs.length (.lim cs.length)]),(Bm,C (metL cs.length [])),(hb,C [.slice p 0 cs.length (.lim cs.length),vs]),(p,C (encs (rcs cs V)))])
  have:=this.append (List.Perm.refl (mr ++ r))
  simpa using this)
 have hlv:∀ t,¬ lv = .tup t:=hg.ntup
 simp [hlv,c4.c 2 rfl]
 refine ⟨Zes _ _ _ _,?_⟩
 refine Z02 ?_
 have hrn:nats ((Z1v cs cs.length).map Int.toNat) = Z1v cs cs.length:=Zje fun k hk => (Zcq hk).1
 have hrl:=Zf8 cs cs.length
 have hroots:∀ a ∈ (Z1v cs cs.length).map Int.toNat,Z11 cs (a:Int) = true:=by
  intro a ha
  obtain ⟨k,hk,rfl⟩:=List.mem_map.1 ha
  obtain ⟨k0,_,kt⟩:=Zcq hk
  rw [Int.toNat_of_nonneg k0]
  exact kt
 refine Zfo (V:=V) (J:=fun v m => m = [(B4,C [.slice Bm 0 cs.length (.lim cs.length)]),(Bm,C (metL cs.length v))]) (roots:=(Z1v cs cs.length).map Int.toNat) (rv:=lv) (f:=74) (fx:=[]) (fy:=[.ptr B4 0])
  ⟨hV,h4,?_,fun a ha => Z6w (hroots a ha),by simp; omega,Zmu hO,?_⟩ c4 rfl hlv ?_
 ·rintro x m' s' hx ⟨v,rfl⟩
  obtain ⟨r1,r2,r3⟩:=Z5e (p:=p) (cs:=cs) (V:=V) hx (by simp) hR (fun y hy => by simp [hy])
  refine ⟨r1,r2,?_,r3⟩
  rw [hrn]
  exact (hg.row.kid fun y hy => hx.own y (by simp [hy])).ints hx.wf
 ·rintro a v x m' s' R rfl hav han hvn hvlt hx hq
  refine Z02 ?_
  exact Zry (pre:=x) (by simpa using hx) han hav fun s'' hx' => hq _ _ _ rfl (by simpa using hx')
 ·rintro x m' s5 rfl hx
  have c5:=hx.sub (List.sublist_append_right x _)
  simp only [List.cons_append,List.nil_append] at c5
  have hrd:bfsF (kidN cs) cs.length ((Z1v cs cs.length).map Int.toNat) = Z44 cs:=rfl
  rw [hrd] at c5
  simp only [Zda] at q
  have hrlt:∀ a,a < cs.length→(metL cs.length (Z44 cs))[a]? = some (.bool (decide (a ∈ Z44 cs))):=fun a ha => Z5h _ ha
  generalize Z44 cs = v at c5 q hrlt
  simp
  refine Z00 ?_
  simp
  have c6:=c5.alloc (C [.nilSlice])
  generalize s5.alloc (.cells [.nilSlice] false) = s6 at c6 ⊢
  generalize s5.next = B5 at c6 ⊢
  refine AM.wp_seq ?_
  refine Z00 ?_
  simp [c6.c 3 rfl]
  refine Z02 ?_
  refine Z78 fun BB hBB => ?_
  have c7:=c6.alloc (C [.slice p 0 cs.length (.lim cs.length)])
  rw [← hBB] at c7
  generalize s6.alloc (.cells [.slice p 0 cs.length (.lim cs.length)] false) = s7 at c7 ⊢
  simp
  refine AM.wp_block ?_
  refine Zas (B:=BB) (p:=p) (l:=rcs cs V) (J:=fun i m => ∃ gv mh,Z1w gv (Z4e cs v i) mh∧m = (B5,C [gv]) :: (B4,C [.slice Bm 0 cs.length (.lim cs.length)]) :: (Bm,C (metL cs.length v)) :: (hb,C [.slice p 0 cs.length (.lim cs.length),vs]) :: (p,C (encs (rcs cs V))) :: (mh ++ (mg ++ (mr ++ r))))
   hl h4 (by simp) rfl fi29 rfl ?_ ?_ ?_ ⟨.nilSlice,[],.inl ⟨rfl,rfl,rfl⟩,rfl⟩ c7 ?_
  ·rintro i m s' ⟨gv,mh,hgr,rfl⟩ hc'
   exact ⟨hc'.oi 4 rfl,hc'.c 4 rfl⟩
  ·rintro i c m hci hct ⟨gv,mh,hgr,rfl⟩
   have hi:i < cs.length:=by have:=(List.getElem?_eq_some_iff.1 hci).1; rwa [hl] at this
   rw [Z18 (List.getElem?_eq_getElem hi) (List.getElem?_eq_getElem (show i < V.length by omega))] at hci
   cases hci
   exact ⟨gv,mh,by rw [Zqz (List.getElem?_eq_getElem hi) hct]; exact hgr,rfl⟩
  ·rintro i c s' m Lb X Wx hci hct ⟨gv,mh,hgr,rfl⟩ hc' hW
   have hi:i < cs.length:=by have:=(List.getElem?_eq_some_iff.1 hci).1; rwa [hl] at this
   rw [Z18 (List.getElem?_eq_getElem hi) (List.getElem?_eq_getElem (show i < V.length by omega))] at hci
   have hnx:=Zr8 (v:=v) (List.getElem?_eq_getElem hi) (by cases hci; exact hct)
   have hgm:=hrlt i hi
   refine AM.wp_block ?_
   refine Z00 ?_
   simp [hc'.c 3 rfl,hc'.c 4 rfl,hi,hgm]
   refine AM.Z04 ?_
   by_cases hh:i ∈ v
   ·rw [if_pos hh,List.append_nil] at hnx
    simp [hh]
    refine AM.wp_skip ?_
    simp
    exact hW _ _ _ ⟨gv,mh,by rw [hnx]; exact hgr,rfl⟩ hc'
   ·rw [if_neg hh] at hnx
    simp [hh]
    refine AM.wp_region ?_
    simp [hc'.c 2 rfl,hgr.ntup,hgr.cells,Z1p,srcP]
    have d2:=hc'.alloc (C [.int .i64 i])
    generalize s'.alloc (.cells [.int .i64 i] false) = sB at d2 ⊢
    generalize s'.next = T at d2 ⊢
    have hgl:=Zl0 cs v i
    refine Z7i (pre:=[(T,C [.int .i64 i]),(Lb,X),(BB,C [.slice p 0 cs.length (.lim cs.length)]),(B5,C [gv]),(B4,C [.slice Bm 0 cs.length (.lim cs.length)]),(Bm,C (metL cs.length v)),(hb,C [.slice p 0 cs.length (.lim cs.length),vs]),(p,C (encs (rcs cs V)))]) d2 hgr (by omega) fun gv' mh' sC hgr' d3 => ?_
    simp at d3
    rw [← hnx] at hgr'
    simp [hgr'.ntup,hgr'.cells,d3.o 3 rfl]
    have d4:=(d3.put 3 rfl (C [gv'])).tail
    exact hW _ _ _ ⟨gv',mh',hgr',rfl⟩ d4
  ·rintro s' m ⟨gv,mh,hgr,rfl⟩ hc'
   have hglen:=Zl0 cs v cs.length
   have hgin:∀ k ∈ Z4e cs v cs.length,0 ≤ k∧k < cs.length:=fun k hk => by
    obtain ⟨a,b,_⟩:=Zum.1 hk
    exact ⟨a,b⟩
   simp
   refine Z00 ?_
   simp [hc'.c 3 rfl,hc'.c 0 rfl,hgr.ntup]
   refine Z02 ?_
   refine Zkk hl hc'.wf (hc'.o 4 rfl) (by omega) hgin (fun s'' hS => ?_) fun s12 hS hpn2 => ?_
   ·have hmg:Ctx s0 W mh s'':=(hc'.sub (m':=mh) (by
     refine List.Sublist.trans ?_ (List.drop_sublist 5 _)
     exact List.sublist_append_left _ _)).same hS (fun b hb ho => by
      simp at hb
      subst hb
      exact hc'.free _ (List.mem_of_getElem? (i:=4) rfl) ho) (fun x hx hb => by
      simp at hb
      exact hc'.apart 4 rfl (y:=x) (by simp [hx]) hb.symm)
    exact (hgr.row.kid fun x hx => hmg.own x hx).ints hmg.wf
   ·have c12:=hc'.chg 4 rfl hS (St.Z28 hpn2)
    simp only [List.set_cons_succ,List.set_cons_zero] at c12
    obtain ⟨V3,m3,dd,e1,e2,e3⟩:=Zhp (Z4e cs v cs.length) (cs:=cs) (V:=V) (m:=mr) hV hR hgin
    rw [e1] at c12
    simp
    refine Z00 ?_
    simp [c12.c 0 rfl,hgr.len,hgr.ntup]
    refine AM.wp_ret ?_
    simp
    have hlen:(relC cs (Z4e cs v cs.length)).length = cs.length:=Zbw _ _
    refine q _ _ (Z21 (p:=p) e2 (by omega) (by omega)) ?_
    rw [hlen]
    have c14:=c12.sub (m':=(hb,C [.slice p 0 cs.length (.lim cs.length),vs]) :: (p,C (encs (rcs (relC cs (Z4e cs v cs.length)) V3))) :: (mr ++ r)) (.cons _ (.cons _ (.cons _ (.cons_cons _ (.cons_cons _
     (List.Sublist.trans (List.sublist_append_right mg _) (List.sublist_append_right mh _)))))))
    have c15:=c14.perm (List.Perm.cons _ (List.Perm.cons _ (e3.append (List.Perm.refl r))))
    exact c15.sub (.cons_cons _ (.cons_cons _ ((List.sublist_append_left m3 dd).append (List.Sublist.refl r))))
end Go.Proofs
end
