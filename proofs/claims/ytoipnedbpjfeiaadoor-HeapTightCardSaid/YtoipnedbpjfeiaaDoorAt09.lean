/- Parts of the proof: Kit2, Kit3, Ti2, Can1, Can2, Hp1, Hp2, Hp3, Tgt, Hp4, Hp5, Ti1, Ti3, Ti4, Ti5, Hm2. -/
import Derived.Test.YtoipnedbpjfeiaaDoorAt08
set_option linter.all false
set_option linter.unusedSectionVars false
set_option linter.unusedSimpArgs false
set_option linter.unusedVariables false
section
open Go Go.AM
namespace Go.Proofs
set_option maxRecDepth 100000
noncomputable def Z15 (bs:List Int) (n:Int):Nat→SK→List Int × SK
 | 0,k => ([],k)
 | j + 1,k => ((Z15 bs n j k).1 ++ [(Z0r bs n (Z15 bs n j k).2).1],(Z0r bs n (Z15 bs n j k).2).2)
noncomputable def Zef (bs:List Int) (n kinds:Int) (k:SK):ND × SK :=
 let a:=Z5g bs 0 2 k
 let b:=Z0r bs kinds a.2
 let c:=Z15 bs n a.1.toNat b.2
 ((((Zft a.1)[b.1.toNat]?).getD [],c.1),c.2)
noncomputable def Z2x (bs:List Int) (n kinds:Int):Nat→SK→List ND × SK
 | 0,k => ([],k)
 | j + 1,k => ((Z2x bs n kinds j k).1 ++ [(Zef bs n kinds (Z2x bs n kinds j k).2).1],(Zef bs n kinds (Z2x bs n kinds j k).2).2)
noncomputable def Z5u (bs:List Int) (nodes:Int) (k:SK):(List ND × Int) × SK :=
 let a:=Z5g bs 1 (min nodes 60) k
 let b:=Z0r bs a.1 a.2
 let c:=Z5g bs 1 3 b.2
 let x:=Z2x bs a.1 c.1 a.1.toNat c.2
 ((x.1,b.1),x.2)
theorem Zey (bs:List Int) (n:Int) (j:Nat) (k:SK):Z15 bs n (j + 1) k = ((Z15 bs n j k).1 ++ [(Z0r bs n (Z15 bs n j k).2).1],(Z0r bs n (Z15 bs n j k).2).2):=rfl
theorem Z7f (bs:List Int) (n:Int):∀ (j:Nat) (k:SK),(Z15 bs n j k).1.length = j
 | 0,k => rfl
 | j + 1,k => by
  unfold Z15
  simp [Z7f bs n j k]
theorem Z5y (bs:List Int) (n:Int):∀ (j:Nat) (k:SK),(Z15 bs n j k).2.nx ≤ k.nx + j
 | 0,k => by simp [Z15]
 | j + 1,k => by
  unfold Z15
  have:=Z5y bs n j k
  have:=Z23 bs n (Z15 bs n j k).2
  simp only
  omega
theorem Zha (bs:List Int) {n:Int} (hn:1 ≤ n):∀ (j:Nat) (k:SK),∀ x ∈ (Z15 bs n j k).1,0 ≤ x∧x < n
 | 0,k => by simp [Z15]
 | j + 1,k => by
  unfold Z15
  intro x hx
  rcases List.mem_append.1 hx with hx | hx
  ·exact Zha bs hn j k x hx
  ·simp at hx
   rw [hx]
   have:=Z2v bs n (Z15 bs n j k).2
   omega
theorem Zic (bs:List Int) (n kinds:Int) (k:SK):∃ a b c,a = Z5g bs 0 2 k∧b = Z0r bs kinds a.2∧c = Z15 bs n a.1.toNat b.2∧Zef bs n kinds k = ((((Zft a.1)[b.1.toNat]?).getD [],c.1),c.2):=⟨_,_,_,rfl,rfl,rfl,rfl⟩
theorem Zwz (bs:List Int) (n kinds:Int) (k:SK):(Zef bs n kinds k).2.nx ≤ k.nx + 4:=by
 obtain ⟨a,b,c,ha,hb,hc,e⟩:=Zic bs n kinds k
 have h1:=Z7d bs 0 2 k
 have h4:=Z46 bs 0 2 k
 rw [← ha] at h1 h4
 have h2:=Z23 bs kinds a.2
 rw [← hb] at h2
 have h3:=Z5y bs n a.1.toNat b.2
 rw [← hc] at h3
 rw [e]
 show c.2.nx ≤ _
 omega
theorem Zhn (bs:List Int) (n kinds:Int) (j:Nat) (k:SK):Z2x bs n kinds (j + 1) k = ((Z2x bs n kinds j k).1 ++ [(Zef bs n kinds (Z2x bs n kinds j k).2).1],(Zef bs n kinds (Z2x bs n kinds j k).2).2):=by rw [Z2x]
theorem Zlu (bs:List Int) (n kinds:Int):∀ (j:Nat) (k:SK),(Z2x bs n kinds j k).2.nx ≤ k.nx + 4 * j:=by
 intro j k
 induction j with
 | zero => exact Nat.le_refl _
 | succ j ih =>
  have h2:=Zwz bs n kinds (Z2x bs n kinds j k).2
  rw [Zhn]
  revert ih h2
  generalize Z2x bs n kinds j k = y
  generalize Zef bs n kinds y.2 = x
  intro ih h2
  show x.2.nx ≤ _
  omega
theorem Zeg (bs:List Int) (n kinds:Int):∀ (j:Nat) (k:SK),(Z2x bs n kinds j k).1.length = j
 | 0,k => rfl
 | j + 1,k => by
  unfold Z2x
  simp [Zeg bs n kinds j k]
theorem Ziw (bs:List Int) (nodes:Int) (k:SK):∃ a b c x,a = Z5g bs 1 (min nodes 60) k∧b = Z0r bs a.1 a.2∧c = Z5g bs 1 3 b.2∧x = Z2x bs a.1 c.1 a.1.toNat c.2∧Z5u bs nodes k = ((x.1,b.1),x.2):=⟨_,_,_,_,rfl,rfl,rfl,rfl,rfl⟩
theorem Zxm (bs:List Int) {nodes:Int} (k:SK):(Z5u bs nodes k).2.nx ≤ k.nx + 243:=by
 obtain ⟨a,b,c,x,ha,hb,hc,hx,e⟩:=Ziw bs nodes k
 have h1:=Z7d bs 1 (min nodes 60) k
 have h4:=Z46 bs 1 (min nodes 60) k
 rw [← ha] at h1 h4
 have h2:=Z23 bs a.1 a.2
 rw [← hb] at h2
 have h3:=Z7d bs 1 3 b.2
 rw [← hc] at h3
 have h5:=Zlu bs a.1 c.1 a.1.toNat c.2
 rw [← hx] at h5
 rw [e]
 show x.2.nx ≤ _
 omega
theorem Zjr {k:Int} {i:Nat} (h:i < 3):∃ nm,(Zft k)[i]? = some nm∧Z1x nm = true∧nm.length ≤ 4:=by
 have hi:i = 0 ∨ i = 1 ∨ i = 2:=by omega
 unfold Zft
 split
 ·rcases hi with rfl | rfl | rfl <;> exact ⟨_,rfl,rfl,by decide⟩
 ·split
  ·rcases hi with rfl | rfl | rfl <;> exact ⟨_,rfl,rfl,by decide⟩
  ·rcases hi with rfl | rfl | rfl <;> exact ⟨_,rfl,rfl,by decide⟩
theorem Zlv (bs:List Int) {n kinds:Int} (hn:1 ≤ n) (hk:1 ≤ kinds∧kinds ≤ 3):∀ (j:Nat) (k:SK),∀ nd ∈ (Z2x bs n kinds j k).1,nd.2.length ≤ 2∧(∀ x ∈ nd.2,0 ≤ x∧x < n)∧Z1x nd.1 = true∧nd.1.length ≤ 4
 | 0,k => by simp [Z2x]
 | j + 1,k => by
  unfold Z2x
  intro nd hnd
  rcases List.mem_append.1 hnd with h | h
  ·exact Zlv bs hn hk j k nd h
  ·simp at h
   rw [h]
   generalize (Z2x bs n kinds j k).2 = k1
   obtain ⟨a,b,c,ha,hb,hc,e⟩:=Zic bs n kinds k1
   have h1:=Z46 bs 0 2 k1
   rw [← ha] at h1
   have h2:=Z2v bs kinds a.2
   rw [← hb] at h2
   obtain ⟨nm,e1,e2,e3⟩:=Zjr (k:=a.1) (i:=b.1.toNat) (by omega)
   have h3:=Z7f bs n a.1.toNat b.2
   have h4:=Zha bs hn a.1.toNat b.2
   rw [← hc] at h3 h4
   rw [e,e1]
   exact ⟨by show c.1.length ≤ 2; omega,h4,e2,e3⟩
theorem Zp7 (bs:List Int) {nodes:Int} (h1:1 ≤ nodes) (k:SK):GrOk (Z5u bs nodes k).1.1∧(∀ nd ∈ (Z5u bs nodes k).1.1,Z1x nd.1 = true∧nd.1.length ≤ 4)∧1 ≤ (Z5u bs nodes k).1.1.length∧((Z5u bs nodes k).1.1.length:Int) ≤ min nodes 60∧0 ≤ (Z5u bs nodes k).1.2∧(Z5u bs nodes k).1.2 < (Z5u bs nodes k).1.1.length:=by
 obtain ⟨a,b,c,x,ha,hb,hc,hx,e⟩:=Ziw bs nodes k
 have h4:=Z46 bs 1 (min nodes 60) k
 rw [← ha] at h4
 have h2:=Z2v bs a.1 a.2
 rw [← hb] at h2
 have h3:=Z46 bs 1 3 b.2
 rw [← hc] at h3
 have hN:=Zlv bs (n:=a.1) (kinds:=c.1) (by omega) (by omega) a.1.toNat c.2
 have hL:=Zeg bs a.1 c.1 a.1.toNat c.2
 rw [← hx] at hN hL
 rw [e]
 refine ⟨fun nd hnd => ?_,fun nd hnd => (hN nd hnd).2.2,by show 1 ≤ x.1.length; omega,by show (x.1.length:Int) ≤ _; omega,h2.1,by show b.1 < x.1.length; omega⟩
 obtain ⟨e1,e2,_⟩:=hN nd hnd
 refine ⟨by omega,fun y hy => ?_⟩
 have:=e2 y hy
 show 0 ≤ y∧y < (x.1.length:Int)
 omega
section
variable {s0 s:St} {W:Pos→Prop} {Bs:Pos} {bv:AVal} {bs:List Int} {k:SK} {r:Lets} {fr:FI} {t0:PT AVal}
theorem Zvv {Q:Ex→PT AVal→St→Prop} {B9:Pos} {nm:List UInt8} {n:Int} {c:Nat} (hB:Z29 s0 W bv bs) (hn:k.nx + 4 < 2 ^ 62) (hc2:c ≤ 2) (hnn:n ≤ 60)
  (hc:Ctx s0 W ((B9,C [.str nm,.nilSlice]) :: (Bs,Z0p bv k) :: r) s)
  (u0:PT.get (posOf 0) t0 = some (.ptr Bs 0)) (u5:PT.get (posOf 5) t0 = some (.int .i64 n)) (u8:PT.get (posOf 8) t0 = some (.int .i64 c)) (u9:PT.get (posOf 9) t0 = some (.ptr B9 0))
  (q:∀ t s' kv mg,Fr [32,33,34,35,36,37,38,39,40,41,42] t0 t→Z1t kv (Z15 bs n c k).1 mg→Ctx s0 W ((B9,C [.str nm,kv]) :: (Bs,Z0p bv (Z15 bs n c k).2) :: (mg ++ r)) s'→Q .normal t s'):wp Tryd.prog Ztl fr t0 s Q:=by
 refine Z00 ?_
 simp [u8]
 refine AM.wp_block ?_
 refine AM.wp_loop (fun m t s' => ∃ (j:Nat) (kv:AVal) (mg:Lets),j ≤ c∧m = c - j∧Fr [32,33,34,35,36,37,38,39,40,41,42] t0 t∧PT.get (posOf 32) t = some (.int .i64 c)∧PT.get (posOf 33) t = some (.int .i64 j)∧Z1t kv (Z15 bs n j k).1 mg ∧
   Ctx s0 W ((B9,C [.str nm,kv]) :: (Bs,Z0p bv (Z15 bs n j k).2) :: (mg ++ r)) s') c ⟨0,.nilSlice,[],by simp,by simp,?_,by simp,by simp,.inl ⟨rfl,rfl,rfl⟩,hc⟩ ?_
 ·intro y hy
  simp at hy
  simp [hy]
 rintro m t s' ⟨j,kv,mg,hj,rfl,hF,t32,t33,hg,d⟩
 refine Z00 ?_
 simp [t32,t33]
 refine AM.wp_seq ?_
 refine AM.Z04 ?_
 by_cases hlt:j < c
 ·have hwr:IntKind.wrap .i64 ((j:Int) + 1) = ((j + 1:Nat):Int):=by rw [IntWalk.i64_in _ (by omega)]; omega
  have v0:=(hF 0 (by simp)).trans u0
  have v5:=(hF 5 (by simp)).trans u5
  have v9:=(hF 9 (by simp)).trans u9
  have hnx:=Z5y bs n j k
  have hjl:=Z7f bs n j k
  simp [hlt]
  refine AM.wp_skip ?_
  simp
  refine AM.wp_seq ?_
  refine AM.wp_block ?_
  refine AM.wp_region ?_
  simp [v0,v5,v9,d.c 0 rfl]
  refine Z02 ?_
  have hnext:=Zey bs n j k
  have d1:=d.perm (m':=(Bs,Z0p bv (Z15 bs n j k).2) :: (B9,C [.str nm,kv]) :: (mg ++ r)) (List.Perm.swap _ _ _)
  generalize Z15 bs n j k = X at hg d1 hnx hjl hnext
  refine Z3u hB d1 (by omega) (by omega) fun s1 d2 => ?_
  have hkv8:Z27 8 kv kv = true:=by
   rcases hg with ⟨_,rfl,_⟩ | ⟨q,_,rfl,_⟩
   ·simp [Z27]
   ·simp [Z27,Zb8]
  have hns:s1.obj s1.next = none:=d2.wf _ (Z09 _)
  generalize Z0r bs n X.2 = Y at hnext d2 ⊢
  simp [d2.c 1 rfl,hkv8,hns,hg.ntup,Z1w,srcP]
  have d3:=d2.alloc (C [.int .i64 Y.1])
  generalize s1.alloc (.cells [.int .i64 Y.1] false) = s2 at d3 ⊢
  generalize s1.next = T at d3 ⊢
  refine Z65 (pre:=[(T,C [.int .i64 Y.1]),(Bs,Z0p bv Y.2),(B9,C [.str nm,kv])]) d3 hg (by omega) fun kv' mg' s3 hg' d4 => ?_
  simp only [List.cons_append,List.nil_append] at d4
  simp [v9,hg'.ntup,hg'.cells,d4.o 2 rfl]
  have d5:=(d4.put 2 rfl (C [.str nm,kv'])).tail
  simp only [List.set_cons_zero,List.set_cons_succ] at d5
  refine AM.wp_region ?_
  simp [t33,hwr]
  refine ⟨c - (j + 1),by omega,j + 1,by omega,by omega,?_,by simp [t32],by simp,kv',mg',by rw [hnext]; exact hg',?_⟩
  ·intro y hy
   simp at hy
   simp [hy]
   exact hF y (by simp [hy])
  ·rw [hnext]
   exact d5.perm (List.Perm.swap _ _ _)
 ·simp [hlt]
  refine AM.wp_exit ?_
  simp
  have hje:j = c:=by omega
  subst hje
  refine q _ s' kv mg ?_ hg d
  intro y hy
  simp at hy
  simp [hy]
  exact hF y (by simp [hy])
theorem Zvu {Q:AVal→St→Prop} {nodes:Int} (hB:Z29 s0 W bv bs) (h:Ctx s0 W ((Bs,Z0p bv k) :: r) s) (hn:k.nx + 1000 < 2 ^ 62) (h1:1 ≤ nodes) (h2:nodes ≤ 60)
  (q:∀ nv mn s',Z3n nv (Z5u bs nodes k).1.1 mn→Ctx s0 W ((Bs,Z0p bv (Z5u bs nodes k).2) :: (mn ++ r)) s'→Q (.agg [nv,.int .i64 (Z5u bs nodes k).1.2]) s'):Z0e Tryd.prog 17 [.ptr Bs 0,.int .i64 nodes] s Q:=by
 refine Z08 (Z0i (by decide)) fi17 rfl (by decide) rfl ?_
 refine Z00 ?_
 simp
 have c0:=h.alloc (C [.nilSlice,.int .i64 0])
 generalize s.alloc (.cells [.nilSlice,.int .i64 0] false) = sA at c0 ⊢
 generalize s.next = B4 at c0 ⊢
 have c0:=c0.perm (m':=(Bs,Z0p bv k) :: (B4,C [.nilSlice,.int .i64 0]) :: r) (List.Perm.swap _ _ _)
 refine Z00 ?_
 simp
 refine Zg3 (k:=.i64) (k':=.i64) (a:=nodes) (b:=60) (by simp) (by simp) ?_
 simp
 refine Z02 ?_
 obtain ⟨a,b,c,X,ha,hb,hcc,hX,htr⟩:=Ziw bs nodes k
 have e1:=Z7d bs 1 (min nodes 60) k
 have e2:=Z46 bs 1 (min nodes 60) k
 rw [← ha] at e1 e2
 rw [htr] at q
 simp only at q
 refine Zgj hB c0 (by omega) (by omega) (by omega) fun s1 c1 => ?_
 rw [← ha] at c1 ⊢
 simp
 refine Z00 ?_
 simp
 refine Z02 ?_
 have e3:=Z23 bs a.1 a.2
 rw [← hb] at e3
 refine Z3u hB c1 (by omega) (by omega) fun s2 c2 => ?_
 rw [← hb] at c2 ⊢
 simp
 have c3:=(c2.alloc (C [.nilSlice,.int .i64 0])).put 0 rfl (C [.nilSlice,.int .i64 b.1])
 simp only [List.set_cons_zero] at c3
 generalize (s2.alloc (.cells [.nilSlice,.int .i64 0] false)).put s2.next (.cells [.nilSlice,.int .i64 b.1] false) = s3 at c3 ⊢
 generalize s2.next = B6 at c3 ⊢
 have c3:=c3.perm (m':=(Bs,Z0p bv b.2) :: (B6,C [.nilSlice,.int .i64 b.1]) :: (B4,C [.nilSlice,.int .i64 0]) :: r) (List.Perm.swap _ _ _)
 refine Z00 ?_
 simp
 refine Z02 ?_
 have e4:=Z7d bs 1 3 b.2
 have e5:=Z46 bs 1 3 b.2
 rw [← hcc] at e4 e5
 refine Zgj hB c3 (by omega) (by omega) (by omega) fun s4 c4 => ?_
 rw [← hcc] at c4 ⊢
 simp
 refine AM.wp_seq ?_
 refine Z00 ?_
 simp
 obtain ⟨n,hna⟩:∃ n:Nat,a.1 = (n:Int):=⟨a.1.toNat,by omega⟩
 rw [hna] at hX e2 ⊢
 rw [Int.toNat_natCast] at hX
 rw [hX] at q
 refine AM.wp_block ?_
 refine AM.wp_loop (fun m t s' => ∃ (i:Nat) (nv:AVal) (mn:Lets),i ≤ n∧m = n - i∧PT.get (posOf 0) t = some (.ptr Bs 0)∧PT.get (posOf 4) t = some (.ptr B4 0)∧PT.get (posOf 5) t = some (.int .i64 n)∧PT.get (posOf 6) t = some (.ptr B6 0)∧PT.get (posOf 7) t = some (.int .i64 c.1) ∧
   PT.get (posOf 20) t = some (.int .i64 n)∧PT.get (posOf 21) t = some (.int .i64 i)∧Z3n nv (Z2x bs n c.1 i c.2).1 mn ∧
   Ctx s0 W ((Bs,Z0p bv (Z2x bs n c.1 i c.2).2) :: (B6,C [nv,.int .i64 b.1]) :: (B4,C [.nilSlice,.int .i64 0]) :: (mn ++ r)) s') n
   ⟨0,.nilSlice,[],by simp,by simp,by simp,by simp,by simp,by simp,by simp,by simp,by simp,.inl ⟨rfl,rfl,rfl⟩,c4⟩ ?_
 rintro m t s' ⟨i,nv,mn,hi,rfl,t0,t4,t5,t6,t7,t20,t21,hN,d⟩
 refine Z00 ?_
 simp [t20,t21]
 refine AM.wp_seq ?_
 refine AM.Z04 ?_
 by_cases hlt:i < n
 ·have hwr:IntKind.wrap .i64 ((i:Int) + 1) = ((i + 1:Nat):Int):=by rw [IntWalk.i64_in _ (by omega)]; omega
  have hnx:=Zlu bs n c.1 i c.2
  have hil:=Zeg bs n c.1 i c.2
  have hnext:=Zhn bs n c.1 i c.2
  simp [hlt]
  refine AM.wp_skip ?_
  simp
  refine AM.wp_seq ?_
  refine AM.wp_block ?_
  refine Z00 ?_
  generalize Z2x bs n c.1 i c.2 = X at hnx hil hnext hN d
  simp [t0]
  refine Z02 ?_
  have f1:=Z7d bs 0 2 X.2
  have f2:=Z46 bs 0 2 X.2
  obtain ⟨A,Bw,Dk,hA,hBw,hDk,hnode⟩:=Zic bs n c.1 X.2
  rw [← hA] at f1 f2
  refine Zgj hB d (by omega) (by omega) (by omega) fun s5 d5 => ?_
  rw [← hA] at d5 ⊢
  simp
  refine Z00 ?_
  simp [t0,t7]
  refine Z02 ?_
  refine Zwu (by omega) (by omega) fun s6 k6 => ?_
  have d6:=d5.keeps k6
  simp [t0,t7]
  refine Z02 ?_
  have f3:=Z23 bs c.1 A.2
  have f4:=Z2v bs c.1 A.2
  rw [← hBw] at f3 f4
  refine Z3u hB d6 (by omega) (by omega) fun s7 d7 => ?_
  rw [← hBw] at d7 ⊢
  obtain ⟨nm,g1,g2,g3⟩:=Zjr (k:=A.1) (i:=Bw.1.toNat) (by omega)
  have hB1:Bw.1 < 3:=by omega
  rw [g1] at hnode
  simp only [Option.getD_some] at hnode
  simp [g1,f4.1,hB1]
  have d8:=(d7.alloc (C [.str [],.nilSlice])).put 0 rfl (C [.str nm,.nilSlice])
  simp only [List.set_cons_zero] at d8
  generalize (s7.alloc (.cells [.str [],.nilSlice] false)).put s7.next (.cells [.str nm,.nilSlice] false) = s8 at d8 ⊢
  generalize s7.next = B9 at d8 ⊢
  obtain ⟨cc,hcc⟩:∃ cc:Nat,A.1 = (cc:Int):=⟨A.1.toNat,by omega⟩
  rw [hcc] at hDk f2 ⊢
  rw [Int.toNat_natCast] at hDk
  refine AM.wp_seq ?_
  refine Zvv (c:=cc) (n:=n) hB (by omega) (by omega) (by omega) d8 (by simp [t0]) (by simp [t5]) (by simp) (by simp) fun t2 s9 kv mg hF hg d9 => ?_
  have v0:PT.get (posOf 0) t2 = some (.ptr Bs 0):=(hF 0 (by simp)).trans (by simp [t0])
  have v4:PT.get (posOf 4) t2 = some (.ptr B4 0):=(hF 4 (by simp)).trans (by simp [t4])
  have v5:PT.get (posOf 5) t2 = some (.int .i64 n):=(hF 5 (by simp)).trans (by simp [t5])
  have v6:PT.get (posOf 6) t2 = some (.ptr B6 0):=(hF 6 (by simp)).trans (by simp [t6])
  have v7:PT.get (posOf 7) t2 = some (.int .i64 c.1):=(hF 7 (by simp)).trans (by simp [t7])
  have v9:PT.get (posOf 9) t2 = some (.ptr B9 0):=(hF 9 (by simp)).trans (by simp)
  have v20:PT.get (posOf 20) t2 = some (.int .i64 n):=(hF 20 (by simp)).trans (by simp [t20])
  have v21:PT.get (posOf 21) t2 = some (.int .i64 i):=(hF 21 (by simp)).trans (by simp [t21])
  rw [← hDk] at hg d9
  have d9:=d9.perm (m':=(B9,C [.str nm,kv]) :: (Bs,Z0p bv Dk.2) :: (B6,C [nv,.int .i64 b.1]) :: (B4,C [.nilSlice,.int .i64 0]) :: (mg ++ (mn ++ r))) (Z0o fun y => by
   simp only [Z0j,Z0k,Z1e]
   omega)
  simp
  refine AM.wp_region ?_
  simp [v6,v9,d9.c 0 rfl,d9.c 2 rfl,hg.ntup,hg.cells,hN.ntup,Z1w,srcP]
  have d10:=d9.alloc (C [.str nm,kv])
  generalize s9.alloc (.cells [.str nm,kv] false) = s10 at d10 ⊢
  generalize s9.next = T at d10 ⊢
  have d11:=d10.perm (m':=[(T,C [.str nm,kv]),(B9,C [.str nm,kv]),(Bs,Z0p bv Dk.2),(B6,C [nv,.int .i64 b.1]),(B4,C [.nilSlice,.int .i64 0])] ++ (mg ++ (mn ++ r))) (by simp)
  refine Zlx d11 hN hg.row (by omega) fun nv' mn' s11 hN' d12 => ?_
  simp only [List.cons_append,List.nil_append] at d12
  simp [hN'.ntup,hN'.cells,d12.o 3 rfl]
  have d13:=(d12.put 3 rfl (C [nv',.int .i64 b.1])).tail.tail
  simp only [List.set_cons_zero,List.set_cons_succ] at d13
  refine AM.wp_region ?_
  simp [v21,hwr]
  refine ⟨n - (i + 1),by omega,i + 1,by omega,by omega,by simp [v0],by simp [v4],by simp [v5],by simp [v6],by simp [v7],by simp [v20],by simp,nv',mn',by rw [hnext,hnode]; exact hN',?_⟩
  rw [hnext,hnode]
  exact d13
 ·simp [hlt]
  refine AM.wp_exit ?_
  simp
  have hie:i = n:=by omega
  subst hie
  have hls:Z3q Tryd.prog 42 = some (some 2):=by kernel_rfl
  refine Z00 ?_
  simp [t4,t6,d.c 1 rfl,d.o 2 rfl]
  have d1:=d.put 2 rfl (C [nv,.int .i64 b.1])
  simp only [List.set_cons_zero,List.set_cons_succ] at d1
  generalize s'.put B4 (.cells [nv,.int .i64 b.1] false) = s5 at d1 ⊢
  refine AM.wp_ret ?_
  simp [hls,t4,d1.c 2 rfl]
  refine q nv mn s5 hN ((d1.perm (m':=((Bs,Z0p bv (Z2x bs i c.1 i c.2).2) :: (mn ++ r)) ++ [(B6,C [nv,.int .i64 b.1]),(B4,C [nv,.int .i64 b.1])]) (Z0o fun y => ?_)).sub (List.sublist_append_left _ _))
  simp only [Z0j,Z0k,Z1e]
  omega
end
def Z8y (xs:List Int) (i:Nat):Prop:=(∀ j,j < i→∃ v:Nat,xs[j]? = some (v:Int)∧v < i)∧∀ j j',j < i→j' < i→xs[j]? = xs[j']?→j = j'
theorem Z8y.next {xs:List Int} {i b:Nat} {v:Int} (h:Z8y xs i) (hi:i < xs.length) (hb:b ≤ i) (hv:xs[b]? = some v):Z8y ((xs.set i v).set b i) (i + 1):=by
 obtain ⟨h1,h2⟩:=h
 have hbl:b < xs.length:=by omega
 have hget:∀ j,((xs.set i v).set b i)[j]? = if j = b then some (i:Int) else if j = i then some v else xs[j]?:=by
  intro j
  rw [List.getElem?_set,List.getElem?_set]
  by_cases e1:j = b
  ·subst e1
   simp [hbl]
  ·by_cases e2:j = i
   ·subst e2
    rw [if_neg (fun e => e1 e.symm)]
    simp [hi,e1]
   ·rw [if_neg (fun e => e1 e.symm),if_neg (fun e => e2 e.symm),if_neg e1,if_neg e2]
 have hvn:b < i→∃ w:Nat,v = (w:Int)∧w < i:=fun hbi => by
  obtain ⟨w,g1,g2⟩:=h1 b hbi
  rw [hv] at g1
  exact ⟨w,Option.some.inj g1,g2⟩
 refine ⟨fun j hj => ?_,fun j j' hj hj' e => ?_⟩
 ·rw [hget]
  by_cases e1:j = b
  ·rw [if_pos e1]
   exact ⟨i,rfl,by omega⟩
  ·rw [if_neg e1]
   by_cases e2:j = i
   ·rw [if_pos e2]
    obtain ⟨w,rfl,hw⟩:=hvn (by omega)
    exact ⟨w,rfl,by omega⟩
   ·rw [if_neg e2]
    obtain ⟨w,g1,g2⟩:=h1 j (by omega)
    exact ⟨w,g1,by omega⟩
 ·rw [hget,hget] at e
  by_cases e1:j = b
  ·rw [if_pos e1] at e
   by_cases e2:j' = b
   ·omega
   ·rw [if_neg e2] at e
    by_cases e3:j' = i
    ·rw [if_pos e3] at e
     obtain ⟨w,rfl,hw⟩:=hvn (by omega)
     injection e with e
     omega
    ·rw [if_neg e3] at e
     obtain ⟨w,g1,g2⟩:=h1 j' (by omega)
     rw [g1] at e
     injection e with e
     omega
  ·rw [if_neg e1] at e
   by_cases e2:j' = b
   ·rw [if_pos e2] at e
    by_cases e3:j = i
    ·rw [if_pos e3] at e
     obtain ⟨w,rfl,hw⟩:=hvn (by omega)
     injection e with e
     omega
    ·rw [if_neg e3] at e
     obtain ⟨w,g1,g2⟩:=h1 j (by omega)
     rw [g1] at e
     injection e with e
     omega
   ·rw [if_neg e2] at e
    by_cases e3:j = i
    ·rw [if_pos e3] at e
     by_cases e4:j' = i
     ·omega
     ·rw [if_neg e4,← hv] at e
      have:=h2 b j' (by omega) (by omega) e
      omega
    ·rw [if_neg e3] at e
     by_cases e4:j' = i
     ·rw [if_pos e4,← hv] at e
      have:=h2 j b (by omega) (by omega) e
      omega
     ·rw [if_neg e4] at e
      exact h2 j j' (by omega) (by omega) e
section
variable {s0 s:St} {W:Pos→Prop} {Bs:Pos} {bv:AVal} {bs:List Int} {k:SK} {r:Lets} {Q:AVal→St→Prop}
theorem shuf_c {n:Nat} (hB:Z29 s0 W bv bs) (h:Ctx s0 W ((Bs,Z0p bv k) :: r) s) (hn:k.nx + n < 2 ^ 62) (hnn:n ≤ 1000)
  (q:∀ Bo xs k' s',xs.length = n→Z8y xs n→k'.nx ≤ k.nx + n→Ctx s0 W ((Bs,Z0p bv k') :: (Bo,C (ints xs)) :: r) s'→Q (.slice Bo 0 n (.lim n)) s'):Z0e Tryd.prog 65 [.ptr Bs 0,.int .i64 n] s Q:=by
 have hz1:n ≤ Z0l:=by unfold Z0l; omega
 have hz2:n * 8 ≤ Z0l:=by unfold Z0l; omega
 have hmax:max 0 (n:Int) = n:=by omega
 refine Z08 (Z0i (by decide)) fi65 rfl (by decide) rfl ?_
 refine Z00 ?_
 simp
 refine Z00 ?_
 simp
 refine Zg3 (k:=.i64) (k':=.i64) (a:=0) (b:=n) (by simp) (by simp) ?_
 simp [hmax,hz1,hz2]
 have c1:=h.alloc (C (List.replicate n (.int .i64 0)))
 generalize s.alloc (.cells (List.replicate n (.int .i64 0)) false) = s1 at c1 ⊢
 generalize s.next = Bo at c1 ⊢
 have hm0:List.replicate n (AVal.int .i64 0) = ints (List.replicate n 0):=by simp
 rw [hm0] at c1
 have c2:=c1.perm (m':=(Bs,Z0p bv k) :: (Bo,C (ints (List.replicate n 0))) :: r) (List.Perm.swap _ _ _)
 refine AM.wp_seq ?_
 refine Z00 ?_
 simp
 refine AM.wp_block ?_
 refine AM.wp_loop (fun m t s' => ∃ (i:Nat) (xs:List Int) (k':SK),i ≤ n∧m = n - i∧PT.get (posOf 0) t = some (.ptr Bs 0)∧PT.get (posOf 5) t = some (.slice Bo 0 n (.lim n))∧PT.get (posOf 12) t = some (.int .i64 n)∧PT.get (posOf 13) t = some (.int .i64 i) ∧
   xs.length = n∧Z8y xs i∧k'.nx ≤ k.nx + i∧Ctx s0 W ((Bs,Z0p bv k') :: (Bo,C (ints xs)) :: r) s') n
   ⟨0,List.replicate n 0,k,by simp,by simp,by simp,by simp,by simp,by simp,by simp,⟨fun j hj => by omega,fun j j' hj => by omega⟩,by simp,c2⟩ ?_
 rintro m t s' ⟨i,xs,k',hi,rfl,t0,t5,t12,t13,hxl,hS,hnx,d⟩
 refine Z00 ?_
 simp [t12,t13]
 refine AM.wp_seq ?_
 refine AM.Z04 ?_
 by_cases hlt:i < n
 ·have hwr:IntKind.wrap .i64 ((i:Int) + 1) = (i:Int) + 1:=IntWalk.i64_in _ (by omega)
  simp [hlt]
  refine AM.wp_skip ?_
  simp
  refine AM.wp_seq ?_
  refine AM.wp_block ?_
  refine Z00 ?_
  simp [t13]
  refine Z00 ?_
  simp [t0,hwr]
  refine Z02 ?_
  have hb:=Z2v bs ((i:Int) + 1) k'
  have hbn:=Z23 bs ((i:Int) + 1) k'
  refine Z3u hB d (by omega) (by omega) fun s1 d1 => ?_
  generalize Z0r bs ((i:Int) + 1) k' = Y at hb hbn d1 ⊢
  obtain ⟨b,hbY⟩:∃ b:Nat,Y.1 = (b:Int):=⟨Y.1.toNat,by omega⟩
  rw [hbY] at hb ⊢
  have hbi:b ≤ i:=by omega
  have hbn':b < n:=by omega
  obtain ⟨v,hv⟩:∃ v,xs[b]? = some v:=⟨_,List.getElem?_eq_getElem (by omega)⟩
  have hgv:(ints xs)[b]? = some (.int .i64 v):=by rw [List.getElem?_map,hv]; rfl
  have hl1:lay (ints xs) i [.int .i64 v] = ints (xs.set i v):=Z5z xs i v (by omega)
  have hl2:lay (ints (xs.set i v)) b [.int .i64 i] = ints ((xs.set i v).set b i):=Z5z (xs.set i v) b i (by simp; omega)
  have hXl:(ints xs).length = n:=by simp [hxl]
  have hYl:(ints (xs.set i v)).length = n:=by simp [hxl]
  have hown:=d1.o 1 rfl
  have hc1:=d1.c 1 rfl
  generalize hX:ints xs = X at hgv hl1 hXl hown hc1 d1
  generalize hZ:ints (xs.set i v) = Z at hl1 hl2 hYl
  generalize hV:ints ((xs.set i v).set b i) = V at hl2
  simp [lay] at hl1 hl2
  have hle1:i + 1 ≤ X.length:=by omega
  have hle2:b + 1 ≤ Z.length:=by omega
  simp
  refine AM.wp_region ?_
  simp [t5,hbn',hc1,hgv,hlt,hown,hle1,hl1,hle2,hl2]
  have d2:=(d1.put 1 rfl (C Z)).put 1 rfl (C V)
  simp only [List.set_cons_zero,List.set_cons_succ] at d2
  generalize (s1.put Bo (.cells Z false)).put Bo (.cells V false) = s2 at d2 ⊢
  rw [← hV] at d2
  refine AM.wp_region ?_
  simp [t13,hwr]
  exact ⟨n - (i + 1),by omega,i + 1,by omega,by omega,by simp [t0],by simp [t5],by simp [t12],by simp,(xs.set i v).set b i,by simp [hxl],hS.next (by omega) hbi hv,Y.2,by omega,d2⟩
 ·simp [hlt]
  refine AM.wp_exit ?_
  simp
  have hie:i = n:=by omega
  subst hie
  refine Z00 ?_
  simp [t5]
  refine AM.wp_ret ?_
  simp
  exact q Bo xs k' s' hxl hS hnx d
end
inductive UT where
 | cut
 | node (nm:List UInt8) (kids:List UT)
def UT.name:UT→List UInt8
 | .cut => []
 | .node nm _ => nm
def UT.kids:UT→List UT
 | .cut => []
 | .node _ ks => ks
def unf (nds:List ND):Nat→Nat→UT
 | 0,_ => .cut
 | d + 1,a => match nds[a]? with
  | none => .cut
  | some nd => .node nd.1 (nd.2.map fun k => unf nds d k.toNat)
abbrev Lab:=Nat→UT
def lab (nds:List ND) (a:Nat):Lab:=fun d => unf nds d a
theorem Z8k {nds:List ND} {a:Nat} {nd:ND} (h:nds[a]? = some nd) (d:Nat):unf nds (d + 1) a = .node nd.1 (nd.2.map fun k => unf nds d k.toNat):=by
 simp [unf,h]
def Zgr (b:Lab):List Lab:=(List.range (b 1).kids.length).map fun j d => ((b (d + 1)).kids[j]?).getD .cut
theorem Z6h {nds:List ND} {a:Nat} {nd:ND} (h:nds[a]? = some nd):Zgr (lab nds a) = nd.2.map fun k => lab nds k.toNat:=by
 refine List.ext_getElem? fun j => ?_
 have h1:(lab nds a 1).kids.length = nd.2.length:=by
  show (unf nds 1 a).kids.length = _
  rw [Z8k h]
  simp [UT.kids]
 unfold Zgr
 rw [h1]
 by_cases hj:j < nd.2.length
 ·rw [List.getElem?_map,List.getElem?_range hj,List.getElem?_map,List.getElem?_eq_getElem hj]
  simp only [Option.map_some]
  congr 1
  funext d
  show (((unf nds (d + 1) a).kids)[j]?).getD .cut = _
  rw [Z8k h]
  simp [UT.kids,hj]
  rfl
 ·rw [List.getElem?_eq_none (by simpa using hj),List.getElem?_eq_none (by simpa using hj)]
def lname (b:Lab):List UInt8:=(b 1).name
theorem Zao {nds:List ND} {a:Nat} {nd:ND} (h:nds[a]? = some nd):lname (lab nds a) = nd.1:=by
 show (unf nds 1 a).name = _
 rw [Z8k h]
 rfl
theorem Zqx {nds:List ND} {r:Nat}:∀ {x y:List Int},x.length = y.length→(∀ (j:Nat) (k m:Int),x[j]? = some k→y[j]? = some m→unf nds r k.toNat = unf nds r m.toNat)→x.map (fun k => unf nds r k.toNat) = y.map fun k => unf nds r k.toNat
 | [],[],_,_ => rfl
 | k :: x,m :: y,hl,h => by
  rw [List.map_cons,List.map_cons,h 0 k m rfl rfl,Zqx (x:=x) (y:=y) (by simpa using hl) (fun j k m a b => h (j + 1) k m (by simpa using a) (by simpa using b))]
 | [],_ :: _,hl,_ => by simp at hl
 | _ :: _,[],hl,_ => by simp at hl
theorem Zh2 {nds:List ND} {L:List Nat} (hC:Closed nds L):∀ (r a b:Nat),a ∈ L→b ∈ L→(sim nds r a b ↔ unf nds r a = unf nds r b)
 | 0,a,b,_,_ => by simp [sim,unf]
 | r + 1,a,b,ha,hb => by
  have hx:nds[a]? = some (nds[a]'(hC.lt a ha)):=List.getElem?_eq_getElem _
  have hy:nds[b]? = some (nds[b]'(hC.lt b hb)):=List.getElem?_eq_getElem _
  generalize nds[a]'(hC.lt a ha) = x at hx
  generalize nds[b]'(hC.lt b hb) = y at hy
  obtain ⟨_,hkx⟩:=hC.kids a ha _ hx
  obtain ⟨_,hky⟩:=hC.kids b hb _ hy
  rw [Z8k hx,Z8k hy]
  constructor
  ·rintro ⟨x',y',hx',hy',e1,e2,e3⟩
   rw [hx] at hx'
   rw [hy] at hy'
   cases hx'
   cases hy'
   rw [e1,Zqx e2 fun j k m hk hm => (Zh2 hC r _ _ (hkx k (List.mem_of_getElem? hk)) (hky m (List.mem_of_getElem? hm))).1 (e3 j k m hk hm)]
  ·intro h
   injection h with e1 e2
   have hl:x.2.length = y.2.length:=by simpa using congrArg List.length e2
   refine ⟨x,y,hx,hy,e1,hl,fun j k m hk hm => (Zh2 hC r _ _ (hkx k (List.mem_of_getElem? hk)) (hky m (List.mem_of_getElem? hm))).2 ?_⟩
   have:=congrArg (fun l => l[j]?) e2
   simpa [hk,hm] using this
theorem Zla {nds:List ND} {L:List Nat} (hC:Closed nds L) {a b:Nat} (ha:a ∈ L) (hb:b ∈ L):(∀ r,sim nds r a b) ↔ lab nds a = lab nds b:=by
 constructor
 ·intro h
  funext r
  exact (Zh2 hC r a b ha hb).1 (h r)
 ·intro h r
  exact (Zh2 hC r a b ha hb).2 (congrFun h r)
section
open Classical
variable {α β κ:Type}
noncomputable def addB (v:List β) (k:β):List β:=if k ∈ v then v else v ++ [k]
noncomputable def Z2u (v:List β) (ks:List β):List β:=ks.foldl addB v
noncomputable def dd (l:List β):List β:=Z2u [] l
theorem Zvx (v:List β) (k:β):∃ w,addB v k = v ++ w:=by
 unfold addB
 split
 ·exact ⟨[],by simp⟩
 ·exact ⟨[k],rfl⟩
theorem Zce:∀ (ks v:List β),∃ w,Z2u v ks = v ++ w
 | [],v => ⟨[],by simp [Z2u]⟩
 | k :: ks,v => by
  obtain ⟨w1,h1⟩:=Zvx v k
  obtain ⟨w2,h2⟩:=Zce ks (addB v k)
  exact ⟨w1 ++ w2,by show Z2u (addB v k) ks = _; rw [h2,h1,List.append_assoc]⟩
theorem Zwp {v:List β} {k x:β}:x ∈ addB v k ↔ x ∈ v ∨ x = k:=by
 unfold addB
 split
 ·rename_i h
  constructor
  ·exact .inl
  ·rintro (h' | rfl)
   ·exact h'
   ·exact h
 ·simp
theorem Zlq {x:β}:∀ {ks v:List β},x ∈ Z2u v ks ↔ x ∈ v ∨ x ∈ ks
 | [],v => by simp [Z2u]
 | k :: ks,v => by
  show x ∈ Z2u (addB v k) ks ↔ _
  rw [Zlq (ks:=ks),Zwp,List.mem_cons,or_assoc]
theorem Zdk {x:β} {l:List β}:x ∈ dd l ↔ x ∈ l:=by
 unfold dd
 rw [Zlq]
 simp
theorem Zms (v ks ls:List β):Z2u v (ks ++ ls) = Z2u (Z2u v ks) ls:=by
 unfold Z2u
 rw [List.foldl_append]
theorem Zfg (l m:List β):dd (l ++ m) = Z2u (dd l) m:=Zms _ _ _
theorem Zgm (l:List β) (x:β):dd (l ++ [x]) = addB (dd l) x:=Zfg l [x]
theorem Zmt:∀ {ks v:List β},(∀ k ∈ ks,k ∈ v)→Z2u v ks = v
 | [],_,_ => rfl
 | k :: ks,v,h => by
  have hk:addB v k = v:=by unfold addB; rw [if_pos (h k (by simp))]
  show Z2u (addB v k) ks = v
  rw [hk]
  exact Zmt fun x hx => h x (by simp [hx])
theorem Zri {v:List β} {k:β} (h:v.Nodup):(addB v k).Nodup:=by
 unfold addB
 split
 ·exact h
 ·rename_i hk
  rw [List.nodup_append]
  exact ⟨h,by simp,fun a ha b hb => by simp at hb; rw [hb]; exact fun e => hk (e ▸ ha)⟩
theorem Zh6:∀ {ks v:List β},v.Nodup→(Z2u v ks).Nodup
 | [],_,h => h
 | k :: ks,v,h => Zh6 (ks:=ks) (Zri (k:=k) h)
theorem Zwb (l:List β):(dd l).Nodup:=Zh6 (by simp)
theorem Zvy (v:List β) (k:β):(addB v k).length ≤ v.length + 1:=by
 unfold addB
 split <;> simp
theorem Zl9:∀ (ks v:List β),(Z2u v ks).length ≤ v.length + ks.length
 | [],v => by simp [Z2u]
 | k :: ks,v => by
  have h1:=Zvy v k
  have h2:=Zl9 ks (addB v k)
  show (Z2u (addB v k) ks).length ≤ _
  rw [List.length_cons]
  omega
theorem dd_len (l:List β):(dd l).length ≤ l.length:=by
 have:=Zl9 l ([]:List β)
 simpa [dd] using this
noncomputable def runL (κ:β→List β):Nat→List β→Nat→List β
 | 0,w,_ => w
 | g + 1,w,j => match w[j]? with
  | none => w
  | some b => runL κ g (Z2u w (κ b)) (j + 1)
theorem Zvf {κ:β→List β} {g:Nat} {w:List β} {j:Nat} (h:w.length ≤ j):runL κ g w j = w:=by
 cases g with
 | zero => rfl
 | succ g => unfold runL; rw [List.getElem?_eq_none h]
theorem Zua {f:Nat→β}:∀ (ks v:List Nat),dd ((Z0d v ks).map f) = Z2u (dd (v.map f)) (ks.map f)
 | [],v => rfl
 | k :: ks,v => by
  show dd ((Z0d (addN v k) ks).map f) = Z2u (addB (dd (v.map f)) (f k)) (ks.map f)
  rw [Zua ks (addN v k)]
  congr 1
  unfold addN
  split
  ·rename_i h
   unfold addB
   rw [if_pos (Zdk.2 (List.mem_map.2 ⟨k,h,rfl⟩))]
  ·rw [List.map_append,List.map_cons,List.map_nil,Zgm]
theorem Z8z {x:Nat}:∀ {ks v:List Nat},x ∈ Z0d v ks ↔ x ∈ v ∨ x ∈ ks
 | [],v => by simp [Z0d]
 | k :: ks,v => by
  show x ∈ Z0d (addN v k) ks ↔ _
  rw [Z8z (ks:=ks)]
  have:x ∈ addN v k ↔ x ∈ v ∨ x = k:=by
   unfold addN
   split
   ·rename_i h
    constructor
    ·exact .inl
    ·rintro (h' | rfl)
     ·exact h'
     ·exact h
   ·simp
  rw [this,List.mem_cons,or_assoc]
theorem run_lab {K:Nat→List Nat} {f:Nat→β} {κ:β→List β} {n:Nat} (hK:∀ a,a < n→∀ k ∈ K a,k < n) {P:Nat→Prop} (hP:∀ a,P a→∀ k ∈ K a,P k) (hκ:∀ a,P a→(K a).map f = κ (f a)):∀ (c:Nat) (v:List Nat) (i g:Nat),v.Nodup→(∀ a ∈ v,a < n)→(∀ a ∈ v,P a)→n + 1 ≤ i + c →
  n + 1 ≤ (dd ((v.take i).map f)).length + g→(∀ (x a:Nat),x < i→v[x]? = some a→∀ k ∈ K a,k ∈ v)→i ≤ v.length →
  dd ((runB K c v i).map f) = runL κ g (dd (v.map f)) (dd ((v.take i).map f)).length:=by
 intro c
 induction c with
 | zero =>
  intro v i g hnd hlt _ hc _ _ hi
  have:=Z2o hnd hlt
  omega
 | succ c ih =>
  intro v i g hnd hlt hPv hc hg hcl hi
  unfold runB
  cases hv:v[i]? with
  | none =>
   have hl:v.length ≤ i:=by simpa using hv
   rw [List.take_of_length_le hl,Zvf (Nat.le_refl _)]
  | some a =>
   simp only
   have ha:a ∈ v:=List.mem_of_getElem? hv
   have hil:i < v.length:=(List.getElem?_eq_some_iff.1 hv).1
   have htk:v.take (i + 1) = v.take i ++ [a]:=by rw [List.take_add_one,hv]; rfl
   obtain ⟨w,hw⟩:∃ w,Z0d v (K a) = v ++ w:=Z6m (K a) v
   have hnd':(Z0d v (K a)).Nodup:=(Zag hnd hlt (hK a (hlt a ha))).1
   have hlt':∀ x ∈ Z0d v (K a),x < n:=fun x hx => by
    rcases Z8z.1 hx with h | h
    ·exact hlt x h
    ·exact hK a (hlt a ha) x h
   have hP':∀ x ∈ Z0d v (K a),P x:=fun x hx => by
    rcases Z8z.1 hx with h | h
    ·exact hPv x h
    ·exact hP a (hPv a ha) x h
   have htk':(Z0d v (K a)).take (i + 1) = v.take i ++ [a]:=by rw [hw,List.take_append_of_le_length (by omega),htk]
   have hcl':∀ (x b:Nat),x < i + 1→(Z0d v (K a))[x]? = some b→∀ k ∈ K b,k ∈ Z0d v (K a):=by
    intro x b hx hb k hk
    rw [hw,List.getElem?_append_left (by omega)] at hb
    by_cases e:x = i
    ·subst e
     rw [hv] at hb
     cases hb
     exact Z8z.2 (.inr hk)
    ·exact Z8z.2 (.inl (hcl x b (by omega) hb k hk))
   have hi':i + 1 ≤ (Z0d v (K a)).length:=by rw [hw,List.length_append]; omega
   have hdd:dd ((Z0d v (K a)).map f) = Z2u (dd (v.map f)) (κ (f a)):=by rw [Zua,hκ a (hPv a ha)]
   have hm1:dd ((v.take i ++ [a]).map f) = addB (dd ((v.take i).map f)) (f a):=by rw [List.map_append,List.map_cons,List.map_nil,Zgm]
   by_cases hs:f a ∈ dd ((v.take i).map f)
   ·have e1:addB (dd ((v.take i).map f)) (f a) = dd ((v.take i).map f):=by unfold addB; rw [if_pos hs]
    have:=ih (Z0d v (K a)) (i + 1) g hnd' hlt' hP' (by omega) (by rw [htk',hm1,e1]; exact hg) hcl' hi'
    rw [this,htk',hm1,e1,hdd]
    congr 1
    refine Zmt fun k hk => ?_
    obtain ⟨a0,ha0,e0⟩:=List.mem_map.1 (Zdk.1 hs)
    obtain ⟨x,hx,hxa⟩:=List.mem_iff_getElem.1 ha0
    rw [List.length_take] at hx
    rw [List.getElem_take] at hxa
    have hxa':v[x]? = some a0:=by rw [List.getElem?_eq_getElem (by omega),hxa]
    rw [← e0,← hκ a0 (hPv a0 (List.mem_of_getElem? hxa'))] at hk
    obtain ⟨k',hk',rfl⟩:=List.mem_map.1 hk
    exact Zdk.2 (List.mem_map.2 ⟨k',hcl x a0 (by omega) hxa' k' hk',rfl⟩)
   ·have e1:addB (dd ((v.take i).map f)) (f a) = dd ((v.take i).map f) ++ [f a]:=by unfold addB; rw [if_neg hs]
    have hat:(dd (v.map f))[(dd ((v.take i).map f)).length]? = some (f a):=by
     have e2:v.map f = (v.take i ++ [a]).map f ++ (v.drop (i + 1)).map f:=by rw [← List.map_append,← htk,List.take_append_drop]
     obtain ⟨T,hT⟩:=Zce ((v.drop (i + 1)).map f) (dd ((v.take i ++ [a]).map f))
     rw [e2,Zfg,hT,hm1,e1,List.append_assoc,List.getElem?_append_right (Nat.le_refl _)]
     simp
    have hjn:(dd ((v.take i).map f)).length < n:=by
     have h1:(dd ((v.take i).map f)).length ≤ i:=Nat.le_trans (dd_len _) (by simp; omega)
     have:=Z2o hnd hlt
     omega
    obtain ⟨g',rfl⟩:∃ g',g = g' + 1:=⟨g - 1,by omega⟩
    have:=ih (Z0d v (K a)) (i + 1) g' hnd' hlt' hP' (by omega) (by rw [htk',hm1,e1,List.length_append,List.length_singleton]; omega) hcl' hi'
    rw [this,htk',hm1,e1,hdd,List.length_append]
    conv => rhs; unfold runL
    rw [hat]
    rfl
end
theorem Zrd {nds nds':List ND} {R:Nat→Nat→Prop} (h:∀ a b,R a b→∃ x y,nds[a]? = some x∧nds'[b]? = some y∧x.1 = y.1∧x.2.length = y.2.length∧∀ (j:Nat) (k m:Int),x.2[j]? = some k→y.2[j]? = some m→R k.toNat m.toNat) :
  ∀ (d a b:Nat),R a b→unf nds d a = unf nds' d b
 | 0,a,b,_ => rfl
 | d + 1,a,b,hab => by
  obtain ⟨x,y,hx,hy,e1,e2,e3⟩:=h a b hab
  rw [Z8k hx,Z8k hy,e1]
  congr 1
  refine List.ext_getElem? fun j => ?_
  rw [List.getElem?_map,List.getElem?_map]
  by_cases hj:j < x.2.length
  ·rw [List.getElem?_eq_getElem hj,List.getElem?_eq_getElem (show j < y.2.length by omega)]
   simp only [Option.map_some]
   rw [Zrd h d _ _ (e3 j _ _ (List.getElem?_eq_getElem hj) (List.getElem?_eq_getElem (show j < y.2.length by omega)))]
  ·rw [List.getElem?_eq_none (by omega),List.getElem?_eq_none (by omega)]; rfl
theorem Z8q {nds nds':List ND} {R:Nat→Nat→Prop} (h:∀ a b,R a b→∃ x y,nds[a]? = some x∧nds'[b]? = some y∧x.1 = y.1∧x.2.length = y.2.length∧∀ (j:Nat) (k m:Int),x.2[j]? = some k→y.2[j]? = some m→R k.toNat m.toNat)
  {a b:Nat} (hab:R a b):lab nds a = lab nds' b:=funext fun d => Zrd h d a b hab
section
open Classical
variable {β:Type}
noncomputable def idxB (b:β):List β→Nat
 | [] => 0
 | x :: l => if x = b then 0 else idxB b l + 1
theorem Zqt {b:β}:∀ {l:List β},b ∈ l→idxB b l < l.length
 | [],h => by cases h
 | x :: l,h => by
  unfold idxB
  split
  ·simp
  ·rename_i hx
   rcases List.mem_cons.1 h with rfl | h
   ·exact (hx rfl).elim
   ·have:=Zqt h
    simp
    omega
theorem Zqs {b:β} {m:List β}:∀ {l:List β},b ∈ l→idxB b (l ++ m) = idxB b l
 | [],h => by cases h
 | x :: l,h => by
  rw [List.cons_append]
  unfold idxB
  split
  ·rfl
  ·rename_i hx
   rcases List.mem_cons.1 h with rfl | h
   ·exact (hx rfl).elim
   ·rw [Zqs h]
theorem Znn {b:β} {m:List β}:∀ {l:List β},b ∉ l→idxB b (l ++ m) = l.length + idxB b m
 | [],_ => by simp
 | x :: l,h => by
  rw [List.cons_append]
  conv => lhs; unfold idxB
  split
  ·rename_i hx
   exact (h (by simp [hx])).elim
  ·rw [Znn (fun hm => h (by simp [hm])),List.length_cons]
   omega
theorem Zi8 {b:β}:∀ {l:List β},b ∈ l→l[idxB b l]? = some b
 | [],h => by cases h
 | x :: l,h => by
  unfold idxB
  split
  ·rename_i hx
   rw [hx]; rfl
  ·rename_i hx
   rcases List.mem_cons.1 h with rfl | h
   ·exact (hx rfl).elim
   ·simpa using Zi8 h
theorem Znm {α μ:Type} {f:α→β} {g:α→μ} {a:α}:∀ {l:List α},(∀ e ∈ l,(f e = f a ↔ g e = g a))→idxB (f a) (l.map f) = idxB (g a) (l.map g)
 | [],_ => rfl
 | e :: l,h => by
  rw [List.map_cons,List.map_cons]
  unfold idxB
  have:=h e (by simp)
  by_cases he:f e = f a
  ·rw [if_pos he,if_pos (this.1 he)]
  ·rw [if_neg he,if_neg (fun hg => he (this.2 hg)),Znm fun x hx => h x (by simp [hx])]
noncomputable def Z57 {α:Type} (f:α→β) (l:List α):List α:=l.foldl (fun v a => if f a ∈ v.map f then v else v ++ [a]) []
theorem Za6 {α:Type} (f:α→β) (l:List α) (a:α):Z57 f (l ++ [a]) = if f a ∈ (Z57 f l).map f then Z57 f l else Z57 f l ++ [a]:=by
 unfold Z57
 rw [List.foldl_append]
 rfl
theorem Zjf {α:Type} (f:α→β) (l:List α):(Z57 f l).map f = dd (l.map f):=by
 induction l using Zbw with
 | nil => rfl
 | append_singleton l a ih =>
  rw [Za6,List.map_append,List.map_cons,List.map_nil,Zgm,← ih]
  unfold addB
  split
  ·rfl
  ·rw [List.map_append]; rfl
theorem Ze9 {α:Type} (f:α→β) (l:List α):∀ x ∈ Z57 f l,x ∈ l:=by
 induction l using Zbw with
 | nil => intro x hx; cases hx
 | append_singleton l a ih =>
  intro x hx
  rw [Za6] at hx
  split at hx
  ·exact List.mem_append_left _ (ih x hx)
  ·rcases List.mem_append.1 hx with hx | hx
   ·exact List.mem_append_left _ (ih x hx)
   ·exact List.mem_append_right _ hx
theorem Zpp {α μ:Type} {f:α→β} {g:α→μ} (l:List α):(∀ a ∈ l,∀ b ∈ l,(f a = f b ↔ g a = g b))→Z57 f l = Z57 g l:=by
 induction l using Zbw with
 | nil => intro _; rfl
 | append_singleton l a ih =>
  intro h
  have e:=ih fun x hx y hy => h x (by simp [hx]) y (by simp [hy])
  rw [Za6,Za6,← e]
  have:f a ∈ (Z57 f l).map f ↔ g a ∈ (Z57 f l).map g:=by
   rw [List.mem_map,List.mem_map]
   constructor
   ·rintro ⟨x,hx,hf⟩
    exact ⟨x,hx,(h x (by simp [Ze9 f l x hx]) a (by simp)).1 hf⟩
   ·rintro ⟨x,hx,hf⟩
    exact ⟨x,hx,(h x (by simp [Ze9 f l x hx]) a (by simp)).2 hf⟩
  by_cases hm:f a ∈ (Z57 f l).map f
  ·rw [if_pos hm,if_pos (this.1 hm)]
  ·rw [if_neg hm,if_neg (fun hg => hm (this.2 hg))]
theorem Zwl {α μ:Type} {f:α→β} {g:α→μ} {l:List α} (h:∀ a ∈ l,∀ b ∈ l,(f a = f b ↔ g a = g b)) {a:α} (ha:a ∈ l):idxB (f a) (dd (l.map f)) = idxB (g a) (dd (l.map g)):=by
 rw [← Zjf f l,← Zjf g l,← Zpp l h]
 exact Znm fun e he => h e (Ze9 f l e he) a ha
end
theorem Zll (f:Nat→Key):∀ (L:List Nat) (D:List Key),Z1a f D L = Z2u D (L.map f)
 | [],D => rfl
 | a :: L,D => by
  show Z1a f (addK D (f a)) L = Z2u (addB D (f a)) (L.map f)
  rw [Zll f L]
  congr 1
  unfold addK addB
  by_cases h:f a ∈ D
  ·rw [if_pos h,if_pos h]
  ·rw [if_neg h,if_neg h]
theorem Zjk {b:Key}:∀ (l:List Key),l.idxOf b = idxB b l
 | [] => rfl
 | x :: l => by
  rw [List.idxOf_cons]
  unfold idxB
  by_cases h:x = b
  ·rw [if_pos h]; simp [h]
  ·rw [if_neg h,← Zjk l]
   have:(x == b) = false:=by simpa using h
   rw [this]
   rfl
theorem Zgk {nds:List ND} {L:List Nat} (hC:Closed nds L) {a:Nat} (ha:a ∈ L):(clsF nds L)[a]? = some ((idxB (lab nds a) (dd (L.map (lab nds))):Nat):Int):=by
 obtain ⟨f,hf,hs⟩:=Zn5 hC
 rw [hf a ha,Zjk,Zll]
 have:idxB (f a) (dd (L.map f)) = idxB (lab nds a) (dd (L.map (lab nds))):=Zwl (fun x hx y hy => (hs x hx y hy).trans (Zla hC hx hy)) ha
 rw [← this]
 rfl
noncomputable def canN (D:List Lab) (b:Lab):ND:=(lname b,(Zgr b).map fun x => ((idxB x D:Nat):Int))
noncomputable def canD (D:List Lab):List ND:=D.map (canN D)
theorem Zuz {nds:List ND} {L:List Nat} (hC:Closed nds L) {a:Nat} {nd:ND} (ha:a ∈ L) (h:nds[a]? = some nd):Z42 (clsF nds L) nd = canN (dd (L.map (lab nds))) (lab nds a):=by
 unfold Z42 canN
 rw [Zao h,Z6h h,List.map_map]
 congr 1
 refine List.map_congr_left fun k hk => ?_
 rw [Zgk hC ((hC.kids a ha nd h).2 k hk)]
 rfl
theorem Zgy {nds:List ND} {L:List Nat} (hC:Closed nds L):outF (clsF nds L) nds L = canD (dd (L.map (lab nds))):=by
 have key:∀ (P S:List Nat),L = P ++ S→outF (clsF nds L) nds P = (dd (P.map (lab nds))).map (canN (dd (L.map (lab nds)))):=by
  intro P
  induction P using Zbw with
  | nil => intro S _; rfl
  | append_singleton P x ih =>
   intro S hS
   have ihp:=ih (x :: S) (by rw [hS]; simp)
   have hx:x ∈ L:=by rw [hS]; simp
   have hnd:nds[x]? = some (nds[x]'(hC.lt x hx)):=List.getElem?_eq_getElem _
   have e1:outF (clsF nds L) nds (P ++ [x]) = Z2k (clsF nds L) nds (outF (clsF nds L) nds P) x:=by unfold outF; rw [List.foldl_append]; rfl
   rw [e1,ihp]
   unfold Z2k
   rw [Zgk hC hx,hnd]
   simp only
   rw [Zuz hC hx hnd]
   obtain ⟨T,hT⟩:=Zce ((x :: S).map (lab nds)) (dd (P.map (lab nds)))
   have hD:dd (L.map (lab nds)) = dd (P.map (lab nds)) ++ T:=by
    rw [hS,List.append_assoc,List.map_append,Zfg]
    exact hT
   rw [List.map_append,List.map_cons,List.map_nil,Zgm,List.length_map]
   unfold addB
   by_cases hm:lab nds x ∈ dd (P.map (lab nds))
   ·rw [if_pos hm,hD,Zqs hm,if_pos (by have:=Zqt hm; omega)]
   ·rw [if_neg hm]
    have:¬ ((idxB (lab nds x) (dd (L.map (lab nds))):Nat):Int) < ((dd (P.map (lab nds))).length:Nat):=by
     rw [hD,Znn hm]
     omega
    rw [if_neg this,List.map_append]
    rfl
 exact key L [] (by simp)
noncomputable def canT (g:Nat) (b:Lab):List ND:=canD (runL Zgr g [b] 0)
theorem Zqi {K:Nat→List Nat} {nds:List ND} {n r g:Nat} (hK:∀ a,a < n→∀ k ∈ K a,k < n) {P:Nat→Prop} (hP:∀ a,P a→∀ k ∈ K a,P k) (hκ:∀ a,P a→∃ nd,nds[a]? = some nd∧K a = nd.2.map Int.toNat) (hr:r < n) (hPr:P r) (hg:n + 1 ≤ g) :
  dd ((bfsF K n [r]).map (lab nds)) = runL Zgr g [lab nds r] 0:=by
 have h1:bfsF K n [r] = runB K (n + 1) [r] 0:=rfl
 have h2:dd ([r].map (lab nds)) = [lab nds r]:=by simp [dd,Z2u,addB]
 rw [h1]
 have:=run_lab (f:=lab nds) (κ:=Zgr) hK hP (fun a ha => by
  obtain ⟨nd,e1,e2⟩:=hκ a ha
  rw [Z6h e1,e2,List.map_map]
  rfl) (n + 1) [r] 0 g (by simp) (by simpa using hr) (by simpa using hPr) (by omega) (by simpa [dd,Z2u] using hg) (by intro x a hx; omega) (by simp)
 rw [this,h2]
 rfl
theorem Zsb {cs:List CV} (h:HOk2 cs) {i g:Nat} (hi:Z06 cs (i:Int) = true) (hg:cs.length + 1 ≤ g):Z3z cs i = canT g (lab (Z0f cs) i):=by
 obtain ⟨hC,_⟩:=Ze0 h (roots:=[i]) (by simpa using hi)
 unfold Z3z canT
 rw [Zgy hC]
 congr 1
 refine Zqi h.Zqv (P:=fun a => Z06 cs (a:Int) = true) (fun a ha => Zkp h.toHOk ha) (fun a ha => ?_) (Z25 hi) hi hg
 obtain ⟨_,d,hd,ht,_⟩:=Z20 ha
 rw [Int.toNat_natCast] at hd
 refine ⟨_,Z2g hd,?_⟩
 unfold kidN
 rw [Z1v hd,if_pos ht]
theorem Zsa {ns:List ND} (h:GrOk ns) {r g:Nat} (hr:r < ns.length) (hg:ns.length + 1 ≤ g):Z0v ns r = canT g (lab ns r):=by
 obtain ⟨hC,_⟩:=Zal h (roots:=[r]) (by simpa using hr)
 unfold Z0v canT
 rw [Zgy hC]
 congr 1
 exact Zqi h.Zdi (P:=fun a => a < ns.length) h.Zdi (fun a ha => ⟨_,List.getElem?_eq_getElem ha,Zed (List.getElem?_eq_getElem ha)⟩) hr hr hg
theorem Zf0 {cs:List CV} {ns:List ND} (h:HOk2 cs) (h':GrOk ns) {i r:Nat} (hi:Z06 cs (i:Int) = true) (hr:r < ns.length) (hl:lab (Z0f cs) i = lab ns r):Z3z cs i = Z0v ns r:=by
 rw [Zsb h hi (g:=cs.length + ns.length + 1) (by omega),Zsa h' hr (g:=cs.length + ns.length + 1) (by omega),hl]
noncomputable abbrev lb (cs:List CV) (a:Nat):Lab:=lab (Z0f cs) a
theorem Zqj {nds:List ND} {L:List Nat} {a:Nat} (hC:Closed nds L) (ha:a < nds.length) (h:a ∉ L):(clsF nds L)[a]? = some (-1):=by
 obtain ⟨R,h1,_⟩:=Z9m hC
 rw [h1]
 exact Zfw nds L R a ha h
theorem Ze2 {nds:List ND} {L:List Nat} {a b:Nat} (hC:Closed nds L) (ha:a ∈ L) (hb:b ∈ L):(clsF nds L)[a]? = (clsF nds L)[b]? ↔ lab nds a = lab nds b:=(Ze1 hC ha hb).trans (Zla hC ha hb)
noncomputable abbrev clsH (cs:List CV):List Int:=clsF (Z0f cs) (Z19 cs cs.length)
theorem Zgs {cs:List CV} {a:Nat}:a ∈ Z19 cs cs.length ↔ Z06 cs (a:Int) = true:=by
 rw [Z5o]
 exact ⟨fun h => h.2,fun h => ⟨Z25 h,h⟩⟩
theorem Z7o {cs:List CV} (h:HOk cs) {a:Nat} (ha:Z06 cs (a:Int) = true) :
  ∃ j:Nat,toC (clsH cs) (a:Int) = j∧j ≤ a∧Z06 cs (j:Int) = true∧lb cs j = lb cs a∧∀ j',j' < j→Z06 cs (j':Int) = true→lb cs j' ≠ lb cs a:=by
 have hL:=Zgs.2 ha
 have hc:=Zgk h.closed hL
 obtain ⟨j,h1,h2,h3,h4⟩:=Zp5 hc
 have hlt:=Z25 ha
 have hj:j ∈ Z19 cs cs.length:=Classical.byContradiction fun hn => by
  have:=Zqj h.closed (a:=j) (by rw [Z0u]; omega) hn
  rw [h3] at this
  injection this with this
  omega
 refine ⟨j,h1,h2,Zgs.1 hj,(Ze2 h.closed hj hL).1 (h3.trans hc.symm),fun j' hj' ht e => ?_⟩
 have:=(Ze2 h.closed (Zgs.2 ht) hL).2 e
 rw [hc] at this
 exact h4 j' _ hj' this rfl
theorem Ziv {cs:List CV} (h:HOk cs) {a j:Nat} (ha:Z06 cs (a:Int) = true) (hj:Z06 cs (j:Int) = true) (hl:lb cs j = lb cs a) (hm:∀ j',j' < j→Z06 cs (j':Int) = true→lb cs j' ≠ lb cs a):toC (clsH cs) (a:Int) = j:=by
 obtain ⟨j0,h1,h2,h3,h4,h5⟩:=Z7o h ha
 rw [h1]
 rcases Nat.lt_trichotomy j0 j with h6 | h6 | h6
 ·exact (hm j0 h6 h3 h4).elim
 ·rw [h6]
 ·exact (h5 j h6 hj hl).elim
theorem Zh3 {cs:List CV} (h:HOk cs) {a:Nat} (ha:Z06 cs (a:Int) = true):toC (clsH cs) (toC (clsH cs) (a:Int)) = toC (clsH cs) (a:Int):=by
 obtain ⟨j0,h1,h2,h3,h4,h5⟩:=Z7o h ha
 rw [h1]
 exact Ziv h h3 h3 rfl (fun j' hj' ht e => h5 j' hj' ht (e.trans h4))
theorem Z55 {cs:List CV} {a:Nat} (ha:Z06 cs (a:Int) = true):∃ c,cs[a]? = some c∧c.taken = true∧(Z0f cs)[a]? = some (c.name,c.kids):=by
 obtain ⟨_,d,hd,ht,_⟩:=Z20 ha
 rw [Int.toNat_natCast] at hd
 refine ⟨d,hd,ht,?_⟩
 rw [Z2g hd,if_pos ht]
theorem Zan {cs:List CV} (h:HOk cs) {a:Nat} {c:CV} {k:Int} (hc:cs[a]? = some c) (ht:c.taken = true) (hk:k ∈ c.kids):Z06 cs ((k.toNat:Nat):Int) = true∧0 ≤ k:=by
 have h1:=h.kids c (List.mem_of_getElem? hc) ht k hk
 have h0:=(Z20 h1).1
 rw [Int.toNat_of_nonneg h0]
 exact ⟨h1,h0⟩
theorem Zmy {cs:List CV} (ts:List ND) (hO:HOk cs) {a:Nat} (ha:Z06 cs (a:Int) = true):lab (bigG cs ts) a = lb cs a:=by
 refine Z8q (R:=fun x y => x = y∧Z06 cs (x:Int) = true) ?_ ⟨rfl,ha⟩
 rintro x y ⟨rfl,hx⟩
 obtain ⟨c,h1,h2,h3⟩:=Z55 hx
 refine ⟨_,_,by rw [Zf6 (Z25 hx)]; exact h3,h3,rfl,rfl,fun j k m hk hm => ?_⟩
 rw [hk] at hm
 cases hm
 exact ⟨rfl,(Zan hO h1 h2 (List.mem_of_getElem? hk)).1⟩
theorem Zmz (cs:List CV) {ts:List ND} (hT:GrOk ts) {i:Nat} (hi:i < ts.length):lab (bigG cs ts) (cs.length + i) = lab ts i:=by
 refine Z8q (R:=fun x y => x = cs.length + y∧y < ts.length) ?_ ⟨rfl,hi⟩
 rintro x y ⟨rfl,hy⟩
 have hg:ts[y]? = some ts[y]:=List.getElem?_eq_getElem hy
 refine ⟨Z5r cs.length ts[y],ts[y],by rw [Zf7,hg]; rfl,hg,rfl,by simp [Z5r],fun j k m hk hm => ?_⟩
 have hm2:(Z5r cs.length ts[y]).2[j]? = some ((cs.length:Int) + m):=by
  unfold Z5r
  simp only
  rw [List.getElem?_map,hm]
  rfl
 rw [hm2] at hk
 cases hk
 have:=(hT _ (List.getElem_mem hy)).2 m (List.mem_of_getElem? hm)
 omega
theorem Z94 {cs:List CV} {ts:List ND} (hO:HOk cs) (hT:GrOk ts) {i:Nat} (hi:i < ts.length):∃ v:Int,(Z1p cs ts)[i]? = some v ∧
  ((v = -1∧∀ j:Nat,Z06 cs (j:Int) = true→lb cs j ≠ lab ts i) ∨ ∃ j:Nat,v = j∧Z06 cs (j:Int) = true∧lb cs j = lab ts i∧∀ j',j' < j→Z06 cs (j':Int) = true→lb cs j' ≠ lab ts i):=by
 obtain ⟨hC,_⟩:=Ztf hO hT
 have hmn:cs.length + i ∈ bigL cs ts:=Z9v.2 (.inr (by omega))
 have hc:=Zgk hC hmn
 have hcl:(clsF (bigG cs ts) (bigL cs ts)).length = cs.length + ts.length:=by rw [Z9n hC,Zc1]
 have hmc:∀ j:Nat,Z06 cs (j:Int) = true→j ∈ bigL cs ts:=fun j hj => Z9v.2 (.inl ⟨Z25 hj,hj⟩)
 have hkey:∀ j:Nat,j < cs.length→((clsF (bigG cs ts) (bigL cs ts))[j]? = (clsF (bigG cs ts) (bigL cs ts))[cs.length + i]? ↔ Z06 cs (j:Int) = true∧lb cs j = lab ts i):=by
  intro j hj
  by_cases ht:Z06 cs (j:Int) = true
  ·rw [Ze2 hC (hmc j ht) hmn,Zmy ts hO ht,Zmz cs hT hi]
   exact ⟨fun e => ⟨ht,e⟩,fun e => e.2⟩
  ·have hn:j ∉ bigL cs ts:=fun hm => by
    rcases Z9v.1 hm with ⟨_,h⟩ | ⟨h,_⟩
    ·exact ht h
    ·omega
   rw [Zqj hC (by rw [Zc1]; omega) hn,hc]
   constructor
   ·intro e
    injection e with e
    omega
   ·intro e
    exact (ht e.1).elim
 generalize hcls:clsF (bigG cs ts) (bigL cs ts) = cls at hc hcl hkey
 generalize hx:((idxB (lab (bigG cs ts) (cs.length + i)) (dd ((bigL cs ts).map (lab (bigG cs ts)))):Nat):Int) = x at hc
 have hv:(Z1p cs ts)[i]? = some (Z3b (fun d => decide (x = d)) (cls.take cs.length)):=by
  unfold Z1p
  rw [List.getElem?_map,List.getElem?_range hi,hcls]
  simp only [Option.map_some]
  rw [hc]
  rfl
 refine ⟨_,hv,?_⟩
 have hat:∀ (j:Nat) (d:Int),(cls.take cs.length)[j]? = some d→j < cs.length∧cls[j]? = some d:=by
  intro j d h
  rw [List.getElem?_take] at h
  split at h
  ·exact ⟨by assumption,h⟩
  ·cases h
 by_cases hex:∃ j,j < cs.length∧cls[j]? = some x
 ·-- the least such place
  have hmin:∃ j,j < cs.length∧cls[j]? = some x∧∀ j',j' < j→cls[j']? ≠ some x:=by
   obtain ⟨j,h1,h2⟩:=hex
   revert h1 h2
   refine Nat.strongRecOn (motive:=fun j => j < cs.length→cls[j]? = some x→_) j fun n ih h1 h2 => ?_
   by_cases hl:∃ j',j' < n∧cls[j']? = some x
   ·obtain ⟨j',h3,h4⟩:=hl
    exact ih j' h3 (by omega) h4
   ·exact ⟨n,h1,h2,fun j' hj' e => hl ⟨j',hj',e⟩⟩
  obtain ⟨j,h1,h2,h3⟩:=hmin
  have e:Z3b (fun d => decide (x = d)) (cls.take cs.length) = j:=Zcj (i:=j) (k:=x) (fun j' d hj hd => by
   obtain ⟨_,h5⟩:=hat j' d hd
   simp only [decide_eq_false_iff_not]
   rintro rfl
   exact h3 j' hj h5) (by rw [List.getElem?_take,if_pos h1]; exact h2) (by simp)
  rw [e]
  obtain ⟨t1,t2⟩:=(hkey j h1).1 (h2.trans hc.symm)
  refine .inr ⟨j,rfl,t1,t2,fun j' hj' ht' e' => h3 j' hj' ?_⟩
  rw [(hkey j' (by omega)).2 ⟨ht',e'⟩,hc]
 ·have e:Z3b (fun d => decide (x = d)) (cls.take cs.length) = -1:=Zd1 fun j d _ hd => by
   obtain ⟨h4,h5⟩:=hat j d hd
   simp only [decide_eq_false_iff_not]
   rintro rfl
   exact hex ⟨j,h4,h5⟩
  rw [e]
  refine .inl ⟨rfl,fun j hj e' => hex ⟨j,Z25 hj,?_⟩⟩
  rw [(hkey j (Z25 hj)).2 ⟨hj,e'⟩,hc]
theorem Zcn {ns:List ND} (h:GrOk ns) {r:Nat} (hr:r < ns.length):lab (Z0v ns r) 0 = lab ns r:=by
 obtain ⟨hC,hnd,hlt,hroot⟩:=Zal h (roots:=[r]) (by simpa using hr)
 have hpre:∃ w,bfsF (kidG ns) ns.length [r] = r :: w:=by
  have h1:bfsF (kidG ns) ns.length [r] = runB (kidG ns) (ns.length + 1) [r] 0:=rfl
  obtain ⟨w,hw⟩:=Zio (kidG ns) (ns.length + 1) [r] 0
  exact ⟨w,by rw [h1,hw]; rfl⟩
 have hL:Z0v ns r = canD (dd ((bfsF (kidG ns) ns.length [r]).map (lab ns))):=Zgy hC
 generalize bfsF (kidG ns) ns.length [r] = L at hC hroot hpre hL
 rw [hL]
 obtain ⟨w,rfl⟩:=hpre
 have hD0:(dd ((r :: w).map (lab ns)))[0]? = some (lab ns r):=by
  have e:dd ((r :: w).map (lab ns)) = Z2u [lab ns r] (w.map (lab ns)):=by
   show Z2u (addB [] (lab ns r)) (w.map (lab ns)) = _
   congr 1
  obtain ⟨T,hT⟩:=Zce (w.map (lab ns)) [lab ns r]
  rw [e,hT]
  rfl
 generalize hD:dd ((r :: w).map (lab ns)) = D at hD0
 refine Z8q (R:=fun x y => D[x]? = some (lab ns y)∧y ∈ r :: w) ?_ ⟨hD0,by simp⟩
 rintro x y ⟨hx,hy⟩
 have hg:ns[y]? = some (ns[y]'(hC.lt y hy)):=List.getElem?_eq_getElem _
 refine ⟨canN D (lab ns y),_,by unfold canD; rw [List.getElem?_map,hx]; rfl,hg,by unfold canN; rw [Zao hg],by unfold canN; rw [Z6h hg]; simp,fun j k m hk hm => ?_⟩
 have hmL:=(hC.kids y hy _ hg).2 m (List.mem_of_getElem? hm)
 unfold canN at hk
 simp only at hk
 rw [Z6h hg,List.map_map,List.getElem?_map,hm] at hk
 simp only [Option.map_some,Option.some.injEq,Function.comp] at hk
 rw [← hk,Int.toNat_natCast]
 refine ⟨Zi8 ?_,hmL⟩
 rw [← hD]
 exact Zdk.2 (List.mem_map.2 ⟨m.toNat,hmL,rfl⟩)
theorem Znr {nds nds':List ND} {a b:Nat} {x y:ND} (hx:nds[a]? = some x) (hy:nds'[b]? = some y) (h:lab nds a = lab nds' b) :
  x.1 = y.1∧x.2.length = y.2.length∧∀ (j:Nat) (k m:Int),x.2[j]? = some k→y.2[j]? = some m→lab nds k.toNat = lab nds' m.toNat:=by
 have h1:=Zao hx
 have h2:=Z6h hx
 rw [h,Zao hy] at h1
 rw [h,Z6h hy] at h2
 refine ⟨h1.symm,by simpa using (congrArg List.length h2).symm,fun j k m hk hm => ?_⟩
 have:=congrArg (fun l => l[j]?) h2
 simpa [hk,hm] using this.symm
def Zdb (T:Int→Bool) (c:CV):Prop:=c = Z2m ∨ (c.taken = true∧c.kids.length ≤ 4∧(∀ k ∈ c.kids,T k = true)∧Z1x c.name = true∧0 ≤ c.held∧c.held ≤ 1000)
def HG (cs:List CV):Prop:=∀ c ∈ cs,Zdb (Z06 cs) c
theorem HG.ok {cs:List CV} (h:HG cs):HOk2 cs:=by
 refine ⟨⟨fun c hc => ?_,fun c hc ht => ?_⟩,fun c hc ht => ?_⟩
 ·rcases h c hc with rfl | ⟨_,h4,_⟩
  ·simp [Z2m]
  ·exact h4
 ·rcases h c hc with rfl | ⟨_,_,h4,_⟩
  ·simp [Z2m]
  ·exact h4
 ·rcases h c hc with rfl | ⟨h4,_⟩
  ·rfl
  ·rw [h4] at ht
   cases ht
theorem Zdb.mono {T T':Int→Bool} {c:CV} (h:Zdb T c) (hT:∀ k,T k = true→T' k = true):Zdb T' c:=by
 rcases h with h | ⟨h1,h2,h3,h4⟩
 ·exact .inl h
 ·exact .inr ⟨h1,h2,fun k hk => hT k (h3 k hk),h4⟩
theorem HG.set {cs:List CV} {i:Nat} {d:CV} (h:HG cs) (hT:∀ k,Z06 cs k = true→Z06 (cs.set i d) k = true) (hd:Zdb (Z06 (cs.set i d)) d):HG (cs.set i d):=by
 intro c hc
 rcases List.mem_or_eq_of_mem_set hc with hc | rfl
 ·exact (h c hc).mono hT
 ·exact hd
theorem Zcy {cs:List CV} {i:Nat} {d:CV} (hi:i < cs.length) (k:Int):Z06 (cs.set i d) k = if k = (i:Int) then d.taken else Z06 cs k:=by
 unfold Z06
 by_cases h:k = (i:Int)
 ·subst h
  simp [hi]
 ·rw [if_neg h]
  by_cases h0:0 ≤ k
  ·have:i ≠ k.toNat:=by omega
   rw [List.getElem?_set_ne this]
  ·simp [h0]
theorem Zp2 {cs:List CV} {a:Nat} {d e:CV} (h:HG cs) (ha:cs[a]? = some d) (hd:d.taken = false) (he:e.taken = true) (hk:Zdb (Z06 (cs.set a e)) e):HG (cs.set a e)∧(∀ k,Z06 cs k = true→Z06 (cs.set a e) k = true):=by
 have hal:a < cs.length:=(List.getElem?_eq_some_iff.1 ha).1
 have hT:∀ k,Z06 cs k = true→Z06 (cs.set a e) k = true:=fun k hk => by
  rw [Zcy hal]
  split
  ·exact he
  ·exact hk
 exact ⟨h.set hT hk,hT⟩
theorem Zuw {cs:List CV} (h:HG cs) (nm:List UInt8) (ks:List Int):HG (mkF cs nm ks).2.2∧(mkF cs nm ks).2.2.length = cs.length:=by
 unfold mkF
 split
 ·exact ⟨h,rfl⟩
 ·rename_i h1
  split
  ·exact ⟨h,rfl⟩
  ·rename_i h2
   split
   ·exact ⟨h,rfl⟩
   ·rename_i h3
    split
    ·exact ⟨h,rfl⟩
    ·rename_i h4
     rcases Z88 cs with hf | ⟨a,d,hf,ha,hd⟩
     ·omega
     ·rw [hf]
      simp only [Int.toNat_natCast,List.length_set,and_true]
      have hal:a < cs.length:=(List.getElem?_eq_some_iff.1 ha).1
      refine (Zp2 (e:=⟨true,nm,ks,0⟩) h ha hd rfl (.inr ⟨rfl,by show ks.length ≤ 4; omega,fun k hk => ?_,by simpa using h1,Int.le_refl 0,by show (0:Int) ≤ 1000; decide⟩)).1
      rw [Zcy hal]
      split
      ·rfl
      ·simp only [Bool.not_eq_false,List.all_eq_true] at h3
       exact h3 k hk
theorem Zk9 {cs:List CV} {i:Nat} {c d:CV} (hc:cs[i]? = some c) (ht:d.taken = c.taken) (k:Int):Z06 (cs.set i d) k = Z06 cs k:=by
 have hi:i < cs.length:=(List.getElem?_eq_some_iff.1 hc).1
 rw [Zcy hi]
 split
 ·rename_i h
  rw [h,Z16 hc,ht]
 ·rfl
theorem tieF_ok {cs:List CV} (h:HG cs) (i j k:Int):HG (tieF cs i j k).2∧(tieF cs i j k).2.length = cs.length:=by
 unfold tieF
 split
 ·rename_i h1
  obtain ⟨e1,e2,e3,e4⟩:=h1
  obtain ⟨_,d,hd,ht,_⟩:=Z20 e1
  rw [hd]
  simp only [List.length_set,and_true]
  have hT:=Zk9 (cs:=cs) (d:={ d with kids:=d.kids.set j.toNat k }) hd rfl
  refine h.set (fun x hx => by rw [hT]; exact hx) ?_
  rcases h d (List.mem_of_getElem? hd) with h2 | ⟨g1,g2,g3,g4⟩
  ·rw [h2] at ht
   cases ht
  ·refine .inr ⟨g1,by simpa using g2,fun x hx => ?_,g4⟩
   rw [hT]
   rcases List.mem_or_eq_of_mem_set hx with hx | rfl
   ·exact g3 x hx
   ·exact e2
 ·exact ⟨h,rfl⟩
theorem setH_ok {cs:List CV} (h:HG cs) {i:Nat} {x:Int} (hx:0 ≤ x∧x ≤ 1000) (ht:Z06 cs (i:Int) = true):HG (setH cs i x):=by
 unfold setH
 split
 ·rename_i c hc
  have hT:=Zk9 (cs:=cs) (d:={ c with held:=x }) hc rfl
  refine h.set (fun y hy => by rw [hT]; exact hy) ?_
  rw [Z16 hc] at ht
  rcases h c (List.mem_of_getElem? hc) with h2 | ⟨g1,g2,g3,g4,_⟩
  ·rw [h2] at ht
   cases ht
  ·exact .inr ⟨g1,g2,fun y hy => by rw [hT]; exact g3 y hy,g4,hx.1,hx.2⟩
 ·exact h
theorem Zwk {cs:List CV} (h:HG cs) (i:Int):HG (Z6p cs i).2∧(Z6p cs i).2.length = cs.length:=by
 unfold Z6p
 split
 ·exact ⟨h,rfl⟩
 ·rename_i h1
  have h1:Z06 cs i = true:=by simpa using h1
  obtain ⟨h0,d,hd,ht,_⟩:=Z20 h1
  rw [hd]
  simp only
  split
  ·exact ⟨h,rfl⟩
  ·rename_i h2
   refine ⟨?_,Zp0 _ _ _⟩
   rcases h d (List.mem_of_getElem? hd) with h3 | ⟨g1,g2,g3,g4,g5,g6⟩
   ·rw [h3] at ht
    cases ht
   ·rw [IntWalk.i64_in _ (by omega)]
    exact setH_ok h (by omega) (by rw [Int.toNat_of_nonneg h0]; exact h1)
structure AllP (L:List ND) (th:List Int) (cs c:List CV) (f:List Int) (i:Nat):Prop where
 len:c.length = cs.length
 flen:f.length = L.length
 good:HG c
 keep:∀ a:Nat,Z06 cs (a:Int) = true→c[a]? = cs[a]?
 mono:∀ k,Z06 cs k = true→Z06 c k = true
 cell:∀ (j:Nat) (nd:ND),j < i→L[j]? = some nd→(th[j]?).getD 0 < 0→∃ a:Nat,f[j]? = some (a:Int)∧Z06 cs (a:Int) = false∧c[a]? = some ⟨true,nd.1,[],0⟩
 inj:∀ (j j':Nat),j < i→j' < i→(th[j]?).getD 0 < 0→(th[j']?).getD 0 < 0→f[j]? = f[j']?→j = j'
 rest:∀ j,(i ≤ j ∨ 0 ≤ (th[j]?).getD 0)→f[j]? = th[j]?
 only:∀ a:Nat,Z06 c (a:Int) = true→Z06 cs (a:Int) = true ∨ ∃ j,j < i∧(th[j]?).getD 0 < 0∧f[j]? = some (a:Int)
theorem Zhw {L:List ND} {th:List Int} {cs:List CV} (h:HG cs) (hth:th.length = L.length) (hnm:∀ nd ∈ L,Z1x nd.1 = true):∀ (i:Nat),i ≤ L.length→∀ c f,Z3l L th cs i = some (c,f)→AllP L th cs c f i
 | 0,_,c,f,e => by
  simp only [Z3l,Option.some.injEq,Prod.mk.injEq] at e
  obtain ⟨rfl,rfl⟩:=e
  exact ⟨rfl,hth,h,fun _ _ => rfl,fun _ h => h,fun j nd hj => by omega,fun j j' hj => by omega,fun _ _ => rfl,fun a ha => .inl ha⟩
 | i + 1,hi,c,f,e => by
  unfold Z3l at e
  cases hp:Z3l L th cs i with
  | none => rw [hp] at e; cases e
  | some x =>
   obtain ⟨c0,f0⟩:=x
   have H:=Zhw h hth hnm i (by omega) c0 f0 hp
   rw [hp] at e
   simp only at e
   by_cases ht:0 ≤ (th[i]?).getD 0
   ·rw [if_pos ht] at e
    cases e
    refine ⟨H.len,H.flen,H.good,H.keep,H.mono,fun j nd hj hnd hn => ?_,fun j j' hj hj' hn hn' e => ?_,fun j hj => ?_,fun a ha => ?_⟩
    ·by_cases e:j = i
     ·subst e; omega
     ·exact H.cell j nd (by omega) hnd hn
    ·by_cases e1:j = i
     ·subst e1; omega
     ·by_cases e2:j' = i
      ·subst e2; omega
      ·exact H.inj j j' (by omega) (by omega) hn hn' e
    ·refine H.rest j ?_
     rcases hj with hj | hj
     ·exact .inl (by omega)
     ·exact .inr hj
    ·rcases H.only a ha with h | ⟨j,h1,h2,h3⟩
     ·exact .inl h
     ·exact .inr ⟨j,by omega,h2,h3⟩
   ·rw [if_neg ht] at e
    rcases Z88 c0 with hf | ⟨a,d,hf,ha,hd⟩
    ·rw [hf] at e
     rw [if_pos (by omega)] at e
     cases e
    ·rw [hf,if_neg (by omega)] at e
     simp only [Option.some.injEq,Prod.mk.injEq,Int.toNat_natCast] at e
     obtain ⟨rfl,rfl⟩:=e
     have hil:i < L.length:=hi
     obtain ⟨nd0,hnd0⟩:∃ nd,L[i]? = some nd:=⟨_,List.getElem?_eq_getElem hil⟩
     rw [hnd0]
     simp only [Option.getD_some]
     have hal:a < c0.length:=(List.getElem?_eq_some_iff.1 ha).1
     have hfi:i < f0.length:=by rw [H.flen]; exact hil
     have hna:Z06 c0 (a:Int) = false:=by rw [Z16 ha]; exact hd
     have hncs:Z06 cs (a:Int) = false:=by
      cases hq:Z06 cs (a:Int) with
      | false => rfl
      | true => rw [H.mono _ hq] at hna; cases hna
     have hgn:=hnm nd0 (List.mem_of_getElem? hnd0)
     obtain ⟨hg1,hT⟩:=Zp2 (e:=⟨true,nd0.1,[],0⟩) H.good ha hd rfl (.inr ⟨rfl,Nat.zero_le 4,by simp,hgn,Int.le_refl 0,by show (0:Int) ≤ 1000; decide⟩)
     have hne:∀ {b:Nat} {nm:List UInt8},c0[b]? = some ⟨true,nm,[],0⟩→a ≠ b:=by
      rintro b nm hb rfl
      rw [ha] at hb
      cases hb
      cases hd
     have hnef:∀ (j:Nat),j < i→(th[j]?).getD 0 < 0→f0[j]? ≠ some (a:Int):=by
      intro j hj hn e
      obtain ⟨nd,hnd⟩:∃ nd,L[j]? = some nd:=⟨_,List.getElem?_eq_getElem (by omega)⟩
      obtain ⟨b,h1,_,h3⟩:=H.cell j nd hj hnd hn
      rw [h1] at e
      have:a = b:=by
       injection e with e
       omega
      exact hne h3 this
     refine ⟨by rw [List.length_set]; exact H.len,by rw [List.length_set]; exact H.flen,hg1,fun b hb => ?_,fun k hk => hT k (H.mono k hk),fun j nd hj hnd hn => ?_,fun j j' hj hj' hn hn' e => ?_,fun j hj => ?_,fun b hb => ?_⟩
     ·rw [List.getElem?_set_ne]
      ·exact H.keep b hb
      ·rintro rfl
       rw [hncs] at hb
       cases hb
     ·by_cases e:j = i
      ·subst e
       rw [hnd0] at hnd
       cases hnd
       exact ⟨a,by simp [hfi],hncs,by simp [hal]⟩
      ·obtain ⟨b,h1,h2,h3⟩:=H.cell j nd (by omega) hnd hn
       exact ⟨b,by rw [List.getElem?_set_ne (by omega)]; exact h1,h2,by rw [List.getElem?_set_ne (hne h3)]; exact h3⟩
     ·by_cases e1:j = i
      ·by_cases e2:j' = i
       ·omega
       ·exfalso
        subst e1
        rw [List.getElem?_set_ne (show j ≠ j' by omega)] at e
        simp only [List.getElem?_set_self hfi] at e
        exact hnef j' (by omega) hn' e.symm
      ·by_cases e2:j' = i
       ·exfalso
        subst e2
        rw [List.getElem?_set_ne (show j' ≠ j by omega)] at e
        simp only [List.getElem?_set_self hfi] at e
        exact hnef j (by omega) hn e
       ·rw [List.getElem?_set_ne (show i ≠ j by omega),List.getElem?_set_ne (show i ≠ j' by omega)] at e
        exact H.inj j j' (by omega) (by omega) hn hn' e
     ·by_cases e:j = i
      ·subst e
       rcases hj with hj | hj
       ·omega
       ·exact (ht hj).elim
      ·rw [List.getElem?_set_ne (by omega)]
       refine H.rest j ?_
       rcases hj with hj | hj
       ·exact .inl (by omega)
       ·exact .inr hj
     ·rw [Zcy hal] at hb
      split at hb
      ·rename_i e
       have:b = a:=by omega
       subst this
       exact .inr ⟨i,by omega,by omega,by simp [hfi]⟩
      ·rcases H.only b hb with h | ⟨j,h1,h2,h3⟩
       ·exact .inl h
       ·exact .inr ⟨j,by omega,h2,by rw [List.getElem?_set_ne (by omega)]; exact h3⟩
theorem Zi6 {L:List ND} {th f:List Int} {cs c:List CV} {l:Nat} (hl:L.length = l) (H:AllP L th cs c f l):∀ i,i ≤ l→∀ a:Nat,
  ((∀ j,j < l→(th[j]?).getD 0 < 0→f[j]? ≠ some (a:Int))→(Z2a L th f c i)[a]? = c[a]?) ∧
  ∀ (j:Nat) (nd:ND),L[j]? = some nd→(th[j]?).getD 0 < 0→f[j]? = some (a:Int)→(Z2a L th f c i)[a]? = some ⟨true,nd.1,if j < i then Z1s f nd.2 else [],0⟩
 | 0,_,a => by
  refine ⟨fun _ => rfl,fun j nd hnd hn hf => ?_⟩
  obtain ⟨b,h1,_,h3⟩:=H.cell j nd (by rw [← hl]; exact (List.getElem?_eq_some_iff.1 hnd).1) hnd hn
  rw [hf] at h1
  have:a = b:=by
   injection h1 with h1
   omega
  subst this
  rw [if_neg (by omega)]
  exact h3
 | i + 1,hi,a => by
  obtain ⟨g1,g2⟩:=Zi6 hl H i (by omega) a
  have hil:i < L.length:=by omega
  obtain ⟨nd0,hnd0⟩:∃ nd,L[i]? = some nd:=⟨_,List.getElem?_eq_getElem hil⟩
  unfold Z2a
  by_cases ht:0 ≤ (th[i]?).getD 0
  ·rw [if_pos ht]
   refine ⟨g1,fun j nd hnd hn hf => ?_⟩
   rw [g2 j nd hnd hn hf]
   have:j ≠ i:=by rintro rfl; omega
   by_cases e:j < i
   ·rw [if_pos e,if_pos (by omega)]
   ·rw [if_neg e,if_neg (by omega)]
  ·rw [if_neg ht]
   obtain ⟨b,h1,_,_⟩:=H.cell i nd0 (by omega) hnd0 (by omega)
   have h2b:=(Zi6 hl H i (by omega) b).2 i nd0 hnd0 (by omega) h1
   rw [if_neg (by omega)] at h2b
   rw [h1,hnd0]
   simp only [Option.getD_some,Int.toNat_natCast]
   unfold setK
   rw [h2b]
   simp only
   have hbl:b < (Z2a L th f c i).length:=(List.getElem?_eq_some_iff.1 h2b).1
   refine ⟨fun hno => ?_,fun j nd hnd hn hf => ?_⟩
   ·rw [List.getElem?_set_ne]
    ·exact g1 hno
    ·rintro rfl
     exact hno i (by omega) (by omega) h1
   ·by_cases e:j = i
    ·subst e
     rw [hf] at h1
     have:a = b:=by
      injection h1 with h1
      omega
     subst this
     rw [hnd0] at hnd
     cases hnd
     rw [List.getElem?_set_self hbl,if_pos (by omega)]
    ·have hab:b ≠ a:=by
      rintro rfl
      exact e (H.inj j i (by rw [← hl]; exact (List.getElem?_eq_some_iff.1 hnd).1) (by omega) hn (by omega) (hf.trans h1.symm))
     rw [List.getElem?_set_ne hab,g2 j nd hnd hn hf]
     by_cases e2:j < i
     ·rw [if_pos e2,if_pos (by omega)]
     ·rw [if_neg e2,if_neg (by omega)]
structure Grown (cs c:List CV):Prop where
 good:HG c
 len:c.length = cs.length
 keep:∀ a:Nat,Z06 cs (a:Int) = true→c[a]? = cs[a]?
 new:∀ (a:Nat) (d:CV),Z06 cs (a:Int) = false→c[a]? = some d→d.held = 0
theorem HG.Zs5 {cs:List CV} (h:HG cs) {a:Nat} {d:CV} (hd:cs[a]? = some d) (ht:Z06 cs (a:Int) = false):d = Z2m:=by
 rw [Z16 hd] at ht
 rcases h d (List.mem_of_getElem? hd) with e | ⟨e,_⟩
 ·exact e
 ·rw [ht] at e; cases e
theorem Grown.refl {cs:List CV} (h:HG cs):Grown cs cs:=⟨h,rfl,fun _ _ => rfl,fun a d ht hd => by rw [h.Zs5 hd ht]; rfl⟩
theorem Grown.lab {cs c:List CV} (hO:HOk cs) (h:Grown cs c) {a:Nat} (ha:Z06 cs (a:Int) = true):lb c a = lb cs a:=by
 refine Z8q (R:=fun x y => x = y∧Z06 cs (y:Int) = true) ?_ ⟨rfl,ha⟩
 rintro x y ⟨rfl,hx⟩
 obtain ⟨d,h1,h2,h3⟩:=Z55 hx
 have h4:(Z0f c)[x]? = some (d.name,d.kids):=by
  rw [Z2g ((h.keep x hx).trans h1),if_pos h2]
 refine ⟨_,_,h4,h3,rfl,rfl,fun j k m hk hm => ?_⟩
 rw [hk] at hm
 cases hm
 exact ⟨rfl,(Zan hO h1 h2 (List.mem_of_getElem? hk)).1⟩
theorem Zns {ns:List ND} (h:GrOk ns) {r:Nat} (hr:r < ns.length) {P:List UInt8→Prop} (hn:∀ nd ∈ ns,P nd.1):∀ nd ∈ Z0v ns r,P nd.1:=by
 intro nd hnd
 unfold Z0v at hnd
 obtain ⟨a,x,_,h2,rfl⟩:=Zek hnd
 exact hn x (List.mem_of_getElem? h2)
structure PutOk (cs:List CV) (L:List ND) (th f:List Int) (c:List CV):Prop extends Grown cs c where
 at':∀ j,j < L.length→∃ a:Nat,f[j]? = some (a:Int)∧Z06 c (a:Int) = true∧lb c a = lab L j
 only:∀ a:Nat,Z06 c (a:Int) = true→Z06 cs (a:Int) = true ∨ ∃ j,j < L.length∧(th[j]?).getD 0 < 0∧f[j]? = some (a:Int)
theorem Zzl {cs c:List CV} {L:List ND} {f:List Int} (hG:HG cs) (hL:GrOk L) (hnm:∀ nd ∈ L,Z1x nd.1 = true) (H:AllP L (Z1p cs L) cs c f L.length):PutOk cs L (Z1p cs L) f (Z2a L (Z1p cs L) f c L.length):=by
 have hO:=hG.ok
 have hA:=fun i hi a => Zi6 (c:=c) rfl H i hi a
 have hlen:(Z2a L (Z1p cs L) f c L.length).length = c.length:=Z8o _ _ _ _ _
 have hfr:∀ (a:Nat),((∀ j,j < L.length→((Z1p cs L)[j]?).getD 0 < 0→f[j]? ≠ some (a:Int))→(Z2a L (Z1p cs L) f c L.length)[a]? = c[a]?) ∧
   ∀ (j:Nat) (nd:ND),L[j]? = some nd→((Z1p cs L)[j]?).getD 0 < 0→f[j]? = some (a:Int)→(Z2a L (Z1p cs L) f c L.length)[a]? = some ⟨true,nd.1,Z1s f nd.2,0⟩:=fun a => by
  obtain ⟨g1,g2⟩:=hA L.length (Nat.le_refl _) a
  refine ⟨g1,fun j nd hnd hn hf => ?_⟩
  rw [g2 j nd hnd hn hf,if_pos (List.getElem?_eq_some_iff.1 hnd).1]
 generalize Z2a L (Z1p cs L) f c L.length = e at hfr hlen
 clear hA
 have hat:∀ j,j < L.length→(((Z1p cs L)[j]?).getD 0 < 0∧∃ a nd,f[j]? = some ((a:Nat):Int)∧Z06 cs (a:Int) = false∧L[j]? = some nd∧e[a]? = some ⟨true,nd.1,Z1s f nd.2,0⟩) ∨
   (0 ≤ ((Z1p cs L)[j]?).getD 0∧∃ a:Nat,f[j]? = some (a:Int)∧Z06 cs (a:Int) = true∧lb cs a = lab L j):=by
  intro j hj
  obtain ⟨v,hv,h⟩:=Z94 hO.toHOk hL hj
  rcases h with ⟨rfl,_⟩ | ⟨a,rfl,h1,h2,_⟩
  ·left
   have hn:((Z1p cs L)[j]?).getD 0 < 0:=by rw [hv]; decide
   obtain ⟨nd,hnd⟩:∃ nd,L[j]? = some nd:=⟨_,List.getElem?_eq_getElem hj⟩
   obtain ⟨a,g1,g2,_⟩:=H.cell j nd hj hnd hn
   exact ⟨hn,a,nd,g1,g2,hnd,(hfr a).2 j nd hnd hn g1⟩
  ·right
   have hn:0 ≤ ((Z1p cs L)[j]?).getD 0:=by rw [hv]; simp
   refine ⟨hn,a,?_,h1,h2⟩
   rw [H.rest j (.inr hn),hv]
 have hold:∀ a:Nat,Z06 cs (a:Int) = true→e[a]? = cs[a]?:=by
  intro a ha
  rw [(hfr a).1,H.keep a ha]
  intro j hj hn hf
  rcases hat j hj with ⟨_,b,nd,g1,g2,_⟩ | ⟨h0,_⟩
  ·rw [hf] at g1
   have:a = b:=by
    injection g1 with g1
    omega
   subst this
   rw [ha] at g2
   cases g2
  ·omega
 have htk:∀ j,j < L.length→∃ a:Nat,f[j]? = some (a:Int)∧Z06 e (a:Int) = true:=by
  intro j hj
  rcases hat j hj with ⟨_,a,nd,g1,_,_,g4⟩ | ⟨_,a,g1,g2,_⟩
  ·exact ⟨a,g1,by rw [Z16 g4]⟩
  ·obtain ⟨d,hd,ht,_⟩:=Z55 g2
   exact ⟨a,g1,by rw [Z16 ((hold a g2).trans hd)]; exact ht⟩
 have hmono:∀ k,Z06 cs k = true→Z06 e k = true:=by
  intro k hk
  have h0:=(Z20 hk).1
  obtain ⟨x,rfl⟩:∃ x:Nat,k = x:=⟨k.toNat,by omega⟩
  obtain ⟨d,hd,ht,_⟩:=Z55 hk
  rw [Z16 ((hold x hk).trans hd)]
  exact ht
 have hsame:∀ (a:Nat) (x:CV),c[a]? = some x→x.taken = false→e[a]? = c[a]?:=by
  intro a x hx ht
  refine (hfr a).1 fun j hj hn hf => ?_
  obtain ⟨nd,hnd⟩:∃ nd,L[j]? = some nd:=⟨_,List.getElem?_eq_getElem hj⟩
  obtain ⟨b,g1,_,g3⟩:=H.cell j nd hj hnd hn
  rw [hf] at g1
  have:a = b:=by
   injection g1 with g1
   omega
  subst this
  rw [hx] at g3
  cases g3
  cases ht
 have hgood:HG e:=by
  intro d hd
  obtain ⟨a,ha⟩:=List.getElem?_of_mem hd
  have hal:a < c.length:=by rw [← hlen]; exact (List.getElem?_eq_some_iff.1 ha).1
  have hca:c[a]? = some c[a]:=List.getElem?_eq_getElem hal
  cases ht:c[a].taken with
  | false =>
   rw [hsame a _ hca ht,hca] at ha
   cases ha
   rcases H.good _ (List.getElem_mem hal) with h | ⟨h,_⟩
   ·exact .inl h
   ·rw [ht] at h; cases h
  | true =>
   rcases H.only a (by rw [Z16 hca]; exact ht) with h | ⟨j,hj,hn,hf⟩
   ·rw [hold a h] at ha
    exact (hG d (List.mem_of_getElem? ha)).mono hmono
   ·obtain ⟨nd,hnd⟩:∃ nd,L[j]? = some nd:=⟨_,List.getElem?_eq_getElem hj⟩
    rw [(hfr a).2 j nd hnd hn hf] at ha
    cases ha
    obtain ⟨hk4,hkin⟩:=hL nd (List.mem_of_getElem? hnd)
    refine .inr ⟨rfl,by simpa [Z1s] using hk4,fun k hk => ?_,hnm nd (List.mem_of_getElem? hnd),Int.le_refl 0,by show (0:Int) ≤ 1000; decide⟩
    obtain ⟨m,hm,rfl⟩:=List.mem_map.1 hk
    have:=hkin m hm
    obtain ⟨b,g1,g2⟩:=htk m.toNat (by omega)
    rw [g1]
    exact g2
 have hGr:Grown cs e:=⟨hgood,hlen.trans H.len,hold,fun a d hna had => by
  have hal:a < c.length:=by rw [← hlen]; exact (List.getElem?_eq_some_iff.1 had).1
  have hca:c[a]? = some c[a]:=List.getElem?_eq_getElem hal
  cases ht:c[a].taken with
  | false =>
   rw [hsame a _ hca ht,hca] at had
   cases had
   rcases H.good _ (List.getElem_mem hal) with h | ⟨h,_⟩
   ·rw [h]; rfl
   ·rw [ht] at h; cases h
  | true =>
   rcases H.only a (by rw [Z16 hca]; exact ht) with h | ⟨j,hj,hn,hf⟩
   ·rw [hna] at h; cases h
   ·obtain ⟨nd,hnd⟩:∃ nd,L[j]? = some nd:=⟨_,List.getElem?_eq_getElem hj⟩
    rw [(hfr a).2 j nd hnd hn hf] at had
    cases had
    rfl⟩
 refine ⟨hGr,fun j hj => ?_,fun a ha => ?_⟩
 ·obtain ⟨a,g1,g2⟩:=htk j hj
  refine ⟨a,g1,g2,?_⟩
  refine Z8q (R:=fun x y => y < L.length∧(f[y]? = some (x:Int) ∨ (Z06 cs (x:Int) = true∧lb cs x = lab L y))) ?_ ⟨hj,.inl g1⟩
  rintro x y ⟨hy,hxy⟩
  have hg:L[y]? = some L[y]:=List.getElem?_eq_getElem hy
  have hkin:=(hL _ (List.getElem_mem hy)).2
  have hold':Z06 cs (x:Int) = true→lb cs x = lab L y→∃ u v,(Z0f e)[x]? = some u∧L[y]? = some v∧u.1 = v.1∧u.2.length = v.2.length ∧
    ∀ (j:Nat) (k m:Int),u.2[j]? = some k→v.2[j]? = some m→m.toNat < L.length∧(f[m.toNat]? = some ((k.toNat:Nat):Int) ∨ (Z06 cs ((k.toNat:Nat):Int) = true∧lb cs k.toNat = lab L m.toNat)):=by
   intro hx hl
   obtain ⟨d,h1,h2,h3⟩:=Z55 hx
   obtain ⟨e1,e2,e3⟩:=Znr h3 hg hl
   refine ⟨_,_,by rw [Z2g ((hold x hx).trans h1),if_pos h2],hg,e1,e2,fun j k m hk hm => ⟨?_,.inr ⟨?_,e3 j k m hk hm⟩⟩⟩
   ·have:=hkin m (List.mem_of_getElem? hm)
    omega
   ·exact (Zan hO.toHOk h1 h2 (List.mem_of_getElem? hk)).1
  rcases hxy with hf | ⟨hx,hl⟩
  ·rcases hat y hy with ⟨hn,b,nd,k1,k2,k3,k4⟩ | ⟨h0,b,k1,k2,k3⟩
   ·rw [hf] at k1
    have:x = b:=by
     injection k1 with k1
     omega
    subst this
    rw [hg] at k3
    cases k3
    refine ⟨(L[y].1,Z1s f L[y].2),L[y],by rw [Z2g k4,if_pos rfl],hg,rfl,by simp [Z1s],fun j k m hk hm => ?_⟩
    have hm':=hkin m (List.mem_of_getElem? hm)
    refine ⟨by omega,.inl ?_⟩
    obtain ⟨z,z1,z2⟩:=htk m.toNat (by omega)
    unfold Z1s at hk
    simp only at hk
    rw [List.getElem?_map,hm] at hk
    simp only [Option.map_some,Option.some.injEq] at hk
    rw [z1] at hk
    simp only [Option.getD_some] at hk
    rw [← hk,z1]
    simp
   ·rw [hf] at k1
    have:x = b:=by
     injection k1 with k1
     omega
    subst this
    exact hold' k2 k3
  ·exact hold' hx hl
 ·have hal:a < c.length:=by rw [← hlen]; exact Z25 ha
  have hca:c[a]? = some c[a]:=List.getElem?_eq_getElem hal
  cases ht:c[a].taken with
  | false =>
   obtain ⟨d,hd,hdt,_⟩:=Z55 ha
   rw [hsame a _ hca ht,hca] at hd
   cases hd
   rw [ht] at hdt
   cases hdt
  | true => exact H.only a (by rw [Z16 hca]; exact ht)
theorem Zs6 {cs:List CV} (h:Z5k cs < 0):∀ c ∈ cs,c.taken = true:=by
 intro c hc
 unfold Z5k at h
 split at h
 ·omega
 ·rename_i hn
  have:=List.findIdx?_eq_none_iff.1 hn c hc
  simpa using this
theorem Zvm {cs:List CV} {a:Nat} {d e:CV} (ha:cs[a]? = some d) (hd:d.taken = false) (he:e.taken = true):Z1h (cs.set a e) = Z1h cs + 1:=by
 have hal:a < cs.length:=(List.getElem?_eq_some_iff.1 ha).1
 have h1:cs[a] = d:=(List.getElem?_eq_some_iff.1 ha).2
 unfold Z1h
 rw [List.countP_set hal,h1,hd,he]
 simp
theorem Zsw {cs:List CV} (h:∀ c ∈ cs,c.taken = true):Z1h cs = cs.length:=by
 unfold Z1h
 exact List.countP_eq_length.2 h
theorem Zdw {L:List ND} {th:List Int} {cs:List CV}:∀ (i:Nat) c f,Z3l L th cs i = some (c,f)→Z1h cs ≤ Z1h c∧Z1h c ≤ Z1h cs + i
 | 0,c,f,e => by
  simp only [Z3l,Option.some.injEq,Prod.mk.injEq] at e
  obtain ⟨rfl,rfl⟩:=e
  omega
 | i + 1,c,f,e => by
  unfold Z3l at e
  cases hp:Z3l L th cs i with
  | none => rw [hp] at e; cases e
  | some x =>
   obtain ⟨c0,f0⟩:=x
   obtain ⟨h1,h2⟩:=Zdw i c0 f0 hp
   rw [hp] at e
   simp only at e
   by_cases ht:0 ≤ (th[i]?).getD 0
   ·rw [if_pos ht] at e
    cases e
    omega
   ·rw [if_neg ht] at e
    rcases Z88 c0 with hf | ⟨a,d,hf,ha,hd⟩
    ·rw [hf] at e
     rw [if_pos (by omega)] at e
     cases e
    ·rw [hf,if_neg (by omega)] at e
     simp only [Option.some.injEq,Prod.mk.injEq,Int.toNat_natCast] at e
     obtain ⟨rfl,rfl⟩:=e
     rw [Zvm (e:=⟨true,((L[i]?).getD ([],[])).1,[],0⟩) ha hd rfl]
     omega
theorem Ziz {L:List ND} {th:List Int} {cs:List CV} (h:HG cs) (hth:th.length = L.length) (hnm:∀ nd ∈ L,Z1x nd.1 = true):∀ (i:Nat),i ≤ L.length→Z3l L th cs i = none→cs.length < Z1h cs + i
 | 0,_,e => by cases e
 | i + 1,hi,e => by
  unfold Z3l at e
  cases hp:Z3l L th cs i with
  | none =>
   have:=Ziz h hth hnm i (by omega) hp
   omega
  | some x =>
   obtain ⟨c0,f0⟩:=x
   have H:=Zhw h hth hnm i (by omega) c0 f0 hp
   obtain ⟨h1,h2⟩:=Zdw i c0 f0 hp
   rw [hp] at e
   simp only at e
   by_cases ht:0 ≤ (th[i]?).getD 0
   ·rw [if_pos ht] at e
    cases e
   ·rw [if_neg ht] at e
    by_cases hf:Z5k c0 < 0
    ·have:=Zsw (Zs6 hf)
     have:=H.len
     omega
    ·rw [if_neg hf] at e
     cases e
theorem Ze7 (L:List ND) (th f:List Int) (cs:List CV):∀ i,Z1h (Z2a L th f cs i) = Z1h cs
 | 0 => rfl
 | i + 1 => by
  unfold Z2a
  split
  ·exact Ze7 L th f cs i
  ·rw [← Ze7 L th f cs i]
   unfold setK
   split
   ·rename_i c hc
    obtain ⟨hl,h1⟩:=List.getElem?_eq_some_iff.1 hc
    unfold Z1h
    rw [List.countP_set hl,h1]
    have:0 < List.countP (fun c => c.taken) (Z2a L th f cs i) ∨ c.taken = false:=by
     cases ht:c.taken with
     | false => exact .inr rfl
     | true => exact .inl (List.countP_pos_iff.2 ⟨c,List.mem_of_getElem? hc,ht⟩)
    rcases this with h | h
    ·cases ht:c.taken <;> simp <;> omega
    ·simp [h]
   ·rfl
inductive PutIs (cs:List CV) (ns:List ND) (r:Nat) (x:Int × Int × List CV):Prop where
 | full (h:x = (0,12,cs)) (hno:∀ j:Nat,Z06 cs (j:Int) = true→lb cs j ≠ lab ns r) (hs:cs.length < Z1h cs + (Z0v ns r).length)
 | there (a:Nat) (h:x = ((a:Int),0,cs)) (ht:Z06 cs (a:Int) = true) (hl:lb cs a = lab ns r) (hm:∀ j:Nat,j < a→Z06 cs (j:Int) = true→lb cs j ≠ lab ns r)
 | fresh (a:Nat) (f:List Int) (c:List CV) (h:x = ((a:Int),0,c)) (hp:PutOk cs (Z0v ns r) (Z1p cs (Z0v ns r)) f c) (hf:f[0]? = some (a:Int)) (ht:Z06 c (a:Int) = true) (hl:lb c a = lab ns r) (hno:∀ j:Nat,Z06 cs (j:Int) = true→lb cs j ≠ lab ns r)
   (hs:Z1h cs ≤ Z1h c∧Z1h c ≤ Z1h cs + (Z0v ns r).length)
theorem Zg8 {cs:List CV} {ns:List ND} {root:Int} (hG:HG cs) (hz:Z0z ns root = 0):PutIs cs ns root.toNat (putF cs ns root):=by
 obtain ⟨o1,o2,hGO,hnm,r0,r1⟩:=Z6g hz
 have hr:root.toNat < ns.length:=by omega
 obtain ⟨hGL,hL1,hL2⟩:=Z5n (r:=root.toNat) hGO hr
 have hll:=Zcn hGO hr
 have hnL:=Zns (P:=fun x => Z1x x = true) hGO hr hnm
 have hfl:=Zea cs (Z0v ns root.toNat)
 obtain ⟨v,hv,hvs⟩:=Z94 hG.ok.toHOk hGL (i:=0) (by omega)
 have hP:putF cs ns root = if 0 ≤ v then ((v,(0:Int),cs):Int × Int × List CV) else match Z3l (Z0v ns root.toNat) (Z1p cs (Z0v ns root.toNat)) cs (Z0v ns root.toNat).length with
  | none => ((0:Int),(12:Int),cs)
  | some (c,f) => ((f[0]?).getD (0:Int),(0:Int),Z2a (Z0v ns root.toNat) (Z1p cs (Z0v ns root.toNat)) f c (Z0v ns root.toNat).length):=by
  unfold putF
  rw [if_neg (by simpa using hz),hv]
  simp only [Option.getD_some] <;> rfl
 rw [hP]
 rw [hll] at hvs
 rcases hvs with ⟨rfl,hno⟩ | ⟨a,rfl,h1,h2,h3⟩
 ·rw [if_neg (by decide)]
  cases hal:Z3l (Z0v ns root.toNat) (Z1p cs (Z0v ns root.toNat)) cs (Z0v ns root.toNat).length with
  | none => exact .full rfl hno (Ziz hG hfl hnL _ (Nat.le_refl _) hal)
  | some x =>
   obtain ⟨c,f⟩:=x
   have H:=Zhw hG hfl hnL _ (Nat.le_refl _) c f hal
   have hp:=Zzl hG hGL hnL H
   obtain ⟨a,g1,g2,g3⟩:=hp.at' 0 (by omega)
   rw [hll] at g3
   refine .fresh a f _ ?_ hp g1 g2 g3 hno ?_
   ·simp only
    rw [g1]
    rfl
   ·rw [Ze7]
    exact Zdw _ c f hal
 ·rw [if_pos (by omega)]
  exact .there a rfl h1 h2 h3
theorem Zx6 {cs:List CV} {ns:List ND} {root:Int} (hz:Z0z ns root ≠ 0):putF cs ns root = (0,Z0z ns root,cs):=by
 unfold putF
 rw [if_pos hz]
theorem Zr5 {cs:List CV} (hG:HG cs) (ns:List ND) (root:Int):Grown cs (putF cs ns root).2.2:=by
 by_cases hz:Z0z ns root = 0
 ·rcases Zg8 hG hz with ⟨h,_,_⟩ | ⟨a,h,_,_,_⟩ | ⟨a,f,c,h,hp,_,_,_,_,_⟩
  ·rw [h]; exact Grown.refl hG
  ·rw [h]; exact Grown.refl hG
  ·rw [h]; exact hp.toGrown
 ·rw [Zx6 hz]
  exact Grown.refl hG
theorem Zqb {s:St} {p B:Pos} {l:List RC} {yv:AVal} {I:Nat→St→Prop} {S:St→Prop} {Q:AVal→St→Prop} (hl:l.length ≤ 400) (hyt:∀ t,¬ yv = .tup t)
  (hI:∀ i s',I i s'→s'.Wf∧s'.Old p∧s'.Old B∧s'.cells p = some (encs l)∧s'.cells B = some [.slice p 0 l.length (.lim l.length)])
  (hst:∀ i s' s'',I i s'→Keeps s' s''→I i s'') (hskip:∀ i c s',l[i]? = some c→c.taken = false→I i s'→I (i + 1) s')
  (hy:∀ (i:Nat) c s' (R:AVal→St→Prop),l[i]? = some c→c.taken = true→I i s'→(∀ s'',I (i + 1) s''→R (.bool true) s'')→(∀ s'',S s''→R (.bool false) s'')→Z39 Tryd.prog yv [.int .i64 i] s' R)
  (h0:I 0 s) (q:∀ s',I l.length s'→Q (.tup []) s') (q2:∀ s',S s'→Q (.tup []) s'):Z0e Tryd.prog 87 [yv,.ptr B 0] s Q:=by
 obtain ⟨_,_,_,_,hB⟩:=hI 0 s h0
 refine Z08 (Z0i (by decide)) fi87 rfl (by decide) rfl ?_
 refine Z00 ?_
 simp [hB]
 refine AM.wp_block ?_
 refine AM.wp_loop (fun m t s' => ∃ i:Nat,i ≤ l.length∧m = l.length - i∧PT.get (posOf 0) t = some yv∧PT.get (posOf 6) t = some (.slice p 0 l.length (.lim l.length))∧PT.get (posOf 7) t = some (.int .i64 l.length)∧PT.get (posOf 8) t = some (.int .i64 i)∧I i s') l.length ⟨0,by simp,by simp,by simp,by simp,by simp,by simp,h0⟩ ?_
 rintro m t s' ⟨i,hi,rfl,t0,t6,t7,t8,hIi⟩
 obtain ⟨hw,hp,hBo,hc,hB'⟩:=hI i s' hIi
 refine Z00 ?_
 simp [t7,t8]
 refine AM.wp_seq ?_
 refine AM.Z04 ?_
 by_cases hlt:i < l.length
 ·obtain ⟨c,hci⟩:∃ c,l[i]? = some c:=⟨_,List.getElem?_eq_getElem hlt⟩
  have hseg:=Ze6 l i c hci
  have hle:i * 4 + 4 ≤ (encs l).length:=by rw [Z36]; omega
  have hwr:IntKind.wrap .i64 ((i:Int) + 1) = ((i + 1:Nat):Int):=by rw [IntWalk.i64_in _ (by omega)]; omega
  simp [hlt]
  refine AM.wp_skip ?_
  simp
  refine AM.wp_seq ?_
  refine AM.wp_block ?_
  refine Z00 ?_
  simp [t6,t8,hlt,hc,hle,hseg,RC.enc]
  have hK:Keeps s' ((s'.alloc (.cells [.bool false,.str [],.nilSlice,.int .i64 0] false)).put s'.next (.cells c.enc false)):=(Keeps.alloc _ _).put _ (Z09 _) (Z18 _ _)
  have hO:((s'.alloc (.cells [.bool false,.str [],.nilSlice,.int .i64 0] false)).put s'.next (.cells c.enc false)).cells s'.next = some c.enc:=Zfc _ _ _ _
  simp only [RC.enc] at hK hO
  generalize (s'.alloc (.cells [.bool false,.str [],.nilSlice,.int .i64 0] false)).put s'.next (.cells [.bool c.taken,.str c.name,c.kv,.int .i64 c.held] false) = s1 at hK hO ⊢
  generalize s'.next = V at hO ⊢
  have hI1:=hst i s' s1 hIi hK
  refine Z00 ?_
  cases hct:c.taken with
  | false =>
   rw [hct] at hO
   simp [hO]
   refine AM.Z04 ?_
   simp
   refine AM.wp_skip ?_
   simp
   refine AM.wp_region ?_
   simp [t8,hwr]
   exact ⟨l.length - (i + 1),by omega,i + 1,by omega,by omega,by simp [t0],by simp [t6],by simp [t7],by simp,hskip i c s1 hci hct hI1⟩
  | true =>
   rw [hct] at hO
   simp [hO,t0,hyt]
   refine hy i c s1 _ hci hct hI1 (fun s2 hI2 => ?_) (fun s2 hS2 => ?_)
   rotate_left
   ·simp
    refine AM.Z04 ?_
    simp
    refine AM.wp_ret ?_
    simp
    exact q2 s2 hS2
   simp
   refine AM.Z04 ?_
   simp
   refine AM.wp_skip ?_
   simp
   refine AM.wp_region ?_
   simp [t8,hwr]
   exact ⟨l.length - (i + 1),by omega,i + 1,by omega,by omega,by simp [t0],by simp [t6],by simp [t7],by simp,hI2⟩
 ·simp [hlt]
  refine AM.wp_exit ?_
  simp
  have hie:i = l.length:=by omega
  subst hie
  exact q s' hIi
section
variable {s0 s:St} {W:Pos→Prop} {m r:Lets}
theorem Zkx {fr:FI} {t:PT AVal} {Q:Ex→PT AVal→St→Prop} {f:RO} {k k':Nat} {b:MCode} {fi:FInfo} {p B:Pos} {l:List RC} {n:Nat} {m0:Lets} (J:Nat→Lets→Prop) (E:Lets→Prop) (hn:l.length = n) (hl:n ≤ 400)
  (hx:getO t [] f = some (.fn 87 [] [.ptr B 0])) (hr:fr.round = none) (hfi:funInfo Tryd.prog fr.fn = some fi) (hpl:Z6l fi.ps fi.ntmps [k] = some [some (posOf k)])
  (hp:∀ i m s',J i m→Ctx s0 W m s'→s'.Old p∧s'.cells p = some (encs l))
  (hskip:∀ i c m,l[i]? = some c→c.taken = false→J i m→J (i + 1) m)
  (hbody:∀ (i:Nat) c s1 m Lb X (Wx:Ex→PT AVal→St→Prop),l[i]? = some c→c.taken = true→J i m→Ctx s0 W ((Lb,X) :: (B,C [.slice p 0 n (.lim n)]) :: m) s1 →
   (∀ t s2 m',J (i + 1) m'→Ctx s0 W ((Lb,X) :: (B,C [.slice p 0 n (.lim n)]) :: m') s2→Wx .normal t s2)→(∀ t s2 m',E m'→Ctx s0 W ((Lb,X) :: (B,C [.slice p 0 n (.lim n)]) :: m') s2→Wx .ret t s2) →
   wp Tryd.prog b { fn:=fr.fn,ntmps:=fi.ntmps,ps:=fi.ps,round:=some Lb } (PT.set (posOf k') (.int .i64 i) (PT.set (posOf k) (.int .i64 i) t)) s1 Wx)
  (h0:J 0 m0) (hc:Ctx s0 W ((B,C [.slice p 0 n (.lim n)]) :: m0) s) (q:∀ s' m,J n m→Ctx s0 W m s'→Q .normal t s') (q2:∀ s' m,E m→Ctx s0 W m s'→Q .ret t s') :
  wp Tryd.prog (.range f [k] (.region [.run none (.move (.per (posOf k)))] [some (posOf k')]) b) fr t s Q:=by
 subst hn
 refine AM.Zix hx (fun l0 e => by rw [hr] at e; cases e) ?_
 have c0:=hc.alloc (.loop { state:=.ready,pending:=none,fn:=fr.fn,tm:=t,params:=[k],assign:=.region [.run none (.move (.per (posOf k)))] [some (posOf k')],body:=b })
 generalize s.alloc (.loop { state:=.ready,pending:=none,fn:=fr.fn,tm:=t,params:=[k],assign:=.region [.run none (.move (.per (posOf k)))] [some (posOf k')],body:=b }) = sA at c0 ⊢
 generalize s.next = Lb at c0 ⊢
 refine Zqb (p:=p) (I:=fun i s' => ∃ m,J i m∧Ctx s0 W ((Lb,.loop { state:=.ready,pending:=none,fn:=fr.fn,tm:=t,params:=[k],assign:=.region [.run none (.move (.per (posOf k)))] [some (posOf k')],body:=b }) :: (B,C [.slice p 0 l.length (.lim l.length)]) :: m) s') (S:=fun s' => ∃ m,E m∧Ctx s0 W ((Lb,.loop { state:=.done,pending:=some .ret,fn:=fr.fn,tm:=t,params:=[k],assign:=.region [.run none (.move (.per (posOf k)))] [some (posOf k')],body:=b }) :: (B,C [.slice p 0 l.length (.lim l.length)]) :: m) s') hl (by simp) ?_ ?_ ?_ ?_ ⟨m0,h0,c0⟩ ?_ ?_
 ·rintro i s' ⟨m,hj,hc⟩
  obtain ⟨a,b⟩:=hp i m s' hj hc.tail.tail
  exact ⟨hc.wf,a,hc.oi 1 rfl,b,hc.c 1 rfl⟩
 ·rintro i s' s'' ⟨m,hj,hc⟩ hk
  exact ⟨m,hj,hc.keeps hk⟩
 ·rintro i c s' hci hct ⟨m,hj,hc⟩
  exact ⟨m,hskip i c m hci hct hj,hc⟩
 ·rintro i c s' R hci hct ⟨m,hj,hc⟩ hR hR2
  refine Zda (pl:=[some (posOf k)]) (tree:=PT.set (posOf k) (.int .i64 i) t) (hc.x 0 rfl) hfi hpl rfl rfl ?_
  refine AM.wp_region ?_
  simp
  refine ⟨_,hc.x 0 rfl,rfl,?_⟩
  refine hbody i c _ m Lb _ _ hci hct hj (hc.put 0 rfl _) (fun t2 s2 m' hj' hc' => ?_) (fun t2 s2 m' he hc' => ?_)
  ·refine ⟨_,hc'.x 0 rfl,?_⟩
   exact hR _ ⟨m',hj',hc'.put 0 rfl _⟩
  ·refine ⟨_,hc'.x 0 rfl,?_⟩
   exact hR2 _ ⟨m',he,hc'.put 0 rfl _⟩
 ·rintro s2 ⟨m,hj,hc⟩
  refine ⟨_,hc.x 0 rfl,rfl,?_⟩
  exact q _ m hj (hc.put 0 rfl _).tail.tail
 ·rintro s2 ⟨m,hj,hc⟩
  refine ⟨_,hc.x 0 rfl,rfl,?_⟩
  exact q2 _ m hj (hc.put 0 rfl _).tail.tail
end
noncomputable def Zka (cs:List CV):Bool:=(Z19 cs cs.length).all fun (j:Nat) => decide (toC (clsF (Z0f cs) (Z19 cs cs.length)) (j:Int) = (j:Int))
theorem tight_c {s0 s:St} {W:Pos→Prop} {hb:Pos} {vs:AVal} {cs:List CV} {m r:Lets} {Q:AVal→St→Prop} (hH:Z2t hb vs cs m) (h:Ctx s0 W (m ++ r) s) (hO:HOk cs)
  (q:∀ s',Ctx s0 W (m ++ r) s'→Q (.tup [.bool (Zka cs),.int .i64 0]) s'):Z0e Tryd.prog 25 [.ptr hb 0] s Q:=by
 obtain ⟨p,V,mr,hc,hR,hV,h1,h4,hP⟩:=Zbh hH h
 have hl:=Z2c hV
 have hno:cs.length ≠ 0:=by omega
 refine Z08 (Z0i (by decide)) fi25 rfl (by decide) rfl ?_
 refine Z00 ?_
 simp
 have c1:=hc.alloc (C [.bool false])
 generalize s.alloc (.cells [.bool false] false) = s1 at c1 ⊢
 generalize s.next = B2 at c1 ⊢
 have c2:=c1.alloc (C [.int .i64 0])
 generalize s1.alloc (.cells [.int .i64 0] false) = s2 at c2 ⊢
 generalize s1.next = B3 at c2 ⊢
 refine AM.wp_seq ?_
 refine Z00 ?_
 simp
 refine Z02 ?_
 refine Z75 (c2.c 2 rfl) rfl hno ?_
 simp
 refine AM.Z04 ?_
 simp
 refine AM.wp_skip ?_
 simp
 refine Z00 ?_
 simp [c2.c 2 rfl]
 refine Z02 ?_
 have hobs:∀ {L:Lets} {s':St},Ctx s0 W L s'→(p,C (encs (rcs cs V))) ∈ L→(∀ y ∈ mr,y ∈ L)→∀ j c,(rcs cs V)[j]? = some c→Z0g s' c.kv (Z11 cs j):=by
  intro L s' hc' hp hm j c hj
  obtain ⟨_,_,r3⟩:=Z80 (p:=p) (cs:=cs) (V:=V) hc' hp hR hm
  have hjl:j < cs.length:=by have:=(List.getElem?_eq_some_iff.1 hj).1; rwa [hl] at this
  obtain ⟨kv,e1,e2⟩:=r3 j _ (List.getElem?_eq_getElem hjl)
  rw [Z26 (List.getElem?_eq_getElem hjl) e1] at hj
  cases hj
  rw [Z1v (List.getElem?_eq_getElem hjl)]
  exact e2
 refine Zkk (K:=Z11 cs) hl c2.wf (c2.oi 3 rfl) (c2.c 3 rfl) h4 (hobs c2 (by simp) (fun y hy => by simp [hy])) fun pn lv s3 k3 hN hLv => ?_
 rw [Zkt hV] at hN
 rw [Zl5 hV] at hLv
 have c3:=c2.keeps k3
 simp
 refine Z02 ?_
 refine Zcf (Z0u cs) c3.wf hN (by omega) hLv (by have:(Z19 cs cs.length).length ≤ cs.length:=Nat.le_trans (List.length_filter_le _ _) (by simp); omega) hO.closed hO.Z97 fun Bx s4 k4 hBx hox => ?_
 have hcl:=Z9n hO.closed
 rw [Z0u] at hcl
 simp only [Zka] at q
 generalize clsF (Z0f cs) (Z19 cs cs.length) = cls at hox hcl q ⊢
 have c4:=c3.made k4 hBx (St.Z2e hox)
 simp
 have c5:=(c4.alloc (C [.nilSlice])).put 0 rfl (C [.slice Bx 0 cs.length (.lim cs.length)])
 simp only [List.set_cons_zero] at c5
 generalize (s4.alloc (.cells [.nilSlice] false)).put s4.next (.cells [.slice Bx 0 cs.length (.lim cs.length)] false) = s5 at c5 ⊢
 generalize s4.next = B4 at c5 ⊢
 refine AM.wp_seq ?_
 refine Z00 ?_
 simp [c5.c 4 rfl]
 refine Z02 ?_
 refine Zcc fun BB hBB => ?_
 have c6:=c5.alloc (C [.slice p 0 cs.length (.lim cs.length)])
 rw [← hBB] at c6
 generalize s5.alloc (.cells [.slice p 0 cs.length (.lim cs.length)] false) = s6 at c6 ⊢
 simp
 have hback:∀ {x:Lets} {s':St},Ctx s0 W (x ++ ((hb,C [.slice p 0 cs.length (.lim cs.length),vs]) :: (p,C (encs (rcs cs V))) :: (mr ++ r))) s'→Ctx s0 W (m ++ r) s':=by
  intro x s' hx
  refine (hx.sub (List.sublist_append_right _ _)).perm ?_
  refine Z0o fun a => ?_
  have:=Z6o hP a
  simp only [Z0j,Z0k] at this ⊢
  omega
 refine AM.wp_block ?_
 refine Zkx (B:=BB) (p:=p) (l:=rcs cs V)
  (J:=fun i m => ((Z19 cs i).all fun (j:Nat) => decide (toC cls (j:Int) = (j:Int))) = true∧m = (B4,C [.slice Bx 0 cs.length (.lim cs.length)]) :: (Bx,C (ints cls)) :: (B3,C [.int .i64 0]) :: (B2,C [.bool false]) :: (hb,C [.slice p 0 cs.length (.lim cs.length),vs]) :: (p,C (encs (rcs cs V))) :: (mr ++ r))
  (E:=fun m => ((Z19 cs cs.length).all fun (j:Nat) => decide (toC cls (j:Int) = (j:Int))) = false∧m = (B4,C [.slice Bx 0 cs.length (.lim cs.length)]) :: (Bx,C (ints cls)) :: (B3,C [.int .i64 0]) :: (B2,C [.bool false]) :: (hb,C [.slice p 0 cs.length (.lim cs.length),vs]) :: (p,C (encs (rcs cs V))) :: (mr ++ r))
  hl h4 (by simp) rfl fi25 rfl ?_ ?_ ?_ ⟨by simp [Z19],rfl⟩ c6 ?_ ?_
 ·rintro i m s' ⟨_,rfl⟩ hc'
  exact ⟨hc'.oi 5 rfl,hc'.c 5 rfl⟩
 ·rintro i c m hci hct ⟨hall,rfl⟩
  have hi:i < cs.length:=by have:=(List.getElem?_eq_some_iff.1 hci).1; rwa [hl] at this
  rw [Z26 (List.getElem?_eq_getElem hi) (List.getElem?_eq_getElem (show i < V.length by omega))] at hci
  cases hci
  exact ⟨by rw [Zhi (List.getElem?_eq_getElem hi) hct]; exact hall,rfl⟩
 ·rintro i c s' m Lb X Wx hci hct ⟨hall,rfl⟩ hc' hW hW2
  have hi:i < cs.length:=by have:=(List.getElem?_eq_some_iff.1 hci).1; rwa [hl] at this
  rw [Z26 (List.getElem?_eq_getElem hi) (List.getElem?_eq_getElem (show i < V.length by omega))] at hci
  have htk:cs[i].taken = true:=by cases hci; exact hct
  have hnx:=Zd3 (List.getElem?_eq_getElem hi) htk
  obtain ⟨cc,hcc⟩:∃ cc,cls[i]? = some cc:=⟨_,List.getElem?_eq_getElem (by omega)⟩
  have e:Z3b (fun d => decide (cc = d)) cls = toC cls (i:Int):=by unfold toC; simp [hcc]
  have hgx:(ints cls)[i]? = some (.int .i64 cc):=by unfold ints; rw [List.getElem?_map,hcc]; rfl
  obtain ⟨icl,hicl⟩:∃ x,x = ints cls:=⟨_,rfl⟩
  have hbx:=hc'.c 3 rfl
  rw [← hicl] at hgx hbx
  refine AM.wp_block ?_
  refine Z00 ?_
  simp [hc'.c 2 rfl,hi,hbx,hgx]
  refine Z02 ?_
  refine Zec (ks:=cls) (by have:=Z4f hc'.wf (hc'.o 3 rfl) (.lim cs.length); rw [hcl] at this; exact this) (by omega) ?_
  rw [e]
  simp
  refine AM.Z04 ?_
  by_cases hto:toC cls (i:Int) = (i:Int)
  ·simp [hto]
   refine AM.wp_skip ?_
   refine hW _ _ _ ⟨?_,rfl⟩ hc'
   rw [hnx,List.all_append,hall]
   simp [hto]
  ·simp [hto]
   refine Z00 ?_
   simp [hc'.o 4 rfl,hc'.o 5 rfl]
   have d1:=hc'.put 5 rfl (C [.bool false])
   simp only [List.set_cons_succ,List.set_cons_zero] at d1
   generalize s'.put B2 (.cells [.bool false] false) = s7 at d1 ⊢
   simp [d1.o 4 rfl]
   have d2:=d1.put 4 rfl (C [.int .i64 0])
   simp only [List.set_cons_succ,List.set_cons_zero] at d2
   generalize s7.put B3 (.cells [.int .i64 0] false) = s8 at d2 ⊢
   refine AM.wp_ret ?_
   refine hW2 _ _ _ ⟨?_,rfl⟩ d2
   rw [List.all_eq_false]
   refine ⟨i,?_,by simpa using hto⟩
   rw [Z5o,Z16 (List.getElem?_eq_getElem hi)]
   exact ⟨hi,htk⟩
 ·rintro s' m ⟨hall,rfl⟩ hc'
  rw [hall] at q
  simp
  refine Z00 ?_
  simp [hc'.o 3 rfl]
  have d1:=hc'.put 3 rfl (C [.bool true])
  simp only [List.set_cons_succ,List.set_cons_zero] at d1
  generalize s'.put B2 (.cells [.bool true] false) = s7 at d1 ⊢
  simp [d1.o 2 rfl]
  have d2:=d1.put 2 rfl (C [.int .i64 0])
  simp only [List.set_cons_succ,List.set_cons_zero] at d2
  generalize s7.put B3 (.cells [.int .i64 0] false) = s8 at d2 ⊢
  refine AM.wp_ret ?_
  simp [d2.c 2 rfl,d2.c 3 rfl]
  exact q s8 (hback (x:=[(B4,C [.slice Bx 0 cs.length (.lim cs.length)]),(Bx,C (ints cls)),(B3,C [.int .i64 0]),(B2,C [.bool true])]) d2)
 ·rintro s' m ⟨hall,rfl⟩ hc'
  rw [hall] at q
  simp [hc'.c 2 rfl,hc'.c 3 rfl]
  exact q s' (hback (x:=[(B4,C [.slice Bx 0 cs.length (.lim cs.length)]),(Bx,C (ints cls)),(B3,C [.int .i64 0]),(B2,C [.bool false])]) hc')
def Z3d (cs:List CV) (a:Nat):Int:=match cs[a]? with
 | some c => c.held
 | none => 0
theorem Z4p {cs:List CV} {a:Nat} {c:CV} (h:cs[a]? = some c):Z3d cs a = c.held:=by unfold Z3d; rw [h]
def tot:List CV→Int
 | [] => 0
 | c :: r => c.held + tot r
theorem Zdt:∀ {cs:List CV} {a:Nat} {c d:CV},cs[a]? = some c→tot (cs.set a d) = tot cs - c.held + d.held
 | [],a,c,d,h => by simp at h
 | x :: cs,0,c,d,h => by
  simp at h
  subst h
  simp only [List.set_cons_zero,tot]
  omega
 | x :: cs,a + 1,c,d,h => by
  simp only [List.set_cons_succ,tot]
  rw [Zdt (cs:=cs) (a:=a) (c:=c) (by simpa using h)]
  omega
theorem Zvt:∀ {cs:List CV} {a:Nat} {c:CV},(∀ x ∈ cs,0 ≤ x.held)→cs[a]? = some c→c.held ≤ tot cs∧0 ≤ tot cs
 | [],a,c,_,h => by simp at h
 | x :: cs,0,c,hp,h => by
  simp at h
  subst h
  have h0:=hp x (by simp)
  simp only [tot]
  have:0 ≤ tot cs:=by
   have:∀ l:List CV,(∀ x ∈ l,0 ≤ x.held)→0 ≤ tot l:=by
    intro l
    induction l with
    | nil => intro _; decide
    | cons y l ih =>
     intro hl
     have:=hl y (by simp)
     have:=ih fun z hz => hl z (by simp [hz])
     simp only [tot]
     omega
   exact this cs fun y hy => hp y (by simp [hy])
  omega
 | x :: cs,a + 1,c,hp,h => by
  have h0:=hp x (by simp)
  have:=Zvt (cs:=cs) (a:=a) (c:=c) (fun y hy => hp y (by simp [hy])) (by simpa using h)
  simp only [tot]
  omega
theorem HG.held {cs:List CV} (h:HG cs):∀ c ∈ cs,0 ≤ c.held∧c.held ≤ 1000:=by
 intro c hc
 rcases h c hc with rfl | ⟨_,_,_,_,h5⟩
 ·decide
 ·exact h5
def Z6b (cls:List Int) (d:CV):CV:=if d.taken = true then { d with kids:=d.kids.map (toC cls) } else d
theorem mvC_get {cls:List Int} {cs:List CV} {a:Nat} {d:CV} (h:cs[a]? = some d):(Z52 cls cs)[a]? = some (Z6b cls d):=by
 unfold Z52
 rw [List.getElem?_map,h]
 rfl
theorem Zd4 (cls:List Int) (d:CV):(Z6b cls d).held = d.held:=by unfold Z6b; split <;> rfl
theorem Zp6 (cls:List Int):∀ cs:List CV,tot (Z52 cls cs) = tot cs
 | [] => rfl
 | d :: cs => by
  have h1:Z52 cls (d :: cs) = Z6b cls d :: Z52 cls cs:=rfl
  rw [h1]
  simp only [tot]
  rw [Zp6 cls cs,Zd4]
def gs (cs:List CV):List Int→Int
 | [] => 0
 | g :: r => Z3d cs g.toNat + gs cs r
theorem Zqr (cs:List CV) (g:Int):∀ l,gs cs (l ++ [g]) = gs cs l + Z3d cs g.toNat
 | [] => by simp [gs]
 | x :: l => by simp only [List.cons_append,gs]; rw [Zqr cs g l]; omega
theorem Zkl {cs ds:List CV}:∀ {l:List Int},(∀ g ∈ l,Z3d cs g.toNat = Z3d ds g.toNat)→gs cs l = gs ds l
 | [],_ => rfl
 | x :: l,h => by
  simp only [gs]
  rw [h x (by simp),Zkl fun g hg => h g (by simp [hg])]
theorem Zrb:∀ (l:List Int) (cs:List CV),l.Nodup→(∀ g ∈ l,0 ≤ g∧g.toNat < cs.length)→tot (relC cs l) = tot cs - gs cs l
 | [],cs,_,_ => by simp [relC,gs]
 | g :: l,cs,hn,hl => by
  rw [List.nodup_cons] at hn
  obtain ⟨g0,g1⟩:=hl g (by simp)
  show tot (relC (cs.set g.toNat Z2m) l) = _
  rw [Zrb l (cs.set g.toNat Z2m) hn.2 (fun x hx => by rw [List.length_set]; exact hl x (by simp [hx])),Zdt (List.getElem?_eq_getElem g1)]
  have e1:gs (cs.set g.toNat Z2m) l = gs cs l:=Zkl fun x hx => by
   have hne:g.toNat ≠ x.toNat:=by
    intro e
    have:=(hl x (by simp [hx])).1
    have:g = x:=by omega
    exact hn.1 (this ▸ hx)
   unfold Z3d
   rw [List.getElem?_set_ne hne]
  rw [e1]
  simp only [gs]
  rw [Z4p (List.getElem?_eq_getElem g1)]
  show tot cs - _ + 0 - _ = _
  omega
theorem Zh0 : ∀ (l : List Int) (cs : List CV) (a : Nat), (∀ g ∈ l, 0 ≤ g) → (relC cs l)[a]? = if (a : Int) ∈ l ∧ a < cs.length then some Z2m else cs[a]?
  | [], cs, a, _ => by simp [relC]
  | g :: l, cs, a, h => by
    show (relC (cs.set g.toNat Z2m) l)[a]? = _
    rw [Zh0 l _ a fun x hx => h x (by simp [hx]), List.length_set]
    have g0 := h g (by simp)
    by_cases hl : (a : Int) ∈ l ∧ a < cs.length
    · rw [if_pos hl, if_pos ⟨by simp [hl.1], hl.2⟩]
    · rw [if_neg hl, List.getElem?_set]
      by_cases e : g.toNat = a
      · rw [if_pos e]
        by_cases hal : a < cs.length
        · rw [if_pos (by omega), if_pos ⟨by have : (a : Int) = g := by omega
                                            rw [this]; simp, hal⟩]
        · rw [if_neg (by omega), if_neg (fun h => hal h.2), List.getElem?_eq_none (by omega)]
      · rw [if_neg e, if_neg]
        rintro ⟨h1, h2⟩
        rcases List.mem_cons.1 h1 with h1 | h1
        · omega
        · exact hl ⟨h1, h2⟩
structure HeldI (cls:List Int) (cs:List CV) (i:Nat):Prop where
 shape:∀ (a:Nat) (d:CV),cs[a]? = some d→∃ h:Int,(Z0q cls cs i)[a]? = some { Z6b cls d with held:=h }∧d.held ≤ h∧h ≤ 1000 * (i + 1)
 tot:tot (Z0q cls cs i) = tot cs + gs cs (Z1c cls cs i)
 gone:∀ (a:Nat) (d:CV),cs[a]? = some d→d.taken = true→toC cls (a:Int) ≠ (a:Int)→Z3d (Z0q cls cs i) a = d.held
 free:∀ (a:Nat) (d:CV),cs[a]? = some d→d.taken = false→(Z0q cls cs i)[a]? = some d
 into:∀ (x:Nat) (d:CV),x < i→cs[x]? = some d→d.taken = true→toC cls (x:Int) ≠ (x:Int)→d.held ≤ Z3d (Z0q cls cs i) (toC cls (x:Int)).toNat
theorem Znl {cls:List Int} {cs:List CV} (hG:HG cs) (hlen:cs.length ≤ 400) (htc:∀ a:Nat,Z06 cs (a:Int) = true→∃ j:Nat,toC cls (a:Int) = j∧Z06 cs (j:Int) = true∧toC cls (j:Int) = j):∀ i,i ≤ cs.length→HeldI cls cs i
 | 0,_ => by
  have hmv:∀ (a:Nat) (d:CV),cs[a]? = some d→(Z0q cls cs 0)[a]? = some (Z6b cls d):=fun a d h => mvC_get h
  refine ⟨fun a d h => ⟨d.held,?_,Int.le_refl _,?_⟩,?_,fun a d h _ _ => ?_,fun a d h hf => ?_,fun x d hx => by omega⟩
  ·rw [hmv a d h,← Zd4 cls d]
  ·have:=(hG.held d (List.mem_of_getElem? h)).2
   omega
  ·show Go.Proofs.tot (Z52 cls cs) = _
   rw [Zp6]
   have:Z1c cls cs 0 = []:=rfl
   rw [this]
   simp [gs]
  ·rw [Z4p (hmv a d h),Zd4]
  ·rw [hmv a d h]
   unfold Z6b
   rw [if_neg (by rw [hf]; decide)]
 | i + 1,hi => by
  have H:=Znl hG hlen htc i (by omega)
  obtain ⟨c,hc⟩:∃ c,cs[i]? = some c:=⟨_,List.getElem?_eq_getElem (by omega)⟩
  have hch:=hG.held c (List.mem_of_getElem? hc)
  by_cases hg:c.taken = true∧toC cls (i:Int) ≠ (i:Int)
  ·obtain ⟨j,hj,hjt,hjj⟩:=htc i (by rw [Z16 hc]; exact hg.1)
   have hjl:=Z25 hjt
   obtain ⟨dj,hdj,hdjt,_⟩:=Z55 hjt
   obtain ⟨h,h1,h2,h3⟩:=H.shape j dj hdj
   have hdj0:=(hG.held dj (List.mem_of_getElem? hdj)).1
   have hji:j ≠ i:=fun e => hg.2 (by rw [hj,e])
   have hw:IntKind.wrap .i64 (h + c.held) = h + c.held:=IntWalk.i64_in _ (by omega)
   have hstep:Z0q cls cs (i + 1) = (Z0q cls cs i).set j { Z6b cls dj with held:=h + c.held }:=by
    rw [Z0q,hc]
    simp only
    rw [if_pos hg,hj,Int.toNat_natCast]
    unfold addH
    rw [h1]
    simp only
    rw [hw]
   have hjl2:j < (Z0q cls cs i).length:=by rw [Z2r]; exact hjl
   refine ⟨fun a d had => ?_,?_,fun a d had ht hne => ?_,fun a d had hf => ?_,fun x d hx hxd ht hne => ?_⟩
   ·by_cases e:j = a
    ·subst e
     rw [hdj] at had
     cases had
     refine ⟨h + c.held,by rw [hstep,List.getElem?_set_self hjl2],by omega,by omega⟩
    ·obtain ⟨h',g1,g2,g3⟩:=H.shape a d had
     exact ⟨h',by rw [hstep,List.getElem?_set_ne e]; exact g1,g2,by omega⟩
   ·rw [hstep,Zdt h1,H.tot,Zhd hc hg.1 hg.2,Zqr,Int.toNat_natCast,Z4p hc]
    simp only
    omega
   ·have e:j ≠ a:=by
     rintro rfl
     exact hne hjj
    rw [← H.gone a d had ht hne,hstep]
    unfold Z3d
    rw [List.getElem?_set_ne e]
   ·have e:j ≠ a:=by
     rintro rfl
     rw [hdj] at had
     cases had
     rw [hf] at hdjt
     cases hdjt
    rw [hstep,List.getElem?_set_ne e]
    exact H.free a d had hf
   ·by_cases e:x = i
    ·subst e
     rw [hc] at hxd
     cases hxd
     rw [hj,Int.toNat_natCast,hstep,Z4p (List.getElem?_set_self hjl2)]
     simp only
     omega
    ·have h4:=H.into x d (by omega) hxd ht hne
     refine Int.le_trans h4 ?_
     rw [hstep]
     unfold Z3d
     by_cases e2:j = (toC cls (x:Int)).toNat
     ·rw [← e2,List.getElem?_set_self hjl2,h1]
      simp only
      omega
     ·rw [List.getElem?_set_ne e2]
      exact Int.le_refl _
  ·have hstep:Z0q cls cs (i + 1) = Z0q cls cs i:=by
    rw [Z0q,hc]
    simp only
    rw [if_neg hg]
   have hgone:Z1c cls cs (i + 1) = Z1c cls cs i:=by
    cases ht:c.taken with
    | false => exact Zhe hc ht
    | true => exact Zhf hc ht (Classical.byContradiction fun hn => hg ⟨ht,hn⟩)
   refine ⟨fun a d had => ?_,by rw [hstep,hgone]; exact H.tot,fun a d had ht hne => by rw [hstep]; exact H.gone a d had ht hne,fun a d had hf => by rw [hstep]; exact H.free a d had hf,fun x d hx hxd ht hne => ?_⟩
   ·obtain ⟨h',g1,g2,g3⟩:=H.shape a d had
    exact ⟨h',by rw [hstep]; exact g1,g2,by omega⟩
   ·rw [hstep]
    refine H.into x d ?_ hxd ht hne
    have:x ≠ i:=by
     rintro rfl
     rw [hc] at hxd
     cases hxd
     exact hg ⟨ht,hne⟩
    omega
structure MergeIs (cs c:List CV):Prop where
 good:HG c
 len:c.length = cs.length
 tot:tot c = tot cs
 take:∀ a:Nat,Z06 c (a:Int) = true ↔ Z06 cs (a:Int) = true∧toC (clsH cs) (a:Int) = a
 lab:∀ a:Nat,Z06 c (a:Int) = true→lb c a = lb cs a
 goes:∀ a:Nat,Z06 cs (a:Int) = true→∃ j:Nat,toC (clsH cs) (a:Int) = j∧j ≤ a∧Z06 c (j:Int) = true∧lb c j = lb cs a∧Z3d cs a ≤ Z3d c j
theorem Znx {cs:List CV} (hG:HG cs) (hlen:cs.length ≤ 400) (ht:tot cs ≤ 1000 ∨ (Z0q (clsH cs) cs cs.length).any (fun c => decide (1000 < c.held)) = false):∃ many c,Zaq cs = (many,0,c)∧MergeIs cs c:=by
 have hO:=hG.ok.toHOk
 have htc:∀ a:Nat,Z06 cs (a:Int) = true→∃ j:Nat,toC (clsH cs) (a:Int) = j∧Z06 cs (j:Int) = true∧toC (clsH cs) (j:Int) = j:=fun a ha => by
  obtain ⟨j,h1,h2,h3,_⟩:=Z7o hO ha
  refine ⟨j,h1,h3,?_⟩
  have:=Zh3 hO ha
  rwa [h1] at this
 have H:=Znl hG hlen htc cs.length (Nat.le_refl _)
 have hgm:∀ a:Nat,(a:Int) ∈ Z1c (clsH cs) cs cs.length ↔ Z06 cs (a:Int) = true∧toC (clsH cs) (a:Int) ≠ a:=fun a => by
  rw [Z96]
  constructor
  ·rintro ⟨_,_,h1,h2⟩
   exact ⟨h1,h2⟩
  ·rintro ⟨h1,h2⟩
   have:=Z25 h1
   exact ⟨by omega,by omega,h1,h2⟩
 have hg0:∀ g ∈ Z1c (clsH cs) cs cs.length,0 ≤ g:=fun g hg => (Z96.1 hg).1
 have hl:(Z0q (clsH cs) cs cs.length).length = cs.length:=Z2r _ _ _
 have hrel:=Zrb (Z1c (clsH cs) cs cs.length) (Z0q (clsH cs) cs cs.length) (Znk _ _ _) (fun g hg => by
  obtain ⟨h1,h2,_⟩:=Z96.1 hg
  rw [hl]
  omega)
 have hgs:gs (Z0q (clsH cs) cs cs.length) (Z1c (clsH cs) cs cs.length) = gs cs (Z1c (clsH cs) cs cs.length):=Zkl fun g hg => by
  obtain ⟨h1,h2,h3,h4⟩:=Z96.1 hg
  have e:((g.toNat:Nat):Int) = g:=by omega
  obtain ⟨d,hd,htk,_⟩:=Z55 (cs:=cs) (a:=g.toNat) (by rw [e]; exact h3)
  rw [H.gone g.toNat d hd htk (by rw [e]; exact h4),Z4p hd]
 have hget:∀ (a:Nat) (d:CV),cs[a]? = some d→∃ h:Int,d.held ≤ h∧(relC (Z0q (clsH cs) cs cs.length) (Z1c (clsH cs) cs cs.length))[a]? = some (if d.taken = true∧toC (clsH cs) (a:Int) ≠ a then Z2m else { Z6b (clsH cs) d with held:=h }):=by
  intro a d hd
  obtain ⟨h,g1,g2,_⟩:=H.shape a d hd
  refine ⟨h,g2,?_⟩
  rw [Zh0 _ _ a hg0,hl]
  have hal:a < cs.length:=(List.getElem?_eq_some_iff.1 hd).1
  have:=hgm a
  rw [Z16 hd] at this
  by_cases hb:d.taken = true∧toC (clsH cs) (a:Int) ≠ a
  ·rw [if_pos ⟨this.2 hb,hal⟩,if_pos hb]
  ·rw [if_neg (fun hm => hb (this.1 hm.1)),if_neg hb,g1]
 have hkeep:∀ a:Nat,Z06 cs (a:Int) = true∧toC (clsH cs) (a:Int) ≠ a ∨ (relC (Z0q (clsH cs) cs cs.length) (Z1c (clsH cs) cs cs.length))[a]? = (Z0q (clsH cs) cs cs.length)[a]?:=by
  intro a
  by_cases hb:Z06 cs (a:Int) = true∧toC (clsH cs) (a:Int) ≠ a
  ·exact .inl hb
  ·right
   rw [Zh0 _ _ a hg0,if_neg (fun hm => hb ((hgm a).1 hm.1))]
 have hlen2:(relC (Z0q (clsH cs) cs cs.length) (Z1c (clsH cs) cs cs.length)).length = cs.length:=by rw [Zin,hl]
 have htot2:tot (relC (Z0q (clsH cs) cs cs.length) (Z1c (clsH cs) cs cs.length)) = tot cs:=by rw [hrel,hgs,H.tot]; omega
 have hpos2:∀ x ∈ relC (Z0q (clsH cs) cs cs.length) (Z1c (clsH cs) cs cs.length),0 ≤ x.held:=by
  intro x hx
  obtain ⟨a,ha⟩:=List.getElem?_of_mem hx
  obtain ⟨d,hd⟩:∃ d,cs[a]? = some d:=⟨_,List.getElem?_eq_getElem (by rw [← hlen2]; exact (List.getElem?_eq_some_iff.1 ha).1)⟩
  obtain ⟨h,h1,h2⟩:=hget a d hd
  have:=(hG.held d (List.mem_of_getElem? hd)).1
  rw [h2] at ha
  cases ha
  split
  ·decide
  ·show 0 ≤ h
   omega
 have hno:(Z0q (clsH cs) cs cs.length).any (fun c => decide (1000 < c.held)) = false:=by
  rcases ht with ht | ht
  case inr => exact ht
  rw [List.any_eq_false]
  intro x hx
  obtain ⟨a,ha⟩:=List.getElem?_of_mem hx
  obtain ⟨d,hd⟩:∃ d,cs[a]? = some d:=⟨_,List.getElem?_eq_getElem (by rw [← hl]; exact (List.getElem?_eq_some_iff.1 ha).1)⟩
  have hdh:=hG.held d (List.mem_of_getElem? hd)
  by_cases hb:d.taken = true∧toC (clsH cs) (a:Int) ≠ a
  ·have:=H.gone a d hd hb.1 hb.2
   rw [Z4p ha] at this
   simp only [decide_eq_true_eq]
   omega
  ·have hr:=Zh0 (Z1c (clsH cs) cs cs.length) (Z0q (clsH cs) cs cs.length) a hg0
   rw [if_neg,ha] at hr
   ·have:=(Zvt hpos2 hr).1
    rw [htot2] at this
    simp only [decide_eq_true_eq]
    omega
   ·rintro ⟨hm,_⟩
    have:=(hgm a).1 hm
    rw [Z16 hd] at this
    exact hb this
 have hm:Zaq cs = (((Z1c (clsH cs) cs cs.length).length:Int),0,relC (Z0q (clsH cs) cs cs.length) (Z1c (clsH cs) cs cs.length)):=by
  unfold Zaq
  rw [if_neg (by rw [hno]; decide)]
 refine ⟨_,_,hm,?_⟩
 generalize relC (Z0q (clsH cs) cs cs.length) (Z1c (clsH cs) cs cs.length) = c at hget hkeep hlen2 htot2 hpos2
 have htake:∀ a:Nat,Z06 c (a:Int) = true ↔ Z06 cs (a:Int) = true∧toC (clsH cs) (a:Int) = a:=by
  intro a
  by_cases hal:a < cs.length
  ·have hd:cs[a]? = some cs[a]:=List.getElem?_eq_getElem hal
   obtain ⟨h,_,h2⟩:=hget a _ hd
   rw [Z16 h2,Z16 hd]
   by_cases hb:cs[a].taken = true∧toC (clsH cs) (a:Int) ≠ a
   ·rw [if_pos hb]
    constructor
    ·intro e; cases e
    ·rintro ⟨_,e⟩; exact (hb.2 e).elim
   ·rw [if_neg hb]
    have:(Z6b (clsH cs) cs[a]).taken = cs[a].taken:=by unfold Z6b; split <;> rfl
    show (Z6b (clsH cs) cs[a]).taken = true ↔ _
    rw [this]
    exact ⟨fun ht => ⟨ht,Classical.byContradiction fun hn => hb ⟨ht,hn⟩⟩,fun h => h.1⟩
  ·have h1:Z06 c (a:Int) = false:=by
    cases e:Z06 c (a:Int) with
    | false => rfl
    | true => have:=Z25 e; omega
   have h2:Z06 cs (a:Int) = false:=by
    cases e:Z06 cs (a:Int) with
    | false => rfl
    | true => have:=Z25 e; omega
   rw [h1,h2]
   simp
 have hkept:∀ a:Nat,Z06 c (a:Int) = true→∃ d h,cs[a]? = some d∧d.taken = true∧d.held ≤ h∧c[a]? = some ⟨true,d.name,d.kids.map (toC (clsH cs)),h⟩:=by
  intro a ha
  obtain ⟨h1,h2⟩:=(htake a).1 ha
  obtain ⟨d,hd,htk,_⟩:=Z55 h1
  obtain ⟨h,g1,g2⟩:=hget a d hd
  rw [if_neg (fun hb => hb.2 h2)] at g2
  refine ⟨d,h,hd,htk,g1,?_⟩
  rw [g2]
  unfold Z6b
  rw [if_pos htk]
  simp [htk]
 have htoc:∀ k:Int,Z06 cs k = true→Z06 c (toC (clsH cs) k) = true:=by
  intro k hk
  have h0:=(Z20 hk).1
  have e:((k.toNat:Nat):Int) = k:=by omega
  obtain ⟨j,h1,_,h3,_⟩:=Z7o hO (a:=k.toNat) (by rw [e]; exact hk)
  rw [e] at h1
  rw [h1]
  refine (htake j).2 ⟨h3,?_⟩
  have:=Zh3 hO (a:=k.toNat) (by rw [e]; exact hk)
  rw [e,h1] at this
  exact this
 have hlab:∀ a:Nat,Z06 c (a:Int) = true→lb c a = lb cs a:=by
  intro a ha
  refine Z8q (R:=fun x y => Z06 c (x:Int) = true∧Z06 cs (y:Int) = true∧lb cs x = lb cs y) ?_ ⟨ha,((htake a).1 ha).1,rfl⟩
  rintro x y ⟨hx,hy,hxy⟩
  obtain ⟨d,h,hd,htk,_,hcx⟩:=hkept x hx
  obtain ⟨e,he,het,hey⟩:=Z55 hy
  have hdx:(Z0f cs)[x]? = some (d.name,d.kids):=by rw [Z2g hd,if_pos htk]
  obtain ⟨e1,e2,e3⟩:=Znr hdx hey hxy
  refine ⟨(d.name,d.kids.map (toC (clsH cs))),_,by rw [Z2g hcx,if_pos rfl],hey,e1,by simpa using e2,fun j k m hk hm => ?_⟩
  simp only at hk
  rw [List.getElem?_map] at hk
  cases hkd:d.kids[j]? with
  | none => rw [hkd] at hk; cases hk
  | some k' =>
   rw [hkd] at hk
   simp only [Option.map_some,Option.some.injEq] at hk
   obtain ⟨k1,k2⟩:=Zan hO hd htk (List.mem_of_getElem? hkd)
   have m1:=(Zan hO he het (List.mem_of_getElem? hm)).1
   have e4:((k'.toNat:Nat):Int) = k':=by omega
   obtain ⟨z,z1,_,z3,z4,_⟩:=Z7o hO k1
   rw [e4,hk] at z1
   have hzc:=htoc k' (by rw [← e4]; exact k1)
   rw [hk] at hzc
   rw [z1] at hzc ⊢
   rw [Int.toNat_natCast]
   exact ⟨hzc,m1,z4.trans (e3 j k' m hkd hm)⟩
 refine ⟨fun x hx => ?_,hlen2,htot2,htake,hlab,fun a ha => ?_⟩
 ·obtain ⟨a,hxa⟩:=List.getElem?_of_mem hx
  cases htk:Z06 c (a:Int) with
  | true =>
   have hle:x.held ≤ 1000:=by
    rcases hkeep a with ⟨_,hb⟩ | hk2
    ·exact absurd ((htake a).1 htk).2 hb
    ·rw [hxa] at hk2
     have:=List.any_eq_false.1 hno x (List.mem_of_getElem? hk2.symm)
     simpa using this
   obtain ⟨d,h,hd,hdt,hdh,hca⟩:=hkept a htk
   rw [hxa] at hca
   cases hca
   rcases hG d (List.mem_of_getElem? hd) with e | ⟨g1,g2,g3,g4,g5,_⟩
   ·rw [e] at hdt; cases hdt
   ·simp only at hle
    refine .inr ⟨rfl,by simpa using g2,fun k hk => ?_,g4,by show 0 ≤ h; omega,by show h ≤ 1000; omega⟩
    obtain ⟨k',hk',rfl⟩:=List.mem_map.1 hk
    exact htoc k' (g3 k' hk')
  | false =>
   obtain ⟨d,hd⟩:∃ d,cs[a]? = some d:=⟨_,List.getElem?_eq_getElem (by rw [← hlen2]; exact (List.getElem?_eq_some_iff.1 hxa).1)⟩
   by_cases hb:d.taken = true∧toC (clsH cs) (a:Int) ≠ a
   ·obtain ⟨h,h1,h2⟩:=hget a d hd
    rw [hxa,if_pos hb] at h2
    exact .inl (Option.some.inj h2)
   ·have hdf:d.taken = false:=by
     cases hdt:d.taken with
     | false => rfl
     | true =>
      have:=(htake a).2 ⟨by rw [Z16 hd]; exact hdt,Classical.byContradiction fun hn => hb ⟨hdt,hn⟩⟩
      rw [htk] at this
      cases this
    rcases hkeep a with ⟨h1,_⟩ | h1
    ·rw [Z16 hd,hdf] at h1
     cases h1
    ·rw [hxa,H.free a d hd hdf] at h1
     cases h1
     rcases hG x (List.mem_of_getElem? hd) with e | ⟨g1,_⟩
     ·exact .inl e
     ·rw [hdf] at g1; cases g1
 ·obtain ⟨j,h1,h2,h3,h4,_⟩:=Z7o hO ha
  have hcj:Z06 c (j:Int) = true:=(htake j).2 ⟨h3,by have:=Zh3 hO ha; rwa [h1] at this⟩
  refine ⟨j,h1,h2,hcj,(hlab j hcj).trans h4,?_⟩
  obtain ⟨d,hd,htk,_⟩:=Z55 ha
  obtain ⟨e,h,he,_,heh,hcje⟩:=hkept j hcj
  have hjj:toC (clsH cs) (j:Int) = j:=by have:=Zh3 hO ha; rwa [h1] at this
  have hk:c[j]? = (Z0q (clsH cs) cs cs.length)[j]?:=by
   rcases hkeep j with ⟨_,h⟩ | h
   ·exact (h hjj).elim
   ·exact h
  have hcc:Z3d c j = Z3d (Z0q (clsH cs) cs cs.length) j:=by unfold Z3d; rw [hk]
  rw [hcc,Z4p hd]
  by_cases haj:toC (clsH cs) (a:Int) = a
  ·have:a = j:=by omega
   subst this
   obtain ⟨h',g1,g2,_⟩:=H.shape a d hd
   rw [Z4p g1]
   exact g2
  ·have:=H.into a d (Z25 ha) hd htk haj
   rwa [h1,Int.toNat_natCast] at this
theorem Zpu {cs:List CV} (hG:HG cs) (hlen:cs.length ≤ 400) (ht:tot cs ≤ 1000):∃ many c,Zaq cs = (many,0,c)∧MergeIs cs c:=Znx hG hlen (.inl ht)
def Zaf (cs:List CV):Prop:=∀ a b:Nat,Z06 cs (a:Int) = true→Z06 cs (b:Int) = true→lb cs a = lb cs b→a = b
theorem Zxl {cs:List CV} (hO:HOk cs) (h:Zaf cs):Zka cs = true:=by
 unfold Zka
 rw [List.all_eq_true]
 intro j hj
 have ht:=Zgs.1 hj
 simp only [decide_eq_true_eq]
 exact Ziv hO ht ht rfl fun j' hj' ht' e => by
  have:=h j' j ht' ht e
  omega
theorem MergeIs.tight {cs c:List CV} (hO:HOk cs) (h:MergeIs cs c):Zaf c:=by
 intro a b ha hb e
 rw [h.lab a ha,h.lab b hb] at e
 obtain ⟨a1,a2⟩:=(h.take a).1 ha
 obtain ⟨b1,b2⟩:=(h.take b).1 hb
 obtain ⟨j,g1,_,g3,g4,g5⟩:=Z7o hO a1
 have:toC (clsH cs) (b:Int) = j:=Ziv hO b1 g3 (g4.trans e) fun j' hj' ht' e' => g5 j' hj' ht' (e'.trans e.symm)
 omega
theorem Zra:∀ {cs ds:List CV},cs.length = ds.length→(∀ a,a < cs.length→Z3d cs a = Z3d ds a)→tot cs = tot ds
 | [],[],_,_ => rfl
 | c :: cs,d :: ds,hl,h => by
  have h0:=h 0 (by simp)
  have:=Zra (cs:=cs) (ds:=ds) (by simpa using hl) (fun a ha => by
   have:=h (a + 1) (by simpa using ha)
   simpa [Z3d] using this)
  simp [Z3d] at h0
  simp only [tot]
  omega
 | [],_ :: _,hl,_ => by simp at hl
 | _ :: _,[],hl,_ => by simp at hl
theorem Grown.tot {cs c:List CV} (hG:HG cs) (h:Grown cs c):tot c = tot cs:=by
 refine Zra h.len fun a ha => ?_
 cases ht:Z06 cs (a:Int) with
 | true =>
  unfold Z3d
  rw [h.keep a ht]
 | false =>
  have hd:cs[a]? = some (cs[a]'(by rw [← h.len]; exact ha)):=List.getElem?_eq_getElem _
  have hc:c[a]? = some c[a]:=List.getElem?_eq_getElem ha
  rw [Z4p hd,Z4p hc,h.new a _ ht hc,hG.Zs5 hd ht]
  rfl
theorem Zuv {cs:List CV} (h:HG cs) (nm:List UInt8) (ks:List Int):Grown cs (mkF cs nm ks).2.2:=by
 obtain ⟨h1,h2⟩:=Zuw h nm ks
 have key:(mkF cs nm ks).2.2 = cs ∨ ∃ a d,cs[a]? = some d∧d.taken = false∧(mkF cs nm ks).2.2 = cs.set a ⟨true,nm,ks,0⟩:=by
  unfold mkF
  split
  ·exact .inl rfl
  ·split
   ·exact .inl rfl
   ·split
    ·exact .inl rfl
    ·split
     ·exact .inl rfl
     ·rcases Z88 cs with hf | ⟨a,d,hf,ha,hd⟩
      ·omega
      ·right
       exact ⟨a,d,ha,hd,by rw [hf]; rfl⟩
 rcases key with e | ⟨a,d,ha,hd,e⟩
 ·rw [e]; exact Grown.refl h
 ·refine ⟨h1,h2,fun b hb => ?_,fun b x hb hx => ?_⟩
  ·rw [e,List.getElem?_set_ne]
   rintro rfl
   rw [Z16 ha,hd] at hb
   cases hb
  ·rw [e,List.getElem?_set] at hx
   split at hx
   ·split at hx
    ·cases hx; rfl
    ·cases hx
   ·rw [h.Zs5 hx hb]
    rfl
theorem Zi7 {cs:List CV} (h:HOk cs):GrOk (Z0f cs):=by
 intro nd hnd
 obtain ⟨a,ha⟩:=List.getElem?_of_mem hnd
 exact h.Z97 a nd ha
theorem Zjn {cs:List CV} (h:HOk2 cs) {i:Nat} (hi:Z06 cs (i:Int) = true):Z3z cs i = Z0v (Z0f cs) i :=
 Zf0 h (Zi7 h.toHOk) hi (by rw [Z0u]; exact Z25 hi) rfl
theorem Zsc {cs:List CV} (h:HOk2 cs) {i:Nat} (hi:Z06 cs (i:Int) = true):lab (Z3z cs i) 0 = lb cs i:=by
 rw [Zjn h hi]
 exact Zcn (Zi7 h.toHOk) (by rw [Z0u]; exact Z25 hi)
theorem Zca {cs:List CV} (h:HG cs) (hl:cs.length ≤ 60) {i:Nat} (hi:Z06 cs (i:Int) = true):GrOk (Z3z cs i)∧1 ≤ (Z3z cs i).length∧(Z3z cs i).length ≤ 60∧∀ nd ∈ Z3z cs i,Z1x nd.1 = true:=by
 have hO:=h.ok
 have hlt:=Z25 hi
 obtain ⟨h1,h2,h3⟩:=Z5n (Zi7 hO.toHOk) (r:=i) (by rw [Z0u]; exact hlt)
 rw [← Zjn hO hi] at h1 h2 h3
 rw [Z0u] at h3
 refine ⟨h1,h2,by omega,fun nd hnd => ?_⟩
 unfold Z3z at hnd
 obtain ⟨a,x,ha,hx,rfl⟩:=Zek hnd
 obtain ⟨_,_,h6,_⟩:=Ze0 hO (roots:=[i]) (by simpa using hi)
 obtain ⟨d,hd,ht,hg⟩:=Z55 (h6 a ha)
 rw [hg] at hx
 cases hx
 rcases h d (List.mem_of_getElem? hd) with e | ⟨_,_,_,e,_⟩
 ·rw [e] at ht; cases ht
 ·exact e
theorem Zc3 {ns:List ND} {root:Int} (h1:GrOk ns) (h2:1 ≤ ns.length) (h3:ns.length ≤ 60) (h4:∀ nd ∈ ns,Z1x nd.1 = true) (h5:0 ≤ root) (h6:root < ns.length):Z0z ns root = 0:=by
 unfold Z0z
 have e1:(ns.all fun nd => decide (nd.2.length ≤ 4)) = true:=by
  rw [List.all_eq_true]
  intro nd hnd
  simpa using (h1 nd hnd).1
 have e2:(ns.all fun nd => Z1x nd.1) = true:=by
  rw [List.all_eq_true]
  exact h4
 have e3:(ns.all fun nd => nd.2.all fun k => decide (0 ≤ k) && decide (k < ns.length)) = true:=by
  rw [List.all_eq_true]
  intro nd hnd
  rw [List.all_eq_true]
  intro k hk
  have:=(h1 nd hnd).2 k hk
  simp [this.1,this.2]
 rw [if_neg (by
  intro h
  rcases h with h | h | h
  ·omega
  ·omega
  ·rw [e1] at h; cases h),if_neg (by rw [e2]; decide),if_neg (by
  intro h
  rcases h with h | h
  ·simp at h
   omega
  ·rw [e3] at h; cases h)]
theorem Zqq {cs:List CV} (h:HG cs) (hl:cs.length ≤ 60) {i:Nat} (hi:Z06 cs (i:Int) = true):getF cs (i:Int) = (0,Z3z cs i):=by
 obtain ⟨_,_,h3,_⟩:=Zca h hl hi
 unfold getF
 rw [if_neg (by rw [hi]; decide),if_neg (by rw [Int.toNat_natCast]; omega),Int.toNat_natCast]
theorem Zzn {cs:List CV} {i:Int} (hi:Z06 cs i = false):getF cs i = (1,[]):=by
 unfold getF
 rw [if_pos hi]
theorem Zs3 {cs:List CV} {ns:List ND} {root:Int} (hO:HOk cs) (hz:Z0z ns root = 0) {a:Nat} (ha:Z06 cs (a:Int) = true) (hl:lb cs a = lab ns root.toNat) :
  ∃ j:Nat,findF cs ns root = ((j:Int),0)∧j ≤ a∧Z06 cs (j:Int) = true∧lb cs j = lab ns root.toNat:=by
 obtain ⟨o1,o2,hGO,hnm,r0,r1⟩:=Z6g hz
 have hr:root.toNat < ns.length:=by omega
 obtain ⟨hGL,hL1,hL2⟩:=Z5n (r:=root.toNat) hGO hr
 have hll:=Zcn hGO hr
 obtain ⟨v,hv,hvs⟩:=Z94 hO hGL (i:=0) (by omega)
 rw [hll] at hvs
 rcases hvs with ⟨rfl,hno⟩ | ⟨j,rfl,h1,h2,h3⟩
 ·exact (hno a ha hl).elim
 ·refine ⟨j,?_,?_,h1,h2⟩
  ·unfold findF
   rw [if_neg (by simpa using hz),hv]
   simp only [Option.getD_some]
   rw [if_neg (by omega)]
  ·rcases Nat.lt_or_ge a j with h | h
   ·exact (h3 a h ha hl).elim
   ·exact h
theorem Zmj {ns:List ND} (h:GrOk ns) {r:Nat} (hr:r < ns.length) {i j:Nat} (hi:i < (Z0v ns r).length) (hj:j < (Z0v ns r).length) (e:lab (Z0v ns r) i = lab (Z0v ns r) j):i = j:=by
 obtain ⟨hC,hnd,hlt,hroot⟩:=Zal h (roots:=[r]) (by simpa using hr)
 have hL:Z0v ns r = canD (dd ((bfsF (kidG ns) ns.length [r]).map (lab ns))):=Zgy hC
 generalize bfsF (kidG ns) ns.length [r] = L at hC hlt hL
 rw [hL] at hi hj e
 generalize hD:dd (L.map (lab ns)) = D at hi hj e
 have hnod:D.Nodup:=by rw [← hD]; exact Zwb _
 have key:∀ i,i < D.length→∀ b,D[i]? = some b→lab (canD D) i = b:=by
  intro i hi b hb
  have hmem:b ∈ L.map (lab ns):=by rw [← Zdk,hD]; exact List.mem_of_getElem? hb
  obtain ⟨y,hy,rfl⟩:=List.mem_map.1 hmem
  refine Z8q (R:=fun x y => D[x]? = some (lab ns y)∧y ∈ L) ?_ ⟨hb,hy⟩
  rintro x y ⟨hx,hy⟩
  have hg:ns[y]? = some (ns[y]'(hC.lt y hy)):=List.getElem?_eq_getElem _
  refine ⟨canN D (lab ns y),_,by unfold canD; rw [List.getElem?_map,hx]; rfl,hg,by unfold canN; rw [Zao hg],by unfold canN; rw [Z6h hg]; simp,fun j k m hk hm => ?_⟩
  have hmL:=(hC.kids y hy _ hg).2 m (List.mem_of_getElem? hm)
  unfold canN at hk
  simp only at hk
  rw [Z6h hg,List.map_map,List.getElem?_map,hm] at hk
  simp only [Option.map_some,Option.some.injEq,Function.comp] at hk
  rw [← hk,Int.toNat_natCast]
  refine ⟨Zi8 ?_,hmL⟩
  rw [← hD]
  exact Zdk.2 (List.mem_map.2 ⟨m.toNat,hmL,rfl⟩)
 have hi':i < D.length:=by simpa [canD] using hi
 have hj':j < D.length:=by simpa [canD] using hj
 rw [key i hi' _ (List.getElem?_eq_getElem hi'),key j hj' _ (List.getElem?_eq_getElem hj')] at e
 exact (List.getElem_inj hnod).1 e
theorem PutOk.tight {cs c:List CV} {ns:List ND} {r:Nat} {f:List Int} (hG:HG cs) (hN:GrOk ns) (hr:r < ns.length) (ht:Zaf cs) (hp:PutOk cs (Z0v ns r) (Z1p cs (Z0v ns r)) f c):Zaf c:=by
 obtain ⟨hGL,_⟩:=Z5n hN hr
 have hnew:∀ a:Nat,Z06 c (a:Int) = true→(Z06 cs (a:Int) = true∧lb c a = lb cs a) ∨ ∃ j,j < (Z0v ns r).length∧f[j]? = some (a:Int)∧lb c a = lab (Z0v ns r) j∧∀ b:Nat,Z06 cs (b:Int) = true→lb cs b ≠ lab (Z0v ns r) j:=by
  intro a ha
  rcases hp.only a ha with h | ⟨j,h1,h2,h3⟩
  ·exact .inl ⟨h,hp.toGrown.lab hG.ok.toHOk h⟩
  ·right
   obtain ⟨a',g1,g2,g3⟩:=hp.at' j h1
   rw [h3] at g1
   have haa:a = a':=by
    injection g1 with g1
    omega
   subst haa
   obtain ⟨v,hv,hvs⟩:=Z94 hG.ok.toHOk hGL h1
   rw [hv] at h2
   simp only [Option.getD_some] at h2
   rcases hvs with ⟨_,hno⟩ | ⟨x,rfl,_⟩
   ·exact ⟨j,h1,h3,g3,hno⟩
   ·omega
 intro a b ha hb e
 rcases hnew a ha with ⟨h1,h2⟩ | ⟨j,h1,h2,h3,h4⟩
 ·rcases hnew b hb with ⟨g1,g2⟩ | ⟨j',g1,g2,g3,g4⟩
  ·exact ht a b h1 g1 (by rw [← h2,← g2,e])
  ·exact (g4 a h1 (by rw [← h2,e,g3])).elim
 ·rcases hnew b hb with ⟨g1,g2⟩ | ⟨j',g1,g2,g3,g4⟩
  ·exact (h4 b g1 (by rw [← g2,← e,h3])).elim
  ·have:=Zmj hN hr h1 g1 (by rw [← h3,e,g3])
   subst this
   rw [h2] at g2
   injection g2 with g2
   omega
theorem Zwg {cs:List CV} {ns:List ND} {root:Int} (hO:HOk cs) (hz:Z0z ns root = 0) (hno:∀ j:Nat,Z06 cs (j:Int) = true→lb cs j ≠ lab ns root.toNat):(findF cs ns root).2 = 1:=by
 obtain ⟨o1,o2,hGO,hnm,r0,r1⟩:=Z6g hz
 have hr:root.toNat < ns.length:=by omega
 obtain ⟨hGL,hL1,hL2⟩:=Z5n (r:=root.toNat) hGO hr
 have hll:=Zcn hGO hr
 obtain ⟨v,hv,hvs⟩:=Z94 hO hGL (i:=0) (by omega)
 rw [hll] at hvs
 rcases hvs with ⟨rfl,_⟩ | ⟨j,rfl,h1,h2,h3⟩
 ·unfold findF
  rw [if_neg (by simpa using hz),hv]
  simp
 ·exact (hno j h1 h2).elim
theorem Zg9 {cs:List CV} {ns:List ND} {root:Int} (hG:HG cs) (hz:Z0z ns root = 0) (ht:Zaf cs) {a:Nat} (ha:Z06 cs (a:Int) = true) (hl:lb cs a = lab ns root.toNat):putF cs ns root = ((a:Int),0,cs)∧findF cs ns root = ((a:Int),0):=by
 constructor
 ·rcases Zg8 hG hz with ⟨_,hno,_⟩ | ⟨b,h,hb,hlb,_⟩ | ⟨_,_,_,_,_,_,_,_,hno,_⟩
  ·exact (hno a ha hl).elim
  ·rw [h,ht a b ha hb (hl.trans hlb.symm)]
  ·exact (hno a ha hl).elim
 ·obtain ⟨j,h1,_,h2,h3⟩:=Zs3 hG.ok.toHOk hz ha hl
  rw [h1,ht a j ha h2 (hl.trans h3.symm)]
structure Dbl (ns:List ND) (root:Int) (ns2:List ND) (root2:Int):Prop where
 len:ns2.length = 2 * ns.length
 node:∀ (a:Nat) (x:ND),ns2[a]? = some x→∃ (i:Nat) (y:ND),ns[i]? = some y∧x.1 = y.1∧x.2.length = y.2.length
 rel:∃ R:Nat→Nat→Prop,(∀ a b,R a b→∃ x y,ns2[a]? = some x∧ns[b]? = some y∧x.1 = y.1∧x.2.length = y.2.length∧∀ (j:Nat) (k m:Int),x.2[j]? = some k→y.2[j]? = some m→R k.toNat m.toNat)∧R root2.toNat root.toNat
 kids:∀ (a:Nat) (x:ND),ns2[a]? = some x→∀ k ∈ x.2,0 ≤ k∧k < ns2.length
 root0:0 ≤ root2
 rootl:root2 < ns2.length
theorem Dbl.lab {ns ns2:List ND} {root root2:Int} (h:Dbl ns root ns2 root2):lab ns2 root2.toNat = lab ns root.toNat:=by
 obtain ⟨R,h1,h2⟩:=h.rel
 exact Z8q h1 h2
def Za4 (xs:List Int) (n:Nat) (ks ks2:List Int):Prop:=∀ (e:Nat) (k:Int),ks2[e]? = some k→∃ (m b:Nat),ks[e]? = some (m:Int)∧m < n∧b < 2∧xs[m + n * b]? = some k
theorem Za4.nil (xs:List Int) (n:Nat) (ks:List Int):Za4 xs n ks []:=fun e k h => by simp at h
theorem Za4.snoc {xs:List Int} {n:Nat} {ks ks2:List Int} {m b:Nat} {k:Int} (h:Za4 xs n ks ks2) (hm:ks[ks2.length]? = some (m:Int)) (hn:m < n) (hb:b < 2) (hk:xs[m + n * b]? = some k):Za4 xs n ks (ks2 ++ [k]):=by
 intro e x hx
 rcases Nat.lt_or_ge e ks2.length with h1 | h1
 ·rw [List.getElem?_append_left h1] at hx
  exact h e x hx
 ·rw [List.getElem?_append_right h1] at hx
  have he:e = ks2.length:=by
   have:=(List.getElem?_eq_some_iff.1 hx).1
   simp at this
   omega
  subst he
  simp at hx
  subst hx
  exact ⟨m,b,hm,hn,hb,hk⟩
section
variable {s0 s:St} {W:Pos→Prop} {Bs:Pos} {bv:AVal} {bs:List Int} {k:SK} {r:Lets} {fr:FI} {t0:PT AVal}
theorem Zwa {Q:Ex→PT AVal→St→Prop} {B9 Bo:Pos} {nm:List UInt8} {n N:Nat} {xs ks:List Int} {kdv:AVal} (hN:N = 2 * n) (hB:Z29 s0 W bv bs) (hn:k.nx + 4 < 2 ^ 62) (hks:ks.length ≤ 4) (hn30:n ≤ 30) (hxl:xs.length = 2 * n)
  (hin:∀ m ∈ ks,0 ≤ m∧m < n) (hK:∀ s',Ctx s0 W r s'→Z0g s' kdv ks)
  (hc:Ctx s0 W ((B9,C [.str nm,.nilSlice]) :: (Bs,Z0p bv k) :: (Bo,C (ints xs)) :: r) s)
  (u0:PT.get (posOf 0) t0 = some (.ptr Bs 0)) (u5:PT.get (posOf 5) t0 = some (.int .i64 n)) (u6:PT.get (posOf 6) t0 = some (.slice Bo 0 N (.lim N))) (u9:PT.get (posOf 9) t0 = some (.ptr B9 0))
  (u59:PT.get (posOf 59) t0 = some kdv) (u60:PT.get (posOf 60) t0 = some (.int .i64 ks.length)) (u61:PT.get (posOf 61) t0 = some (.int .i64 0))
  (q:∀ t s' kv ks2 mg k',Fr [11,65,66,67,68,69,70,71,72,73,74,75,76,77,78,61,62] t0 t→Z1t kv ks2 mg→ks2.length = ks.length→Za4 xs n ks ks2→k'.nx ≤ k.nx + 4→Ctx s0 W ((B9,C [.str nm,kv]) :: (Bs,Z0p bv k') :: (Bo,C (ints xs)) :: (mg ++ r)) s'→Q .normal t s') :
  wp Tryd.prog Ztp fr t0 s Q:=by
 refine AM.wp_block ?_
 refine AM.wp_loop (fun m t s' => ∃ (j:Nat) (kv:AVal) (ks2:List Int) (mg:Lets) (k':SK),j ≤ ks.length∧m = ks.length - j∧Fr [11,65,66,67,68,69,70,71,72,73,74,75,76,77,78,61,62] t0 t∧PT.get (posOf 61) t = some (.int .i64 j)∧Z1t kv ks2 mg∧ks2.length = j∧Za4 xs n ks ks2∧k'.nx ≤ k.nx + j ∧
   Ctx s0 W ((B9,C [.str nm,kv]) :: (Bs,Z0p bv k') :: (Bo,C (ints xs)) :: (mg ++ r)) s') ks.length ⟨0,.nilSlice,[],[],k,by simp,by simp,fun y hy => rfl,by simpa using u61,.inl ⟨rfl,rfl,rfl⟩,rfl,Za4.nil _ _ _,by simp,hc⟩ ?_
 rintro m t s' ⟨j,kv,ks2,mg,k',hj,rfl,hF,t61,hg,hjl,hD,hnx,d⟩
 have v0:=(hF 0 (by simp)).trans u0
 have v5:=(hF 5 (by simp)).trans u5
 have v6:=(hF 6 (by simp)).trans u6
 have v9:=(hF 9 (by simp)).trans u9
 have v59:=(hF 59 (by simp)).trans u59
 have v60:=(hF 60 (by simp)).trans u60
 refine Z00 ?_
 simp [v60,t61]
 refine AM.wp_seq ?_
 refine AM.Z04 ?_
 by_cases hlt:j < ks.length
 ·have hwr:IntKind.wrap .i64 ((j:Int) + 1) = ((j + 1:Nat):Int):=by rw [IntWalk.i64_in _ (by omega)]; omega
  obtain ⟨km,hkm⟩:∃ km,ks[j]? = some km:=⟨_,List.getElem?_eq_getElem hlt⟩
  obtain ⟨i0,i1⟩:=hin km (List.mem_of_getElem? hkm)
  obtain ⟨mm,rfl⟩:∃ mm:Nat,km = (mm:Int):=⟨km.toNat,by omega⟩
  have hmn:mm < n:=by omega
  have hKs:=hK s' (d.sub ((List.sublist_append_right mg r).trans (((List.sublist_cons_self _ _).trans (List.sublist_cons_self _ _)).trans (List.sublist_cons_self _ _))))
  rcases hKs with ⟨_,e0⟩ | ⟨bk,ok,ck,cellsk,rfl,hbk,hcsk,hlek,helk⟩
  ·rw [e0] at hlt
   simp at hlt
  have hgk:=helk j _ hkm
  simp [hlt]
  refine AM.wp_skip ?_
  simp
  refine AM.wp_seq ?_
  refine AM.wp_block ?_
  refine Z00 ?_
  simp [v59,t61,hlt,hcsk,hgk]
  refine AM.wp_region ?_
  simp [v0,v5,v6,v9,d.c 0 rfl]
  refine Z02 ?_
  have d1:=d.perm (m':=(Bs,Z0p bv k') :: (B9,C [.str nm,kv]) :: (Bo,C (ints xs)) :: (mg ++ r)) (List.Perm.swap _ _ _)
  have hb:=Z2v bs 2 k'
  have hbn:=Z23 bs 2 k'
  refine Z3u hB d1 (by omega) (by omega) fun s1 d2 => ?_
  generalize Z0r bs 2 k' = Y at hb hbn d2 ⊢
  obtain ⟨b,hbY⟩:∃ b:Nat,Y.1 = (b:Int):=⟨Y.1.toNat,by omega⟩
  rw [hbY] at hb ⊢
  have hb2:b < 2:=by omega
  have hnb:n * b ≤ n:=by
   rcases (show b = 0 ∨ b = 1 by omega) with rfl | rfl <;> omega
  obtain ⟨v,hv⟩:∃ v,xs[mm + n * b]? = some v:=⟨_,List.getElem?_eq_getElem (by omega)⟩
  have hgv:(ints xs)[mm + n * b]? = some (.int .i64 v):=by rw [List.getElem?_map,hv]; rfl
  have e1:(n:Int) * (b:Int) = ((n * b:Nat):Int):=by rw [Int.natCast_mul]
  have hbig:mm + n * b < 2 * n:=by omega
  generalize hp:n * b = p at hnb hv hgv e1 hbig
  have e2:IntKind.wrap .i64 (p:Int) = (p:Int):=IntWalk.i64_in _ (by omega)
  have e3:IntKind.wrap .i64 ((mm:Int) + (p:Int)) = (mm:Int) + (p:Int):=IntWalk.i64_in _ (by omega)
  have e4:(0:Int) ≤ (mm:Int) + (p:Int):=by omega
  have e5:(mm:Int) + (p:Int) < (N:Int):=by omega
  have e6:((mm:Int) + (p:Int)).toNat = mm + p:=by omega
  have hkv8:Z27 8 kv kv = true:=by
   rcases hg with ⟨_,rfl,_⟩ | ⟨q,_,rfl,_⟩
   ·simp [Z27]
   ·simp [Z27,Zb8]
  have hns:s1.obj s1.next = none:=d2.wf _ (Z09 _)
  have hoc:=d2.c 2 rfl
  generalize ints xs = X at hgv hoc d2 hc q
  simp [d2.c 1 rfl,hkv8,e1,e2,e3,e4,e5,e6,hoc,hgv,hns,hg.ntup,Z1w,srcP]
  have d3:=d2.alloc (C [.int .i64 v])
  generalize s1.alloc (.cells [.int .i64 v] false) = s2 at d3 ⊢
  generalize s1.next = T at d3 ⊢
  refine Z65 (pre:=[(T,C [.int .i64 v]),(Bs,Z0p bv Y.2),(B9,C [.str nm,kv]),(Bo,C X)]) d3 hg (by omega) fun kv' mg' s3 hg' d4 => ?_
  simp only [List.cons_append,List.nil_append] at d4
  simp [v9,hg'.ntup,hg'.cells,d4.o 2 rfl]
  have d5:=(d4.put 2 rfl (C [.str nm,kv'])).tail
  simp only [List.set_cons_zero,List.set_cons_succ] at d5
  refine AM.wp_region ?_
  simp [t61,hwr]
  refine ⟨ks.length - (j + 1),by omega,j + 1,by omega,by omega,?_,by simp,kv',ks2 ++ [v],mg',hg',by simp [hjl],?_,Y.2,by omega,?_⟩
  ·intro y hy
   simp at hy
   simp [hy]
   exact hF y (by simp [hy])
  ·exact hD.snoc (by rw [hjl]; exact hkm) hmn hb2 (by rw [hp]; exact hv)
  ·exact d5.perm (List.Perm.swap _ _ _)
 ·simp [hlt]
  refine AM.wp_exit ?_
  simp
  have hje:j = ks.length:=by omega
  refine q _ s' kv ks2 mg k' ?_ hg (by omega) hD (by omega) d
  intro y hy
  simp at hy
  simp [hy]
  exact hF y (by simp [hy])
end
theorem Zzw {cs:List AVal} {o:Nat} (a b:AVal) (h:o + 2 ≤ cs.length):lay cs o [a,b] = lay (lay cs o [a]) (o + 1) [b]:=by
 obtain ⟨p,x,y,q,rfl,rfl⟩:∃ p x y q,cs = p ++ x :: y :: q∧o = p.length:=by
  refine ⟨cs.take o,cs[o],cs[o + 1],cs.drop (o + 2),?_,by simp; omega⟩
  rw [← List.drop_eq_getElem_cons (by omega),← List.drop_eq_getElem_cons (by omega),List.take_append_drop]
 have e1:p ++ x :: y :: q = (p ++ [x]) ++ (y :: q):=by simp
 have e2:p ++ a :: y :: q = (p ++ [a]) ++ (y :: q):=by simp
 have e3:p.length + 1 = (p ++ [a]).length:=by simp
 have e4:p ++ x :: y :: q = (p ++ [x,y]) ++ q:=by simp
 have l1:lay (p ++ x :: y :: q) p.length [a,b] = p ++ a :: b :: q:=by
  unfold lay
  rw [List.take_left' rfl,e4,List.drop_left' (by simp)]
  simp
 have l2:lay (p ++ x :: y :: q) p.length [a] = p ++ a :: y :: q:=by
  unfold lay
  rw [List.take_left' rfl,e1,List.drop_left' (by simp)]
  simp
 have l3:lay (p ++ a :: y :: q) (p.length + 1) [b] = p ++ a :: b :: q:=by
  unfold lay
  rw [e3,e2,List.take_left' rfl]
  have e5:(p ++ [a]) ++ (y :: q) = (p ++ [a,y]) ++ q:=by simp
  rw [e5,List.drop_left' (by simp)]
  simp
 rw [l1,l2,l3]
theorem Zpv {ns:List ND} {V:List AVal} {i:Nat} {nd:ND} {kv:AVal} (nm:List UInt8) (ks:List Int) (kv':AVal) (h1:ns[i]? = some nd) (h2:V[i]? = some kv) (hV:V.length = ns.length):lay (Z0c ns V) (i * 2) [.str nm,kv'] = Z0c (ns.set i (nm,ks)) (V.set i kv'):=by
 have hi:=(List.getElem?_eq_some_iff.1 h1).1
 rw [Zzw _ _ (by rw [Z4r hV]; omega),Zjs nm ks h1 h2,Zjt kv' (nd:=(nm,ks)) (by simp [hi]) h2]
def Zgi (ns:List ND) (n:Nat) (xs:List Int) (out:List ND) (i:Nat):Prop:=∀ j,j < i→∃ (a:Nat) (y x:ND),xs[j]? = some (a:Int)∧ns[j % n]? = some y∧out[a]? = some x∧x.1 = y.1∧x.2.length = y.2.length∧Za4 xs n y.2 x.2
theorem Zgi.next {ns:List ND} {n:Nat} {xs:List Int} {out:List ND} {i a N:Nat} {y:ND} {ks2:List Int} (h:Zgi ns n xs out i) (hS:Z8y xs N) (hi:i < N) (ha:xs[i]? = some (a:Int)) (hy:ns[i % n]? = some y) (hal:a < out.length)
  (hl:ks2.length = y.2.length) (hD:Za4 xs n y.2 ks2):Zgi ns n xs (out.set a (y.1,ks2)) (i + 1):=by
 intro j hj
 by_cases e:j = i
 ·subst e
  exact ⟨a,y,_,ha,hy,List.getElem?_set_self hal,rfl,hl,hD⟩
 ·obtain ⟨a',y',x',g1,g2,g3,g4⟩:=h j (by omega)
  refine ⟨a',y',x',g1,g2,?_,g4⟩
  rw [List.getElem?_set_ne]
  ·exact g3
  ·rintro rfl
   exact e (hS.2 j i (by omega) hi (g1.trans ha.symm))
theorem Z8y.all {xs:List Int} {N:Nat} (h:Z8y xs N) (hl:xs.length = N) {a:Nat} (ha:a < N):∃ j,j < N∧xs[j]? = some (a:Int):=by
 refine Classical.byContradiction fun hno => ?_
 have hmem:∀ x ∈ xs,∃ j,j < N∧xs[j]? = some x:=fun x hx => by
  obtain ⟨j,hj,e⟩:=List.getElem_of_mem hx
  exact ⟨j,by omega,by rw [List.getElem?_eq_getElem hj,e]⟩
 have hnd:(xs.map Int.toNat).Nodup:=by
  rw [List.Nodup,List.pairwise_map,List.pairwise_iff_getElem]
  intro i j hi hj hij e
  obtain ⟨v,g1,_⟩:=h.1 i (by omega)
  obtain ⟨w,g2,_⟩:=h.1 j (by omega)
  have e1:=List.getElem?_eq_getElem hi
  have e2:=List.getElem?_eq_getElem hj
  rw [g1] at e1
  rw [g2] at e2
  injection e1 with e1
  injection e2 with e2
  have:=h.2 i j (by omega) (by omega) (by rw [g1,g2]; congr 1; omega)
  omega
 have hna:a ∉ xs.map Int.toNat:=fun hm => by
  obtain ⟨x,hx,e⟩:=List.mem_map.1 hm
  obtain ⟨j,hj,hjx⟩:=hmem x hx
  obtain ⟨v,g1,_⟩:=h.1 j hj
  rw [hjx] at g1
  injection g1 with g1
  exact hno ⟨j,hj,by rw [hjx]; congr 1; omega⟩
 have:=Z2o (n:=N) (List.nodup_cons.2 ⟨hna,hnd⟩) fun x hx => by
  rcases List.mem_cons.1 hx with rfl | hx
  ·exact ha
  ·obtain ⟨y,hy,e⟩:=List.mem_map.1 hx
   obtain ⟨j,hj,hjx⟩:=hmem y hy
   obtain ⟨v,g1,g2⟩:=h.1 j hj
   rw [hjx] at g1
   injection g1 with g1
   omega
 simp at this
 omega
theorem Zgi.dbl {ns:List ND} {n N:Nat} {xs:List Int} {out:List ND} {root root2:Int} {b:Nat} (hN:N = 2 * n) (hn:ns.length = n) (hol:out.length = N) (hxl:xs.length = N) (h:Zgi ns n xs out N) (hS:Z8y xs N) (h0:0 ≤ root) (h1:root < n)
  (hb:b < 2) (hr:xs[root.toNat + n * b]? = some root2):Dbl ns root out root2:=by
 have hkey:∀ m,m < N→∃ v:Nat,xs[m]? = some (v:Int)∧v < N:=fun m hm => hS.1 m hm
 have hidx:∀ m b:Nat,m < n→b < 2→m + n * b < N:=fun m b hm hb => by
  rcases (show b = 0 ∨ b = 1 by omega) with rfl | rfl <;> omega
 have hrl:=hidx root.toNat b (by omega) hb
 obtain ⟨rv,hrv,hrvN⟩:=hkey _ hrl
 rw [hr] at hrv
 injection hrv with hrv
 refine ⟨by omega,fun a x hx => ?_,⟨fun a c => ∃ i,i < N∧xs[i]? = some (a:Int)∧c = i % n,?_,root.toNat + n * b,hrl,by rw [hr]; congr 1; omega,?_⟩,fun a x hx k hk => ?_,by omega,by omega⟩
 ·obtain ⟨j,hj,hja⟩:=hS.all hxl (a:=a) (by have:=(List.getElem?_eq_some_iff.1 hx).1; omega)
  obtain ⟨a',y,x',g1,g2,g3,g4,g5,_⟩:=h j hj
  rw [hja] at g1
  injection g1 with g1
  have:a = a':=by omega
  subst this
  rw [hx] at g3
  cases g3
  exact ⟨j % n,y,g2,g4,g5⟩
 ·rintro a c ⟨i,hi,hia,rfl⟩
  obtain ⟨a',y,x,g1,g2,g3,g4,g5,g6⟩:=h i hi
  rw [hia] at g1
  injection g1 with g1
  have:a = a':=by omega
  subst this
  refine ⟨x,y,g3,g2,g4,g5,fun j k m hk hm => ?_⟩
  obtain ⟨mm,bb,e1,e2,e3,e4⟩:=g6 j k hk
  rw [hm] at e1
  injection e1 with e1
  subst e1
  obtain ⟨v,e5,_⟩:=hkey _ (hidx mm bb e2 e3)
  rw [e4] at e5
  injection e5 with e5
  subst e5
  refine ⟨mm + n * bb,hidx mm bb e2 e3,by rw [e4]; simp,?_⟩
  rw [Int.toNat_natCast,Nat.add_mul_mod_self_left,Nat.mod_eq_of_lt e2]
 ·rw [Nat.add_mul_mod_self_left,Nat.mod_eq_of_lt (by omega)]
 ·obtain ⟨j,hj,hja⟩:=hS.all hxl (a:=a) (by have:=(List.getElem?_eq_some_iff.1 hx).1; omega)
  obtain ⟨a',y,x',g1,g2,g3,g4,g5,g6⟩:=h j hj
  rw [hja] at g1
  injection g1 with g1
  have:a = a':=by omega
  subst this
  rw [hx] at g3
  cases g3
  obtain ⟨e,he,rfl⟩:=List.getElem_of_mem hk
  obtain ⟨mm,bb,_,e2,e3,e4⟩:=g6 e _ (List.getElem?_eq_getElem he)
  obtain ⟨v,e5,e6⟩:=hkey _ (hidx mm bb e2 e3)
  rw [e4] at e5
  injection e5 with e5
  rw [e5]
  omega
section
variable {s0 s:St} {W:Pos→Prop} {Bs:Pos} {bv:AVal} {bs:List Int} {k:SK} {r:Lets} {Q:AVal→St→Prop}
theorem Zub {nv:AVal} {ns:List ND} {mn:Lets} {root:Int} (hB:Z29 s0 W bv bs) (hn:k.nx + 1000 < 2 ^ 62) (hN:Z3n nv ns mn) (h1:1 ≤ ns.length) (h30:ns.length ≤ 30) (hO:GrOk ns) (r0:0 ≤ root) (r1:root < ns.length)
  (h:Ctx s0 W ((Bs,Z0p bv k) :: (mn ++ r)) s)
  (q:∀ Bn ns2 root2 m2 k' s',Dbl ns root ns2 root2→Zby Bn ns2 m2→Ctx s0 W (m2 ++ ((Bs,Z0p bv k') :: (mn ++ r))) s'→Q (.agg [.slice Bn 0 ns2.length (.lim ns2.length),.int .i64 root2]) s') :
  Z0e Tryd.prog 21 [.ptr Bs 0,.agg [nv,.int .i64 root]] s Q:=by
 rcases hN with ⟨rfl,_,_⟩ | ⟨Bq,Vn,mrn,hne,rfl,hpn,hRn⟩
 ·simp at h1
 have hVn:Vn.length = ns.length:=by simpa using hRn.len
 generalize hnl:ns.length = n at *
 obtain ⟨N,hNN⟩:∃ N,N = 2 * n:=⟨_,rfl⟩
 have hNi:(2:Int) * (n:Int) = (N:Int):=by omega
 have hw2:IntKind.wrap .i64 (N:Int) = (N:Int):=IntWalk.i64_in _ (by omega)
 have h60:¬ (60:Int) < (N:Int):=by omega
 have hz1:N ≤ Z0l:=by unfold Z0l; omega
 have hz2:N * 40 ≤ Z0l:=by unfold Z0l; omega
 have c0:Ctx s0 W ((Bs,Z0p bv k) :: ((Bq,C (Z0c ns Vn)) :: (mrn ++ r))) s:=h.perm (List.Perm.cons _ (hpn.append (List.Perm.refl r)))
 refine Z08 (Z0i (by decide)) fi21 rfl (by decide) rfl ?_
 refine Z00 ?_
 simp
 have c1:=(c0.alloc (C [.slice Bq 0 n (.opn 2),.int .i64 root])).alloc (C [.nilSlice,.int .i64 0])
 generalize (s.alloc (.cells [.slice Bq 0 n (.opn 2),.int .i64 root] false)).alloc (.cells [.nilSlice,.int .i64 0] false) = s1 at c1 ⊢
 generalize (s.alloc (.cells [.slice Bq 0 n (.opn 2),.int .i64 root] false)).next = B4 at c1 ⊢
 generalize s.next = B3 at c1 ⊢
 refine Z00 ?_
 simp [c1.c 1 rfl]
 refine AM.wp_seq ?_
 refine Z00 ?_
 simp [hNi,hw2,h60]
 refine AM.Z04 ?_
 simp [h60]
 refine AM.wp_skip ?_
 simp
 refine Z00 ?_
 simp [hNi,hw2]
 refine Z02 ?_
 have c2:=c1.perm (m':=(Bs,Z0p bv k) :: ((B3,C [.slice Bq 0 n (.opn 2),.int .i64 root]) :: (B4,C [.nilSlice,.int .i64 0]) :: ((Bq,C (Z0c ns Vn)) :: (mrn ++ r)))) (Z0o fun x => by
  simp only [Z0j,Z0k]
  omega)
 refine shuf_c hB c2 (by omega) (by omega) fun Bo xs k1 s2 hxl hS hnx1 c3 => ?_
 simp
 have hb:=Z2v bs 2 k1
 have hbn:=Z23 bs 2 k1
 refine Z00 ?_
 have hrt:(0:Int) ≤ root:=r0
 simp [hNi,hw2,c3.c 2 rfl,hz1,hz2]
 refine Z02 ?_
 refine Z3u hB c3 (by omega) (by omega) fun s3 c4 => ?_
 generalize Z0r bs 2 k1 = Y at hb hbn c4 ⊢
 obtain ⟨b,hbY⟩:∃ b:Nat,Y.1 = (b:Int):=⟨Y.1.toNat,by omega⟩
 rw [hbY] at hb ⊢
 have hb2:b < 2:=by omega
 have hnb:n * b ≤ n:=by
  rcases (show b = 0 ∨ b = 1 by omega) with rfl | rfl <;> omega
 obtain ⟨v,hv⟩:∃ v,xs[root.toNat + n * b]? = some v:=⟨_,List.getElem?_eq_getElem (by omega)⟩
 have hgv:(ints xs)[root.toNat + n * b]? = some (.int .i64 v):=by rw [List.getElem?_map,hv]; rfl
 have e1:(n:Int) * (b:Int) = ((n * b:Nat):Int):=by rw [Int.natCast_mul]
 generalize hp:n * b = p at hnb hgv e1
 have e2:IntKind.wrap .i64 (p:Int) = (p:Int):=IntWalk.i64_in _ (by omega)
 have e3:IntKind.wrap .i64 (root + (p:Int)) = root + (p:Int):=IntWalk.i64_in _ (by omega)
 have e4:(0:Int) ≤ root + (p:Int):=by omega
 have e5:root + (p:Int) < (N:Int):=by omega
 have e6:(root + (p:Int)).toNat = root.toNat + p:=by omega
 have hns:s3.obj s3.next = none:=c4.wf _ (Z09 _)
 have hoc:=c4.c 1 rfl
 have hrt8:Z27 8 (.int .i64 root) (.int .i64 root) = true:=by simp [Z27]
 generalize hX:ints xs = X at hgv hoc c4
 have hz0:(List.replicate N [AVal.str [],.nilSlice]).flatten = Z0c (padF N []) (List.replicate N .nilSlice):=by
  simp [padF,Z0c,penc,List.zipWith_replicate,List.flatMap]
 have c5:=c4.alloc (C (Z0c (padF N []) (List.replicate N .nilSlice)))
 have hns2:(s3.alloc (C (Z0c (padF N []) (List.replicate N .nilSlice)))).obj (s3.alloc (C (Z0c (padF N []) (List.replicate N .nilSlice)))).next = none:=c5.wf _ (Z09 _)
 simp [hNi,hw2,c4.c 2 rfl,hrt8,e1,e2,e3,e4,e5,e6,hoc,hgv,hns,hz1,hz2,hz0,hns2]
 have c6:=(c5.alloc (C [.nilSlice,.int .i64 0])).put 0 rfl (C [.slice s3.next 0 N (.lim N),.int .i64 v])
 simp only [List.set_cons_zero] at c6
 generalize ((s3.alloc (.cells (Z0c (padF N []) (List.replicate N .nilSlice)) false)).alloc (.cells [.nilSlice,.int .i64 0] false)).put (s3.alloc (.cells (Z0c (padF N []) (List.replicate N .nilSlice)) false)).next (.cells [.slice s3.next 0 N (.lim N),.int .i64 v] false) = s4 at c6 ⊢
 generalize (s3.alloc (.cells (Z0c (padF N []) (List.replicate N .nilSlice)) false)).next = B7 at c6 ⊢
 generalize s3.next = Bn at c6 ⊢
 have hR0:Z12 ((padF N []).map Prod.snd) (List.replicate N .nilSlice) []:=by
  have:=Z12.nils (K:=[]) (V:=[]) (m:=[]) N rfl
  simpa [padF] using this
 have hol0:(padF N []).length = N:=Zoj (by simp)
 generalize padF N [] = out0 at hR0 hol0 c6
 rw [← hX] at c6
 have hXl:X.length = N:=by rw [← hX]; simp; omega
 clear hgv hoc
 have c7:Ctx s0 W ((Bs,Z0p bv Y.2) :: (Bo,C (ints xs)) :: (B7,C [.slice Bn 0 N (.lim N),.int .i64 v]) :: (B3,C [.slice Bq 0 n (.opn 2),.int .i64 root]) :: (B4,C [.nilSlice,.int .i64 0]) :: (Bn,C (Z0c out0 (List.replicate N .nilSlice))) :: ([] ++ ((Bq,C (Z0c ns Vn)) :: (mrn ++ r)))) s4:=c6.perm (Z0o fun x => by
  simp only [Z0j,Z0k,Z1e]
  omega)
 clear c6 c5 c4 c3 c2 c1 c0 hns hns2
 refine AM.wp_seq ?_
 refine Z00 ?_
 simp [hNi,hw2]
 refine AM.wp_block ?_
 refine AM.wp_loop (fun m t s' => ∃ (i:Nat) (out:List ND) (V:List AVal) (mr:Lets) (k':SK),i ≤ N∧m = N - i∧PT.get (posOf 0) t = some (.ptr Bs 0)∧PT.get (posOf 3) t = some (.ptr B3 0)∧PT.get (posOf 4) t = some (.ptr B4 0)∧PT.get (posOf 5) t = some (.int .i64 n)∧PT.get (posOf 6) t = some (.slice Bo 0 N (.lim N)) ∧
   PT.get (posOf 7) t = some (.ptr B7 0)∧PT.get (posOf 39) t = some (.int .i64 N)∧PT.get (posOf 40) t = some (.int .i64 i)∧out.length = N∧Zgi ns n xs out i∧Z12 (out.map Prod.snd) V mr∧k'.nx ≤ Y.2.nx + 4 * i ∧
   Ctx s0 W ((Bs,Z0p bv k') :: (Bo,C (ints xs)) :: (B7,C [.slice Bn 0 N (.lim N),.int .i64 v]) :: (B3,C [.slice Bq 0 n (.opn 2),.int .i64 root]) :: (B4,C [.nilSlice,.int .i64 0]) :: (Bn,C (Z0c out V)) :: (mr ++ ((Bq,C (Z0c ns Vn)) :: (mrn ++ r)))) s') N
   ⟨0,out0,List.replicate N .nilSlice,[],Y.2,by simp,by simp,by simp,by simp,by simp,by simp,by simp,by simp,by simp,by simp,hol0,(fun j hj => by omega),hR0,by simp,c7⟩ ?_
 rintro m t s' ⟨i,out,V,mr,k',hi,rfl,t0,t3,t4,t5,t6,t7,t39,t40,hol,hD,hR,hnx,d⟩
 refine Z00 ?_
 simp [t39,t40]
 refine AM.wp_seq ?_
 refine AM.Z04 ?_
 by_cases hlt:i < N
 ·have hwr:IntKind.wrap .i64 ((i:Int) + 1) = (i:Int) + 1:=IntWalk.i64_in _ (by omega)
  have hml:i % n < n:=Nat.mod_lt _ (by omega)
  obtain ⟨nd,hnd⟩:∃ nd,ns[i % n]? = some nd:=⟨_,List.getElem?_eq_getElem (by omega)⟩
  obtain ⟨hk4,hkin⟩:=hO nd (List.mem_of_getElem? hnd)
  obtain ⟨kvn,m1,m2,g1,g2,g3,_⟩:=hRn.at (i:=i % n) (ks:=nd.2) (by rw [List.getElem?_map,hnd]; rfl)
  obtain ⟨e11,e12⟩:=Z6i hnd g1
  have hm:((i:Int)).tmod (n:Int) = ((i % n:Nat):Int):=by
   rw [Int.tmod_eq_emod_of_nonneg (by omega)]
   omega
  have hjw:IntKind.wrap .i64 ((i % n:Nat):Int) = ((i % n:Nat):Int):=IntWalk.i64_in _ (by omega)
  have hni:¬ (n:Int) = 0:=by omega
  have hn0:¬ n = 0:=by omega
  have hmlI:((i % n:Nat):Int) < (n:Int):=by omega
  have hm0I:(0:Int) ≤ ((i % n:Nat):Int):=by omega
  generalize hj:i % n = j at hnd g1 e11 e12 hm hjw hml hmlI hm0I
  obtain ⟨a,ha,haN⟩:=hS.1 i hlt
  have hga:(ints xs)[i]? = some (.int .i64 a):=by rw [List.getElem?_map,ha]; rfl
  simp [hlt]
  refine AM.wp_skip ?_
  simp
  refine AM.wp_seq ?_
  refine AM.wp_block ?_
  refine Z00 ?_
  simp [t40]
  refine Z00 ?_
  have hqc:s'.cells Bq = some (Z0c ns Vn):=Z0a (Z0y (d.own (Bq,C (Z0c ns Vn)) (by simp)))
  have hfr:s'.obj s'.next = none:=d.wf _ (Z09 _)
  simp [t3,t5,d.c 3 rfl,hm,hjw,hni,hn0,hml,hqc,e11,hfr]
  have d1:=(d.alloc (C [.str [],.nilSlice])).put 0 rfl (C [.str nd.1,.nilSlice])
  simp only [List.set_cons_zero] at d1
  generalize (s'.alloc (.cells [.str [],.nilSlice] false)).put s'.next (.cells [.str nd.1,.nilSlice] false) = s5 at d1 ⊢
  generalize s'.next = B9 at d1 ⊢
  have hqc1:s5.cells Bq = some (Z0c ns Vn):=Z0a (Z0y (d1.own (Bq,C (Z0c ns Vn)) (by simp)))
  have hkl:Z1q kvn = some nd.2.length:=by
   rcases g2 with ⟨x1,x2,_⟩ | ⟨q',c',x1,x2,_⟩
   ·rw [x1]; exact x2
   ·rw [x2]; rfl
  have hknt:∀ t,¬ kvn = .tup t:=by
   rintro t rfl
   cases hkl
  refine AM.wp_seq ?_
  refine AM.wp_seq ?_
  refine AM.wp_region ?_
  simp [t3,t5,d1.c 4 rfl,hm,hjw,hni,hn0,hml,hqc1,e12,hkl,hknt]
  refine Zwa (N:=N) (n:=n) (ks:=nd.2) (kdv:=kvn) hNN hB (by omega) hk4 h30 (by omega) (by rw [← hnl]; exact hkin) (fun s6 d6 => (RowR.kid g2 fun y hy => d6.own y (by
   have:y ∈ mrn:=g3.mem_iff.2 (by simp [hy])
   simp [this])).ints d6.wf) d1 (by simp [t0]) (by simp [t5]) (by simp [t6]) (by simp) (by simp) (by simp) (by simp) fun t2 s6 kv ks2 mg k2 hF hg hkl2 hDk hnx2 d2 => ?_
  have w0:PT.get (posOf 0) t2 = some (.ptr Bs 0):=(hF 0 (by simp)).trans (by simp [t0])
  have w3:PT.get (posOf 3) t2 = some (.ptr B3 0):=(hF 3 (by simp)).trans (by simp [t3])
  have w4:PT.get (posOf 4) t2 = some (.ptr B4 0):=(hF 4 (by simp)).trans (by simp [t4])
  have w5:PT.get (posOf 5) t2 = some (.int .i64 n):=(hF 5 (by simp)).trans (by simp [t5])
  have w6:PT.get (posOf 6) t2 = some (.slice Bo 0 N (.lim N)):=(hF 6 (by simp)).trans (by simp [t6])
  have w7:PT.get (posOf 7) t2 = some (.ptr B7 0):=(hF 7 (by simp)).trans (by simp [t7])
  have w8:PT.get (posOf 8) t2 = some (.int .i64 i):=(hF 8 (by simp)).trans (by simp)
  have w9:PT.get (posOf 9) t2 = some (.ptr B9 0):=(hF 9 (by simp)).trans (by simp)
  have w39:PT.get (posOf 39) t2 = some (.int .i64 N):=(hF 39 (by simp)).trans (by simp [t39])
  have w40:PT.get (posOf 40) t2 = some (.int .i64 i):=(hF 40 (by simp)).trans (by simp [t40])
  have d3:Ctx s0 W ((B9,C [.str nd.1,kv]) :: (Bs,Z0p bv k2) :: (Bo,C (ints xs)) :: (B7,C [.slice Bn 0 N (.lim N),.int .i64 v]) :: (B3,C [.slice Bq 0 n (.opn 2),.int .i64 root]) :: (B4,C [.nilSlice,.int .i64 0]) :: (Bn,C (Z0c out V)) :: (mg ++ (mr ++ ((Bq,C (Z0c ns Vn)) :: (mrn ++ r))))) s6:=d2.perm (Z0o fun x => by
   simp only [Z0j,Z0k]
   omega)
  have hVl:V.length = out.length:=by simpa using hR.len
  obtain ⟨x0,hx0⟩:∃ x0,out[a]? = some x0:=⟨_,List.getElem?_eq_getElem (by omega)⟩
  obtain ⟨kv0,m1',m2',f1,f2,f3,f4⟩:=hR.at (i:=a) (ks:=x0.2) (by rw [List.getElem?_map,hx0]; rfl)
  have hR2:=f4 ks2 kv mg hg.row
  have hmp:(out.map Prod.snd).set a ks2 = (out.set a (nd.1,ks2)).map Prod.snd:=by rw [List.map_set]
  rw [hmp] at hR2
  have hlay:=Zpv (V:=V) nd.1 ks2 kv hx0 f1 hVl
  have hel:a * 2 + 2 ≤ (Z0c out V).length:=by rw [Z4r hVl]; omega
  have hoc:=d3.c 2 rfl
  have hno:=d3.o 6 rfl
  have d4:=d3.put 6 rfl (C (Z0c (out.set a (nd.1,ks2)) (V.set a kv)))
  simp only [List.set_cons_zero,List.set_cons_succ] at d4
  generalize hXX:ints xs = XX at hga hoc d3
  simp only [andThen]
  refine AM.wp_region ?_
  generalize hZ:Z0c (out.set a (nd.1,ks2)) (V.set a kv) = Z at hlay d4
  generalize Z0c out V = Z0 at hlay hel hno d3
  simp [lay] at hlay
  simp [w6,w7,w8,w9,d3.c 0 rfl,d3.c 3 rfl,hoc,hga,hlt,haN,hno,hel,hlay]
  generalize s6.put Bn (.cells Z false) = s7 at d4 ⊢
  rw [← hZ] at d4
  refine AM.wp_region ?_
  simp [w40,hwr]
  refine ⟨N - (i + 1),by omega,i + 1,by omega,by omega,by simp [w0],by simp [w3],by simp [w4],by simp [w5],by simp [w6],by simp [w7],by simp [w39],by simp,out.set a (nd.1,ks2),by simp [hol],hD.next hS hlt ha (by rw [hj]; exact hnd) (by omega) hkl2 hDk,V.set a kv,mg ++ m2',hR2,k2,by omega,?_⟩
  have d5:=d4.tail.perm (m':=m1' ++ ((Bs,Z0p bv k2) :: (Bo,C (ints xs)) :: (B7,C [.slice Bn 0 N (.lim N),.int .i64 v]) :: (B3,C [.slice Bq 0 n (.opn 2),.int .i64 root]) :: (B4,C [.nilSlice,.int .i64 0]) :: (Bn,C (Z0c (out.set a (nd.1,ks2)) (V.set a kv))) :: ((mg ++ m2') ++ ((Bq,C (Z0c ns Vn)) :: (mrn ++ r))))) (Z0o fun x => by
   have:=Z6o f3 x
   simp only [Z0j,Z0k] at this ⊢
   omega)
  have d6:=d5.sub (List.sublist_append_right _ _)
  rw [hXX] at d6
  exact d6
 ·simp [hlt]
  refine AM.wp_exit ?_
  simp
  have hie:i = N:=by omega
  subst hie
  refine Z00 ?_
  simp [t4,t7,d.c 2 rfl,d.o 4 rfl]
  have e:=d.put 4 rfl (C [.slice Bn 0 i (.lim i),.int .i64 v])
  simp only [List.set_cons_succ,List.set_cons_zero] at e
  generalize s'.put B4 (.cells [.slice Bn 0 i (.lim i),.int .i64 v] false) = s9 at e ⊢
  refine AM.wp_ret ?_
  have hl42:Z3q Tryd.prog 42 = some (some 2):=by kernel_rfl
  simp [t4,e.c 4 rfl,hl42]
  have:=q Bn out v ((Bn,C (Z0c out V)) :: mr) k' s9 (hD.dbl hNN hnl hol (by omega) hS r0 (by omega) hb2 hv) ⟨V,mr,List.Perm.refl _,hR⟩ ?_
  ·rw [hol] at this
   exact this
  ·have e2:=e.perm (m':=[(Bo,C (ints xs)),(B7,C [.slice Bn 0 i (.lim i),.int .i64 v]),(B3,C [.slice Bq 0 n (.opn 2),.int .i64 root]),(B4,C [.slice Bn 0 i (.lim i),.int .i64 v])] ++ (((Bn,C (Z0c out V)) :: mr) ++ ((Bs,Z0p bv k') :: (mn ++ r)))) (Z0o fun x => by
    have:=Z6o hpn x
    simp only [Z0j,Z0k,Z1e] at this ⊢
    omega)
   exact e2.sub (List.sublist_append_right _ _)
end
structure StepIs (cs c:List CV):Prop where
 good:HG c
 len:c.length = cs.length
 tot:tot c ≤ 1000
 stays:∀ a:Nat,Z06 cs (a:Int) = true→0 < Z3d cs a→(Z06 c (a:Int) = true∧lb c a = lb cs a∧0 < Z3d c a) ∨
  (Z06 c (a:Int) = false∧Zaf c∧∃ j:Nat,j < a∧Z06 c (j:Int) = true∧lb c j = lb cs a∧0 < Z3d c j)
structure GoodK (cs:List CV) (x:Int) (ns:List ND):Prop where
 nat:0 ≤ x
 take:Z06 cs x = true
 held:0 < Z3d cs x.toNat
 tree:Z3z cs x.toNat = ns
theorem Zxk (cs:List CV) (i j k:Int):tot (tieF cs i j k).2 = tot cs:=by
 unfold tieF
 split
 ·split
  ·rename_i c hc
   simp only
   rw [Zdt hc]
   simp only
   omega
  ·rfl
 ·rfl
theorem Zui {cs:List CV} (hG:HG cs) (i:Int):tot (Z6p cs i).2 ≤ tot cs + 1:=by
 unfold Z6p
 split
 ·simp only; omega
 ·split
  ·rename_i c hc
   split
   ·simp only; omega
   ·have:=hG.held c (List.mem_of_getElem? hc)
    simp only
    unfold setH
    rw [hc]
    simp only
    rw [Zdt hc,IntWalk.i64_in _ (by omega)]
    simp only
    omega
  ·simp only; omega
end Go.Proofs
end
