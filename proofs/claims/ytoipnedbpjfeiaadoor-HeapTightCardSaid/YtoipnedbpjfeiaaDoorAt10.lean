/- Parts of the proof: Kit4, Kit5, Seen, Fil1, Fil2, Fil3, CodesL, Sam, Ksm, Hm3, Hm4, Hm5, Ti6, Ti7, Ti8. -/
import Derived.Test.YtoipnedbpjfeiaaDoorAt09
set_option linter.all false
set_option linter.unusedSectionVars false
set_option linter.unusedSimpArgs false
set_option linter.unusedVariables false
section
open Go Go.AM
namespace Go.Proofs
set_option maxRecDepth 100000
def nm6:List (List UInt8):=[[97],[110,105,108],[115],[117],[99,111,110,115],[112]]
noncomputable def Z82 (bs:List Int) (n:Int) (cs:List CV) (k:SK):List CV × SK :=
 if (Z0r bs 5 k).1 = 0 then
  ((putF cs (Z5u bs 4 (Z0r bs 5 k).2).1.1 (Z5u bs 4 (Z0r bs 5 k).2).1.2).2.2,(Z5u bs 4 (Z0r bs 5 k).2).2)
 else if (Z0r bs 5 k).1 = 1 then
  let x:=Z0r bs n (Z0r bs 5 k).2
  let y:=Z0r bs 2 x.2
  let z:=Z0r bs n y.2
  ((tieF cs x.1 y.1 z.1).2,z.2)
 else if (Z0r bs 5 k).1 = 2 then
  ((Z6p cs (Z0r bs n (Z0r bs 5 k).2).1).2,(Z0r bs n (Z0r bs 5 k).2).2)
 else
  let m:=Z0r bs 3 (Z0r bs 5 k).2
  let kk:=if Z1h cs = 0 then 0 else m.1
  let d:=Z15 bs n kk.toNat m.2
  let w:=Z0r bs 2 d.2
  ((mkF cs ((nm6[(kk * 2 + w.1).toNat]?).getD []) d.1).2.2,w.2)
theorem Zab (bs:List Int) (n:Int) (cs:List CV) (k:SK):∃ a,a = Z0r bs 5 k ∧
  ((a.1 = 0∧∃ t,t = Z5u bs 4 a.2∧Z82 bs n cs k = ((putF cs t.1.1 t.1.2).2.2,t.2)) ∨
   (a.1 ≠ 0∧a.1 = 1∧∃ x y z,x = Z0r bs n a.2∧y = Z0r bs 2 x.2∧z = Z0r bs n y.2∧Z82 bs n cs k = ((tieF cs x.1 y.1 z.1).2,z.2)) ∨
   (a.1 ≠ 0∧a.1 ≠ 1∧a.1 = 2∧∃ x,x = Z0r bs n a.2∧Z82 bs n cs k = ((Z6p cs x.1).2,x.2)) ∨
   (a.1 ≠ 0∧a.1 ≠ 1∧a.1 ≠ 2∧∃ m kk d w,m = Z0r bs 3 a.2∧kk = (if Z1h cs = 0 then (0:Int) else m.1)∧d = Z15 bs n kk.toNat m.2∧w = Z0r bs 2 d.2∧Z82 bs n cs k = ((mkF cs ((nm6[(kk * 2 + w.1).toNat]?).getD []) d.1).2.2,w.2))):=by
 refine ⟨_,rfl,?_⟩
 unfold Z82
 by_cases h0:(Z0r bs 5 k).1 = 0
 ·exact .inl ⟨h0,_,rfl,by rw [if_pos h0]⟩
 ·by_cases h1:(Z0r bs 5 k).1 = 1
  ·exact .inr (.inl ⟨h0,h1,_,_,_,rfl,rfl,rfl,by rw [if_neg h0,if_pos h1]⟩)
  ·by_cases h2:(Z0r bs 5 k).1 = 2
   ·exact .inr (.inr (.inl ⟨h0,h1,h2,_,rfl,by rw [if_neg h0,if_neg h1,if_pos h2]⟩))
   ·exact .inr (.inr (.inr ⟨h0,h1,h2,_,_,_,_,rfl,rfl,rfl,rfl,by rw [if_neg h0,if_neg h1,if_neg h2]⟩))
noncomputable def Z2s (bs:List Int) (n:Int):Nat→List CV × SK→List CV × SK
 | 0,x => x
 | i + 1,x => Z82 bs n (Z2s bs n i x).1 (Z2s bs n i x).2
theorem Z9d (bs:List Int) (n:Int) (i:Nat) (x:List CV × SK):Z2s bs n (i + 1) x = Z82 bs n (Z2s bs n i x).1 (Z2s bs n i x).2:=by rw [Z2s]
noncomputable def Z8p (bs:List Int) (cells:Int) (k:SK):List CV × SK :=
 let a:=Z5g bs 4 cells k
 let b:=Z0r bs (2 * a.1) a.2
 Z2s bs a.1 b.1.toNat (List.replicate a.1.toNat Z2m,b.2)
theorem Ze8 (bs:List Int) (cells:Int) (k:SK):∃ a b,a = Z5g bs 4 cells k∧b = Z0r bs (2 * a.1) a.2∧Z8p bs cells k = Z2s bs a.1 b.1.toNat (List.replicate a.1.toNat Z2m,b.2):=⟨_,_,rfl,rfl,rfl⟩
theorem kk_in {cs:List CV} {bs:List Int} {k:SK} {m:Int × SK} {kk:Int} (hm:m = Z0r bs 3 k) (hk:kk = (if Z1h cs = 0 then (0:Int) else m.1)):0 ≤ kk∧kk ≤ 2:=by
 have:=Z2v bs 3 k
 rw [← hm] at this
 split at hk <;> omega
theorem Zxg (bs:List Int) (n:Int) (cs:List CV) (k:SK):(Z82 bs n cs k).2.nx ≤ k.nx + 250:=by
 obtain ⟨a,ha,h⟩:=Zab bs n cs k
 have h1:=Z23 bs 5 k
 rw [← ha] at h1
 rcases h with ⟨_,t,ht,e⟩ | ⟨_,_,x,y,z,hx,hy,hz,e⟩ | ⟨_,_,_,x,hx,e⟩ | ⟨_,_,_,m,kk,d,w,hm,hk,hd,hw,e⟩
 ·rw [e]
  have:=Zxm bs (nodes:=4) a.2
  rw [← ht] at this
  show t.2.nx ≤ _
  omega
 ·rw [e]
  have g1:=Z23 bs n a.2
  rw [← hx] at g1
  have g2:=Z23 bs 2 x.2
  rw [← hy] at g2
  have g3:=Z23 bs n y.2
  rw [← hz] at g3
  show z.2.nx ≤ _
  omega
 ·rw [e]
  have g1:=Z23 bs n a.2
  rw [← hx] at g1
  show x.2.nx ≤ _
  omega
 ·rw [e]
  have g1:=Z23 bs 3 a.2
  rw [← hm] at g1
  have g2:=Z5y bs n kk.toNat m.2
  rw [← hd] at g2
  have g3:=Z23 bs 2 d.2
  rw [← hw] at g3
  have g4:=kk_in hm hk
  show w.2.nx ≤ _
  omega
theorem Zxh (bs:List Int) (n:Int) {cs:List CV} (hG:HG cs) (k:SK):HG (Z82 bs n cs k).1∧(Z82 bs n cs k).1.length = cs.length:=by
 obtain ⟨a,ha,h⟩:=Zab bs n cs k
 rcases h with ⟨_,t,ht,e⟩ | ⟨_,_,x,y,z,hx,hy,hz,e⟩ | ⟨_,_,_,x,hx,e⟩ | ⟨_,_,_,m,kk,d,w,hm,hk,hd,hw,e⟩
 ·rw [e]
  have:=Zr5 hG t.1.1 t.1.2
  exact ⟨this.good,this.len⟩
 ·rw [e]
  exact tieF_ok hG _ _ _
 ·rw [e]
  exact Zwk hG _
 ·rw [e]
  exact Zuw hG _ _
theorem Zk3 (bs:List Int) (n:Int):∀ (i:Nat) (x:List CV × SK),(Z2s bs n i x).2.nx ≤ x.2.nx + 250 * i
 | 0,x => Nat.le_refl _
 | i + 1,x => by
  have h1:=Zk3 bs n i x
  have h2:=Zxg bs n (Z2s bs n i x).1 (Z2s bs n i x).2
  rw [Z9d]
  omega
theorem Zbl (bs:List Int) (n:Int) {cs:List CV} (hG:HG cs):∀ (i:Nat) (k:SK),HG (Z2s bs n i (cs,k)).1∧(Z2s bs n i (cs,k)).1.length = cs.length
 | 0,k => ⟨hG,rfl⟩
 | i + 1,k => by
  obtain ⟨h1,h2⟩:=Zbl bs n hG i k
  rw [Z9d]
  obtain ⟨h3,h4⟩:=Zxh bs n h1 (Z2s bs n i (cs,k)).2
  exact ⟨h3,h4.trans h2⟩
theorem Zkj (n:Nat):HG (List.replicate n Z2m):=by
 intro c hc
 exact .inl (List.eq_of_mem_replicate hc)
theorem Zs2 (bs:List Int) {cells:Int} (h4:4 ≤ cells) (k:SK):HG (Z8p bs cells k).1∧4 ≤ (Z8p bs cells k).1.length∧((Z8p bs cells k).1.length:Int) ≤ cells:=by
 obtain ⟨a,b,ha,hb,e⟩:=Ze8 bs cells k
 have h1:=Z46 bs 4 cells k
 rw [← ha] at h1
 rw [e]
 obtain ⟨g1,g2⟩:=Zbl bs a.1 (Zkj a.1.toNat) b.1.toNat b.2
 rw [List.length_replicate] at g2
 exact ⟨g1,by omega,by omega⟩
section
variable {s0 s:St} {W:Pos→Prop} {Bs hb B9:Pos} {bv vs:AVal} {bs:List Int} {k:SK} {r:Lets} {fr:FI} {t0:PT AVal} {Q:Ex→PT AVal→St→Prop}
theorem Zuf {n:Int} {c:Nat} (hB:Z29 s0 W bv bs) (hn:k.nx + 4 < 2 ^ 62) (hc2:c ≤ 2) (hnn:n ≤ 60) (hc:Ctx s0 W ((Bs,Z0p bv k) :: r) s)
  (u0:PT.get (posOf 0) t0 = some (.ptr Bs 0)) (u6:PT.get (posOf 6) t0 = some (.int .i64 n)) (u11:PT.get (posOf 11) t0 = some (.int .i64 c)) (u12:PT.get (posOf 12) t0 = some .nilSlice)
  (q:∀ t s' kv mg,Fr [12,45,46,47] t0 t→PT.get (posOf 12) t = some kv→Z1t kv (Z15 bs n c k).1 mg→Ctx s0 W ((Bs,Z0p bv (Z15 bs n c k).2) :: (mg ++ r)) s'→Q .normal t s'):wp Tryd.prog Ztk fr t0 s Q:=by
 refine Z00 ?_
 simp [u11]
 refine AM.wp_block ?_
 refine AM.wp_loop (fun m t s' => ∃ (j:Nat) (kv:AVal) (mg:Lets),j ≤ c∧m = c - j∧Fr [12,45,46,47] t0 t∧PT.get (posOf 45) t = some (.int .i64 c)∧PT.get (posOf 46) t = some (.int .i64 j)∧PT.get (posOf 12) t = some kv∧Z1t kv (Z15 bs n j k).1 mg ∧
   Ctx s0 W ((Bs,Z0p bv (Z15 bs n j k).2) :: (mg ++ r)) s') c ⟨0,.nilSlice,[],by simp,by simp,?_,by simp,by simp,by simp [u12],.inl ⟨rfl,rfl,rfl⟩,hc⟩ ?_
 ·intro y hy
  simp at hy
  simp [hy]
 rintro m t s' ⟨j,kv,mg,hj,rfl,hF,t45,t46,t12,hg,d⟩
 refine Z00 ?_
 simp [t45,t46]
 refine AM.wp_seq ?_
 refine AM.Z04 ?_
 by_cases hlt:j < c
 ·have hwr:IntKind.wrap .i64 ((j:Int) + 1) = ((j + 1:Nat):Int):=by rw [IntWalk.i64_in _ (by omega)]; omega
  have v0:=(hF 0 (by simp)).trans u0
  have v6:=(hF 6 (by simp)).trans u6
  have hnx:=Z5y bs n j k
  have hjl:=Z7f bs n j k
  simp [hlt]
  refine AM.wp_skip ?_
  simp
  refine AM.wp_seq ?_
  refine AM.wp_block ?_
  refine AM.wp_region ?_
  simp [v0,v6,t12]
  refine Z02 ?_
  have hnext:=Zey bs n j k
  generalize Z15 bs n j k = X at hg d hnx hjl hnext
  refine Z3u hB d (by omega) (by omega) fun s1 d2 => ?_
  generalize Z0r bs n X.2 = Y at hnext d2 ⊢
  simp [hg.ntup,Z1w,srcP]
  have d3:=d2.alloc (C [.int .i64 Y.1])
  generalize s1.alloc (.cells [.int .i64 Y.1] false) = s2 at d3 ⊢
  generalize s1.next = T at d3 ⊢
  refine Z65 (pre:=[(T,C [.int .i64 Y.1]),(Bs,Z0p bv Y.2)]) d3 hg (by omega) fun kv' mg' s3 hg' d4 => ?_
  simp only [List.cons_append,List.nil_append] at d4
  refine AM.wp_region ?_
  simp [t46,hwr]
  refine ⟨c - (j + 1),by omega,j + 1,by omega,by omega,?_,by simp [t45],by simp,mg',by rw [hnext]; exact hg',?_⟩
  ·intro y hy
   simp at hy
   simp [hy]
   exact hF y (by simp [hy])
  ·rw [hnext]
   exact d4.tail
 ·simp [hlt]
  refine AM.wp_exit ?_
  simp
  have hje:j = c:=by omega
  subst hje
  refine q _ s' kv mg ?_ (by simp [t12]) hg d
  intro y hy
  simp at hy
  simp [hy]
  exact hF y (by simp [hy])
theorem nm6_get {kk w:Int} (hk:0 ≤ kk∧kk ≤ 2) (hw:0 ≤ w∧w ≤ 1):∃ nm,nm6[(kk * 2 + w).toNat]? = some nm∧(nm6.map AVal.str)[kk.toNat * 2 + w.toNat]? = some (.str nm)∧nm.length ≤ 2 ^ 62:=by
 have h1:kk = 0 ∨ kk = 1 ∨ kk = 2:=by omega
 have h2:w = 0 ∨ w = 1:=by omega
 rcases h1 with rfl | rfl | rfl <;> rcases h2 with rfl | rfl <;> exact ⟨_,rfl,rfl,by decide⟩
theorem Zlh {cs:List CV} {m:Lets} {n:Int} {kn:Nat} {d:List Int × SK} {ww:Int × SK} (hB:Z29 s0 W bv bs) (hn:k.nx + 100 < 2 ^ 62) (hnn:n ≤ 24) (hkn:kn ≤ 2) (hd:d = Z15 bs n kn k) (hw:ww = Z0r bs 2 d.2) (hH:Z2t hb vs cs m)
  (hc:Ctx s0 W ((Bs,Z0p bv k) :: (m ++ ((B9,C (nm6.map .str)) :: r))) s)
  (u0:PT.get (posOf 0) t0 = some (.ptr Bs 0)) (u6:PT.get (posOf 6) t0 = some (.int .i64 n)) (u7:PT.get (posOf 7) t0 = some (.ptr hb 0)) (u9:PT.get (posOf 9) t0 = some (.ptr B9 0)) (u11:PT.get (posOf 11) t0 = some (.int .i64 kn))
  (q:∀ t s' m',PT.get (posOf 0) t = some (.ptr Bs 0)→PT.get (posOf 6) t = some (.int .i64 n)→PT.get (posOf 7) t = some (.ptr hb 0)→PT.get (posOf 9) t = some (.ptr B9 0)→PT.get (posOf 34) t = PT.get (posOf 34) t0→PT.get (posOf 35) t = PT.get (posOf 35) t0 →
   Z2t hb vs (mkF cs ((nm6[((kn:Int) * 2 + ww.1).toNat]?).getD []) d.1).2.2 m'→Ctx s0 W ((Bs,Z0p bv ww.2) :: (m' ++ ((B9,C (nm6.map .str)) :: r))) s'→Q .normal t s'):wp Tryd.prog Ztj fr t0 s Q:=by
 have g3:=Z5y bs n kn k
 have g5:=Z7f bs n kn k
 rw [← hd] at g3 g5
 have g4:=Z2v bs 2 d.2
 rw [← hw] at g4
 refine Z00 ?_
 simp
 refine AM.wp_seq ?_
 refine Zuf (c:=kn) (n:=n) hB (by omega) hkn (by omega) hc (by simp [u0]) (by simp [u6]) (by simp [u11]) (by simp) fun t s1 kv mg hF t12 hg c1 => ?_
 rw [← hd] at hg c1
 have v0:PT.get (posOf 0) t = some (.ptr Bs 0):=(hF 0 (by simp)).trans (by simp [u0])
 have v6:PT.get (posOf 6) t = some (.int .i64 n):=(hF 6 (by simp)).trans (by simp [u6])
 have v7:PT.get (posOf 7) t = some (.ptr hb 0):=(hF 7 (by simp)).trans (by simp [u7])
 have v9:PT.get (posOf 9) t = some (.ptr B9 0):=(hF 9 (by simp)).trans (by simp [u9])
 have v11:PT.get (posOf 11) t = some (.int .i64 kn):=(hF 11 (by simp)).trans (by simp [u11])
 have v34:PT.get (posOf 34) t = PT.get (posOf 34) t0:=(hF 34 (by simp)).trans (by simp)
 have v35:PT.get (posOf 35) t = PT.get (posOf 35) t0:=(hF 35 (by simp)).trans (by simp)
 obtain ⟨nm,n1,n2,n3⟩:=nm6_get (kk:=kn) (w:=ww.1) (by omega) (by omega)
 rw [n1] at q
 simp only [Option.getD_some] at q
 have hk3:(kn:Int) < 3:=by omega
 have hw2:ww.1 < 2:=by omega
 simp only [andThen]
 refine AM.wp_region ?_
 simp [v0,v7,v9,v11,t12,hk3]
 refine Z02 ?_
 refine Z3u hB c1 (by omega) (by decide) fun s2 c2 => ?_
 rw [← hw] at c2 ⊢
 have hB9:s2.cells B9 = some (nm6.map .str):=Z0a (Z0y (c2.own (B9,C (nm6.map .str)) (by simp)))
 have n2':(nm6.map AVal.str)[kn * 2 + ww.1.toNat]? = some (.str nm):=by simpa using n2
 generalize nm6.map AVal.str = NS at hB9 n2' c2 q
 simp [v0,v7,v9,v11,t12,hk3,hw2,g4.1,hB9,n2']
 refine Z02 ?_
 have c3:=c2.perm (m':=m ++ ((Bs,Z0p bv ww.2) :: (B9,C NS) :: (mg ++ r))) (Z0o fun y => by
  simp only [Z0j,Z0k,Z1e]
  omega)
 refine make_c hH c3 n3 ((hg.row.kid fun y hy => c2.own y (by simp [hy])).ints c2.wf) (by omega) fun m' s4 hH' c4 => ?_
 simp
 refine q _ s4 m' (by simp [v0]) (by simp [v6]) (by simp [v7]) (by simp [v9]) (by simp [v34]) (by simp [v35]) hH' ((c4.perm (m':=((Bs,Z0p bv ww.2) :: (m' ++ ((B9,C NS) :: r))) ++ mg) (Z0o fun y => ?_)).sub (List.sublist_append_left _ _))
 simp only [Z0j,Z0k,Z1e]
 omega
theorem Zs1 {cs:List CV} {m:Lets} {n:Int} (hB:Z29 s0 W bv bs) (hn:k.nx + 1300 < 2 ^ 62) (hnn:n ≤ 24) (hG:HG cs) (hH:Z2t hb vs cs m)
  (hc:Ctx s0 W ((Bs,Z0p bv k) :: (m ++ ((B9,C (nm6.map .str)) :: r))) s)
  (u0:PT.get (posOf 0) t0 = some (.ptr Bs 0)) (u6:PT.get (posOf 6) t0 = some (.int .i64 n)) (u7:PT.get (posOf 7) t0 = some (.ptr hb 0)) (u9:PT.get (posOf 9) t0 = some (.ptr B9 0))
  (q:∀ t s' m',PT.get (posOf 0) t = some (.ptr Bs 0)→PT.get (posOf 6) t = some (.int .i64 n)→PT.get (posOf 7) t = some (.ptr hb 0)→PT.get (posOf 9) t = some (.ptr B9 0)→PT.get (posOf 34) t = PT.get (posOf 34) t0→PT.get (posOf 35) t = PT.get (posOf 35) t0 →
   Z2t hb vs (Z82 bs n cs k).1 m'→Ctx s0 W ((Bs,Z0p bv (Z82 bs n cs k).2) :: (m' ++ ((B9,C (nm6.map .str)) :: r))) s'→Q .normal t s'):wp Tryd.prog Zti fr t0 s Q:=by
 obtain ⟨a,ha,hstep⟩:=Zab bs n cs k
 have ha1:=Z23 bs 5 k
 rw [← ha] at ha1
 refine AM.wp_block ?_
 refine Z00 ?_
 simp [u7]
 refine Z02 ?_
 have c0:=hc.perm (m':=m ++ ((Bs,Z0p bv k) :: (B9,C (nm6.map .str)) :: r)) (Z0o fun y => by
  simp only [Z0j,Z0k,Z1e]
  omega)
 refine Zgd hH c0 fun s1 c1 => ?_
 have c1:=c1.perm (m':=(Bs,Z0p bv k) :: (m ++ ((B9,C (nm6.map .str)) :: r))) (Z0o fun y => by
  simp only [Z0j,Z0k,Z1e]
  omega)
 simp
 refine Z00 ?_
 simp [u0]
 refine Z02 ?_
 refine Z3u hB c1 (by omega) (by decide) fun s2 c2 => ?_
 rw [← ha] at c2 ⊢
 simp
 refine AM.wp_block ?_
 refine Z00 ?_
 simp
 refine AM.Z04 ?_
 rcases hstep with ⟨h0,t,ht,e⟩ | ⟨h0,h1,x,y,z,hx,hy,hz,e⟩ | ⟨h0,h1,h2,x,hx,e⟩ | ⟨h0,h1,h2,mm,kk,d,w,hm,hk,hd,hw,e⟩
 ·rw [e] at q
  simp [h0]
  refine AM.wp_region ?_
  simp [u0,u7]
  refine Z02 ?_
  refine Zvu hB c2 (by omega) (by decide) (by decide) fun nv mn s3 hN c3 => ?_
  obtain ⟨o1,o2,o3,o4,_⟩:=Zp7 bs (nodes:=4) (by decide) a.2
  rw [← ht] at hN c3 o1 o2 o3 o4 ⊢
  simp
  refine Z02 ?_
  have c4:=c3.perm (m':=m ++ ((Bs,Z0p bv t.2) :: (B9,C (nm6.map .str)) :: (mn ++ r))) (Z0o fun y => by
   simp only [Z0j,Z0k,Z1e]
   omega)
  have c5:=c3.sub (m':=mn) ((List.sublist_append_left mn _).trans (List.sublist_cons_self _ _))
  refine Zmr hH c4 hG.ok.toHOk (hN.at0 c5) (fun nd hnd => ⟨by have:=(o2 nd hnd).2; omega,by have:=(o1 nd hnd).1; omega⟩) (by omega) fun m' s4 hH' c6 => ?_
  simp
  refine q _ s4 m' (by simp [u0]) (by simp [u6]) (by simp [u7]) (by simp [u9]) (by simp) (by simp) hH' ((c6.perm (m':=((Bs,Z0p bv t.2) :: (m' ++ ((B9,C (nm6.map .str)) :: r))) ++ mn) (Z0o fun y => ?_)).sub (List.sublist_append_left _ _))
  simp only [Z0j,Z0k,Z1e]
  omega
 ·rw [e] at q
  have g1:=Z23 bs n a.2
  rw [← hx] at g1
  have g2:=Z23 bs 2 x.2
  rw [← hy] at g2
  simp [h1]
  refine Z00 ?_
  simp
  refine AM.Z04 ?_
  simp [h1]
  refine AM.wp_region ?_
  simp [u0,u6,u7]
  refine Z02 ?_
  refine Z3u hB c2 (by omega) (by omega) fun s3 c3 => ?_
  rw [← hx] at c3 ⊢
  simp [u0,u6,u7]
  refine Z02 ?_
  refine Z3u hB c3 (by omega) (by omega) fun s4 c4 => ?_
  rw [← hy] at c4 ⊢
  simp [u0,u6,u7]
  refine Z02 ?_
  refine Z3u hB c4 (by omega) (by omega) fun s5 c5 => ?_
  rw [← hz] at c5 ⊢
  simp
  refine Z02 ?_
  have c6:=c5.perm (m':=m ++ ((Bs,Z0p bv z.2) :: (B9,C (nm6.map .str)) :: r)) (Z0o fun y => by
   simp only [Z0j,Z0k,Z1e]
   omega)
  refine tie_c hH c6 fun m' s6 hH' c7 => ?_
  simp
  refine q _ s6 m' (by simp [u0]) (by simp [u6]) (by simp [u7]) (by simp [u9]) (by simp) (by simp) hH' (c7.perm (Z0o fun y => ?_))
  simp only [Z0j,Z0k,Z1e]
  omega
 ·rw [e] at q
  simp [h2]
  refine Z00 ?_
  simp
  refine AM.Z04 ?_
  simp [h2]
  refine Z00 ?_
  simp
  refine AM.Z04 ?_
  simp [h2]
  refine AM.wp_region ?_
  simp [u0,u6,u7]
  refine Z02 ?_
  refine Z3u hB c2 (by omega) (by omega) fun s3 c3 => ?_
  rw [← hx] at c3 ⊢
  simp
  refine Z02 ?_
  have c6:=c3.perm (m':=m ++ ((Bs,Z0p bv x.2) :: (B9,C (nm6.map .str)) :: r)) (Z0o fun y => by
   simp only [Z0j,Z0k,Z1e]
   omega)
  refine hold_c hH c6 fun m' s6 hH' c7 => ?_
  simp
  refine q _ s6 m' (by simp [u0]) (by simp [u6]) (by simp [u7]) (by simp [u9]) (by simp) (by simp) hH' (c7.perm (Z0o fun y => ?_))
  simp only [Z0j,Z0k,Z1e]
  omega
 ·rw [e] at q
  have g1:=Z23 bs 3 a.2
  rw [← hm] at g1
  have g2:=kk_in hm hk
  have g3:=Z5y bs n kk.toNat mm.2
  rw [← hd] at g3
  have g4:=Z2v bs 2 d.2
  rw [← hw] at g4
  simp [h0]
  refine Z00 ?_
  simp
  refine AM.Z04 ?_
  simp [h1]
  refine Z00 ?_
  simp
  refine AM.Z04 ?_
  simp [h2]
  refine Z00 ?_
  simp [u0]
  refine Z02 ?_
  refine Z3u hB c2 (by omega) (by omega) fun s3 c3 => ?_
  rw [← hm] at c3 ⊢
  simp
  obtain ⟨kn,hkn⟩:∃ kn:Nat,kk = kn:=⟨kk.toNat,by omega⟩
  have hd':d = Z15 bs n kn mm.2:=by rw [hd,hkn,Int.toNat_natCast]
  rw [hkn] at q
  refine AM.wp_seq ?_
  refine Z00 ?_
  simp
  refine AM.Z04 ?_
  by_cases hs:Z1h cs = 0
  ·rw [if_pos hs] at hk
   simp [hs]
   refine AM.wp_region ?_
   simp
   refine Zlh (kn:=kn) hB (by omega) hnn (by omega) hd' hw hH c3 (by simp [u0]) (by simp [u6]) (by simp [u7]) (by simp [u9]) (by simp; omega) fun t s4 m' e0 e6 e7 e9 e34 e35 hH' c4 => ?_
   exact q _ s4 m' e0 e6 e7 e9 (e34.trans (by simp)) (e35.trans (by simp)) hH' c4
  ·rw [if_neg hs] at hk
   simp [hs]
   refine AM.wp_skip ?_
   simp
   refine Zlh (kn:=kn) hB (by omega) hnn (by omega) hd' hw hH c3 (by simp [u0]) (by simp [u6]) (by simp [u7]) (by simp [u9]) (by simp; omega) fun t s4 m' e0 e6 e7 e9 e34 e35 hH' c4 => ?_
   exact q _ s4 m' e0 e6 e7 e9 (e34.trans (by simp)) (e35.trans (by simp)) hH' c4
end
section
variable {s0 s:St} {W:Pos→Prop} {Bs:Pos} {bv:AVal} {bs:List Int} {k:SK} {r:Lets} {Q:AVal→St→Prop}
theorem Zwf {cells:Int} (hB:Z29 s0 W bv bs) (h:Ctx s0 W ((Bs,Z0p bv k) :: r) s) (hn:k.nx + 20000 < 2 ^ 62) (h4:4 ≤ cells) (h24:cells ≤ 24)
  (q:∀ hb m s',Z2t hb .nilSlice (Z8p bs cells k).1 m→Ctx s0 W ((Bs,Z0p bv (Z8p bs cells k).2) :: (m ++ r)) s'→Q (.tup [.ptr hb 0,.bool true]) s'):Z0e Tryd.prog 15 [.ptr Bs 0,.int .i64 cells] s Q:=by
 obtain ⟨a,b,ha,hb,hf⟩:=Ze8 bs cells k
 have a1:=Z46 bs 4 cells k
 have a2:=Z7d bs 4 cells k
 rw [← ha] at a1 a2
 have b1:=Z2v bs (2 * a.1) a.2
 have b2:=Z23 bs (2 * a.1) a.2
 rw [← hb] at b1 b2
 rw [hf] at q
 have e1:IntKind.wrap .i64 (2 * a.1) = 2 * a.1:=IntWalk.i64_in _ (by omega)
 refine Z08 (Z0i (by decide)) fi15 rfl (by decide) rfl ?_
 refine Z00 ?_
 simp
 refine Z00 ?_
 simp
 refine Z02 ?_
 refine Zgj hB h (by omega) (by omega) (by omega) fun s1 c1 => ?_
 rw [← ha] at c1 ⊢
 simp
 refine Z00 ?_
 simp
 refine Z02 ?_
 refine new_c c1 (by omega) (by omega) fun hp m s2 hH c2 => ?_
 simp
 refine AM.wp_seq ?_
 refine Z00 ?_
 simp
 refine AM.Z04 ?_
 simp
 refine AM.wp_skip ?_
 simp
 refine Z00 ?_
 simp
 have c3:=(c2.alloc (C [.str [],.str [],.str [],.str [],.str [],.str []])).put 0 rfl (C (nm6.map .str))
 simp only [List.set_cons_zero] at c3
 generalize hs3:(s2.alloc (.cells [.str [],.str [],.str [],.str [],.str [],.str []] false)).put s2.next (C (nm6.map .str)) = s3 at c3
 have hs3':(s2.alloc (.cells [.str [],.str [],.str [],.str [],.str [],.str []] false)).put s2.next (.cells [.str [97],.str [110,105,108],.str [115],.str [117],.str [99,111,110,115],.str [112]] false) = s3:=hs3
 rw [hs3']
 clear hs3 hs3'
 generalize s2.next = B9 at c3 ⊢
 have c4:=c3.perm (m':=(Bs,Z0p bv a.2) :: (m ++ ((B9,C (nm6.map .str)) :: r))) (Z0o fun y => by
  simp only [Z0j,Z0k,Z1e]
  omega)
 refine AM.wp_seq ?_
 refine Z00 ?_
 simp [e1]
 refine Z02 ?_
 refine Z3u hB c4 (by omega) (by omega) fun s5 c5 => ?_
 rw [← hb] at c5 ⊢
 simp
 obtain ⟨N,hN⟩:∃ N:Nat,b.1 = N:=⟨b.1.toNat,by omega⟩
 rw [hN] at q b1 ⊢
 rw [Int.toNat_natCast] at q
 refine AM.wp_block ?_
 refine AM.wp_loop (fun x t s' => ∃ (i:Nat) (m':Lets),i ≤ N∧x = N - i∧PT.get (posOf 0) t = some (.ptr Bs 0)∧PT.get (posOf 6) t = some (.int .i64 a.1)∧PT.get (posOf 7) t = some (.ptr hp 0)∧PT.get (posOf 9) t = some (.ptr B9 0)∧PT.get (posOf 34) t = some (.int .i64 N)∧PT.get (posOf 35) t = some (.int .i64 i) ∧
   Z2t hp .nilSlice (Z2s bs a.1 i (List.replicate a.1.toNat Z2m,b.2)).1 m'∧Ctx s0 W ((Bs,Z0p bv (Z2s bs a.1 i (List.replicate a.1.toNat Z2m,b.2)).2) :: (m' ++ ((B9,C (nm6.map .str)) :: r))) s') N
   ⟨0,m,by simp,by simp,by simp,by simp,by simp,by simp,by simp,by simp,hH,c5⟩ ?_
 rintro x t s' ⟨i,m',hi,rfl,t0,t6,t7,t9,t34,t35,hH',d⟩
 refine Z00 ?_
 simp [t34,t35]
 refine AM.wp_seq ?_
 refine AM.Z04 ?_
 by_cases hlt:i < N
 ·have hwr:IntKind.wrap .i64 ((i:Int) + 1) = ((i + 1:Nat):Int):=by rw [IntWalk.i64_in _ (by omega)]; omega
  obtain ⟨g1,g2⟩:=Zbl bs a.1 (Zkj a.1.toNat) i b.2
  have g3:=Zk3 bs a.1 i (List.replicate a.1.toNat Z2m,b.2)
  have hnext:=Z9d bs a.1 i (List.replicate a.1.toNat Z2m,b.2)
  simp only at g3
  simp [hlt]
  refine AM.wp_skip ?_
  simp
  refine AM.wp_seq ?_
  generalize Z2s bs a.1 i (List.replicate a.1.toNat Z2m,b.2) = X at hH' d g1 g2 g3 hnext
  refine Zs1 (n:=a.1) hB (by omega) (by omega) g1 hH' d (by simp [t0]) (by simp [t6]) (by simp [t7]) (by simp [t9]) fun t2 s6 m2 v0 v6 v7 v9 v34 v35 hH2 d2 => ?_
  have v34:PT.get (posOf 34) t2 = some (.int .i64 N):=v34.trans (by simp [t34])
  have v35:PT.get (posOf 35) t2 = some (.int .i64 i):=v35.trans (by simp [t35])
  simp only [andThen]
  refine AM.wp_region ?_
  simp [v35,hwr]
  exact ⟨N - (i + 1),by omega,i + 1,by omega,by omega,by simp [v0],by simp [v6],by simp [v7],by simp [v9],by simp [v34],by simp,m2,by rw [hnext]; exact hH2,by rw [hnext]; exact d2⟩
 ·simp [hlt]
  refine AM.wp_exit ?_
  simp
  have hie:i = N:=by omega
  subst hie
  refine Z00 ?_
  simp [t7]
  refine AM.wp_ret ?_
  simp
  refine q hp m' s' hH' ((d.perm (m':=((Bs,Z0p bv (Z2s bs a.1 i (List.replicate a.1.toNat Z2m,b.2)).2) :: (m' ++ r)) ++ [(B9,C (nm6.map .str))]) (Z0o fun y => ?_)).sub (List.sublist_append_left _ _))
  simp only [Z0j,Z0k,Z1e]
  omega
end
end Go.Proofs
end
section
open Go Go.AM
namespace Go.Proofs
def c24_1:MCode:=.region [Cr (.box (Cp 0)),Cr (.box (Cp 1)),Yo (.bool false)] [Cs 4,Cs 3,Cs 2]
def c24_3:MCode:=.region [Yd 1 2,Ya 0,Yd 1 3,Ya 0,Yh .eql (Yq 2) (Yq 0),C0,Yj 0 (.fieldAddr (some 0) (Cp 2)),Yj 1 (.load (some none) (Yq 0)),Yj 2 (.fieldAddr (some 0) (Cp 3)),Yj 3 (.load (some none) (Yq 0)),Yj 4 (.call (.cst (.fn 72 [] [])) [(Yq 2),(Yq 0),(.cst (.fn 73 [] []))]),Cr (.pick (Yq 5) (Yq 0) (.cst (.bool false))),C0] [Cs 4,none,none,none,none,none,none,none,none,none,none,none,none]
def c24_2:MCode:=.seq c24_3 .ret
def c24_0:MCode:=.seq c24_1 c24_2
theorem fi24:funInfo Tryd.prog 24 = some { code:=c24_0,ntmps:=17,nargs:=2,ps:=[3,2,1,0,4],res:=[.tmp 4] }:=by kernel_rfl
def c72_1:MCode:=.region [Yo (.bool false)] [Cs 6]
def c72_4:MCode:=.region [Cm 0,Yl (Yq 0),Cm 1,Yl (Yq 0),Yh .neq (Yq 2) (Yq 0)] [Cs 14,none,none,none,none]
def c72_7:MCode:=.region [Yo (.bool false)] [Cs 6]
def c72_6:MCode:=.seq c72_7 .ret
def c72_5:MCode:=.cond (Cp 14) c72_6 .skip
def c72_3:MCode:=.seq c72_4 c72_5
def c72_10:MCode:=.region [Cm 0,Yl (Yq 0),Yp 0] [Cs 17,Cs 16,Cs 15]
def c72_14:MCode:=.region [Yh .lss (Cp 17) (Cp 16)] [Cs 18]
def c72_16:MCode:=.cond (Cp 18) .skip (.exit 0)
def c72_20:MCode:=.region [Cm 17,Ye 2 40 (Cp 15) (Cp 17),Yr 2 (Yq 0),Cr (.alloc (some [(.str []),.nilSlice])),Yn 3,Yk 2 (Yq 1) (Yq 2)] [none,Cs 7,Cs 8,none,none,none]
def c72_22:MCode:=.region [Cm 1,Cm 7,Ye 2 40 (Yq 1) (Yq 0),Yr 2 (Yq 0),Cr (.alloc (some [(.str []),.nilSlice])),Yk 2 (Yq 0) (Yq 1)] [none,Cs 9,none,none,none,none]
def c72_24:MCode:=.region [Cm 2,Yr 2 (Cp 8),Yr 2 (Cp 9),Cr (.call (Yq 2) [(Yq 1),(Yq 0)]),Cr (.un .not (Yq 0))] [Cs 30,none,none,none,none]
def c72_27:MCode:=.region [Yo (.bool false)] [Cs 6]
def c72_26:MCode:=.seq c72_27 .ret
def c72_25:MCode:=.cond (Cp 30) c72_26 .skip
def c72_23:MCode:=.seq c72_24 c72_25
def c72_21:MCode:=.seq c72_22 c72_23
def c72_19:MCode:=.seq c72_20 c72_21
def c72_18:MCode:=.block 1 c72_19
def c72_28:MCode:=.region [Yh .add (Cp 17) (Ck 1),C0] [Cs 17,none]
def c72_17:MCode:=.seq c72_18 c72_28
def c72_15:MCode:=.seq c72_16 c72_17
def c72_13:MCode:=.seq c72_14 c72_15
def c72_12:MCode:=.loop c72_13
def c72_11:MCode:=.block 0 c72_12
def c72_9:MCode:=.seq c72_10 c72_11
def c72_30:MCode:=.region [Yo (.bool true)] [Cs 6]
def c72_29:MCode:=.seq c72_30 .ret
def c72_8:MCode:=.seq c72_9 c72_29
def c72_2:MCode:=.seq c72_3 c72_8
def c72_0:MCode:=.seq c72_1 c72_2
theorem fi72:funInfo Tryd.prog 72 = some { code:=c72_0,ntmps:=32,nargs:=3,ps:=[30,9,8,2,7,15,18,16,17,14,1,0,6],res:=[.tmp 6] }:=by kernel_rfl
def c73_1:MCode:=.region [Cr (.box (Cp 0)),Cr (.box (Cp 1)),Yo (.bool false)] [Cs 4,Cs 3,Cs 2]
def c73_3:MCode:=.region [Yd 0 2,Ya 0,Yd 0 3,Ya 0,Yh .eql (Yq 2) (Yq 0),C0,Yj 0 (.fieldAddr (some 1) (Cp 2)),Yj 1 (.load (some none) (Yq 0)),Yj 2 (.fieldAddr (some 1) (Cp 3)),Yj 3 (.load (some none) (Yq 0)),Yj 4 (.call (.cst (.fn 39 [] [])) [(Yq 2),(Yq 0)]),Cr (.pick (Yq 5) (Yq 0) (.cst (.bool false))),C0] [Cs 4,none,none,none,none,none,none,none,none,none,none,none,none]
def c73_2:MCode:=.seq c73_3 .ret
def c73_0:MCode:=.seq c73_1 c73_2
theorem fi73:funInfo Tryd.prog 73 = some { code:=c73_0,ntmps:=17,nargs:=2,ps:=[3,2,1,0,4],res:=[.tmp 4] }:=by kernel_rfl
end Go.Proofs
end
section
open Go Go.AM
namespace Go.Proofs
set_option maxRecDepth 100000
theorem Zwd {s:St} {v w:AVal} {xs ys:List Int} {Q:AVal→St→Prop} (hv:Z0g s v xs) (hw:Z0g s w ys) (hx:xs.length ≤ 2 ^ 62) (q:Q (.bool (xs == ys)) s):Z0e Tryd.prog 39 [v,w] s Q:=by
 refine Z08 (Z0i (by decide)) fi39 rfl (by decide) rfl ?_
 refine Z00 ?_
 simp
 refine AM.wp_seq ?_
 refine Z00 ?_
 simp [hv.ntup,hw.ntup,hv.len,hw.len]
 refine AM.Z04 ?_
 by_cases hl:xs.length = ys.length
 ·have hl':(xs.length:Int) = ys.length:=by omega
  simp [hl,hl']
  refine AM.wp_skip ?_
  simp
  refine AM.wp_seq ?_
  refine Z00 ?_
  simp [hv.ntup,hv.len]
  refine AM.wp_block ?_
  refine AM.wp_loop (fun m t s' => ∃ j:Nat,j ≤ xs.length∧m = xs.length - j∧PT.get (posOf 0) t = some v∧PT.get (posOf 1) t = some w∧PT.get (posOf 12) t = some (.int .i64 xs.length)∧PT.get (posOf 13) t = some (.int .i64 j)∧s' = s∧xs.take j = ys.take j) xs.length
   ⟨0,by simp,by simp,by simp,by simp,by simp [hl],by simp,rfl,by simp⟩ ?_
  rintro m t s' ⟨j,hj,rfl,t0,t1,t12,t13,rfl,heq⟩
  refine Z00 ?_
  simp [t12,t13]
  refine AM.wp_seq ?_
  refine AM.Z04 ?_
  by_cases hlt:j < xs.length
  ·have hwr:IntKind.wrap .i64 ((j:Int) + 1) = ((j + 1:Nat):Int):=by rw [IntWalk.i64_in _ (by omega)]; omega
   obtain ⟨x,hxj⟩:∃ x,xs[j]? = some x:=⟨_,List.getElem?_eq_getElem hlt⟩
   obtain ⟨y,hyj⟩:∃ y,ys[j]? = some y:=⟨_,List.getElem?_eq_getElem (by omega)⟩
   rcases hv with ⟨_,e⟩ | ⟨b,o,c,cs,rfl,hb,hcs,hle,hel⟩
   ·rw [e] at hlt
    simp at hlt
   rcases hw with ⟨_,e⟩ | ⟨b',o',c',cs',rfl,hb',hcs',hle',hel'⟩
   ·rw [e] at hl
    simp at hl
    rw [hl] at hlt
    simp at hlt
   have hg:=hel j x hxj
   have hg':=hel' j y hyj
   have hlt':j < ys.length:=by omega
   simp [hlt]
   refine AM.wp_skip ?_
   simp
   refine AM.wp_seq ?_
   refine AM.wp_block ?_
   refine Z00 ?_
   simp [t13]
   refine Z00 ?_
   simp [t0,t1,hlt,hlt',hcs,hcs',hg,hg']
   refine AM.Z04 ?_
   by_cases hxy:x = y
   ·simp [hxy]
    refine AM.wp_skip ?_
    simp
    refine AM.wp_region ?_
    simp [t13,hwr]
    refine ⟨xs.length - (j + 1),by omega,j + 1,by omega,by omega,by simp [t0],by simp [t1],by simp [t12],by simp,?_⟩
    rw [List.take_add_one,List.take_add_one,hxj,hyj,heq,hxy]
   ·simp [hxy]
    refine Z00 ?_
    simp
    refine AM.wp_ret ?_
    simp
    have hne:(xs == ys) = false:=by
     have:xs ≠ ys:=by
      intro e
      rw [e,hyj] at hxj
      exact hxy (Option.some.inj hxj).symm
     simpa using this
    rw [hne] at q
    exact q
  ·simp [hlt]
   refine AM.wp_exit ?_
   simp
   have hje:j = xs.length:=by omega
   subst hje
   rw [List.take_length,hl,List.take_length] at heq
   refine Z00 ?_
   simp
   refine AM.wp_ret ?_
   simp
   have hee:(xs == ys) = true:=by simpa using heq
   rw [hee] at q
   exact q
 ·have hl':¬ (xs.length:Int) = ys.length:=by omega
  simp [hl,hl']
  refine Z00 ?_
  simp
  refine AM.wp_ret ?_
  simp
  have hne:(xs == ys) = false:=by
   have:xs ≠ ys:=fun e => hl (by rw [e])
   simpa using this
  rw [hne] at q
  exact q
structure Seen (s:St) (hb:Pos) (cs:List CV):Prop where
 ex:∃ p V vs,s.Old hb∧s.cells hb = some [.slice p 0 cs.length (.lim cs.length),vs]∧s.Old p∧s.cells p = some (encs (rcs cs V))∧V.length = cs.length∧1 ≤ cs.length∧cs.length ≤ 400∧∀ (i:Nat) (d:CV),cs[i]? = some d→∃ kv,V[i]? = some kv∧Z0g s kv d.kids
def Zep (c d:ND):Bool:=c.1 == d.1 && c.2 == d.2
theorem Zgb {c d:ND}:Zep c d = true ↔ c = d:=by
 obtain ⟨a,b⟩:=c
 obtain ⟨x,y⟩:=d
 simp [Zep]
theorem Zvj {s:St} {c d:ND} {kv kw:AVal} {Q:AVal→St→Prop} (hwf:s.Wf) (hv:Z0g s kv c.2) (hw:Z0g s kw d.2) (hx:c.2.length ≤ 1000)
  (q:∀ s',Keeps s s'→Q (.bool (Zep c d)) s'):Z0e Tryd.prog 73 [.agg [.str c.1,kv],.agg [.str d.1,kw]] s Q:=by
 have hvc:=hv.Z9f
 have hwc:=hw.Z9f
 have hvt:=hv.ntup
 have hwt:=hw.ntup
 refine Z08 (Z0i (by decide)) fi73 rfl (by decide) rfl ?_
 refine Z00 ?_
 simp [hvc,hwc,hvt,hwt]
 have c1:=(Ctx.start (fun _ => False) hwf).alloc (C [.str c.1,kv])
 generalize s.alloc (.cells [.str c.1,kv] false) = s1 at c1 ⊢
 generalize s.next = B2 at c1 ⊢
 have c2:=c1.alloc (C [.str d.1,kw])
 generalize s1.alloc (.cells [.str d.1,kw] false) = s2 at c2 ⊢
 generalize s1.next = B3 at c2 ⊢
 have k2:=c2.Z0h
 refine Z00 ?_
 by_cases h2:c.1 = d.1
 ·simp [c2.c 0 rfl,c2.c 1 rfl,h2,hvt,hwt]
  refine Z02 ?_
  refine Zwd (hv.keep k2) (hw.keep k2) (by omega) ?_
  simp
  refine AM.wp_ret ?_
  simp
  have:=q s2 k2
  simpa [Zep,h2] using this
 ·simp [c2.c 0 rfl,c2.c 1 rfl,h2]
  refine AM.wp_ret ?_
  simp
  have e:Zep c d = false:=by
   cases hh:Zep c d with
   | true => exact (h2 (congrArg Prod.fst (Zgb.1 hh))).elim
   | false => rfl
  exact e ▸ q s2 k2
theorem Zk7 {l:List ND} {j:Nat} {c:ND} (h:l[j]? = some c):l.take (j + 1) = l.take j ++ [c]:=by rw [List.take_add_one,h]; rfl
theorem Zvi {s:St} {nv nw:AVal} {cs ds:List ND} {Q:AVal→St→Prop} (hwf:s.Wf) (hN:Z1o s nv cs) (hM:Z1o s nw ds) (hl:cs.length ≤ 1000) (hl':ds.length ≤ 1000) (h4:∀ c ∈ cs,c.2.length ≤ 1000)
  (q:∀ s' b,Keeps s s'→(b = true ↔ cs = ds)→Q (.bool b) s'):Z0e Tryd.prog 72 [nv,nw,.fn 73 [] []] s Q:=by
 have hNt:=hN.ntup
 have hMt:=hM.ntup
 refine Z08 (Z0i (by decide)) fi72 rfl (by decide) rfl ?_
 refine Z00 ?_
 simp
 refine AM.wp_seq ?_
 refine Z00 ?_
 by_cases hle:cs.length = ds.length
 ·have hle':(cs.length:Int) = ds.length:=by omega
  simp [hle,hle',hN.len,hM.len,hNt,hMt]
  refine AM.Z04 ?_
  simp
  refine AM.wp_skip ?_
  simp
  refine AM.wp_seq ?_
  refine Z00 ?_
  simp [hN.len,hNt]
  refine AM.wp_block ?_
  refine AM.wp_loop (fun m t s' => ∃ j:Nat,j ≤ cs.length∧m = cs.length - j∧PT.get (posOf 1) t = some nw∧PT.get (posOf 2) t = some (.fn 73 [] [])∧PT.get (posOf 15) t = some nv∧PT.get (posOf 16) t = some (.int .i64 cs.length)∧PT.get (posOf 17) t = some (.int .i64 j)∧Keeps s s'∧cs.take j = ds.take j) cs.length
   ⟨0,by simp,by simp,by simp,by simp,by simp [hle],by simp [hle],by simp,Keeps.refl s,by simp⟩ ?_
  rintro m t s' ⟨j,hj,rfl,t1,t2,t15,t16,t17,hK,heq⟩
  refine Z00 ?_
  simp [t16,t17]
  refine AM.wp_seq ?_
  refine AM.Z04 ?_
  by_cases hlt:j < cs.length
  ·have hwr:IntKind.wrap .i64 ((j:Int) + 1) = ((j + 1:Nat):Int):=by rw [IntWalk.i64_in _ (by omega)]; omega
   have hlt':j < ds.length:=by omega
   have hcj:cs[j]? = some cs[j]:=List.getElem?_eq_getElem hlt
   have hdj:ds[j]? = some ds[j]:=List.getElem?_eq_getElem hlt'
   rcases hN with ⟨_,e0⟩ | ⟨bn,on,cn,cellsn,rfl,hbn,hcsn,hlen,heln⟩
   ·rw [e0] at hlt
    simp at hlt
   rcases hM with ⟨_,e0⟩ | ⟨bm,om,cm,cellsm,rfl,hbm,hcsm,hlem,helm⟩
   ·rw [e0] at hlt'
    simp at hlt'
   obtain ⟨g1,kv,g2,g3⟩:=heln j _ hcj
   obtain ⟨f1,kw,f2,f3⟩:=helm j _ hdj
   obtain ⟨sg,sl⟩:=seg2 g1 g2
   obtain ⟨sg',sl'⟩:=seg2 f1 f2
   have mn1:min 2 (cellsn.length - (on + j * 2)) = 2:=by omega
   have mn2:min 2 (cellsm.length - (om + j * 2)) = 2:=by omega
   have hpc:s'.cells bn = some cellsn:=(hK.cells hbn).trans hcsn
   have hpc':s'.cells bm = some cellsm:=(hK.cells hbm).trans hcsm
   generalize hA:cs[j] = A at sg hcj g3
   generalize hD:ds[j] = D at sg' hdj f3
   simp [hlt]
   refine AM.wp_skip ?_
   simp
   refine AM.wp_seq ?_
   refine AM.wp_block ?_
   refine Z00 ?_
   simp [t15,t17,hlt,hpc,sl,mn1,sg]
   have hw':=hK.wf hwf
   have c1:=((Ctx.start (fun _ => False) hw').alloc (C [.str [],.nilSlice])).put 0 rfl (C [.str A.1,kv])
   simp only [List.set_cons_zero] at c1
   generalize (s'.alloc (.cells [.str [],.nilSlice] false)).put s'.next (.cells [.str A.1,kv] false) = s1 at c1 ⊢
   generalize s'.next = B8 at c1 ⊢
   have k1':=c1.Z0h
   refine Z00 ?_
   simp [t1,hlt',(k1'.cells (hK.old hbm)).trans hpc',sl',mn2,sg']
   have c2:=(c1.alloc (C [.str [],.nilSlice])).put 0 rfl (C [.str D.1,kw])
   simp only [List.set_cons_zero] at c2
   generalize (s1.alloc (.cells [.str [],.nilSlice] false)).put s1.next (.cells [.str D.1,kw] false) = s2 at c2 ⊢
   generalize s1.next = B9 at c2 ⊢
   have k2':=c2.Z0h
   refine Z00 ?_
   simp [t2,c2.c 0 rfl,c2.c 1 rfl]
   refine Z02 ?_
   refine Zvj (c:=A) (d:=D) c2.wf ((g3.keep hK).keep k2') ((f3.keep hK).keep k2') (h4 A (List.mem_of_getElem? hcj)) fun s3 k3 => ?_
   have hK3:=(hK.trans k2').trans k3
   simp
   refine AM.Z04 ?_
   cases hs:Zep A D with
   | true =>
    simp
    refine AM.wp_skip ?_
    simp
    refine AM.wp_region ?_
    simp [t17,hwr]
    refine ⟨cs.length - (j + 1),by omega,j + 1,by omega,by omega,by simp [t1],by simp [t2],by simp [t15],by simp [t16],by simp,hK3,?_⟩
    rw [Zk7 hcj,Zk7 hdj,heq,Zgb.1 hs]
   | false =>
    simp
    refine Z00 ?_
    simp
    refine AM.wp_ret ?_
    simp
    refine q s3 false hK3 ⟨fun h => (by cases h),fun e => ?_⟩
    rw [e,hdj] at hcj
    rw [← Option.some.inj hcj] at hs
    rw [Zgb.2 rfl] at hs
    cases hs
  ·simp [hlt]
   refine AM.wp_exit ?_
   simp
   have hje:j = cs.length:=by omega
   subst hje
   rw [List.take_length,hle,List.take_length] at heq
   refine Z00 ?_
   simp
   refine AM.wp_ret ?_
   simp
   exact q s' true hK ⟨fun _ => heq,fun _ => rfl⟩
 ·have hle':¬ (cs.length:Int) = ds.length:=by omega
  simp [hle,hle',hN.len,hM.len,hNt,hMt]
  refine AM.Z04 ?_
  simp
  refine Z00 ?_
  simp
  refine AM.wp_ret ?_
  simp
  exact q s false (Keeps.refl s) ⟨fun h => (by cases h),fun e => (hle (by rw [e])).elim⟩
theorem Zvh {s:St} {nv nw:AVal} {cs ds:List ND} {r1 r2:Int} {Q:AVal→St→Prop} (hwf:s.Wf) (hN:Z1o s nv cs) (hM:Z1o s nw ds) (hl:cs.length ≤ 1000) (hl':ds.length ≤ 1000) (h4:∀ c ∈ cs,c.2.length ≤ 1000)
  (q:∀ s' b,Keeps s s'→(b = true ↔ r1 = r2∧cs = ds)→Q (.bool b) s'):Z0e Tryd.prog 24 [.agg [nv,.int .i64 r1],.agg [nw,.int .i64 r2]] s Q:=by
 have hNt:=hN.ntup
 have hMt:=hM.ntup
 have hNc:=hN.Z9f
 have hMc:=hM.Z9f
 refine Z08 (Z0i (by decide)) fi24 rfl (by decide) rfl ?_
 refine Z00 ?_
 simp [hNt,hMt,hNc,hMc]
 have c1:=(Ctx.start (fun _ => False) hwf).alloc (C [nv,.int .i64 r1])
 generalize s.alloc (.cells [nv,.int .i64 r1] false) = s1 at c1 ⊢
 generalize s.next = B2 at c1 ⊢
 have c2:=c1.alloc (C [nw,.int .i64 r2])
 generalize s1.alloc (.cells [nw,.int .i64 r2] false) = s2 at c2 ⊢
 generalize s1.next = B3 at c2 ⊢
 have k2:=c2.Z0h
 refine Z00 ?_
 by_cases h1:r1 = r2
 ·simp [c2.c 0 rfl,c2.c 1 rfl,h1,hNt,hMt]
  refine Z02 ?_
  refine Zvi c2.wf (hN.keep k2) (hM.keep k2) hl hl' h4 fun s3 b k3 hb => ?_
  cases b with
  | true =>
   simp
   refine AM.wp_ret ?_
   simp
   exact q s3 true (k2.trans k3) ⟨fun _ => ⟨h1,hb.1 rfl⟩,fun _ => rfl⟩
  | false =>
   simp
   refine AM.wp_ret ?_
   simp
   exact q s3 false (k2.trans k3) ⟨fun h => (by cases h),fun h => hb.2 h.2⟩
 ·simp [c2.c 0 rfl,c2.c 1 rfl,h1]
  refine AM.wp_ret ?_
  simp
  exact q s2 false k2 ⟨fun h => (by cases h),fun h => (h1 h.1).elim⟩
theorem Zvp (bs:List Int) (n:Int) {cs:List CV} (hG:HG cs) (k:SK):tot (Z82 bs n cs k).1 ≤ tot cs + 1:=by
 obtain ⟨a,ha,h⟩:=Zab bs n cs k
 rcases h with ⟨_,t,ht,e⟩ | ⟨_,_,x,y,z,hx,hy,hz,e⟩ | ⟨_,_,_,x,hx,e⟩ | ⟨_,_,_,m,kk,d,w,hm,hk,hd,hw,e⟩
 ·rw [e]
  have:=(Zr5 hG t.1.1 t.1.2).tot hG
  simp only
  omega
 ·rw [e]
  have:=Zxk cs x.1 y.1 z.1
  simp only
  omega
 ·rw [e]
  exact Zui hG x.1
 ·rw [e]
  have:=(Zuv hG ((nm6[(kk * 2 + w.1).toNat]?).getD []) d.1).tot hG
  simp only
  omega
theorem Zhr (bs:List Int) (n:Int) {cs:List CV} (hG:HG cs):∀ (i:Nat) (k:SK),tot (Z2s bs n i (cs,k)).1 ≤ tot cs + i
 | 0,k => by
  show tot cs ≤ _
  omega
 | i + 1,k => by
  have h1:=Zhr bs n hG i k
  have h2:=Zvp bs n (Zbl bs n hG i k).1 (Z2s bs n i (cs,k)).2
  rw [Z9d]
  omega
theorem Znj:∀ n:Nat,tot (List.replicate n Z2m) = 0
 | 0 => rfl
 | n + 1 => by
  rw [List.replicate_succ]
  simp only [tot,Znj n]
  rfl
theorem Zpo (bs:List Int) {cells:Int} (h4:4 ≤ cells) (h24:cells ≤ 24) (k:SK):tot (Z8p bs cells k).1 ≤ 1000:=by
 obtain ⟨a,b,ha,hb,e⟩:=Ze8 bs cells k
 have h1:=Z46 bs 4 cells k
 rw [← ha] at h1
 have h2:=Z2v bs (2 * a.1) a.2
 rw [← hb] at h2
 rw [e]
 have:=Zhr bs a.1 (Zkj a.1.toNat) b.1.toNat b.2
 rw [Znj] at this
 omega
section
variable {s:St} {Q:AVal→St→Prop}
theorem Zir (bs:List Int):(Z9e bs).nx = 0:=by
 unfold Z9e
 rfl
end
theorem Zb9 {ns:List ND} (hO:GrOk ns) (hnm:∀ nd ∈ ns,Z1x nd.1 = true):Zbo ns:=by
 intro nd hnd
 have h1:=(hO nd hnd).1
 have h2:=hnm nd hnd
 refine ⟨?_,by omega⟩
 unfold Z1x at h2
 simp at h2
 omega
section
variable {s0 s:St} {W:Pos→Prop} {r:Lets} {t0:PT AVal} {fr:FI}
theorem Zt4 {Q:Ex→PT AVal→St→Prop} {hb:Pos} {cs:List CV} {m:Lets} (hG:HG cs) (hT:Zaf cs) (hl:cs.length ≤ 60) (hH:Z2t hb .nilSlice cs m) (hc:Ctx s0 W (m ++ r) s)
  (u7:PT.get (posOf 7) t0 = some (.ptr hb 0)) (q:∀ t s',Q .normal t s'):wp Tryd.prog c4_55 fr t0 s Q:=by
 have hsz:Z1h cs ≤ cs.length:=List.countP_le_length
 have hsum:(Z1h cs:Int) + ((cs.length - Z1h cs:Nat):Int) = (cs.length:Int):=by omega
 have hw:IntKind.wrap .i64 (cs.length:Int) = (cs.length:Int):=IntWalk.i64_in _ (by omega)
 refine Z00 ?_
 simp [u7]
 refine Z02 ?_
 refine Zgd hH hc fun s1 c1 => ?_
 simp [u7]
 refine Z02 ?_
 refine Znh hH c1 fun s2 c2 => ?_
 generalize ((cs.length - Z1h cs:Nat):Int) = fz at hsum ⊢
 simp [hsum,hw]
 refine AM.wp_block ?_
 refine AM.wp_loop (fun x t s' => ∃ (i:Nat) (r':Lets),i ≤ cs.length∧x = cs.length - i∧PT.get (posOf 7) t = some (.ptr hb 0)∧PT.get (posOf 178) t = some (.int .i64 cs.length)∧PT.get (posOf 179) t = some (.int .i64 i)∧(∃ m',Z2t hb .nilSlice cs m'∧Ctx s0 W (m' ++ r') s')) cs.length
  ⟨0,r,by simp,by simp,by simp [u7],by simp,by simp,m,hH,c2⟩ ?_
 rintro x t s' ⟨i,r',hi,rfl,t7,t178,t179,m',hH',d⟩
 refine Z00 ?_
 simp [t178,t179]
 refine AM.wp_seq ?_
 refine AM.Z04 ?_
 by_cases hlt:i < cs.length
 ·have hwr:IntKind.wrap .i64 ((i:Int) + 1) = ((i + 1:Nat):Int):=by rw [IntWalk.i64_in _ (by omega)]; omega
  simp [hlt]
  refine AM.wp_skip ?_
  simp
  refine AM.wp_seq ?_
  refine AM.wp_block ?_
  refine Z00 ?_
  simp [t179]
  refine Z00 ?_
  simp [t7]
  refine Z02 ?_
  refine get_c hH' d hG.ok fun nv mn s3 hN d1 => ?_
  have hNt:=hN.ntup
  have hNc:=hN.cells
  cases htk:Z06 cs (i:Int) with
  | false =>
   rw [Zzn htk] at hN ⊢
   simp [hNt,hNc]
   have d2:=(d1.alloc (C [.nilSlice,.int .i64 0])).put 0 rfl (C [nv,.int .i64 0])
   simp only [List.set_cons_zero] at d2
   generalize (s3.alloc (.cells [.nilSlice,.int .i64 0] false)).put s3.next (.cells [nv,.int .i64 0] false) = s4 at d2 ⊢
   generalize s3.next = B29 at d2 ⊢
   refine AM.wp_seq ?_
   refine Z00 ?_
   simp
   refine AM.Z04 ?_
   simp
   refine AM.wp_exit ?_
   simp
   refine AM.wp_region ?_
   simp [t179,hwr]
   refine ⟨cs.length - (i + 1),by omega,i + 1,by omega,by omega,by simp [t7],by simp [t178],by simp,?_⟩
   exact ⟨(B29,C [nv,.int .i64 0]) :: (mn ++ r'),m',hH',d2.perm (Z0o fun x => by
    simp only [Z0j,Z0k]
    omega)⟩
  | true =>
   rw [Zqq hG hl htk] at hN ⊢
   obtain ⟨g1,g2,g3,g4⟩:=Zca hG hl htk
   have hlab:=Zsc hG.ok htk
   have hz:=Zc3 (root:=0) g1 g2 g3 g4 (by omega) (by omega)
   obtain ⟨hput,_⟩:=Zg9 hG hz hT htk hlab.symm
   simp only at hN
   simp [hNt,hNc]
   have d2:=(d1.alloc (C [.nilSlice,.int .i64 0])).put 0 rfl (C [nv,.int .i64 0])
   simp only [List.set_cons_zero] at d2
   generalize (s3.alloc (.cells [.nilSlice,.int .i64 0] false)).put s3.next (.cells [nv,.int .i64 0] false) = s4 at d2 ⊢
   generalize s3.next = B29 at d2 ⊢
   refine AM.wp_seq ?_
   refine Z00 ?_
   simp
   refine AM.Z04 ?_
   simp
   refine AM.wp_skip ?_
   simp
   refine Z00 ?_
   simp [t7,d2.c 0 rfl]
   refine Z02 ?_
   have d3:=d2.perm (m':=m' ++ ((B29,C [nv,.int .i64 0]) :: (mn ++ r'))) (Z0o fun x => by
    simp only [Z0j,Z0k]
    omega)
   have hNA:Z7b s4 nv (Z3z cs i):=hN.at0 (d2.sub (m':=mn) ((List.sublist_append_left mn _).trans (List.sublist_cons_self _ _)))
   refine Zmr hH' d3 hG.ok.toHOk hNA (Zb9 g1 g4) (by omega) fun m2 s5 hH2 d4 => ?_
   rw [hput] at hH2 ⊢
   simp
   refine Z00 ?_
   simp
   refine AM.Z04 ?_
   simp
   refine AM.wp_skip ?_
   simp
   refine AM.wp_region ?_
   simp [t179,hwr]
   exact ⟨cs.length - (i + 1),by omega,i + 1,by omega,by omega,by simp [t7],by simp [t178],by simp,_,m2,hH2,d4⟩
 ·simp [hlt]
  refine AM.wp_exit ?_
  simp
  exact q _ _
end
section
variable {s0 s:St} {W:Pos→Prop} {r:Lets} {t0:PT AVal} {fr:FI}
theorem Zu9 {ns ns2:List ND} {root root2:Int} (h:Dbl ns root ns2 root2) (hz:Z0z ns root = 0) (h30:ns.length ≤ 30):Z0z ns2 root2 = 0∧GrOk ns2∧(∀ nd ∈ ns2,Z1x nd.1 = true):=by
 obtain ⟨o1,o2,hGO,hnm,r0,r1⟩:=Z6g hz
 have hl:=h.len
 have hO:GrOk ns2:=by
  intro nd hnd
  obtain ⟨a,ha,rfl⟩:=List.getElem_of_mem hnd
  obtain ⟨i,y,e1,e2,e3⟩:=h.node a _ (List.getElem?_eq_getElem ha)
  refine ⟨by rw [e3]; exact (hGO y (List.mem_of_getElem? e1)).1,fun k hk => ?_⟩
  have:=h.kids a _ (List.getElem?_eq_getElem ha) k hk
  omega
 have hN:∀ nd ∈ ns2,Z1x nd.1 = true:=by
  intro nd hnd
  obtain ⟨a,ha,rfl⟩:=List.getElem_of_mem hnd
  obtain ⟨i,y,e1,e2,e3⟩:=h.node a _ (List.getElem?_eq_getElem ha)
  rw [e2]
  exact hnm y (List.mem_of_getElem? e1)
 exact ⟨Zc3 hO (by omega) (by omega) hN h.root0 h.rootl,hO,hN⟩
theorem Zkb {Q:Ex→PT AVal→St→Prop} {bv3:AVal} {bs3:List Int} {hb B11:Pos} {cs:List CV} {m mn:Lets} {nv:AVal} {ns:List ND} {root:Int} {a z:Nat} (hB3:Z29 s0 W bv3 bs3) (hG:HG cs) (hT:Zaf cs) (hl:cs.length ≤ 60) (hH:Z2t hb .nilSlice cs m)
  (hN:Z3n nv ns mn) (hz:Z0z ns root = 0) (h30:ns.length ≤ 30) (ha:Z06 cs (a:Int) = true) (hlab:lb cs a = lab ns root.toNat) (hz1:z ≤ Z1h cs) (hz2:Z1h cs ≤ z + (Z0v ns root.toNat).length)
  (hc:Ctx s0 W (m ++ ((B11,C [nv,.int .i64 root]) :: (mn ++ r))) s)
  (u2:PT.get (posOf 2) t0 = some bv3) (u7:PT.get (posOf 7) t0 = some (.ptr hb 0)) (u11:PT.get (posOf 11) t0 = some (.ptr B11 0)) (u13:PT.get (posOf 13) t0 = some (.int .i64 z)) (u14:PT.get (posOf 14) t0 = some (.int .i64 a)) (u15:PT.get (posOf 15) t0 = some (.int .i64 0))
  (q:∀ t s',PT.get (posOf 6) t = some (.bool true)→Q .ret t s'):wp Tryd.prog c4_32 fr t0 s Q:=by
 have hbt3:=hB3.ntup
 have hNt:=hN.ntup
 have hNc:=hN.cells
 obtain ⟨o1,o2,hGO,hnm,r0,r1⟩:=Z6g hz
 have hsm:=Zb9 hGO hnm
 refine Z00 ?_
 have hB11:s.cells B11 = some [nv,.int .i64 root]:=Z0a (Z0y (hc.own (B11,C [nv,.int .i64 root]) (by simp)))
 simp [u2,u7,u11,hB11]
 refine Z02 ?_
 refine Znc hB3 hc fun Bs s1 c1 => ?_
 have hB11':s1.cells B11 = some [nv,.int .i64 root]:=Z0a (Z0y (c1.own (B11,C [nv,.int .i64 root]) (by simp)))
 have hnv8:Z27 8 (.agg [nv,.int .i64 root]) (.agg [nv,.int .i64 root]) = true:=by
  rcases hN with ⟨_,rfl,_⟩ | ⟨q',V,mr,_,rfl,_⟩
  ·simp [Z27]
  ·simp [Z27,Zb8]
 simp [u11,hB11',hnv8]
 refine Z02 ?_
 have hnx0:=Zir bs3
 have c2:=c1.perm (m':=(Bs,Z0p bv3 (Z9e bs3)) :: (mn ++ (m ++ ((B11,C [nv,.int .i64 root]) :: r)))) (Z0o fun x => by
  simp only [Z0j,Z0k]
  omega)
 refine Zub hB3 (by omega) hN o1 h30 hGO r0 r1 c2 fun Bn ns2 root2 m2 k' s2 hD hQ c3 => ?_
 obtain ⟨hz',hO',hnm'⟩:=Zu9 hD hz h30
 have hne2:ns2 ≠ []:=by
  intro e
  have:=hD.len
  rw [e] at this
  simp at this
  omega
 have hl2:=hD.len
 obtain ⟨hput,_⟩:=Zg9 hG hz' hT ha (hlab.trans hD.lab.symm)
 simp
 refine Z02 ?_
 have c4:=c3.perm (m':=m ++ (m2 ++ ((Bs,Z0p bv3 k') :: (mn ++ ((B11,C [nv,.int .i64 root]) :: r))))) (Z0o fun x => by
  simp only [Z0j,Z0k]
  omega)
 refine Zmr hH c4 hG.ok.toHOk (hQ.at0 _ (c3.sub (List.sublist_append_left _ _)) hne2) (Zb9 hO' hnm') (by omega) fun m3 s3 hH3 c5 => ?_
 rw [hput] at hH3 ⊢
 simp only at hH3
 simp
 have c6:Ctx s0 W (m3 ++ ((B11,C [nv,.int .i64 root]) :: (mn ++ r))) s3:=(c5.perm (m':=(m2 ++ [(Bs,Z0p bv3 k')]) ++ (m3 ++ ((B11,C [nv,.int .i64 root]) :: (mn ++ r)))) (Z0o fun x => by
  simp only [Z0j,Z0k,Z1e]
  omega)).sub (List.sublist_append_right _ _)
 clear c1 c2 c3 c4 c5 hc hB11 hB11' hQ hH
 have hmn:∀ {X:Lets} {s':St},Ctx s0 W (X ++ ((B11,C [nv,.int .i64 root]) :: (mn ++ r))) s'→Ctx s0 W mn s':=fun d => d.sub ((List.sublist_append_left mn r).trans ((List.sublist_cons_self _ _).trans (List.sublist_append_right _ _)))
 obtain ⟨_,hfind⟩:=Zg9 hG hz hT ha hlab
 refine Z00 ?_
 have hB11:s3.cells B11 = some [nv,.int .i64 root]:=Z0a (Z0y (c6.own (B11,C [nv,.int .i64 root]) (by simp)))
 simp [u7,u11,hB11]
 refine Z02 ?_
 refine Zug hH3 c6 hG.ok.toHOk (hN.at0 (hmn c6)) hsm (by omega) fun s4 k4 => ?_
 have c7:=c6.keeps k4
 rw [hfind]
 simp
 refine Z00 ?_
 simp [u7,u14]
 refine Z02 ?_
 refine get_c hH3 c7 hG.ok fun nv2 mn2 s5 hN2 c8 => ?_
 rw [Zqq hG hl ha] at hN2 ⊢
 have hN2t:=hN2.ntup
 have hN2c:=hN2.cells
 simp only at hN2
 simp [hN2t,hN2c]
 have c9:=(c8.alloc (C [.nilSlice,.int .i64 0])).put 0 rfl (C [nv2,.int .i64 0])
 simp only [List.set_cons_zero] at c9
 generalize (s5.alloc (.cells [.nilSlice,.int .i64 0] false)).put s5.next (.cells [nv2,.int .i64 0] false) = s6 at c9 ⊢
 generalize s5.next = B22 at c9 ⊢
 refine Z00 ?_
 have hB11:s6.cells B11 = some [nv,.int .i64 root]:=Z0a (Z0y (c9.own (B11,C [nv,.int .i64 root]) (by simp)))
 simp [u11,hB11]
 refine Z02 ?_
 have c9':=c9.perm (m':=((B22,C [nv2,.int .i64 0]) :: (mn2 ++ m3)) ++ ((B11,C [nv,.int .i64 root]) :: (mn ++ r))) (Z0o fun x => by
  simp only [Z0j,Z0k]
  omega)
 refine Zi9 c9.wf (hN.at0 (hmn c9')) hsm (by omega) (fun s7 k7 hzz => (hzz hz).elim) fun Bl ml s7 _ hQl dl => ?_
 have hgl:=Zf0 (cs:=cs) (ns:=ns) hG.ok hGO ha (by omega) hlab
 have hlen:=(Z5n (r:=root.toNat) hGO (by omega)).2
 have hgo:=(Zca hG hl ha).1
 rw [hgl] at hN2 hgo
 generalize Z0v ns root.toNat = L at hQl hN2 hlen hz2 hgo ⊢
 have hLne:L ≠ []:=by
  intro e
  rw [e] at hlen
  simp at hlen
 have c10:Ctx s0 W (ml ++ ((B22,C [nv2,.int .i64 0]) :: (mn2 ++ (m3 ++ ((B11,C [nv,.int .i64 root]) :: (mn ++ r)))))) s7:=Ctx.on (m:=[]) (by simpa using c9) (by simpa using dl)
 simp
 have c11:=(c10.alloc (C [.nilSlice,.int .i64 0])).put 0 rfl (C [.slice Bl 0 L.length (.lim L.length),.int .i64 0])
 simp only [List.set_cons_zero] at c11
 generalize (s7.alloc (.cells [.nilSlice,.int .i64 0] false)).put s7.next (.cells [.slice Bl 0 L.length (.lim L.length),.int .i64 0] false) = s8 at c11 ⊢
 generalize s7.next = B24 at c11 ⊢
 have hsz60:Z1h cs ≤ cs.length:=List.countP_le_length
 have hl8:Z27 8 (.slice Bl 0 L.length (.lim L.length)) (.slice Bl 0 L.length (.lim L.length)) = true:=by simp [Z27,Zb8]
 have hw1:IntKind.wrap .i64 ((z:Int) + (L.length:Int)) = (z:Int) + (L.length:Int):=IntWalk.i64_in _ (by omega)
 have hA1:¬ (Z1h cs:Int) < (z:Int):=by omega
 have hA2:¬ Z1h cs < z:=by omega
 have hA3:¬ (z:Int) + (L.length:Int) < (Z1h cs:Int):=by omega
 have hB22:s8.cells B22 = some [nv2,.int .i64 0]:=Z0a (Z0y (c11.own (B22,C [nv2,.int .i64 0]) (by simp)))
 refine AM.wp_seq ?_
 refine Z00 ?_
 simp [u14,u15,hB22,c11.c 0 rfl]
 refine Z02 ?_
 have e1:Ctx s0 W mn2 s8:=c11.sub (((List.sublist_append_left mn2 _).trans (List.sublist_cons_self _ _)).trans ((List.sublist_append_right ml _).trans (List.sublist_cons_self _ _)))
 have e2:Ctx s0 W ml s8:=c11.sub ((List.sublist_append_left ml _).trans (List.sublist_cons_self _ _))
 refine Zvh c11.wf (hN2.at e1) (hQl.at _ e2) (by omega) (by omega) (fun c hc => by
  have:=(hgo c hc).1
  omega) fun s9 b k9 hbb => ?_
 have hbt:b = true:=hbb.2 ⟨rfl,rfl⟩
 subst hbt
 have c12:=c11.keeps k9
 have c13:=c12.perm (m':=m3 ++ ((B24,C [.slice Bl 0 L.length (.lim L.length),.int .i64 0]) :: (ml ++ ((B22,C [nv2,.int .i64 0]) :: (mn2 ++ ((B11,C [nv,.int .i64 root]) :: (mn ++ r))))))) (Z0o fun x => by
  simp only [Z0j,Z0k]
  omega)
 simp [u7,u13]
 refine Z02 ?_
 refine Zgd hH3 c13 fun s10 c14 => ?_
 have hB24:∀ {s':St},Ctx s0 W (m3 ++ ((B24,C [.slice Bl 0 L.length (.lim L.length),.int .i64 0]) :: (ml ++ ((B22,C [nv2,.int .i64 0]) :: (mn2 ++ ((B11,C [nv,.int .i64 root]) :: (mn ++ r))))))) s'→s'.cells B24 = some [.slice Bl 0 L.length (.lim L.length),.int .i64 0]:=fun d => Z0a (Z0y (d.own (B24,C [.slice Bl 0 L.length (.lim L.length),.int .i64 0]) (by simp)))
 simp [u7,u13,hA1,hA2,hB24 c14,hw1]
 refine Z02 ?_
 refine Zgd hH3 c14 fun s11 c15 => ?_
 simp [hB24 c15,hl8,hw1,hA3]
 refine AM.Z04 ?_
 simp
 refine AM.wp_skip ?_
 simp
 refine AM.wp_seq ?_
 refine Z00 ?_
 simp [u7]
 refine Z02 ?_
 refine tight_c hH3 c15 hG.ok.toHOk fun s12 c16 => ?_
 rw [Zxl hG.ok.toHOk hT]
 simp
 refine Z00 ?_
 simp
 refine AM.Z04 ?_
 simp
 refine AM.wp_skip ?_
 simp
 refine AM.wp_seq ?_
 refine Zt4 hG hT hl hH3 c16 (by simp [u7]) fun t s13 => ?_
 simp only [andThen]
 refine Z00 ?_
 simp
 refine Z02 ?_
 refine Zev Zm0 ?_
 simp
 refine AM.wp_ret ?_
 refine q _ _ (by simp)
end
section
variable {s:St} {Q:AVal→St→Prop}
theorem Zt5 {bv1 bv2 bv3:AVal} {bs1 bs2 bs3:List Int} (hw:s.Wf) (hB1:Z29 s (fun _ => False) bv1 bs1) (hB2:Z29 s (fun _ => False) bv2 bs2) (hB3:Z29 s (fun _ => False) bv3 bs3) (q:∀ s',Q (.bool true) s'):Z0e Tryd.prog 4 [bv1,bv2,bv3] s Q:=by
 have hbt1:=hB1.ntup
 have hbt2:=hB2.ntup
 have hbt3:=hB3.ntup
 have c0:=Ctx.start (fun _ => False) hw
 refine Z08 (Z0i (by decide)) fi4 rfl (by decide) rfl ?_
 refine Z00 ?_
 simp
 refine Z00 ?_
 simp
 refine Z02 ?_
 refine Znc hB1 c0 fun B1 s1 c1 => ?_
 simp
 refine Z02 ?_
 refine Zwf hB1 c1 (by rw [Zir]; decide) (by decide) (by decide) fun hb m s2 hH c2 => ?_
 obtain ⟨hG,hl4,hl20⟩:=Zs2 bs1 (cells:=24) (by decide) (Z9e bs1)
 have htot:=Zpo bs1 (cells:=24) (by decide) (by decide) (Z9e bs1)
 generalize Z8p bs1 24 (Z9e bs1) = F at hH c2 hG hl4 hl20 htot
 have c3:=c2.sub (m':=m ++ []) (List.sublist_cons_self _ _)
 simp
 refine AM.wp_seq ?_
 refine Z00 ?_
 simp
 refine AM.Z04 ?_
 simp
 refine AM.wp_skip ?_
 simp
 refine AM.wp_seq ?_
 refine Z00 ?_
 simp
 refine Z02 ?_
 obtain ⟨many,cs,hmrg,hM⟩:=Zpu hG (by omega) htot
 have hT:=hM.tight hG.ok.toHOk
 have hG1:=hM.good
 have hl1:cs.length = F.1.length:=hM.len
 refine merge_c hH c3 hG.ok.toHOk fun m1 s3 hH1 c4 => ?_
 rw [hmrg] at hH1 ⊢
 simp only at hH1
 simp
 refine Z00 ?_
 simp
 refine AM.Z04 ?_
 simp
 refine AM.wp_skip ?_
 simp
 refine Z00 ?_
 simp
 refine Z02 ?_
 refine Znc hB2 c4 fun B2 s4 c5 => ?_
 simp
 refine Z02 ?_
 have hnx2:=Zir bs2
 obtain ⟨hGO,hnm,n1,n5,r0,r1⟩:=Zp7 bs2 (nodes:=5) (by decide) (Z9e bs2)
 refine Zvu hB2 c5 (by omega) (by decide) (by decide) fun nv mn s5 hN c6 => ?_
 generalize Z5u bs2 5 (Z9e bs2) = T at hGO hnm n1 n5 r0 r1 hN c6
 have hnt:=hN.ntup
 have hnc:=hN.cells
 have hz:=Zc3 hGO n1 (by omega) (fun nd h => (hnm nd h).1) r0 r1
 have hsm:=Zb9 hGO fun nd h => (hnm nd h).1
 simp [hnt,hnc]
 have c7:=(c6.alloc (C [.nilSlice,.int .i64 0])).put 0 rfl (C [nv,.int .i64 T.1.2])
 simp only [List.set_cons_zero] at c7
 generalize (s5.alloc (.cells [.nilSlice,.int .i64 0] false)).put s5.next (.cells [nv,.int .i64 T.1.2] false) = s6 at c7 ⊢
 generalize s5.next = B11 at c7 ⊢
 have c8:Ctx s (fun _ => False) (m1 ++ ((B11,C [nv,.int .i64 T.1.2]) :: (mn ++ []))) s6:=(c7.perm (m':=[(B2,Z0p bv2 T.2)] ++ (m1 ++ ((B11,C [nv,.int .i64 T.1.2]) :: (mn ++ [])))) (Z0o fun x => by
  simp only [Z0j,Z0k,Z1e]
  omega)).sub (List.sublist_append_right _ _)
 have hmn:∀ {X:Lets} {s':St},Ctx s (fun _ => False) (X ++ ((B11,C [nv,.int .i64 T.1.2]) :: (mn ++ []))) s'→Ctx s (fun _ => False) mn s':=fun d => d.sub ((List.sublist_append_left mn []).trans ((List.sublist_cons_self _ _).trans (List.sublist_append_right _ _)))
 have hBr:∀ {X:Lets} {s':St},Ctx s (fun _ => False) (X ++ ((B11,C [nv,.int .i64 T.1.2]) :: (mn ++ []))) s'→s'.cells B11 = some [nv,.int .i64 T.1.2]:=fun d => Z0a (Z0y (d.own (B11,C [nv,.int .i64 T.1.2]) (by simp)))
 clear c0 c1 c2 c3 c4 c5 c6 c7
 have hsz:Z1h cs ≤ cs.length:=List.countP_le_length
 refine Z00 ?_
 simp
 refine Z02 ?_
 refine Znh hH1 c8 fun s7 c9 => ?_
 simp
 refine Z02 ?_
 refine Zgd hH1 c9 fun s8 c10 => ?_
 simp
 refine Z00 ?_
 simp [hBr c10]
 refine Z02 ?_
 have hput:=Zg8 hG1 hz
 refine Zmr hH1 c10 hG1.ok.toHOk (hN.at0 (hmn c10)) hsm (by omega) fun m2 s9 hH2 c11 => ?_
 have hlen:=(Z5n (r:=T.1.2.toNat) hGO (by omega)).2
 rcases hput with ⟨hx,hno,hs⟩ | ⟨a,hx,ha,hlab,_⟩ | ⟨a,f,c,hx,hp,hf,ha,hlab,hno,hs1,hs2⟩
 ·rw [hx] at hH2 ⊢
  simp only at hH2
  simp
  refine AM.wp_seq ?_
  refine Z00 ?_
  simp
  refine AM.Z04 ?_
  simp
  refine Z00 ?_
  simp [hBr c11]
  refine Z02 ?_
  refine Zug hH2 c11 hG1.ok.toHOk (hN.at0 (hmn c11)) hsm (by omega) fun s10 k10 => ?_
  have c12:=c11.keeps k10
  have hfn:=Zwg hG1.ok.toHOk hz hno
  generalize findF cs T.1.1 T.1.2 = fx at hfn ⊢
  rw [hfn]
  simp
  have hfl:(cs.length - Z1h cs) < T.1.1.length:=by omega
  have hfl':(((cs.length - Z1h cs:Nat):Int)) < (T.1.1.length:Int):=by omega
  have hnl:=hN.len
  refine Z00 ?_
  simp
  refine Z02 ?_
  refine Znh hH2 c12 fun s11 c13 => ?_
  generalize cs.length - Z1h cs = fz at hfl hfl' ⊢
  simp [hBr c13,hnl,hnt,hfl,hfl']
  refine Z02 ?_
  refine Zev Zm0 ?_
  simp
  refine AM.wp_ret ?_
  simp
  exact q _
 ·rw [hx] at hH2 ⊢
  simp only at hH2
  simp
  refine AM.wp_seq ?_
  refine Z00 ?_
  simp
  refine AM.Z04 ?_
  simp
  refine AM.wp_skip ?_
  simp
  refine Zkb (z:=Z1h cs) hB3 hG1 hT (by omega) hH2 hN hz (by omega) ha hlab (by omega) (by omega) c11 (by simp) (by simp) (by simp) (by simp) (by simp) (by simp) fun t s10 h6 => ?_
  simp [h6]
  exact q _
 ·rw [hx] at hH2 ⊢
  simp only at hH2
  simp
  refine AM.wp_seq ?_
  refine Z00 ?_
  simp
  refine AM.Z04 ?_
  simp
  refine AM.wp_skip ?_
  simp
  refine Zkb (z:=Z1h cs) hB3 hp.good (hp.tight hG1 hGO (by omega) hT) (by rw [hp.len]; omega) hH2 hN hz (by omega) ha hlab (by omega) (by omega) c11 (by simp) (by simp) (by simp) (by simp) (by simp) (by simp) fun t s10 h6 => ?_
  simp [h6]
  exact q _
end
end Go.Proofs
end
