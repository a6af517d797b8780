/- Parts of the proof: Kit1, Kit4, Kit5, Al1, Al2, Sh2, Sh3, Sh4, Kit2, Kit3, Ti2, Ti3, Ti4, Ti5, Hm2, Seen, Fil1, Fil2, Fil3, CodesL, Sam, Ksm, Hm3, Hm4, Hm5, Ti6, Sh5, He1, He2, He3. -/
import Derived.Test.YtoipnedbpjfeiaaDoorAu08
set_option linter.all false
set_option linter.unusedSectionVars false
set_option linter.unusedSimpArgs false
set_option linter.unusedVariables false
section
open Go Go.AM
namespace Go.Proofs
set_option maxRecDepth 100000
def Z3o (s0:St) (W:Pos→Prop) (bv:AVal) (bs:List Int):Prop:=(Z1b bv = some 0∧bs = []) ∨
 ∃ b o c cs,bv = .slice b o bs.length c∧¬ W b∧s0.Old b∧s0.cells b = some cs∧o + bs.length ≤ cs.length∧∀ (i:Nat) (k:Int),bs[i]? = some k→cs[o + i]? = some (.int .u8 k)
theorem Z3o.len {s0:St} {W:Pos→Prop} {bv:AVal} {bs:List Int} (h:Z3o s0 W bv bs):Z1b bv = some bs.length:=by
 rcases h with ⟨h1,rfl⟩ | ⟨b,o,c,cs,rfl,_⟩
 ·exact h1
 ·rfl
theorem Z3o.ntup {s0:St} {W:Pos→Prop} {bv:AVal} {bs:List Int} (h:Z3o s0 W bv bs):∀ t,¬ bv = .tup t:=by
 rintro t rfl
 have:=h.len
 cases this
theorem Z3o.cells {s0:St} {W:Pos→Prop} {bv:AVal} {bs:List Int} (h:Z3o s0 W bv bs):bv.cells = [bv]:=by
 have:=h.len
 cases bv <;> first | rfl | cases this
structure SK where
 nx:Nat
 st:Int
def xorI (a b:Int):Int:=IntKind.u64.wrap (BitVec.ofInt IntKind.u64.bits a ^^^ BitVec.ofInt IntKind.u64.bits b).toNat
def shlI (a b:Int):Int:=IntKind.u64.wrap (a * 2 ^ min b.toNat IntKind.u64.bits)
def shrI (a b:Int):Int:=a.fdiv (2 ^ min b.toNat IntKind.u64.bits)
section
variable {a b:Int} {Q:AVal→Prop}
@[simp ↓] theorem intP_xorU:intP .xor .u64 a b Q = Q (.int .u64 (xorI a b)):=propext ⟨fun h => h,fun h => h⟩
@[simp ↓] theorem intP_shlU:intP .shl .u64 a b Q = (0 ≤ b∧Q (.int .u64 (shlI a b))):=propext ⟨fun h => h,fun h => h⟩
@[simp ↓] theorem intP_shrU:intP .shr .u64 a b Q = (0 ≤ b∧Q (.int .u64 (shrI a b))):=propext ⟨fun h => h,fun h => h⟩
end
theorem Zzi (n:Int):0 ≤ IntKind.u64.wrap n:=by rw [IntKind.wrap_u64]; omega
theorem Zwh {a b:Int} (h:0 ≤ a):0 ≤ shrI a b:=by
 unfold shrI
 rw [Int.fdiv_eq_ediv_of_nonneg _ (Int.pow_nonneg (by decide))]
 exact Int.ediv_nonneg h (Int.pow_nonneg (by decide))
def Zbc (bs:List Int) (k:SK):SK:=if bs = [] then k else ⟨k.nx + 1,IntKind.u64.wrap (k.st + IntKind.u64.wrap (IntKind.u64.wrap ((bs[k.nx % bs.length]?).getD 0) + 1))⟩
def mixA (st:Int):Int:=xorI st (shlI st 13)
def mixB (st:Int):Int:=xorI st (shrI st 7)
def mixC (st:Int):Int:=xorI st (shlI st 17)
def mixS (st:Int):Int:=mixC (mixB (mixA st))
def Zit (bs:List Int) (k:SK):Int × SK:=(shrI (IntKind.u64.wrap (mixS (Zbc bs k).st * 2685821657736338717)) 33,⟨(Zbc bs k).nx,mixS (Zbc bs k).st⟩)
theorem Zpu:∃ f:List Int→SK→Int × SK,f = Zit:=⟨_,rfl⟩
noncomputable def Zc4:List Int→SK→Int × SK:=Classical.choose Zpu
theorem Zhn:Zc4 = Zit:=Classical.choose_spec Zpu
theorem Zth (bs:List Int) (k:SK):0 ≤ (Zc4 bs k).1:=by rw [Zhn]; exact Zwh (Zzi _)
theorem Zn7 (bs:List Int) (k:SK):(Zc4 bs k).2.nx ≤ k.nx + 1:=by
 rw [Zhn]
 unfold Zit Zbc
 split <;> simp
section
variable {s0 s:St} {W:Pos→Prop} {Bs:Pos} {bv:AVal} {bs:List Int} {k:SK} {r:Lets} {Q:AVal→St→Prop}
abbrev Z1q (bv:AVal) (k:SK):AObj:=C [bv,.int .i64 k.nx,.int .u64 k.st]
theorem draw_c (hB:Z3o s0 W bv bs) (h:Ctx s0 W ((Bs,Z1q bv k) :: r) s) (hn:k.nx < 2 ^ 62)
  (q:∀ s',Ctx s0 W ((Bs,Z1q bv (Zc4 bs k).2) :: r) s'→Q (.int .u64 (Zc4 bs k).1) s'):Z0f Tryd.prog 78 [.ptr Bs 0] s Q:=by
 have hbt:=hB.ntup
 have hbl:=hB.len
 refine Z09 (Z0n (by decide)) fi78 rfl (by decide) rfl ?_
 refine Z00 ?_
 simp
 refine AM.wp_seq ?_
 refine Z00 ?_
 simp [h.c 0 rfl,hbl]
 have main:∀ (t:PT AVal) (s:St) (k':SK),PT.get (posOf 0) t = some (.ptr Bs 0)→Zbc bs k = k'→Ctx s0 W ((Bs,Z1q bv k') :: r) s→wp Tryd.prog c78_9 { fn:=78,ntmps:=83,ps:=[66,67,69,70,71,72,73,68,65,75,74,76,54,55,57,58,59,60,61,56,53,63,62,64,42,43,45,46,47,48,49,44,41,51,50,52,10,11,13,14,15,17,18,19,21,22,23,24,25,20,26,16,27,28,29,30,12,9,32,31,33,8,0,2],round:=none } t s fun e t s' => match e with
   | .exit _ => False
   | _ => resP Tryd.prog t s' [.tmp 2] fun l => Q (retV l) s':=by
  intro t s k' t0 hk c0
  refine Z00 ?_
  simp [t0,c0.c 0 rfl,c0.o 0 rfl]
  have c1:=c0.put 0 rfl (Z1q bv ⟨k'.nx,mixA k'.st⟩)
  simp only [List.set_cons_zero] at c1
  rw [show xorI k'.st (shlI k'.st 13) = mixA k'.st from rfl]
  generalize s.put Bs (.cells [bv,.int .i64 k'.nx,.int .u64 (mixA k'.st)] false) = s1 at c1 ⊢
  refine Z00 ?_
  simp [t0,c1.c 0 rfl,c1.o 0 rfl]
  have c2:=c1.put 0 rfl (Z1q bv ⟨k'.nx,mixB (mixA k'.st)⟩)
  simp only [List.set_cons_zero] at c2
  rw [show xorI (mixA k'.st) (shrI (mixA k'.st) 7) = mixB (mixA k'.st) from rfl]
  generalize s1.put Bs (.cells [bv,.int .i64 k'.nx,.int .u64 (mixB (mixA k'.st))] false) = s2 at c2 ⊢
  refine Z00 ?_
  simp [t0,c2.c 0 rfl,c2.o 0 rfl]
  have c3:=c2.put 0 rfl (Z1q bv ⟨k'.nx,mixS k'.st⟩)
  simp only [List.set_cons_zero] at c3
  rw [show xorI (mixB (mixA k'.st)) (shlI (mixB (mixA k'.st)) 17) = mixS k'.st from rfl]
  generalize s2.put Bs (.cells [bv,.int .i64 k'.nx,.int .u64 (mixS k'.st)] false) = s3 at c3 ⊢
  refine Z00 ?_
  simp [t0,c3.c 0 rfl]
  refine AM.wp_ret ?_
  simp
  have:=q s3
  rw [Zhn] at this
  unfold Zit at this
  rw [hk] at this
  exact this c3
 refine AM.Z03 ?_
 by_cases hz:bs = []
 ·have hs:Zbc bs k = k:=by unfold Zbc; rw [if_pos hz]
  simp [hz]
  refine AM.wp_skip ?_
  simp
  exact main _ _ k (by simp) hs h
 ·have hpos:0 < bs.length:=List.length_pos_iff.2 hz
  have hs:Zbc bs k = ⟨k.nx + 1,IntKind.u64.wrap (k.st + IntKind.u64.wrap (IntKind.u64.wrap ((bs[k.nx % bs.length]?).getD 0) + 1))⟩:=by unfold Zbc; rw [if_neg hz]
  rcases hB with ⟨_,h0⟩ | ⟨b,o,c,cs,rfl,hb1,hb2,hb3,hb4,hb5⟩
  ·exact (hz h0).elim
  have hml:k.nx % bs.length < bs.length:=Nat.mod_lt _ hpos
  obtain ⟨x,hx⟩:∃ x,bs[k.nx % bs.length]? = some x:=⟨_,List.getElem?_eq_getElem hml⟩
  have hgx:=hb5 _ _ hx
  have hcs:s.cells b = some cs:=(h.Zeu hb1 hb2).trans hb3
  have hm:((k.nx:Int)).tmod (bs.length:Int) = ((k.nx % bs.length:Nat):Int):=by
   rw [Int.tmod_eq_emod_of_nonneg (by omega)]
   omega
  have hwr:IntKind.wrap .i64 ((k.nx:Int) + 1) = ((k.nx + 1:Nat):Int):=by rw [IntWalk.i64_in _ (by omega)]; omega
  rw [hx] at hs
  simp only [Option.getD_some] at hs
  have hlt2:((k.nx % bs.length:Nat):Int) < (bs.length:Int):=by omega
  have h02:(0:Int) ≤ ((k.nx % bs.length:Nat):Int):=by omega
  have hbi:¬ (bs.length:Int) = 0:=by omega
  have hp2:(0:Int) < (bs.length:Int):=by omega
  generalize k.nx % bs.length = j at hgx hm hml hlt2 h02 hx
  simp [hpos]
  refine Z00 ?_
  simp [h.c 0 rfl,hcs,hm,hz,hml,hgx,h.o 0 rfl]
  have c1:=h.put 0 rfl (Z1q (.slice b o bs.length c) ⟨k.nx,IntKind.u64.wrap (k.st + IntKind.u64.wrap (IntKind.u64.wrap x + 1))⟩)
  simp only [List.set_cons_zero] at c1
  generalize IntKind.u64.wrap (k.st + IntKind.u64.wrap (IntKind.u64.wrap x + 1)) = y at c1 hs ⊢
  generalize s.put Bs (.cells [.slice b o bs.length c,.int .i64 k.nx,.int .u64 y] false) = s1 at c1 ⊢
  refine AM.wp_region ?_
  simp [c1.c 0 rfl,c1.o 0 rfl,hwr]
  have c2:=c1.put 0 rfl (Z1q (.slice b o bs.length c) ⟨k.nx + 1,y⟩)
  simp only [List.set_cons_zero] at c2
  refine main _ _ ⟨k.nx + 1,y⟩ (by simp) hs ?_
  rw [show Z1q (.slice b o bs.length c) ⟨k.nx + 1,y⟩ = C [.slice b o bs.length c,.int .i64 ((k.nx:Int) + 1),.int .u64 y] from by simp [Z1q]] at c2 ⊢
  exact c2
noncomputable def Z2i (bs:List Int) (n:Int) (k:SK):Int × SK:=((Zc4 bs k).1.tmod (max 1 n),(Zc4 bs k).2)
theorem Z76 (bs:List Int) (n:Int) (k:SK):0 ≤ (Z2i bs n k).1∧(Z2i bs n k).1 < max 1 n:=by
 unfold Z2i
 have h1:=Zth bs k
 have h2:0 < max 1 n:=by omega
 rw [Int.tmod_eq_emod_of_nonneg h1]
 exact ⟨Int.emod_nonneg _ (by omega),Int.emod_lt_of_pos _ h2⟩
theorem Z8l (bs:List Int) (n:Int) (k:SK):(Z2i bs n k).2.nx ≤ k.nx + 1:=Zn7 bs k
theorem Zcy {n:Int} (hB:Z3o s0 W bv bs) (h:Ctx s0 W ((Bs,Z1q bv k) :: r) s) (hn:k.nx < 2 ^ 62) (hm:n ≤ 2 ^ 62)
  (q:∀ s',Ctx s0 W ((Bs,Z1q bv (Z2i bs n k).2) :: r) s'→Q (.int .i64 (Z2i bs n k).1) s'):Z0f Tryd.prog 33 [.ptr Bs 0,.int .i64 n] s Q:=by
 refine Z09 (Z0n (by decide)) fi33 rfl (by decide) rfl ?_
 refine Z00 ?_
 simp
 refine Z00 ?_
 simp
 refine Z05 ?_
 refine draw_c hB h hn fun s1 c1 => ?_
 simp
 have hb:=Z76 bs n k
 have e1:IntKind.u64.wrap (max 1 n) = max 1 n:=IntWalk.u64_in _ (by omega)
 have e2:IntKind.wrap .i64 (Z2i bs n k).1 = (Z2i bs n k).1:=IntWalk.i64_in _ (by omega)
 have e3:¬ max 1 n = 0:=by omega
 refine Zlp (k:=.i64) (k':=.i64) (a:=1) (b:=n) (by simp) (by simp) ?_
 simp [e1,e3]
 have e4:(Zc4 bs k).1.tmod (max 1 n) = (Z2i bs n k).1:=rfl
 rw [e4,e2]
 refine AM.wp_ret ?_
 simp
 exact q s1 c1
noncomputable def Z6o (bs:List Int) (lo hi:Int) (k:SK):Int × SK:=(lo + (Z2i bs (hi - lo + 1) k).1,(Z2i bs (hi - lo + 1) k).2)
theorem Z68 (bs:List Int) (lo hi:Int) (k:SK):lo ≤ (Z6o bs lo hi k).1∧(Z6o bs lo hi k).1 ≤ max lo hi:=by
 have:=Z76 bs (hi - lo + 1) k
 unfold Z6o
 omega
theorem Z8k (bs:List Int) (lo hi:Int) (k:SK):(Z6o bs lo hi k).2.nx ≤ k.nx + 1:=Zn7 bs k
theorem Zk5 {lo hi:Int} (hB:Z3o s0 W bv bs) (h:Ctx s0 W ((Bs,Z1q bv k) :: r) s) (hn:k.nx < 2 ^ 62) (hlo:0 ≤ lo∧lo ≤ 1000) (hhi:0 ≤ hi∧hi ≤ 1000)
  (q:∀ s',Ctx s0 W ((Bs,Z1q bv (Z6o bs lo hi k).2) :: r) s'→Q (.int .i64 (Z6o bs lo hi k).1) s'):Z0f Tryd.prog 60 [.ptr Bs 0,.int .i64 lo,.int .i64 hi] s Q:=by
 have e1:IntKind.wrap .i64 (hi - lo) = hi - lo:=IntWalk.i64_in _ (by omega)
 have e2:IntKind.wrap .i64 (hi - lo + 1) = hi - lo + 1:=IntWalk.i64_in _ (by omega)
 have hb:=Z76 bs (hi - lo + 1) k
 have e3:IntKind.wrap .i64 (lo + (Z2i bs (hi - lo + 1) k).1) = lo + (Z2i bs (hi - lo + 1) k).1:=IntWalk.i64_in _ (by omega)
 refine Z09 (Z0n (by decide)) fi60 rfl (by decide) rfl ?_
 refine Z00 ?_
 simp
 refine Z00 ?_
 simp [e1,e2]
 refine Z05 ?_
 refine Zcy hB h hn (by omega) fun s1 c1 => ?_
 simp [e3]
 refine AM.wp_ret ?_
 simp
 exact q s1 c1
theorem rare_c {n:Int} (hB:Z3o s0 W bv bs) (h:Ctx s0 W ((Bs,Z1q bv k) :: r) s) (hn:k.nx < 2 ^ 62) (hm:n ≤ 2 ^ 62)
  (q:∀ s',Ctx s0 W ((Bs,Z1q bv (Z2i bs n k).2) :: r) s'→Q (.bool (decide ((Z2i bs n k).1 = 0))) s'):Z0f Tryd.prog 26 [.ptr Bs 0,.int .i64 n] s Q:=by
 refine Z09 (Z0n (by decide)) fi26 rfl (by decide) rfl ?_
 refine Z00 ?_
 simp
 refine Z00 ?_
 simp
 refine Z05 ?_
 refine Zcy hB h hn hm fun s1 c1 => ?_
 simp
 refine AM.wp_ret ?_
 simp
 exact q s1 c1
def Zgm (bs:List Int):SK:=⟨0,IntKind.u64.wrap (11400714819323198485 + IntKind.u64.wrap bs.length)⟩
theorem fill_c (hB:Z3o s0 W bv bs) (h:Ctx s0 W r s)
  (q:∀ Bs s',Ctx s0 W ((Bs,Z1q bv (Zgm bs)) :: r) s'→Q (.ptr Bs 0) s'):Z0f Tryd.prog 16 [bv] s Q:=by
 have hbt:=hB.ntup
 have hbl:=hB.len
 have hbc:=hB.cells
 refine Z09 (Z0n (by decide)) fi16 rfl (by decide) rfl ?_
 refine Z00 ?_
 simp
 refine Z00 ?_
 simp [hbl,hbt,hbc]
 refine AM.wp_ret ?_
 simp
 exact q _ _ (h.alloc (Z1q bv (Zgm bs)))
end
attribute [irreducible] Zgm
def Zff (k:Int):List (List UInt8):=if k = 0 then [[97],[110,105,108],[98]] else if k = 1 then [[115],[117],[116]] else [[99,111,110,115],[112],[113]]
theorem Zvr {s:St} {k:Int} {Q:AVal→St→Prop} (h0:0 ≤ k) (h2:k ≤ 2) (q:∀ s',Keeps s s'→Q (.agg ((Zff k).map .str)) s'):Z0f Tryd.prog 61 [.int .i64 k] s Q:=by
 refine Z09 (Z0n (by decide)) fi61 rfl (by decide) rfl ?_
 refine Z00 ?_
 simp
 have hk:k = 0 ∨ k = 1 ∨ k = 2:=by omega
 have hl:Z45 Tryd.prog 111 = some (some 3):=by kernel_rfl
 have hK:∀ x:List AVal,Keeps s ((s.alloc (.cells [.str [],.str [],.str []] false)).put s.next (.cells x false)):=fun x => (Keeps.alloc _ _).put _ (Z08 _) (Z19 _ _)
 refine Z00 ?_
 rcases hk with rfl | rfl | rfl
 all_goals
  simp
  refine AM.wp_ret ?_
  simp [hl]
  exact q _ (hK _)
section
variable {s0 s:St} {t0:PT AVal} {fr:FI} {Q:Ex→PT AVal→St→Prop} {m:Lets}
theorem Zw9 {B4:Pos} {nm:List UInt8} {kv:AVal} (hg:Z1y nm = true) (hc:Ctx s0 (fun _ => False) ((B4,C [.str nm,kv]) :: m) s) (t4:PT.get (posOf 4) t0 = some (.ptr B4 0))
  (q:∀ t,Fr [5,56,57,58,71] t0 t→Q .normal t s):wp Tryd.prog Ztb fr t0 s Q:=by
 unfold Z1y at hg
 simp only [Bool.and_eq_true,decide_eq_true_eq] at hg
 obtain ⟨g1,g2,g3⟩:=hg
 refine Z00 ?_
 simp [t4,hc.c 0 rfl]
 refine AM.wp_block ?_
 refine AM.wp_loop (fun x t s' => ∃ j:Nat,j ≤ nm.length∧x = nm.length - j∧Fr [5,56,57,58,71] t0 t∧PT.get (posOf 56) t = some (.int .i64 nm.length)∧PT.get (posOf 57) t = some (.int .i64 j)∧s' = s) nm.length ⟨0,by simp,by simp,?_,by simp,by simp,rfl⟩ ?_
 ·intro y hy
  simp at hy
  simp [hy]
 rintro x t s' ⟨j,hj,rfl,hF,t56,t57,rfl⟩
 have u4:=(hF 4 (by simp)).trans t4
 refine Z00 ?_
 simp [t56,t57]
 refine AM.wp_seq ?_
 refine AM.Z03 ?_
 by_cases hlt:j < nm.length
 ·have hwr:IntKind.wrap .i64 ((j:Int) + 1) = ((j + 1:Nat):Int):=by rw [IntWalk.i64_in _ (by omega)]; omega
  obtain ⟨c,hcj⟩:∃ c,nm[j]? = some c:=⟨_,List.getElem?_eq_getElem hlt⟩
  have hl:=List.all_eq_true.1 g3 c (List.mem_of_getElem? hcj)
  unfold isL at hl
  simp only [Bool.and_eq_true,decide_eq_true_eq] at hl
  have n1:¬ (c.toNat:Int) < 97:=by omega
  have n2:¬ (122:Int) < (c.toNat:Int):=by omega
  simp [hlt]
  refine AM.wp_skip ?_
  simp
  refine AM.wp_seq ?_
  refine AM.wp_block ?_
  refine Z00 ?_
  simp [t57]
  refine Z00 ?_
  have hcl:s'.cells B4 = some [.str nm,kv]:=hc.c 0 rfl
  clear hc
  have hcj':nm[j]? = some c:=hcj
  generalize nm.length = L at *
  simp [u4,hcl,hcj',n1,n2]
  refine AM.Z03 ?_
  simp
  refine AM.wp_skip ?_
  simp
  refine AM.wp_region ?_
  simp [t57,hwr]
  refine ⟨L - (j + 1),by omega,j + 1,by omega,by omega,?_,by simp [t56],by simp⟩
  intro y hy
  simp at hy
  simp [hy]
  exact hF y (by simp [hy])
 ·simp [hlt]
  refine AM.wp_exit ?_
  simp
  refine q _ ?_
  intro y hy
  simp at hy
  simp [hy]
  exact hF y (by simp [hy])
theorem Zrz {B1 B4:Pos} {nm:List UInt8} {kv nv rt:AVal} {ks:List Int} {n:Nat} (hk:Z0e s0 kv ks) (h4:ks.length ≤ 4) (hin:∀ k ∈ ks,0 ≤ k∧k < n) (hn:Z1b nv = some n) (hnt:∀ t,¬ nv = .tup t)
  (hc:Ctx s0 (fun _ => False) ((B4,C [.str nm,kv]) :: (B1,C [nv,rt]) :: m) s) (t1:PT.get (posOf 1) t0 = some (.ptr B1 0)) (t4:PT.get (posOf 4) t0 = some (.ptr B4 0))
  (q:∀ t,Fr [7,74,75,76,77,88] t0 t→Q .normal t s):wp Tryd.prog Ztc fr t0 s Q:=by
 have hkt:=hk.ntup
 have hc0:s.cells B4 = some [.str nm,kv]:=hc.c 0 rfl
 have hc1:s.cells B1 = some [nv,rt]:=hc.c 1 rfl
 have hks:=hk.keep hc.Z0b
 clear hc
 refine Z00 ?_
 simp [t4,hc0,hkt,hk.len]
 refine AM.wp_block ?_
 refine AM.wp_loop (fun x t s' => ∃ j:Nat,j ≤ ks.length∧x = ks.length - j∧Fr [7,74,75,76,77,88] t0 t∧PT.get (posOf 74) t = some kv∧PT.get (posOf 75) t = some (.int .i64 ks.length)∧PT.get (posOf 76) t = some (.int .i64 j)∧s' = s) ks.length ⟨0,by simp,by simp,?_,by simp,by simp,by simp,rfl⟩ ?_
 ·intro y hy
  simp at hy
  simp [hy]
 rintro x t s' ⟨j,hj,rfl,hF,t74,t75,t76,rfl⟩
 have u1:=(hF 1 (by simp)).trans t1
 refine Z00 ?_
 simp [t75,t76]
 refine AM.wp_seq ?_
 refine AM.Z03 ?_
 by_cases hlt:j < ks.length
 ·have hwr:IntKind.wrap .i64 ((j:Int) + 1) = ((j + 1:Nat):Int):=by rw [IntWalk.i64_in _ (by omega)]; omega
  obtain ⟨k,hkj⟩:∃ k,ks[j]? = some k:=⟨_,List.getElem?_eq_getElem hlt⟩
  obtain ⟨k0,k1⟩:=hin k (List.mem_of_getElem? hkj)
  have n1:¬ k < 0:=by omega
  rcases hks with ⟨_,h0⟩ | ⟨b5,o5,c5,cells5,rfl,hb5,hcs5,hle5,hel5⟩
  ·rw [h0] at hlt
   simp at hlt
  have hgk:=hel5 _ _ hkj
  simp [hlt]
  refine AM.wp_skip ?_
  simp
  refine AM.wp_seq ?_
  refine AM.wp_block ?_
  refine Z00 ?_
  simp [t74,t76,hlt,hcs5,hgk]
  refine Z00 ?_
  simp [u1,hc1,hn,hnt,n1,k1]
  refine AM.Z03 ?_
  simp
  refine AM.wp_skip ?_
  simp
  refine AM.wp_region ?_
  simp [t76,hwr]
  refine ⟨ks.length - (j + 1),by omega,j + 1,by omega,by omega,?_,by simp [t74],by simp [t75],by simp⟩
  intro y hy
  simp at hy
  simp [hy]
  exact hF y (by simp [hy])
 ·simp [hlt]
  refine AM.wp_exit ?_
  simp
  refine q _ ?_
  intro y hy
  simp at hy
  simp [hy]
  exact hF y (by simp [hy])
end
theorem Zog {s:St} {Q:AVal→St→Prop} {nv:AVal} {ns:List ND} {root:Int} (hw:s.Wf) (hN:Z1k s nv ns) (hO:GrOk ns) (h1:1 ≤ ns.length) (h2:ns.length ≤ 60) (hnm:∀ nd ∈ ns,Z1y nd.1 = true) (r0:0 ≤ root) (r1:root < ns.length)
  (q:∀ s',Keeps s s'→Q (.bool true) s'):Z0f Tryd.prog 76 [.agg [nv,.int .i64 root]] s Q:=by
 have hNt:=hN.ntup
 have hNc:=hN.Za4
 have n1:¬ (ns.length:Int) < 1:=by omega
 have n2:¬ (60:Int) < (ns.length:Int):=by omega
 have n3:¬ root < 0:=by omega
 have d0:=Ctx.start (fun _ => False) hw
 refine Z09 (Z0n (by decide)) fi76 rfl (by decide) rfl ?_
 refine Z00 ?_
 simp [hNt,hNc]
 have d1:=d0.alloc (C [nv,.int .i64 root])
 generalize s.alloc (.cells [nv,.int .i64 root] false) = s1 at d1 ⊢
 generalize s.next = B1 at d1 ⊢
 refine AM.wp_seq ?_
 refine Z00 ?_
 have hnl:=hN.len
 generalize hLn:ns.length = n at *
 simp [d1.c 0 rfl,hNt,hnl,n1,n2,n3,r1]
 refine AM.Z03 ?_
 simp
 refine AM.wp_skip ?_
 simp
 refine AM.wp_seq ?_
 refine Z00 ?_
 simp [d1.c 0 rfl,hNt,hnl]
 refine AM.wp_block ?_
 refine AM.wp_loop (fun x t s' => ∃ i:Nat,i ≤ n∧x = n - i∧PT.get (posOf 1) t = some (.ptr B1 0)∧PT.get (posOf 32) t = some nv∧PT.get (posOf 33) t = some (.int .i64 n)∧PT.get (posOf 34) t = some (.int .i64 i)∧Ctx s (fun _ => False) [(B1,C [nv,.int .i64 root])] s') n
  ⟨0,by simp,by simp,by simp,by simp,by simp,by simp,d1⟩ ?_
 rintro x t s' ⟨i,hi,rfl,t1,t32,t33,t34,d⟩
 refine Z00 ?_
 simp [t33,t34]
 refine AM.wp_seq ?_
 refine AM.Z03 ?_
 by_cases hlt:i < n
 ·have hwr:IntKind.wrap .i64 ((i:Int) + 1) = ((i + 1:Nat):Int):=by rw [IntWalk.i64_in _ (by omega)]; omega
  obtain ⟨nd,hnd⟩:∃ nd,ns[i]? = some nd:=⟨_,List.getElem?_eq_getElem (by omega)⟩
  have hmem:=List.mem_of_getElem? hnd
  obtain ⟨hk4,hkin⟩:=hO nd hmem
  have hgn:=hnm nd hmem
  have hgn':=hgn
  unfold Z1y at hgn'
  simp only [Bool.and_eq_true,decide_eq_true_eq] at hgn'
  obtain ⟨g1,g2,_⟩:=hgn'
  rcases hN with ⟨_,e0⟩ | ⟨bn,on,cn,cellsn,rfl,hbn,hcsn,hlen,heln⟩
  ·rw [e0] at hnd
   simp at hnd
  have rn:s'.cells bn = some cellsn:=(d.Z0b.cells hbn).trans hcsn
  obtain ⟨hgn1,kv,hgk,hkv⟩:=heln i nd hnd
  obtain ⟨hsg,hsl⟩:=seg2 hgn1 hgk
  have hmin:min 2 (cellsn.length - (on + i * 2)) = 2:=by omega
  simp [hlt]
  refine AM.wp_skip ?_
  simp
  refine AM.wp_seq ?_
  refine AM.wp_block ?_
  refine Z00 ?_
  simp [t32,t34,hlt,hLn,rn,hsl,hmin,hsg]
  have e1:=(d.alloc (C [.str [],.nilSlice])).put 0 rfl (C [.str nd.1,kv])
  simp only [List.set_cons_zero] at e1
  generalize (s'.alloc (.cells [.str [],.nilSlice] false)).put s'.next (.cells [.str nd.1,kv] false) = s4 at e1 ⊢
  generalize s'.next = B4 at e1 ⊢
  refine AM.wp_seq ?_
  refine Z00 ?_
  have q1:¬ (4:Int) < (nd.2.length:Int):=by omega
  have q2:¬ (nd.1.length:Int) < 1:=by omega
  have q3:¬ (8:Int) < (nd.1.length:Int):=by omega
  have hkl:=hkv.len
  have hkt:=hkv.ntup
  have e1c:s4.cells B4 = some [.str nd.1,kv]:=e1.c 0 rfl
  generalize hK:nd.2.length = K at q1 hkl
  simp [e1c,hkl,hkt,q1,q2,q3]
  refine AM.Z03 ?_
  simp
  refine AM.wp_skip ?_
  simp
  refine AM.wp_seq ?_
  refine Zw9 hgn e1 (by simp) fun t2 hF2 => ?_
  have v1:PT.get (posOf 1) t2 = some (.ptr B1 0):=(hF2 1 (by simp)).trans (by simp [t1])
  have v4:PT.get (posOf 4) t2 = some (.ptr B4 0):=(hF2 4 (by simp)).trans (by simp)
  have v32:PT.get (posOf 32) t2 = some (.slice bn on ns.length cn):=(hF2 32 (by simp)).trans (by simp [t32])
  have v33:PT.get (posOf 33) t2 = some (.int .i64 n):=(hF2 33 (by simp)).trans (by simp [t33])
  have v34:PT.get (posOf 34) t2 = some (.int .i64 i):=(hF2 34 (by simp)).trans (by simp [t34])
  simp only [andThen]
  refine Zrz (n:=n) (rt:=.int .i64 root) hkv (by omega) (fun k hk => by have:=hkin k hk; omega) hnl hNt e1 v1 v4 fun t3 hF3 => ?_
  have w1:PT.get (posOf 1) t3 = some (.ptr B1 0):=(hF3 1 (by simp)).trans v1
  have w32:=(hF3 32 (by simp)).trans v32
  have w33:=(hF3 33 (by simp)).trans v33
  have w34:=(hF3 34 (by simp)).trans v34
  simp only [Z7e,andThen]
  refine AM.wp_region ?_
  simp [w34,hwr]
  exact ⟨n - (i + 1),by omega,i + 1,by omega,by omega,by simp [w1],by simp [w32],by simp [w33],by simp,e1.tail⟩
 ·simp [hlt]
  refine AM.wp_exit ?_
  simp
  refine Z00 ?_
  simp
  refine AM.wp_ret ?_
  simp
  exact q s' d.Z0b
def pl (p:Nat × Nat):List Int:=[(p.1:Int),(p.2:Int)]
theorem pl_inj {p q:Nat × Nat} (h:pl p = pl q):p = q:=by
 unfold pl at h
 simp at h
 exact Prod.ext (by omega) (by omega)
theorem pl_mem {v:List (Nat × Nat)} {x y:Nat}:[(x:Int),(y:Int)] ∈ v.map pl ↔ (x,y) ∈ v:=by
 rw [List.mem_map]
 constructor
 ·rintro ⟨p,hp,e⟩
  rw [← show p = (x,y) from pl_inj (q:=(x,y)) e]
  exact hp
 ·exact fun h => ⟨_,h,rfl⟩
theorem Zuf (v:List (Nat × Nat)):∀ d ∈ v.map pl,d.length = 2:=by
 intro d hd
 obtain ⟨p,_,rfl⟩:=List.mem_map.1 hd
 rfl
section
variable {s s1:St} {r mq:Lets} {fr:FI} {t0:PT AVal} {G:Nat × Nat→Prop}
theorem Zws {Q:Ex→PT AVal→St→Prop} {B8 B9 Bm:Pos} {nx ny:List UInt8} {kx ky tv:AVal} {xs ys:List Int} {v:List (Nat × Nat)} {j:Nat} (hKx:Z0e s kx xs) (hKy:Z0e s ky ys) (hl:ys.length = xs.length) (h4:xs.length ≤ 4)
  (h:Ctx s (fun _ => False) ((B8,C [.str nx,kx]) :: (B9,C [.str ny,ky]) :: (Bm,.map (Z2u 0 (v.map pl)) v.length) :: (mq ++ r)) s1) (hq:QueP tv (v.drop j) mq) (hjv:j ≤ v.length) (hv:v.Nodup) (hg:∀ p ∈ v,G p)
  (hxy:∀ (i:Nat) (a b:Int),xs[i]? = some a→ys[i]? = some b→∃ x y:Nat,a = x∧b = y∧G (x,y)) (hbd:∀ v:List (Nat × Nat),v.Nodup→(∀ p ∈ v,G p)→v.length ≤ 5000)
  (u5:PT.get (posOf 5) t0 = some (.map Bm)) (u6:PT.get (posOf 6) t0 = some tv) (u8:PT.get (posOf 8) t0 = some (.ptr B8 0)) (u9:PT.get (posOf 9) t0 = some (.ptr B9 0))
  (q:∀ t s' v' tv' mq' w r',Fr [87,73,75,74,76,78,10,80,79,81,82,77,83,11,71,69,70,6] t0 t→v' = v ++ w→v'.Nodup→(∀ p ∈ v',G p)→QueP tv' (v'.drop j) mq'→PT.get (posOf 6) t = some tv' →
   Ctx s (fun _ => False) ((B8,C [.str nx,kx]) :: (B9,C [.str ny,ky]) :: (Bm,.map (Z2u 0 (v'.map pl)) v'.length) :: (mq' ++ (r' ++ r))) s'→Q .normal t s'):wp Tryd.prog Zsv fr t0 s1 Q:=by
 have hkl:=hKx.len
 have hkt:=hKx.ntup
 refine Z00 ?_
 simp [u8,h.c 0 rfl,hkl,hkt]
 refine AM.wp_block ?_
 refine AM.wp_loop (fun m t s' => ∃ (i:Nat) (v':List (Nat × Nat)) (tv':AVal) (mq':Lets) (w:List (Nat × Nat)) (r':Lets),i ≤ xs.length∧m = xs.length - i∧Fr [87,73,75,74,76,78,10,80,79,81,82,77,83,11,71,69,70,6] t0 t∧PT.get (posOf 69) t = some (.int .i64 xs.length)∧PT.get (posOf 70) t = some (.int .i64 i)∧v' = v ++ w∧v'.Nodup∧(∀ p ∈ v',G p)∧QueP tv' (v'.drop j) mq'∧PT.get (posOf 6) t = some tv' ∧
   Ctx s (fun _ => False) ((B8,C [.str nx,kx]) :: (B9,C [.str ny,ky]) :: (Bm,.map (Z2u 0 (v'.map pl)) v'.length) :: (mq' ++ (r' ++ r))) s') xs.length
   ⟨0,v,tv,mq,[],[],by simp,by simp,?_,by simp,by simp,by simp,hv,hg,hq,by simpa using u6,h⟩ ?_
 ·intro y hy
  simp at hy
  simp [hy]
 rintro m t s' ⟨i,v',tv',mq',w,r',hi,rfl,hF,t69,t70,hvw,hvn,hvg,hq',t6,d⟩
 have v5:=(hF 5 (by simp)).trans u5
 have v8:=(hF 8 (by simp)).trans u8
 have v9:=(hF 9 (by simp)).trans u9
 refine Z00 ?_
 simp [t69,t70]
 refine AM.wp_seq ?_
 refine AM.Z03 ?_
 by_cases hlt:i < xs.length
 ·have hwr:IntKind.wrap .i64 ((i:Int) + 1) = (i:Int) + 1:=IntWalk.i64_in _ (by omega)
  obtain ⟨a,ha⟩:∃ a,xs[i]? = some a:=⟨_,List.getElem?_eq_getElem hlt⟩
  obtain ⟨b,hb⟩:∃ b,ys[i]? = some b:=⟨_,List.getElem?_eq_getElem (by omega)⟩
  obtain ⟨x,y,rfl,rfl,hgxy⟩:=hxy i a b ha hb
  have hKx':=hKx.keep d.Z0b
  have hKy':=hKy.keep d.Z0b
  have hly:i < ys.length:=by omega
  have hkyt:=hKy.ntup
  rcases hKx' with ⟨_,e0⟩ | ⟨bx,ox,cx,cellsx,rfl,hbx,hcsx,hlex,helx⟩
  ·rw [e0] at hlt
   simp at hlt
  rcases hKy' with ⟨_,e0⟩ | ⟨by',oy,cy,cellsy,rfl,hby,hcsy,hley,hely⟩
  ·rw [e0] at hly
   simp at hly
  have hgx:=helx i _ ha
  have hgy:=hely i _ hb
  have hfr:s'.obj s'.next = none:=d.wf _ (Z08 _)
  simp [hlt]
  refine AM.wp_skip ?_
  simp
  refine AM.wp_seq ?_
  refine AM.wp_block ?_
  refine Z00 ?_
  simp [t70]
  refine Z00 ?_
  simp [v8,v9,d.c 0 rfl,d.c 1 rfl,hlt,hly,hcsx,hcsy,hgx,hgy,hfr]
  have d1:=(d.alloc (C [.int .i64 0,.int .i64 0])).put 0 rfl (C [.int .i64 x,.int .i64 y])
  simp only [List.set_cons_zero] at d1
  generalize (s'.alloc (.cells [.int .i64 0,.int .i64 0] false)).put s'.next (.cells [.int .i64 x,.int .i64 y] false) = s2 at d1 ⊢
  generalize s'.next = B11 at d1 ⊢
  have d2:Ctx s (fun _ => False) ((B8,C [.str nx,.slice bx ox xs.length cx]) :: (B9,C [.str ny,.slice by' oy ys.length cy]) :: (Bm,.map (Z2u 0 (v'.map pl)) v'.length) :: (B11,C [.int .i64 x,.int .i64 y]) :: (mq' ++ (r' ++ r))) s2:=d1.perm (Z0r fun z => by
   simp only [Z0h]
   omega)
  refine Z00 ?_
  simp [v5,d2.c 3 rfl]
  refine Zrf (d2.x 2 rfl) (Zuf v') ?_
  simp
  refine AM.Z03 ?_
  by_cases hm:[(x:Int),(y:Int)] ∈ v'.map pl
  ·simp [hm]
   refine AM.wp_skip ?_
   simp
   refine AM.wp_region ?_
   simp [t70,hwr]
   refine ⟨xs.length - (i + 1),by omega,i + 1,by omega,by omega,?_,by simp [t69],by simp,v',⟨w,hvw⟩,hvn,fun a b h => hvg _ h,tv',mq',hq',by simp [t6],(B11,C [.int .i64 x,.int .i64 y]) :: r',?_⟩
   ·intro z hz
    simp at hz
    simp [hz]
    exact hF z (by simp [hz])
   ·exact d2.perm (Z0r fun z => by
     simp only [Z0h,Z0o]
     omega)
  ·have hm':(x,y) ∉ v':=fun e => hm (pl_mem.2 e)
   simp [hm]
   refine Z00 ?_
   simp [v5,d2.c 3 rfl]
   have hmx:=d2.x 2 rfl
   rw [← List.length_map (f:=pl)] at hmx
   refine Zm5 (D:=v'.map pl) hmx (Zuf v') hm ?_
   have hsn:v'.map pl ++ [[(x:Int),(y:Int)]] = (v' ++ [(x,y)]).map pl:=by rw [List.map_append]; rfl
   rw [hsn,List.length_map]
   have d3:=d2.put 2 rfl (.map (Z2u 0 ((v' ++ [(x,y)]).map pl)) (v' ++ [(x,y)]).length)
   simp only [List.set_cons_zero,List.set_cons_succ] at d3
   generalize s2.put Bm (.map (Z2u 0 ((v' ++ [(x,y)]).map pl)) (v' ++ [(x,y)]).length) = s3 at d3 ⊢
   have hvn2:(v' ++ [(x,y)]).Nodup:=by
    rw [List.nodup_append]
    exact ⟨hvn,by simp,by rintro p hp q hq rfl; simp at hq; exact hm' (hq ▸ hp)⟩
   have hvg2:∀ p ∈ v' ++ [(x,y)],G p:=by
    intro p hp
    rcases List.mem_append.1 hp with hp | hp
    ·exact hvg p hp
    ·simp at hp
     rw [hp]
     exact hgxy
   have hbound:=hbd v' hvn hvg
   refine AM.wp_region ?_
   simp [t6,d3.c 3 rfl,hq'.ntup,Z13,srcP]
   have d4:=d3.alloc (C [.int .i64 x,.int .i64 y])
   generalize s3.alloc (.cells [.int .i64 x,.int .i64 y] false) = s4 at d4 ⊢
   generalize s3.next = T at d4 ⊢
   refine QueP.app (pre:=[(T,C [.int .i64 x,.int .i64 y]),(B8,C [.str nx,.slice bx ox xs.length cx]),(B9,C [.str ny,.slice by' oy ys.length cy]),(Bm,.map (Z2u 0 ((v' ++ [(x,y)]).map pl)) (v' ++ [(x,y)]).length),(B11,C [.int .i64 x,.int .i64 y])]) d4 hq' (by rw [List.length_drop]; omega) fun tv2 mq2 s5 hq2 d5 => ?_
   simp only [List.cons_append,List.nil_append] at d5
   refine AM.wp_region ?_
   simp [t70,hwr]
   refine ⟨xs.length - (i + 1),by omega,i + 1,by omega,by omega,?_,by simp [t69],by simp,v' ++ [(x,y)],⟨w ++ [(x,y)],by rw [hvw,List.append_assoc]⟩,hvn2,fun a b h => hvg2 _ h,tv2,mq2,?_,by simp,(T,C [.int .i64 x,.int .i64 y]) :: (B11,C [.int .i64 x,.int .i64 y]) :: r',?_⟩
   ·intro z hz
    simp at hz
    simp [hz]
    exact hF z (by simp [hz])
   ·rw [List.drop_append_of_le_length (by rw [hvw,List.length_append]; omega)]
    exact hq2
   ·exact d5.perm (Z0r fun z => by
     simp only [Z0h,Z0o]
     omega)
 ·simp [hlt]
  refine AM.wp_exit ?_
  simp
  refine q _ s' v' tv' mq' w r' ?_ hvw hvn hvg hq' (by simp [t6]) d
  intro y hy
  simp at hy
  simp [hy]
  exact hF y (by simp [hy])
end
theorem Zl5 {v:AVal} {n:Nat} (h:Z1b v = some n) (d:Nat):Z27 (d + 1) v v = true:=by
 cases v <;> first | cases h; done | skip
 ·rename_i b o m c
  cases c <;> simp [Z27,Za0]
 ·simp [Z27]
theorem Zdc {cs:List AVal} {i:Nat} {a b:AVal} (h1:cs[i]? = some a) (h2:cs[i + 1]? = some b):(cs.drop i).take 2 = [a,b]:=by
 obtain ⟨g1,g2⟩:=List.getElem?_eq_some_iff.1 h1
 obtain ⟨g3,g4⟩:=List.getElem?_eq_some_iff.1 h2
 rw [List.drop_eq_getElem_cons g1,List.drop_eq_getElem_cons g3,g2,g4]
 rfl
theorem Zud {n m:Nat} (hm:0 < m) {v:List (Nat × Nat)} (hv:v.Nodup) (h:∀ p ∈ v,p.1 < n∧p.2 < m):v.length ≤ n * m:=by
 have h1:(v.map fun p => p.1 * m + p.2).Nodup:=by
  rw [List.Nodup,List.pairwise_map]
  refine List.Pairwise.imp_of_mem ?_ hv
  intro p q hp hq hne e
  have hp2:=(h p hp).2
  have hq2:=(h q hq).2
  have e1:p.1 = q.1:=by
   have:=congrArg (· / m) e
   simpa [Nat.add_comm (_ * m),Nat.add_mul_div_right _ _ hm,Nat.div_eq_of_lt hp2,Nat.div_eq_of_lt hq2] using this
  have e2:p.2 = q.2:=by
   rw [e1] at e
   omega
  exact hne (Prod.ext e1 e2)
 have:=Z2a (n:=n * m) h1 fun x hx => by
  obtain ⟨p,hp,rfl⟩:=List.mem_map.1 hx
  obtain ⟨g1,g2⟩:=h p hp
  calc p.1 * m + p.2 < p.1 * m + m:=by omega
   _ = (p.1 + 1) * m:=by rw [Nat.add_mul,Nat.one_mul]
   _ ≤ n * m:=Nat.mul_le_mul_right m g1
 simpa using this
section
variable {s:St} {Q:AVal→St→Prop}
theorem Ztw {nv nw:AVal} {ns ms:List ND} {r1 r2:Int} (hw:s.Wf) (hN:Z1k s nv ns) (hM:Z1k s nw ms) (hO1:GrOk ns) (hO2:GrOk ms) (n1:1 ≤ ns.length) (n2:ns.length ≤ 60) (m1:1 ≤ ms.length) (m2:ms.length ≤ 60)
  (g1:∀ nd ∈ ns,Z1y nd.1 = true) (g2:∀ nd ∈ ms,Z1y nd.1 = true) (a0:0 ≤ r1) (a1:r1 < ns.length) (b0:0 ≤ r2) (b1:r2 < ms.length) (hlab:lab ns r1.toNat = lab ms r2.toNat)
  (q:∀ s',Keeps s s'→Q (.bool true) s'):Z0f Tryd.prog 30 [.agg [nv,.int .i64 r1],.agg [nw,.int .i64 r2]] s Q:=by
 have hNt:=hN.ntup
 have hNc:=hN.Za4
 have hMt:=hM.ntup
 have hMc:=hM.Za4
 have hNl:=hN.len
 have hMl:=hM.len
 have d0:=Ctx.start (fun _ => False) hw
 refine Z09 (Z0n (by decide)) fi30 rfl (by decide) rfl ?_
 refine Z00 ?_
 simp [hNt,hNc,hMt,hMc]
 have d1:=(d0.alloc (C [nv,.int .i64 r1])).alloc (C [nw,.int .i64 r2])
 generalize (s.alloc (.cells [nv,.int .i64 r1] false)).alloc (.cells [nw,.int .i64 r2] false) = s1 at d1 ⊢
 generalize (s.alloc (.cells [nv,.int .i64 r1] false)).next = B3 at d1 ⊢
 generalize s.next = B2 at d1 ⊢
 refine AM.wp_seq ?_
 refine Z00 ?_
 simp [d1.c 1 rfl]
 refine Z05 ?_
 refine Zog d1.wf (hN.keep d1.Z0b) hO1 n1 n2 g1 a0 a1 fun s2 k2 => ?_
 have d2:=d1.keeps k2
 simp [d2.c 0 rfl]
 refine Z05 ?_
 refine Zog d2.wf (hM.keep d2.Z0b) hO2 m1 m2 g2 b0 b1 fun s3 k3 => ?_
 have d3:=d2.keeps k3
 simp
 refine AM.Z03 ?_
 simp
 refine AM.wp_skip ?_
 simp
 obtain ⟨x0,rfl⟩:∃ x:Nat,r1 = x:=⟨r1.toNat,by omega⟩
 obtain ⟨y0,rfl⟩:∃ y:Nat,r2 = y:=⟨r2.toNat,by omega⟩
 simp only [Int.toNat_natCast] at hlab
 refine Z00 ?_
 have d4:=d3.alloc (.map [] 0)
 simp [d4.c 1 rfl,d4.c 2 rfl]
 have hm0:=d4.x 0 rfl
 refine Zm5 (D:=[]) hm0 (by simp) (by simp) ?_
 have d5:=d4.put 0 rfl (.map (Z2u 0 ([(x0,y0)].map pl)) [(x0,y0)].length)
 simp only [List.set_cons_zero] at d5
 have hm1:AObj.map (Z2u 0 ([] ++ [[(x0:Int),(y0:Int)]])) ([] ++ [[(x0:Int),(y0:Int)]]).length = .map (Z2u 0 ([(x0,y0)].map pl)) [(x0,y0)].length:=rfl
 rw [hm1]
 generalize (s3.alloc (.map [] 0)).put s3.next (.map (Z2u 0 ([(x0,y0)].map pl)) [(x0,y0)].length) = s5 at d5 ⊢
 generalize s3.next = Bm at d5 ⊢
 refine Z00 ?_
 simp [d5.c 1 rfl,d5.c 2 rfl]
 have d6:=d5.alloc (C (Z1t [(x0,y0)]))
 have hpc:[AVal.int .i64 (x0:Int),.int .i64 (y0:Int)] = Z1t [(x0,y0)]:=rfl
 simp only [hpc]
 generalize s5.alloc (.cells (Z1t [(x0,y0)]) false) = s6 at d6 ⊢
 generalize s5.next = T at d6 ⊢
 have hbd:∀ v:List (Nat × Nat),v.Nodup→(∀ p ∈ v,p.1 < ns.length∧p.2 < ms.length∧lab ns p.1 = lab ms p.2)→v.length ≤ 5000:=by
  intro v hv hg
  have:=Zud (n:=ns.length) (m:=ms.length) (by omega) hv fun p hp => ⟨(hg p hp).1,(hg p hp).2.1⟩
  have:ns.length * ms.length ≤ 60 * 60:=Nat.mul_le_mul n2 m2
  omega
 refine AM.wp_seq ?_
 refine AM.wp_block ?_
 refine AM.wp_loop (fun mm t s' => ∃ (j:Nat) (v:List (Nat × Nat)) (tv:AVal) (mq r':Lets),j ≤ v.length∧mm = 5001 - j∧PT.get (posOf 2) t = some (.ptr B2 0)∧PT.get (posOf 3) t = some (.ptr B3 0)∧PT.get (posOf 5) t = some (.map Bm)∧PT.get (posOf 6) t = some tv∧v.Nodup ∧
   (∀ p ∈ v,p.1 < ns.length∧p.2 < ms.length∧lab ns p.1 = lab ms p.2)∧QueP tv (v.drop j) mq ∧
   Ctx s (fun _ => False) ((Bm,.map (Z2u 0 (v.map pl)) v.length) :: (B3,C [nw,.int .i64 y0]) :: (B2,C [nv,.int .i64 x0]) :: (mq ++ r')) s') 5001
   ⟨0,[(x0,y0)],.slice T 0 1 (.lim 1),[(T,C (Z1t [(x0,y0)]))],[],by simp,by simp,by simp,by simp,by simp,by simp,by simp,?_,.inr (.inr ⟨T,(x0,y0),rfl,rfl,rfl⟩),d6.perm (Z0r fun z => by
    simp only [Z0h,Z0o,Z2n]
    omega)⟩ ?_
 ·intro p hp
  simp at hp
  rw [hp]
  exact ⟨by omega,by omega,hlab⟩
 rintro mm t s' ⟨j,v,tv,mq,r',hj,rfl,t2,t3,t5,t6,hvn,hvg,hq,d⟩
 have hvl:=hbd v hvn hvg
 have hqt:=hq.ntup
 have hql:=hq.len
 rw [List.length_drop] at hql
 refine AM.wp_seq ?_
 refine Z00 ?_
 by_cases hlt:j < v.length
 ·have hpos:0 < v.length - j:=by omega
  obtain ⟨⟨x,y⟩,hxy⟩:∃ p,v[j]? = some p:=⟨_,List.getElem?_eq_getElem hlt⟩
  have hdr:v.drop j = (x,y) :: v.drop (j + 1):=by
   rw [List.drop_eq_getElem_cons hlt,(List.getElem?_eq_some_iff.1 hxy).2]
  have hdl:v.length - j = (v.drop (j + 1)).length + 1:=by rw [List.length_drop]; omega
  rw [hdr] at hq
  obtain ⟨hx,hy,hl⟩:=hvg (x,y) (List.mem_of_getElem? hxy)
  simp only at hx hy hl
  simp [t6,hqt,hql,hpos]
  refine AM.Z03 ?_
  simp
  refine AM.wp_skip ?_
  simp
  refine AM.wp_block ?_
  obtain ⟨b,o,cap,cs,hv1,hv2,hv3,hv4⟩:=hq.head
  have hbc:s'.cells b = some cs:=Z0i (Z1l (d.own (b,C cs) (by simp [hv2])))
  refine Z00 ?_
  simp [t6,hv1,hbc,hv3,hv4]
  have e1:=(d.alloc (C [.int .i64 0,.int .i64 0])).put 0 rfl (C [.int .i64 x,.int .i64 y])
  simp only [List.set_cons_zero] at e1
  generalize (s'.alloc (.cells [.int .i64 0,.int .i64 0] false)).put s'.next (.cells [.int .i64 x,.int .i64 y] false) = s7 at e1 ⊢
  generalize s'.next = B7 at e1 ⊢
  refine Z00 ?_
  simp [t6]
  refine QueP.pop hq (by simp [t6]) ⟨.i64,by simp⟩ fun tv2 mq2 hq2 hsub => ?_
  have e2:Ctx s (fun _ => False) ((B7,C [.int .i64 x,.int .i64 y]) :: (Bm,.map (Z2u 0 (v.map pl)) v.length) :: (B3,C [nw,.int .i64 y0]) :: (B2,C [nv,.int .i64 x0]) :: (mq2 ++ r')) s7:=e1.sub (.cons_cons _ (.cons_cons _ (.cons_cons _ (.cons_cons _ (hsub.append (List.Sublist.refl _))))))
  obtain ⟨nd1,hn1⟩:∃ nd,ns[x]? = some nd:=⟨_,List.getElem?_eq_getElem hx⟩
  obtain ⟨nd2,hn2⟩:∃ nd,ms[y]? = some nd:=⟨_,List.getElem?_eq_getElem hy⟩
  obtain ⟨l1,l2,l3⟩:=Zdy hn1 hn2 hl
  rcases hN with ⟨_,ee⟩ | ⟨bn,on,cn,cellsn,rfl,hbn,hcsn,hlen,heln⟩
  ·rw [ee] at hx
   simp at hx
  rcases hM with ⟨_,ee⟩ | ⟨bm,om,cm,cellsm,rfl,hbm,hcsm,hlem,helm⟩
  ·rw [ee] at hy
   simp at hy
  obtain ⟨f1,kx,f2,f3⟩:=heln x nd1 hn1
  obtain ⟨f4,ky,f5,f6⟩:=helm y nd2 hn2
  have hs1:=Zdc f1 f2
  have hs2:=Zdc f4 f5
  have hle1:on + x * 2 + 2 ≤ cellsn.length:=by omega
  have hle2:om + y * 2 + 2 ≤ cellsm.length:=by omega
  have hfr:s7.obj s7.next = none:=e2.wf _ (Z08 _)
  have e3:=e2.alloc (C [.str [],.nilSlice])
  have hfr2:(s7.alloc (C [.str [],.nilSlice])).obj (s7.alloc (C [.str [],.nilSlice])).next = none:=e3.wf _ (Z08 _)
  have e4:=(e3.alloc (C [.str [],.nilSlice])).put 1 rfl (C [.str nd1.1,kx])
  simp only [List.set_cons_zero,List.set_cons_succ] at e4
  have q1:=Zl5 f6.len
  have q2:=Zl5 (v:=AVal.slice bm om ms.length cm) rfl
  have rn:∀ {m:Lets} {s'':St},Ctx s (fun _ => False) m s''→s''.cells bn = some cellsn:=fun d => (d.Z0b.cells hbn).trans hcsn
  have rm:∀ {m:Lets} {s'':St},Ctx s (fun _ => False) m s''→s''.cells bm = some cellsm:=fun d => (d.Z0b.cells hbm).trans hcsm
  have hxi:(x:Int) < ns.length:=by omega
  have qc:Za0 cm cm = true:=by cases cm <;> simp [Za0]
  have hyi:(y:Int) < ms.length:=by omega
  refine Z00 ?_
  simp [t2,t3,e2.c 0 rfl,e2.c 2 rfl,e2.c 3 rfl,hx,hy,rn e2,rm e2,hle1,hle2,hs1,hs2,hfr,hfr2,e4.c 4 rfl,e4.c 2 rfl,rm e4,q1,q2,Z27,qc]
  have e5:=e4.put 0 rfl (C [.str nd2.1,ky])
  simp only [List.set_cons_zero] at e5
  generalize (((s7.alloc (.cells [.str [],.nilSlice] false)).alloc (.cells [.str [],.nilSlice] false)).put s7.next (.cells [.str nd1.1,kx] false)).put (s7.alloc (.cells [.str [],.nilSlice] false)).next (.cells [.str nd2.1,ky] false) = s8 at e5 ⊢
  clear e4 e3 hfr2 hfr
  generalize (s7.alloc (.cells [.str [],.nilSlice] false)).next = B9 at e5 ⊢
  generalize s7.next = B8 at e5 ⊢
  have hkl1:=f3.len
  have hkl2:=f6.len
  have hkt1:=f3.ntup
  have hkt2:=f6.ntup
  refine AM.wp_seq ?_
  refine Z00 ?_
  simp [e5.c 0 rfl,e5.c 1 rfl,l1,hkl1,hkl2,hkt1,hkt2,l2]
  refine AM.Z03 ?_
  simp
  refine AM.wp_skip ?_
  simp
  have e6:Ctx s (fun _ => False) ((B8,C [.str nd1.1,kx]) :: (B9,C [.str nd2.1,ky]) :: (Bm,.map (Z2u 0 (v.map pl)) v.length) :: (mq2 ++ ((B7,C [.int .i64 x,.int .i64 y]) :: (B3,C [.slice bm om ms.length cm,.int .i64 y0]) :: (B2,C [.slice bn on ns.length cn,.int .i64 x0]) :: r'))) s8:=e5.perm (Z0r fun z => by
   simp only [Z0h,Z0o]
   omega)
  refine Zws (G:=fun p => p.1 < ns.length∧p.2 < ms.length∧lab ns p.1 = lab ms p.2) f3 f6 l2.symm (hO1 nd1 (List.mem_of_getElem? hn1)).1 e6 hq2 (by omega) hvn hvg (fun i a b ha hb => ?_) hbd (by simp [t5]) (by simp) (by simp) (by simp) fun t4 s9 v' tv' mq' w r2 hF hvw hvn' hvg' hq' t6' d' => ?_
  ·have ga:=(hO1 nd1 (List.mem_of_getElem? hn1)).2 a (List.mem_of_getElem? ha)
   have gb:=(hO2 nd2 (List.mem_of_getElem? hn2)).2 b (List.mem_of_getElem? hb)
   have:=l3 i a b ha hb
   exact ⟨a.toNat,b.toNat,by omega,by omega,by show a.toNat < ns.length; omega,by show b.toNat < ms.length; omega,this⟩
  ·simp only [Z7e,andThen]
   have hvl':v.length ≤ v'.length:=by rw [hvw,List.length_append]; omega
   exact ⟨5001 - (j + 1),by omega,j + 1,v',by omega,rfl,(hF 2 (by simp)).trans (by simp [t2]),(hF 3 (by simp)).trans (by simp [t3]),(hF 5 (by simp)).trans (by simp [t5]),tv',t6',hvn',fun a b h => hvg' _ h,mq',hq',
    r2 ++ ((B8,C [.str nd1.1,kx]) :: (B9,C [.str nd2.1,ky]) :: (B7,C [.int .i64 x,.int .i64 y]) :: r'),d'.perm (Z0r fun z => by
     simp only [Z0h,Z0o]
     omega)⟩
 ·have hz:v.length - j = 0:=by omega
  simp [t6,hqt,hql,hz]
  refine AM.Z03 ?_
  simp
  refine AM.wp_exit ?_
  simp
  refine Z00 ?_
  simp
  refine AM.wp_ret ?_
  simp
  exact q _ d.Z0b
end
section
variable {s s1:St} {r:Lets} {fr:FI} {t0:PT AVal}
theorem Zzf {Q:Ex→PT AVal→St→Prop} {B12 B13:Pos} {nm:List UInt8} {kv:AVal} {ks:List Int} {bn:Nat} (hK:Z0e s kv ks) (h4:ks.length ≤ 4) (hbn:bn ≤ 1000) (hks:∀ k ∈ ks,0 ≤ k∧k ≤ 1000)
  (h:Ctx s (fun _ => False) ((B13,C [.str nm,.nilSlice]) :: (B12,C [.str nm,kv]) :: r) s1)
  (u10:PT.get (posOf 10) t0 = some (.int .i64 bn)) (u12:PT.get (posOf 12) t0 = some (.ptr B12 0)) (u13:PT.get (posOf 13) t0 = some (.ptr B13 0))
  (q:∀ t s' kv2 mg,Fr [15,62,63,64,65] t0 t→Z1a kv2 (ks.map fun k => (bn:Int) + k) mg→Ctx s (fun _ => False) ((B13,C [.str nm,kv2]) :: (B12,C [.str nm,kv]) :: (mg ++ r)) s'→Q .normal t s'):wp Tryd.prog Zst fr t0 s1 Q:=by
 have hkl:=hK.len
 have hkt:=hK.ntup
 refine Z00 ?_
 simp [u12,h.c 1 rfl,hkl,hkt]
 refine AM.wp_block ?_
 refine AM.wp_loop (fun m t s' => ∃ (j:Nat) (kv2:AVal) (mg:Lets),j ≤ ks.length∧m = ks.length - j∧Fr [15,62,63,64,65] t0 t∧PT.get (posOf 62) t = some kv∧PT.get (posOf 63) t = some (.int .i64 ks.length)∧PT.get (posOf 64) t = some (.int .i64 j) ∧
   Z1a kv2 ((ks.take j).map fun k => (bn:Int) + k) mg∧Ctx s (fun _ => False) ((B13,C [.str nm,kv2]) :: (B12,C [.str nm,kv]) :: (mg ++ r)) s') ks.length
   ⟨0,.nilSlice,[],by simp,by simp,?_,by simp,by simp,by simp,.inl ⟨by simp,rfl,rfl⟩,h⟩ ?_
 ·intro y hy
  simp at hy
  simp [hy]
 rintro m t s' ⟨j,kv2,mg,hj,rfl,hF,t62,t63,t64,hg,d⟩
 have v10:=(hF 10 (by simp)).trans u10
 have v13:=(hF 13 (by simp)).trans u13
 refine Z00 ?_
 simp [t63,t64]
 refine AM.wp_seq ?_
 refine AM.Z03 ?_
 by_cases hlt:j < ks.length
 ·have hwr:IntKind.wrap .i64 ((j:Int) + 1) = (j:Int) + 1:=IntWalk.i64_in _ (by omega)
  obtain ⟨k,hk⟩:∃ k,ks[j]? = some k:=⟨_,List.getElem?_eq_getElem hlt⟩
  obtain ⟨k0,k1⟩:=hks k (List.mem_of_getElem? hk)
  have hwk:IntKind.wrap .i64 ((bn:Int) + k) = (bn:Int) + k:=IntWalk.i64_in _ (by omega)
  have hK':=hK.keep d.Z0b
  rcases hK' with ⟨_,e0⟩ | ⟨bx,ox,cx,cellsx,rfl,hbx,hcsx,hlex,helx⟩
  ·rw [e0] at hlt
   simp at hlt
  have hgx:=helx j _ hk
  simp [hlt]
  refine AM.wp_skip ?_
  simp
  refine AM.wp_seq ?_
  refine AM.wp_block ?_
  refine Z00 ?_
  simp [t62,t64,hlt,hcsx,hgx]
  refine AM.wp_region ?_
  simp [v10,v13,d.c 0 rfl,hwk,hg.ntup,Z13,srcP]
  have d1:=d.alloc (C [.int .i64 ((bn:Int) + k)])
  generalize s'.alloc (.cells [.int .i64 ((bn:Int) + k)] false) = s2 at d1 ⊢
  generalize s'.next = T at d1 ⊢
  refine Z4t (pre:=[(T,C [.int .i64 ((bn:Int) + k)]),(B13,C [.str nm,kv2]),(B12,C [.str nm,.slice bx ox ks.length cx])]) d1 hg (by simp; omega) fun kv3 mg3 s3 hg3 d2 => ?_
  simp only [List.cons_append,List.nil_append] at d2
  simp [v13,hg3.ntup,hg3.cells,d2.o 1 rfl]
  have d3:=(d2.put 1 rfl (C [.str nm,kv3])).tail
  simp only [List.set_cons_zero,List.set_cons_succ] at d3
  refine AM.wp_region ?_
  simp [t64,hwr]
  refine ⟨ks.length - (j + 1),by omega,j + 1,by omega,by omega,?_,by simp [t62],by simp [t63],by simp,kv3,mg3,?_,d3⟩
  ·intro y hy
   simp at hy
   simp [hy]
   exact hF y (by simp [hy])
  ·have e:(ks.take (j + 1)).map (fun k => (bn:Int) + k) = (ks.take j).map (fun k => (bn:Int) + k) ++ [(bn:Int) + k]:=by
    rw [List.take_add_one,hk,List.map_append]
    rfl
   first
    | (rw [e]; exact hg3)
    | (rw [← List.map_take,e]; exact hg3)
 ·simp [hlt]
  refine AM.wp_exit ?_
  simp
  have hje:j = ks.length:=by omega
  subst hje
  rw [List.take_length] at hg
  refine q _ s' kv2 mg ?_ hg d
  intro y hy
  simp at hy
  simp [hy]
  exact hF y (by simp [hy])
end
section
variable {s s1:St} {r:Lets} {fr:FI} {t0:PT AVal}
theorem Zwd {Q:Ex→PT AVal→St→Prop} {B9:Pos} {tnv nv:AVal} {ns A:List ND} {mn:Lets} {root:Int} (hN:Z1k s tnv ns) (hO:GrOk ns) (hl:ns.length ≤ 60) (hA:A.length ≤ 900) (hR:Z2h nv A mn)
  (h:Ctx s (fun _ => False) ((B9,C [tnv,.int .i64 root]) :: (mn ++ r)) s1)
  (u6:PT.get (posOf 6) t0 = some nv) (u9:PT.get (posOf 9) t0 = some (.ptr B9 0)) (u10:PT.get (posOf 10) t0 = some (.int .i64 A.length))
  (q:∀ t s' nv2 mn2 r',Fr [6,12,13,15,52,53,54,55,62,63,64,65] t0 t→PT.get (posOf 6) t = some nv2→Z2h nv2 (A ++ ns.map (Z3w A.length)) mn2→Ctx s (fun _ => False) ((B9,C [tnv,.int .i64 root]) :: (mn2 ++ (r' ++ r))) s'→Q .normal t s'):wp Tryd.prog Zss fr t0 s1 Q:=by
 have hNl:=hN.len
 have hNt:=hN.ntup
 refine Z00 ?_
 simp [u9,h.c 0 rfl,hNl,hNt]
 refine AM.wp_block ?_
 refine AM.wp_loop (fun m t s' => ∃ (j:Nat) (nv2:AVal) (mn2 r':Lets),j ≤ ns.length∧m = ns.length - j∧Fr [6,12,13,15,52,53,54,55,62,63,64,65] t0 t∧PT.get (posOf 6) t = some nv2∧PT.get (posOf 52) t = some tnv∧PT.get (posOf 53) t = some (.int .i64 ns.length)∧PT.get (posOf 54) t = some (.int .i64 j) ∧
   Z2h nv2 (A ++ (ns.take j).map (Z3w A.length)) mn2∧Ctx s (fun _ => False) ((B9,C [tnv,.int .i64 root]) :: (mn2 ++ (r' ++ r))) s') ns.length
   ⟨0,nv,mn,[],by simp,by simp,?_,by simp [u6],by simp,by simp,by simp,by simpa using hR,h⟩ ?_
 ·intro y hy
  simp at hy
  simp [hy]
 rintro m t s' ⟨j,nv2,mn2,r',hj,rfl,hF,t6,t52,t53,t54,hR2,d⟩
 have v9:=(hF 9 (by simp)).trans u9
 have v10:=(hF 10 (by simp)).trans u10
 refine Z00 ?_
 simp [t53,t54]
 refine AM.wp_seq ?_
 refine AM.Z03 ?_
 by_cases hlt:j < ns.length
 ·have hwr:IntKind.wrap .i64 ((j:Int) + 1) = (j:Int) + 1:=IntWalk.i64_in _ (by omega)
  obtain ⟨nd,hnd⟩:∃ nd,ns[j]? = some nd:=⟨_,List.getElem?_eq_getElem hlt⟩
  obtain ⟨o1,o2⟩:=hO nd (List.mem_of_getElem? hnd)
  rcases hN with ⟨_,ee⟩ | ⟨bt,ot,ct,cellst,rfl,hbt,hcst,hlet,helt⟩
  ·rw [ee] at hlt
   simp at hlt
  have rt:∀ {m:Lets} {s'':St},Ctx s (fun _ => False) m s''→s''.cells bt = some cellst:=fun d => (d.Z0b.cells hbt).trans hcst
  obtain ⟨f1,kv,f2,f3⟩:=helt j nd hnd
  have hs1:=Zdc f1 f2
  have hle1:ot + j * 2 + 2 ≤ cellst.length:=by omega
  have hkc:=f3.Za4
  have hkt:=f3.ntup
  simp [hlt]
  refine AM.wp_skip ?_
  simp
  refine AM.wp_seq ?_
  refine AM.wp_block ?_
  refine Z00 ?_
  simp [t52,t54,hlt,rt d,hle1,hs1]
  have d1:=(d.alloc (C [.str [],.nilSlice])).put 0 rfl (C [.str nd.1,kv])
  simp only [List.set_cons_zero] at d1
  generalize (s'.alloc (.cells [.str [],.nilSlice] false)).put s'.next (.cells [.str nd.1,kv] false) = s2 at d1 ⊢
  generalize s'.next = B12 at d1 ⊢
  refine Z00 ?_
  simp [d1.c 0 rfl]
  have d2:=(d1.alloc (C [.str [],.nilSlice])).put 0 rfl (C [.str nd.1,.nilSlice])
  simp only [List.set_cons_zero] at d2
  generalize (s2.alloc (.cells [.str [],.nilSlice] false)).put s2.next (.cells [.str nd.1,.nilSlice] false) = s3 at d2 ⊢
  generalize s2.next = B13 at d2 ⊢
  refine AM.wp_seq ?_
  refine Zzf (bn:=A.length) (ks:=nd.2) f3 o1 (by omega) (fun k hk => by have:=o2 k hk; omega) d2 (by simp [v10]) (by simp) (by simp) fun t2 s4 kv2 mg hF2 hg d3 => ?_
  have w6:PT.get (posOf 6) t2 = some nv2:=(hF2 6 (by simp)).trans (by simp [t6])
  have w13:PT.get (posOf 13) t2 = some (.ptr B13 0):=(hF2 13 (by simp)).trans (by simp)
  have w52:PT.get (posOf 52) t2 = some (.slice bt ot ns.length ct):=(hF2 52 (by simp)).trans (by simp [t52])
  have w53:PT.get (posOf 53) t2 = some (.int .i64 ns.length):=(hF2 53 (by simp)).trans (by simp [t53])
  have w54:PT.get (posOf 54) t2 = some (.int .i64 j):=(hF2 54 (by simp)).trans (by simp [t54])
  simp only [andThen]
  refine AM.wp_region ?_
  simp [w6,w13,d3.c 0 rfl,hR2.ntup,hg.ntup,Z13,srcP]
  have d4:=d3.alloc (C [.str nd.1,kv2])
  generalize s4.alloc (.cells [.str nd.1,kv2] false) = s5 at d4 ⊢
  generalize s4.next = T at d4 ⊢
  have d5:=d4.perm (m':=[(T,C [.str nd.1,kv2]),(B13,C [.str nd.1,kv2]),(B12,C [.str nd.1,kv]),(B9,C [.slice bt ot ns.length ct,.int .i64 root])] ++ (mg ++ (mn2 ++ (r' ++ r)))) (Z0r fun z => by
   simp only [Z0h,Z0o,Z2n]
   omega)
  refine Zfh d5 hR2 hg.row (by simp; omega) fun nv3 mn3 s6 hR3 d6 => ?_
  simp only [List.cons_append,List.nil_append] at d6
  have hsn:(A ++ (ns.take j).map (Z3w A.length)) ++ [(nd.1,nd.2.map fun k => (A.length:Int) + k)] = A ++ (ns.take (j + 1)).map (Z3w A.length):=by
   rw [List.append_assoc,List.take_add_one,hnd,List.map_append]
   rfl
  rw [hsn] at hR3
  refine AM.wp_region ?_
  simp [w54,hwr]
  refine ⟨ns.length - (j + 1),by omega,j + 1,by omega,by omega,?_,w52,w53,by omega,mn3,?_,(T,C [.str nd.1,kv2]) :: (B13,C [.str nd.1,kv2]) :: (B12,C [.str nd.1,kv]) :: r',?_⟩
  ·intro y hy
   simp at hy
   simp [hy]
   rw [hF2 y (by simp [hy])]
   simp [hy]
   exact hF y (by simp [hy])
  ·first
    | exact hR3
    | (rw [← List.map_take]; exact hR3)
  ·exact d6.perm (Z0r fun z => by
    simp only [Z0h,Z0o]
    omega)
 ·simp [hlt]
  refine AM.wp_exit ?_
  simp
  have hje:j = ns.length:=by omega
  subst hje
  rw [List.take_length] at hR2
  refine q _ s' nv2 mn2 r' ?_ (by simp [t6]) hR2 d
  intro y hy
  simp at hy
  simp [hy]
  exact hF y (by simp [hy])
end
theorem Zwl (a:List TV):∀ b:List TV,sumL (a ++ b) = sumL a + sumL b:=by
 intro b
 induction b using Z7z with
 | nil => simp [sumL]
 | append_singleton b t ih => rw [← List.append_assoc,Zar,Zar,ih]; omega
theorem Zm7 (ts:List TV) (i:Nat):sumL (ts.take i) ≤ sumL ts:=by
 have:=Zwl (ts.take i) (ts.drop i)
 rw [List.take_append_drop] at this
 omega
section
variable {s s1:St} {r:Lets} {fr:FI} {t0:PT AVal}
theorem Zwf {Q:Ex→PT AVal→St→Prop} {B2:Pos} {tv:AVal} {ts:List TV} (hT:Z4s s tv ts) (hok:∀ t ∈ ts,TOk t) (hl:ts.length ≤ 12) (hsum:sumL ts ≤ 60)
  (h:Ctx s (fun _ => False) ((B2,C [.nilSlice,.int .i64 0]) :: r) s1)
  (u0:PT.get (posOf 0) t0 = some tv) (u2:PT.get (posOf 2) t0 = some (.ptr B2 0)) (u6:PT.get (posOf 6) t0 = some .nilSlice) (u7:PT.get (posOf 7) t0 = some .nilSlice)
  (q:∀ t s' nv rv mn mg r',PT.get (posOf 2) t = some (.ptr B2 0)→PT.get (posOf 6) t = some nv→PT.get (posOf 7) t = some rv→Z2h nv (Z2j ts).1 mn→Z1a rv (Z2j ts).2 mg →
   Ctx s (fun _ => False) ((B2,C [.nilSlice,.int .i64 0]) :: (mn ++ (mg ++ r'))) s'→Q .normal t s'):wp Tryd.prog Zsr fr t0 s1 Q:=by
 have hTl:Z1b tv = some ts.length:=by
  rcases hT with ⟨h1,rfl⟩ | ⟨b,o,c,cs,rfl,_⟩
  ·exact h1
  ·rfl
 have hTt:∀ t,¬ tv = .tup t:=by
  rintro t rfl
  cases hTl
 refine Z00 ?_
 simp [u0,hTl,hTt]
 refine AM.wp_block ?_
 refine AM.wp_loop (fun m t s' => ∃ (i:Nat) (nv rv:AVal) (mn mg r':Lets),i ≤ ts.length∧m = ts.length - i∧PT.get (posOf 2) t = some (.ptr B2 0)∧PT.get (posOf 6) t = some nv∧PT.get (posOf 7) t = some rv∧PT.get (posOf 36) t = some tv∧PT.get (posOf 37) t = some (.int .i64 ts.length)∧PT.get (posOf 38) t = some (.int .i64 i) ∧
   Z2h nv (Z2j (ts.take i)).1 mn∧Z1a rv (Z2j (ts.take i)).2 mg∧Ctx s (fun _ => False) ((B2,C [.nilSlice,.int .i64 0]) :: (mn ++ (mg ++ r'))) s') ts.length
   ⟨0,.nilSlice,.nilSlice,[],[],r,by simp,by simp,by simp [u2],by simp [u6],by simp [u7],by simp,by simp,by simp,.inl ⟨rfl,rfl,rfl⟩,.inl ⟨rfl,rfl,rfl⟩,h⟩ ?_
 rintro m t s' ⟨i,nv,rv,mn,mg,r',hi,rfl,t2,t6,t7,t36,t37,t38,hR,hg,d⟩
 refine Z00 ?_
 simp [t37,t38]
 refine AM.wp_seq ?_
 refine AM.Z03 ?_
 by_cases hlt:i < ts.length
 ·have hwr:IntKind.wrap .i64 ((i:Int) + 1) = (i:Int) + 1:=IntWalk.i64_in _ (by omega)
  obtain ⟨tt,htt⟩:∃ tt,ts[i]? = some tt:=⟨_,List.getElem?_eq_getElem hlt⟩
  obtain ⟨k1,k2,k3,k4⟩:=hok tt (List.mem_of_getElem? htt)
  obtain ⟨_,_,g3,g4,_⟩:=Zdw (ts.take i) (fun x hx => hok x (List.mem_of_mem_take hx))
  have hsl:=Zm7 ts i
  have hnext:Z2j (ts.take (i + 1)) = Zgb (Z2j (ts.take i)) tt:=by rw [List.take_add_one,htt]; exact Zj9 _ _
  have hsn:sumL (ts.take (i + 1)) = sumL (ts.take i) + tt.1.length:=by rw [List.take_add_one,htt]; exact Zar _ _
  have hsl2:=Zm7 ts (i + 1)
  have hil:(ts.take i).length = i:=by simp; omega
  rw [hil] at g4
  generalize Z2j (ts.take i) = X at hR hg g3 g4 hnext
  rcases hT with ⟨_,ee⟩ | ⟨bt,ot,ct,cellst,rfl,hbt,hcst,hlet,helt⟩
  ·rw [ee] at hlt
   simp at hlt
  have rt:∀ {m:Lets} {s'':St},Ctx s (fun _ => False) m s''→s''.cells bt = some cellst:=fun d => (d.Z0b.cells hbt).trans hcst
  obtain ⟨tnv,f1,f2,f3⟩:=helt i tt htt
  have hs1:=Zdc f1 f2
  have hle1:ot + i * 2 + 2 ≤ cellst.length:=by omega
  have hnl:=hR.len
  have hwk:IntKind.wrap .i64 ((X.1.length:Int) + tt.2) = (X.1.length:Int) + tt.2:=IntWalk.i64_in _ (by omega)
  simp [hlt]
  refine AM.wp_skip ?_
  simp
  refine AM.wp_seq ?_
  refine AM.wp_block ?_
  refine Z00 ?_
  simp [t36,t38,hlt,rt d,hle1,hs1]
  have d1:=(d.alloc (C [.nilSlice,.int .i64 0])).put 0 rfl (C [tnv,.int .i64 tt.2])
  simp only [List.set_cons_zero] at d1
  generalize (s'.alloc (.cells [.nilSlice,.int .i64 0] false)).put s'.next (.cells [tnv,.int .i64 tt.2] false) = s2 at d1 ⊢
  generalize s'.next = B9 at d1 ⊢
  refine Z00 ?_
  simp [t6,hR.ntup,hnl]
  refine Z00 ?_
  simp [t7,d1.c 0 rfl,hwk,hg.ntup,Z13,srcP]
  have d2:=d1.alloc (C [.int .i64 ((X.1.length:Int) + tt.2)])
  generalize s2.alloc (.cells [.int .i64 ((X.1.length:Int) + tt.2)] false) = s3 at d2 ⊢
  generalize s2.next = T at d2 ⊢
  have d3:=d2.perm (m':=[(T,C [.int .i64 ((X.1.length:Int) + tt.2)]),(B9,C [tnv,.int .i64 tt.2]),(B2,C [.nilSlice,.int .i64 0])] ++ (mg ++ (mn ++ r'))) (Z0r fun z => by
   simp only [Z0h,Z0o,Z2n]
   omega)
  refine Z4t d3 hg (by omega) fun rv2 mg2 s4 hg2 d4 => ?_
  simp only [List.cons_append,List.nil_append] at d4
  have d5:=d4.perm (m':=(B9,C [tnv,.int .i64 tt.2]) :: (mn ++ ((T,C [.int .i64 ((X.1.length:Int) + tt.2)]) :: (B2,C [.nilSlice,.int .i64 0]) :: (mg2 ++ r')))) (Z0r fun z => by
   simp only [Z0h,Z0o]
   omega)
  refine Zwd (A:=X.1) f3 k1 (by omega) (by omega) hR d5 (by simp [t6]) (by simp) (by simp) fun t4 s5 nv2 mn2 r2 hF w6 hR2 d6 => ?_
  have w2:PT.get (posOf 2) t4 = some (.ptr B2 0):=(hF 2 (by simp)).trans (by simp [t2])
  have w7:PT.get (posOf 7) t4 = some rv2:=(hF 7 (by simp)).trans (by simp)
  have w36:PT.get (posOf 36) t4 = some (.slice bt ot ts.length ct):=(hF 36 (by simp)).trans (by simp [t36])
  have w37:PT.get (posOf 37) t4 = some (.int .i64 ts.length):=(hF 37 (by simp)).trans (by simp [t37])
  have w38:PT.get (posOf 38) t4 = some (.int .i64 i):=(hF 38 (by simp)).trans (by simp [t38])
  simp only [Z7e,andThen]
  refine AM.wp_region ?_
  simp [w38,hwr]
  refine ⟨ts.length - (i + 1),by omega,i + 1,by omega,by omega,by simp [w2],nv2,by simp [w6],rv2,by simp [w7],by simp [w36],by simp [w37],by simp,mn2,by rw [hnext]; exact hR2,mg2,by rw [hnext]; exact hg2,r2 ++ ((B9,C [tnv,.int .i64 tt.2]) :: (T,C [.int .i64 ((X.1.length:Int) + tt.2)]) :: r'),d6.perm (Z0r fun z => by
   simp only [Z0h,Z0o]
   omega)⟩
 ·simp [hlt]
  refine AM.wp_exit ?_
  simp
  have hie:i = ts.length:=by omega
  subst hie
  rw [List.take_length] at hR hg
  exact q _ s' nv rv mn mg r' (by simp [t2]) (by simp [t6]) (by simp [t7]) hR hg d
theorem Zwe {Q:Ex→PT AVal→St→Prop} {rv cv:AVal} {xs cls:List Int} {mg:Lets} (hg:Z1a rv xs mg) (hl:xs.length ≤ 12) (hC:∀ s',Ctx s (fun _ => False) r s'→Z0e s' cv cls) (hx:∀ x ∈ xs,0 ≤ x∧x < cls.length) (h:Ctx s (fun _ => False) (mg ++ r) s1)
  (u7:PT.get (posOf 7) t0 = some rv) (u17:PT.get (posOf 17) t0 = some cv)
  (q:∀ t s' mg',Fr [19,20,95,96,97,98] t0 t→mg'.map (·.1) = mg.map (·.1)→Ctx s (fun _ => False) (mg' ++ r) s'→Q .normal t s'):wp Tryd.prog Zsu fr t0 s1 Q:=by
 rcases hg with ⟨rfl,rfl,rfl⟩ | ⟨b,hne,rfl,rfl⟩
 ·refine Z00 ?_
  simp [u7]
  refine AM.wp_block ?_
  refine AM.wp_loop (fun m t s' => m = 0∧PT.get (posOf 96) t = some (.int .i64 0)∧PT.get (posOf 97) t = some (.int .i64 0)∧Fr [19,20,95,96,97,98] t0 t∧s' = s1) 0 ⟨rfl,by simp,by simp,?_,rfl⟩ ?_
  ·intro y hy
   simp at hy
   simp [hy]
  rintro m t s' ⟨rfl,t96,t97,hF,rfl⟩
  refine Z00 ?_
  simp [t96,t97]
  refine AM.wp_seq ?_
  refine AM.Z03 ?_
  simp
  refine AM.wp_exit ?_
  simp
  refine q _ _ [] ?_ rfl h
  intro y hy
  simp at hy
  simp [hy]
  exact hF y (by simp [hy])
 refine Z00 ?_
 simp [u7]
 refine AM.wp_block ?_
 refine AM.wp_loop (fun m t s' => ∃ (i:Nat) (ys:List Int),i ≤ xs.length∧m = xs.length - i∧Fr [19,20,95,96,97,98] t0 t∧PT.get (posOf 95) t = some (.slice b 0 xs.length (.opn 1))∧PT.get (posOf 96) t = some (.int .i64 xs.length)∧PT.get (posOf 97) t = some (.int .i64 i) ∧
   ys.length = xs.length∧(∀ j,i ≤ j→ys[j]? = xs[j]?)∧Ctx s (fun _ => False) ((b,C (ints ys)) :: r) s') xs.length
   ⟨0,xs,by simp,by simp,?_,by simp,by simp,by simp,rfl,fun _ _ => rfl,h⟩ ?_
 ·intro y hy
  simp at hy
  simp [hy]
 rintro m t s' ⟨i,ys,hi,rfl,hF,t95,t96,t97,hyl,hys,d⟩
 have v7:=(hF 7 (by simp)).trans u7
 have v17:=(hF 17 (by simp)).trans u17
 refine Z00 ?_
 simp [t96,t97]
 refine AM.wp_seq ?_
 refine AM.Z03 ?_
 by_cases hlt:i < xs.length
 ·have hwr:IntKind.wrap .i64 ((i:Int) + 1) = (i:Int) + 1:=IntWalk.i64_in _ (by omega)
  obtain ⟨x,hxi⟩:∃ x,xs[i]? = some x:=⟨_,List.getElem?_eq_getElem hlt⟩
  obtain ⟨x0,x1⟩:=hx x (List.mem_of_getElem? hxi)
  obtain ⟨xn,rfl⟩:∃ xn:Nat,x = xn:=⟨x.toNat,by omega⟩
  have hgx:(ints ys)[i]? = some (.int .i64 xn):=by rw [List.getElem?_map,hys i (Nat.le_refl _),hxi]; rfl
  have hxl:xn < cls.length:=by omega
  obtain ⟨c,hc⟩:∃ c,cls[xn]? = some c:=⟨_,List.getElem?_eq_getElem hxl⟩
  have hCs:=hC s' d.tail
  rcases hCs with ⟨_,ee⟩ | ⟨bc,oc,cc,cellsc,rfl,hbc,hcsc,hlec,helc⟩
  ·rw [ee] at hxl
   simp at hxl
  have hgc:=helc xn c hc
  have hlay:lay (ints ys) i [.int .i64 c] = ints (ys.set i c):=Z8f ys i c (by omega)
  have hml:i + 1 ≤ (ints ys).length:=by simp; omega
  have ho:=d.o 0 rfl
  have hcc:=d.c 0 rfl
  generalize hX:ints ys = X at hgx hlay hml ho hcc d
  generalize hY:ints (ys.set i c) = Y at hlay
  simp [lay] at hlay
  simp [hlt]
  refine AM.wp_skip ?_
  simp
  refine AM.wp_seq ?_
  refine AM.wp_block ?_
  refine Z00 ?_
  simp [t95,t97,hlt,hcc,hgx]
  refine AM.wp_region ?_
  simp [v7,v17,hlt,hxl,hcsc,hgc,ho,hml,hlay]
  have d1:=d.put 0 rfl (C Y)
  simp only [List.set_cons_zero] at d1
  generalize s'.put b (.cells Y false) = s2 at d1 ⊢
  rw [← hY] at d1
  refine AM.wp_region ?_
  simp [t97,hwr]
  refine ⟨xs.length - (i + 1),by omega,i + 1,by omega,by omega,?_,by simp [t95],by simp [t96],by simp,ys.set i c,by simp [hyl],fun j hj => ?_,d1⟩
  ·intro y hy
   simp at hy
   simp [hy]
   exact hF y (by simp [hy])
  ·rw [List.getElem?_set_ne (by omega)]
   exact hys j (by omega)
 ·simp [hlt]
  refine AM.wp_exit ?_
  simp
  refine q _ s' [(b,C (ints ys))] ?_ rfl d
  intro y hy
  simp at hy
  simp [hy]
  exact hF y (by simp [hy])
end
noncomputable def Z1m (bs:List Int) (n:Int):Nat→SK→List Int × SK
 | 0,k => ([],k)
 | j + 1,k => ((Z1m bs n j k).1 ++ [(Z2i bs n (Z1m bs n j k).2).1],(Z2i bs n (Z1m bs n j k).2).2)
noncomputable def Ze1 (bs:List Int) (n kinds:Int) (k:SK):ND × SK :=
 let a:=Z6o bs 0 2 k
 let b:=Z2i bs kinds a.2
 let c:=Z1m bs n a.1.toNat b.2
 ((((Zff a.1)[b.1.toNat]?).getD [],c.1),c.2)
noncomputable def Z2s (bs:List Int) (n kinds:Int):Nat→SK→List ND × SK
 | 0,k => ([],k)
 | j + 1,k => ((Z2s bs n kinds j k).1 ++ [(Ze1 bs n kinds (Z2s bs n kinds j k).2).1],(Ze1 bs n kinds (Z2s bs n kinds j k).2).2)
noncomputable def Z81 (bs:List Int) (nodes:Int) (k:SK):(List ND × Int) × SK :=
 let a:=Z6o bs 1 (min nodes 60) k
 let b:=Z2i bs a.1 a.2
 let c:=Z6o bs 1 3 b.2
 let x:=Z2s bs a.1 c.1 a.1.toNat c.2
 ((x.1,b.1),x.2)
theorem Zmb (bs:List Int) (n:Int) (j:Nat) (k:SK):Z1m bs n (j + 1) k = ((Z1m bs n j k).1 ++ [(Z2i bs n (Z1m bs n j k).2).1],(Z2i bs n (Z1m bs n j k).2).2):=rfl
theorem Zbr (bs:List Int) (n:Int):∀ (j:Nat) (k:SK),(Z1m bs n j k).1.length = j
 | 0,k => rfl
 | j + 1,k => by
  unfold Z1m
  simp [Zbr bs n j k]
theorem Zcl (bs:List Int) (n:Int):∀ (j:Nat) (k:SK),(Z1m bs n j k).2.nx ≤ k.nx + j
 | 0,k => by simp [Z1m]
 | j + 1,k => by
  unfold Z1m
  have:=Zcl bs n j k
  have:=Z8l bs n (Z1m bs n j k).2
  simp only
  omega
theorem Zgw (bs:List Int) {n:Int} (hn:1 ≤ n):∀ (j:Nat) (k:SK),∀ x ∈ (Z1m bs n j k).1,0 ≤ x∧x < n
 | 0,k => by simp [Z1m]
 | j + 1,k => by
  unfold Z1m
  intro x hx
  rcases List.mem_append.1 hx with hx | hx
  ·exact Zgw bs hn j k x hx
  ·simp at hx
   rw [hx]
   have:=Z76 bs n (Z1m bs n j k).2
   omega
theorem Zhx (bs:List Int) (n kinds:Int) (k:SK):∃ a b c,a = Z6o bs 0 2 k∧b = Z2i bs kinds a.2∧c = Z1m bs n a.1.toNat b.2∧Ze1 bs n kinds k = ((((Zff a.1)[b.1.toNat]?).getD [],c.1),c.2):=⟨_,_,_,rfl,rfl,rfl,rfl⟩
theorem Zvw (bs:List Int) (n kinds:Int) (k:SK):(Ze1 bs n kinds k).2.nx ≤ k.nx + 4:=by
 obtain ⟨a,b,c,ha,hb,hc,e⟩:=Zhx bs n kinds k
 have h1:=Z8k bs 0 2 k
 have h4:=Z68 bs 0 2 k
 rw [← ha] at h1 h4
 have h2:=Z8l bs kinds a.2
 rw [← hb] at h2
 have h3:=Zcl bs n a.1.toNat b.2
 rw [← hc] at h3
 rw [e]
 show c.2.nx ≤ _
 omega
theorem Zh9 (bs:List Int) (n kinds:Int) (j:Nat) (k:SK):Z2s bs n kinds (j + 1) k = ((Z2s bs n kinds j k).1 ++ [(Ze1 bs n kinds (Z2s bs n kinds j k).2).1],(Ze1 bs n kinds (Z2s bs n kinds j k).2).2):=by rw [Z2s]
theorem Zlm (bs:List Int) (n kinds:Int):∀ (j:Nat) (k:SK),(Z2s bs n kinds j k).2.nx ≤ k.nx + 4 * j:=by
 intro j k
 induction j with
 | zero => exact Nat.le_refl _
 | succ j ih =>
  have h2:=Zvw bs n kinds (Z2s bs n kinds j k).2
  rw [Zh9]
  revert ih h2
  generalize Z2s bs n kinds j k = y
  generalize Ze1 bs n kinds y.2 = x
  intro ih h2
  show x.2.nx ≤ _
  omega
theorem Ze2 (bs:List Int) (n kinds:Int):∀ (j:Nat) (k:SK),(Z2s bs n kinds j k).1.length = j
 | 0,k => rfl
 | j + 1,k => by
  unfold Z2s
  simp [Ze2 bs n kinds j k]
theorem Zih (bs:List Int) (nodes:Int) (k:SK):∃ a b c x,a = Z6o bs 1 (min nodes 60) k∧b = Z2i bs a.1 a.2∧c = Z6o bs 1 3 b.2∧x = Z2s bs a.1 c.1 a.1.toNat c.2∧Z81 bs nodes k = ((x.1,b.1),x.2):=⟨_,_,_,_,rfl,rfl,rfl,rfl,rfl⟩
theorem Zwn (bs:List Int) {nodes:Int} (k:SK):(Z81 bs nodes k).2.nx ≤ k.nx + 243:=by
 obtain ⟨a,b,c,x,ha,hb,hc,hx,e⟩:=Zih bs nodes k
 have h1:=Z8k bs 1 (min nodes 60) k
 have h4:=Z68 bs 1 (min nodes 60) k
 rw [← ha] at h1 h4
 have h2:=Z8l bs a.1 a.2
 rw [← hb] at h2
 have h3:=Z8k bs 1 3 b.2
 rw [← hc] at h3
 have h5:=Zlm bs a.1 c.1 a.1.toNat c.2
 rw [← hx] at h5
 rw [e]
 show x.2.nx ≤ _
 omega
theorem Zjg {k:Int} {i:Nat} (h:i < 3):∃ nm,(Zff k)[i]? = some nm∧Z1y nm = true∧nm.length ≤ 4:=by
 have hi:i = 0 ∨ i = 1 ∨ i = 2:=by omega
 unfold Zff
 split
 ·rcases hi with rfl | rfl | rfl <;> exact ⟨_,rfl,rfl,by decide⟩
 ·split
  ·rcases hi with rfl | rfl | rfl <;> exact ⟨_,rfl,rfl,by decide⟩
  ·rcases hi with rfl | rfl | rfl <;> exact ⟨_,rfl,rfl,by decide⟩
theorem Zln (bs:List Int) {n kinds:Int} (hn:1 ≤ n) (hk:1 ≤ kinds∧kinds ≤ 3):∀ (j:Nat) (k:SK),∀ nd ∈ (Z2s bs n kinds j k).1,nd.2.length ≤ 2∧(∀ x ∈ nd.2,0 ≤ x∧x < n)∧Z1y nd.1 = true∧nd.1.length ≤ 4
 | 0,k => by simp [Z2s]
 | j + 1,k => by
  unfold Z2s
  intro nd hnd
  rcases List.mem_append.1 hnd with h | h
  ·exact Zln bs hn hk j k nd h
  ·simp at h
   rw [h]
   generalize (Z2s bs n kinds j k).2 = k1
   obtain ⟨a,b,c,ha,hb,hc,e⟩:=Zhx bs n kinds k1
   have h1:=Z68 bs 0 2 k1
   rw [← ha] at h1
   have h2:=Z76 bs kinds a.2
   rw [← hb] at h2
   obtain ⟨nm,e1,e2,e3⟩:=Zjg (k:=a.1) (i:=b.1.toNat) (by omega)
   have h3:=Zbr bs n a.1.toNat b.2
   have h4:=Zgw bs hn a.1.toNat b.2
   rw [← hc] at h3 h4
   rw [e,e1]
   exact ⟨by show c.1.length ≤ 2; omega,h4,e2,e3⟩
theorem Zwo (bs:List Int) {nodes:Int} (h1:1 ≤ nodes) (k:SK):GrOk (Z81 bs nodes k).1.1∧(∀ nd ∈ (Z81 bs nodes k).1.1,Z1y nd.1 = true∧nd.1.length ≤ 4)∧1 ≤ (Z81 bs nodes k).1.1.length∧((Z81 bs nodes k).1.1.length:Int) ≤ min nodes 60∧0 ≤ (Z81 bs nodes k).1.2∧(Z81 bs nodes k).1.2 < (Z81 bs nodes k).1.1.length:=by
 obtain ⟨a,b,c,x,ha,hb,hc,hx,e⟩:=Zih bs nodes k
 have h4:=Z68 bs 1 (min nodes 60) k
 rw [← ha] at h4
 have h2:=Z76 bs a.1 a.2
 rw [← hb] at h2
 have h3:=Z68 bs 1 3 b.2
 rw [← hc] at h3
 have hN:=Zln bs (n:=a.1) (kinds:=c.1) (by omega) (by omega) a.1.toNat c.2
 have hL:=Ze2 bs a.1 c.1 a.1.toNat c.2
 rw [← hx] at hN hL
 rw [e]
 refine ⟨fun nd hnd => ?_,fun nd hnd => (hN nd hnd).2.2,by show 1 ≤ x.1.length; omega,by show (x.1.length:Int) ≤ _; omega,h2.1,by show b.1 < x.1.length; omega⟩
 obtain ⟨e1,e2,_⟩:=hN nd hnd
 refine ⟨by omega,fun y hy => ?_⟩
 have:=e2 y hy
 show 0 ≤ y∧y < (x.1.length:Int)
 omega
section
variable {s0 s:St} {W:Pos→Prop} {Bs:Pos} {bv:AVal} {bs:List Int} {k:SK} {r:Lets} {fr:FI} {t0:PT AVal}
theorem Zuy {Q:Ex→PT AVal→St→Prop} {B9:Pos} {nm:List UInt8} {n:Int} {c:Nat} (hB:Z3o s0 W bv bs) (hn:k.nx + 4 < 2 ^ 62) (hc2:c ≤ 2) (hnn:n ≤ 60)
  (hc:Ctx s0 W ((B9,C [.str nm,.nilSlice]) :: (Bs,Z1q bv k) :: r) s)
  (u0:PT.get (posOf 0) t0 = some (.ptr Bs 0)) (u5:PT.get (posOf 5) t0 = some (.int .i64 n)) (u8:PT.get (posOf 8) t0 = some (.int .i64 c)) (u9:PT.get (posOf 9) t0 = some (.ptr B9 0))
  (q:∀ t s' kv mg,Fr [32,33,34,35,36,37,38,39,40,41,42] t0 t→Z1a kv (Z1m bs n c k).1 mg→Ctx s0 W ((B9,C [.str nm,kv]) :: (Bs,Z1q bv (Z1m bs n c k).2) :: (mg ++ r)) s'→Q .normal t s'):wp Tryd.prog Zsm fr t0 s Q:=by
 refine Z00 ?_
 simp [u8]
 refine AM.wp_block ?_
 refine AM.wp_loop (fun m t s' => ∃ (j:Nat) (kv:AVal) (mg:Lets),j ≤ c∧m = c - j∧Fr [32,33,34,35,36,37,38,39,40,41,42] t0 t∧PT.get (posOf 32) t = some (.int .i64 c)∧PT.get (posOf 33) t = some (.int .i64 j)∧Z1a kv (Z1m bs n j k).1 mg ∧
   Ctx s0 W ((B9,C [.str nm,kv]) :: (Bs,Z1q bv (Z1m bs n j k).2) :: (mg ++ r)) s') c ⟨0,.nilSlice,[],by simp,by simp,?_,by simp,by simp,.inl ⟨rfl,rfl,rfl⟩,hc⟩ ?_
 ·intro y hy
  simp at hy
  simp [hy]
 rintro m t s' ⟨j,kv,mg,hj,rfl,hF,t32,t33,hg,d⟩
 refine Z00 ?_
 simp [t32,t33]
 refine AM.wp_seq ?_
 refine AM.Z03 ?_
 by_cases hlt:j < c
 ·have hwr:IntKind.wrap .i64 ((j:Int) + 1) = ((j + 1:Nat):Int):=by rw [IntWalk.i64_in _ (by omega)]; omega
  have v0:=(hF 0 (by simp)).trans u0
  have v5:=(hF 5 (by simp)).trans u5
  have v9:=(hF 9 (by simp)).trans u9
  have hnx:=Zcl bs n j k
  have hjl:=Zbr bs n j k
  simp [hlt]
  refine AM.wp_skip ?_
  simp
  refine AM.wp_seq ?_
  refine AM.wp_block ?_
  refine AM.wp_region ?_
  simp [v0,v5,v9,d.c 0 rfl]
  refine Z05 ?_
  have hnext:=Zmb bs n j k
  have d1:=d.perm (m':=(Bs,Z1q bv (Z1m bs n j k).2) :: (B9,C [.str nm,kv]) :: (mg ++ r)) (List.Perm.swap _ _ _)
  generalize Z1m bs n j k = X at hg d1 hnx hjl hnext
  refine Zcy hB d1 (by omega) (by omega) fun s1 d2 => ?_
  have hkv8:Z27 8 kv kv = true:=by
   rcases hg with ⟨_,rfl,_⟩ | ⟨q,_,rfl,_⟩
   ·simp [Z27]
   ·simp [Z27,Za0]
  have hns:s1.obj s1.next = none:=d2.wf _ (Z08 _)
  generalize Z2i bs n X.2 = Y at hnext d2 ⊢
  simp [d2.c 1 rfl,hkv8,hns,hg.ntup,Z13,srcP]
  have d3:=d2.alloc (C [.int .i64 Y.1])
  generalize s1.alloc (.cells [.int .i64 Y.1] false) = s2 at d3 ⊢
  generalize s1.next = T at d3 ⊢
  refine Z4t (pre:=[(T,C [.int .i64 Y.1]),(Bs,Z1q bv Y.2),(B9,C [.str nm,kv])]) d3 hg (by omega) fun kv' mg' s3 hg' d4 => ?_
  simp only [List.cons_append,List.nil_append] at d4
  simp [v9,hg'.ntup,hg'.cells,d4.o 2 rfl]
  have d5:=(d4.put 2 rfl (C [.str nm,kv'])).tail
  simp only [List.set_cons_zero,List.set_cons_succ] at d5
  refine AM.wp_region ?_
  simp [t33,hwr]
  refine ⟨c - (j + 1),by omega,j + 1,by omega,by omega,?_,by simp [t32],by simp,kv',mg',by rw [hnext]; exact hg',?_⟩
  ·intro y hy
   simp at hy
   simp [hy]
   exact hF y (by simp [hy])
  ·rw [hnext]
   exact d5.perm (List.Perm.swap _ _ _)
 ·simp [hlt]
  refine AM.wp_exit ?_
  simp
  have hje:j = c:=by omega
  subst hje
  refine q _ s' kv mg ?_ hg d
  intro y hy
  simp at hy
  simp [hy]
  exact hF y (by simp [hy])
theorem tree_c {Q:AVal→St→Prop} {nodes:Int} (hB:Z3o s0 W bv bs) (h:Ctx s0 W ((Bs,Z1q bv k) :: r) s) (hn:k.nx + 1000 < 2 ^ 62) (h1:1 ≤ nodes) (h2:nodes ≤ 60)
  (q:∀ nv mn s',Z2h nv (Z81 bs nodes k).1.1 mn→Ctx s0 W ((Bs,Z1q bv (Z81 bs nodes k).2) :: (mn ++ r)) s'→Q (.agg [nv,.int .i64 (Z81 bs nodes k).1.2]) s'):Z0f Tryd.prog 17 [.ptr Bs 0,.int .i64 nodes] s Q:=by
 refine Z09 (Z0n (by decide)) fi17 rfl (by decide) rfl ?_
 refine Z00 ?_
 simp
 have c0:=h.alloc (C [.nilSlice,.int .i64 0])
 generalize s.alloc (.cells [.nilSlice,.int .i64 0] false) = sA at c0 ⊢
 generalize s.next = B4 at c0 ⊢
 have c0:=c0.perm (m':=(Bs,Z1q bv k) :: (B4,C [.nilSlice,.int .i64 0]) :: r) (List.Perm.swap _ _ _)
 refine Z00 ?_
 simp
 refine Zlp (k:=.i64) (k':=.i64) (a:=nodes) (b:=60) (by simp) (by simp) ?_
 simp
 refine Z05 ?_
 obtain ⟨a,b,c,X,ha,hb,hcc,hX,htr⟩:=Zih bs nodes k
 have e1:=Z8k bs 1 (min nodes 60) k
 have e2:=Z68 bs 1 (min nodes 60) k
 rw [← ha] at e1 e2
 rw [htr] at q
 simp only at q
 refine Zk5 hB c0 (by omega) (by omega) (by omega) fun s1 c1 => ?_
 rw [← ha] at c1 ⊢
 simp
 refine Z00 ?_
 simp
 refine Z05 ?_
 have e3:=Z8l bs a.1 a.2
 rw [← hb] at e3
 refine Zcy hB c1 (by omega) (by omega) fun s2 c2 => ?_
 rw [← hb] at c2 ⊢
 simp
 have c3:=(c2.alloc (C [.nilSlice,.int .i64 0])).put 0 rfl (C [.nilSlice,.int .i64 b.1])
 simp only [List.set_cons_zero] at c3
 generalize (s2.alloc (.cells [.nilSlice,.int .i64 0] false)).put s2.next (.cells [.nilSlice,.int .i64 b.1] false) = s3 at c3 ⊢
 generalize s2.next = B6 at c3 ⊢
 have c3:=c3.perm (m':=(Bs,Z1q bv b.2) :: (B6,C [.nilSlice,.int .i64 b.1]) :: (B4,C [.nilSlice,.int .i64 0]) :: r) (List.Perm.swap _ _ _)
 refine Z00 ?_
 simp
 refine Z05 ?_
 have e4:=Z8k bs 1 3 b.2
 have e5:=Z68 bs 1 3 b.2
 rw [← hcc] at e4 e5
 refine Zk5 hB c3 (by omega) (by omega) (by omega) fun s4 c4 => ?_
 rw [← hcc] at c4 ⊢
 simp
 refine AM.wp_seq ?_
 refine Z00 ?_
 simp
 obtain ⟨n,hna⟩:∃ n:Nat,a.1 = (n:Int):=⟨a.1.toNat,by omega⟩
 rw [hna] at hX e2 ⊢
 rw [Int.toNat_natCast] at hX
 rw [hX] at q
 refine AM.wp_block ?_
 refine AM.wp_loop (fun m t s' => ∃ (i:Nat) (nv:AVal) (mn:Lets),i ≤ n∧m = n - i∧PT.get (posOf 0) t = some (.ptr Bs 0)∧PT.get (posOf 4) t = some (.ptr B4 0)∧PT.get (posOf 5) t = some (.int .i64 n)∧PT.get (posOf 6) t = some (.ptr B6 0)∧PT.get (posOf 7) t = some (.int .i64 c.1) ∧
   PT.get (posOf 20) t = some (.int .i64 n)∧PT.get (posOf 21) t = some (.int .i64 i)∧Z2h nv (Z2s bs n c.1 i c.2).1 mn ∧
   Ctx s0 W ((Bs,Z1q bv (Z2s bs n c.1 i c.2).2) :: (B6,C [nv,.int .i64 b.1]) :: (B4,C [.nilSlice,.int .i64 0]) :: (mn ++ r)) s') n
   ⟨0,.nilSlice,[],by simp,by simp,by simp,by simp,by simp,by simp,by simp,by simp,by simp,.inl ⟨rfl,rfl,rfl⟩,c4⟩ ?_
 rintro m t s' ⟨i,nv,mn,hi,rfl,t0,t4,t5,t6,t7,t20,t21,hN,d⟩
 refine Z00 ?_
 simp [t20,t21]
 refine AM.wp_seq ?_
 refine AM.Z03 ?_
 by_cases hlt:i < n
 ·have hwr:IntKind.wrap .i64 ((i:Int) + 1) = ((i + 1:Nat):Int):=by rw [IntWalk.i64_in _ (by omega)]; omega
  have hnx:=Zlm bs n c.1 i c.2
  have hil:=Ze2 bs n c.1 i c.2
  have hnext:=Zh9 bs n c.1 i c.2
  simp [hlt]
  refine AM.wp_skip ?_
  simp
  refine AM.wp_seq ?_
  refine AM.wp_block ?_
  refine Z00 ?_
  generalize Z2s bs n c.1 i c.2 = X at hnx hil hnext hN d
  simp [t0]
  refine Z05 ?_
  have f1:=Z8k bs 0 2 X.2
  have f2:=Z68 bs 0 2 X.2
  obtain ⟨A,Bw,Dk,hA,hBw,hDk,hnode⟩:=Zhx bs n c.1 X.2
  rw [← hA] at f1 f2
  refine Zk5 hB d (by omega) (by omega) (by omega) fun s5 d5 => ?_
  rw [← hA] at d5 ⊢
  simp
  refine Z00 ?_
  simp [t0,t7]
  refine Z05 ?_
  refine Zvr (by omega) (by omega) fun s6 k6 => ?_
  have d6:=d5.keeps k6
  simp [t0,t7]
  refine Z05 ?_
  have f3:=Z8l bs c.1 A.2
  have f4:=Z76 bs c.1 A.2
  rw [← hBw] at f3 f4
  refine Zcy hB d6 (by omega) (by omega) fun s7 d7 => ?_
  rw [← hBw] at d7 ⊢
  obtain ⟨nm,g1,g2,g3⟩:=Zjg (k:=A.1) (i:=Bw.1.toNat) (by omega)
  have hB1:Bw.1 < 3:=by omega
  rw [g1] at hnode
  simp only [Option.getD_some] at hnode
  simp [g1,f4.1,hB1]
  have d8:=(d7.alloc (C [.str [],.nilSlice])).put 0 rfl (C [.str nm,.nilSlice])
  simp only [List.set_cons_zero] at d8
  generalize (s7.alloc (.cells [.str [],.nilSlice] false)).put s7.next (.cells [.str nm,.nilSlice] false) = s8 at d8 ⊢
  generalize s7.next = B9 at d8 ⊢
  obtain ⟨cc,hcc⟩:∃ cc:Nat,A.1 = (cc:Int):=⟨A.1.toNat,by omega⟩
  rw [hcc] at hDk f2 ⊢
  rw [Int.toNat_natCast] at hDk
  refine AM.wp_seq ?_
  refine Zuy (c:=cc) (n:=n) hB (by omega) (by omega) (by omega) d8 (by simp [t0]) (by simp [t5]) (by simp) (by simp) fun t2 s9 kv mg hF hg d9 => ?_
  have v0:PT.get (posOf 0) t2 = some (.ptr Bs 0):=(hF 0 (by simp)).trans (by simp [t0])
  have v4:PT.get (posOf 4) t2 = some (.ptr B4 0):=(hF 4 (by simp)).trans (by simp [t4])
  have v5:PT.get (posOf 5) t2 = some (.int .i64 n):=(hF 5 (by simp)).trans (by simp [t5])
  have v6:PT.get (posOf 6) t2 = some (.ptr B6 0):=(hF 6 (by simp)).trans (by simp [t6])
  have v7:PT.get (posOf 7) t2 = some (.int .i64 c.1):=(hF 7 (by simp)).trans (by simp [t7])
  have v9:PT.get (posOf 9) t2 = some (.ptr B9 0):=(hF 9 (by simp)).trans (by simp)
  have v20:PT.get (posOf 20) t2 = some (.int .i64 n):=(hF 20 (by simp)).trans (by simp [t20])
  have v21:PT.get (posOf 21) t2 = some (.int .i64 i):=(hF 21 (by simp)).trans (by simp [t21])
  rw [← hDk] at hg d9
  have d9:=d9.perm (m':=(B9,C [.str nm,kv]) :: (Bs,Z1q bv Dk.2) :: (B6,C [nv,.int .i64 b.1]) :: (B4,C [.nilSlice,.int .i64 0]) :: (mg ++ (mn ++ r))) (Z0r fun y => by
   simp only [Z0h,Z0o,Z2n]
   omega)
  simp
  refine AM.wp_region ?_
  simp [v6,v9,d9.c 0 rfl,d9.c 2 rfl,hg.ntup,hg.cells,hN.ntup,Z13,srcP]
  have d10:=d9.alloc (C [.str nm,kv])
  generalize s9.alloc (.cells [.str nm,kv] false) = s10 at d10 ⊢
  generalize s9.next = T at d10 ⊢
  have d11:=d10.perm (m':=[(T,C [.str nm,kv]),(B9,C [.str nm,kv]),(Bs,Z1q bv Dk.2),(B6,C [nv,.int .i64 b.1]),(B4,C [.nilSlice,.int .i64 0])] ++ (mg ++ (mn ++ r))) (by simp)
  refine Zfh d11 hN hg.row (by omega) fun nv' mn' s11 hN' d12 => ?_
  simp only [List.cons_append,List.nil_append] at d12
  simp [hN'.ntup,hN'.cells,d12.o 3 rfl]
  have d13:=(d12.put 3 rfl (C [nv',.int .i64 b.1])).tail.tail
  simp only [List.set_cons_zero,List.set_cons_succ] at d13
  refine AM.wp_region ?_
  simp [v21,hwr]
  refine ⟨n - (i + 1),by omega,i + 1,by omega,by omega,by simp [v0],by simp [v4],by simp [v5],by simp [v6],by simp [v7],by simp [v20],by simp,nv',mn',by rw [hnext,hnode]; exact hN',?_⟩
  rw [hnext,hnode]
  exact d13
 ·simp [hlt]
  refine AM.wp_exit ?_
  simp
  have hie:i = n:=by omega
  subst hie
  have hls:Z45 Tryd.prog 42 = some (some 2):=by kernel_rfl
  refine Z00 ?_
  simp [t4,t6,d.c 1 rfl,d.o 2 rfl]
  have d1:=d.put 2 rfl (C [nv,.int .i64 b.1])
  simp only [List.set_cons_zero,List.set_cons_succ] at d1
  generalize s'.put B4 (.cells [nv,.int .i64 b.1] false) = s5 at d1 ⊢
  refine AM.wp_ret ?_
  simp [hls,t4,d1.c 2 rfl]
  refine q nv mn s5 hN ((d1.perm (m':=((Bs,Z1q bv (Z2s bs i c.1 i c.2).2) :: (mn ++ r)) ++ [(B6,C [nv,.int .i64 b.1]),(B4,C [nv,.int .i64 b.1])]) (Z0r fun y => ?_)).sub (List.sublist_append_left _ _))
  simp only [Z0h,Z0o,Z2n]
  omega
end
structure StepIs (cs c:List CV):Prop where
 good:HG c
 len:c.length = cs.length
 tot:tot c ≤ 1000
 stays:∀ a:Nat,Z06 cs (a:Int) = true→0 < Z2g cs a→(Z06 c (a:Int) = true∧lb c a = lb cs a∧0 < Z2g c a) ∨
  (Z06 c (a:Int) = false∧Z5y c∧∃ j:Nat,j < a∧Z06 c (j:Int) = true∧lb c j = lb cs a∧0 < Z2g c j)
structure GoodK (cs:List CV) (x:Int) (ns:List ND):Prop where
 nat:0 ≤ x
 take:Z06 cs x = true
 held:0 < Z2g cs x.toNat
 tree:Z44 cs x.toNat = ns
def Z6n:List (List ND)→List AVal→Lets→Prop
 | [],[],m => m = []
 | ns :: NS,nv :: NV,m => ∃ m1 m2,m.Perm (m1 ++ m2)∧Z2h nv ns m1∧Z6n NS NV m2
 | _,_,_ => False
theorem Z6n.len:∀ {NS:List (List ND)} {NV:List AVal} {m:Lets},Z6n NS NV m→NV.length = NS.length
 | [],[],_,_ => rfl
 | _ :: NS,_ :: NV,_,⟨_,_,_,_,h⟩ => by simp [h.len]
 | [],_ :: _,_,h => h.elim
 | _ :: _,[],_,h => h.elim
theorem Z6n.snoc:∀ {NS:List (List ND)} {NV:List AVal} {m m1:Lets} {ns:List ND} {nv:AVal},Z6n NS NV m→Z2h nv ns m1→Z6n (NS ++ [ns]) (NV ++ [nv]) (m ++ m1)
 | [],[],m,m1,ns,nv,h,hs => by
  have h:m = []:=h
  subst h
  exact ⟨m1,[],by simp,hs,rfl⟩
 | x :: NS,v :: NV,m,m1,ns,nv,⟨a,b,h1,h2,h3⟩,hs => ⟨a,b ++ m1,by rw [← List.append_assoc]; exact h1.append (List.Perm.refl m1),h2,Z6n.snoc h3 hs⟩
 | [],_ :: _,_,_,_,_,h,_ => h.elim
 | _ :: _,[],_,_,_,_,h,_ => h.elim
theorem Z6n.at:∀ {NS:List (List ND)} {NV:List AVal} {m:Lets} {i:Nat} {ns:List ND},Z6n NS NV m→NS[i]? = some ns→∃ nv m1 m2,NV[i]? = some nv∧Z2h nv ns m1∧m.Perm (m1 ++ m2)
 | [],_,_,_,_,_,h => by simp at h
 | c :: L,p :: ps,m,0,cs,⟨a,b,h1,h2,h3⟩,h => by
  simp at h
  subst h
  exact ⟨p,a,b,rfl,h2,h1⟩
 | c :: L,p :: ps,m,i + 1,cs,⟨a,b,h1,h2,h3⟩,h => by
  obtain ⟨p',a',b',g1,g2,g3⟩:=Z6n.at h3 (i:=i) (by simpa using h)
  refine ⟨p',a',a ++ b',by simpa using g1,g2,h1.trans ?_⟩
  refine ((List.Perm.refl a).append g3).trans ?_
  rw [← List.append_assoc,← List.append_assoc]
  exact List.perm_append_comm.append (List.Perm.refl b')
 | _ :: _,[],_,_,_,h,_ => h.elim
theorem Zyr (n:Nat):HG (List.replicate n Z37):=by
 intro c hc
 exact .inl (List.eq_of_mem_replicate hc)
end Go.Proofs
end
section
open Go Go.AM
namespace Go.Proofs
end Go.Proofs
end
section
open Go Go.AM
namespace Go.Proofs
set_option maxRecDepth 100000
structure Seen (s:St) (hb:Pos) (cs:List CV):Prop where
 ex:∃ p V vs,s.Old hb∧s.cells hb = some [.slice p 0 cs.length (.lim cs.length),vs]∧s.Old p∧s.cells p = some (encs (rcs cs V))∧V.length = cs.length∧1 ≤ cs.length∧cs.length ≤ 400∧∀ (i:Nat) (d:CV),cs[i]? = some d→∃ kv,V[i]? = some kv∧Z0e s kv d.kids
section
variable {s:St} {Q:AVal→St→Prop}
theorem Zwa (bs:List Int):(Zgm bs).nx = 0:=by
 unfold Zgm
 rfl
end
theorem Zj7 {ns:List ND} (hO:GrOk ns) (hnm:∀ nd ∈ ns,Z1y nd.1 = true):Zcw ns:=by
 intro nd hnd
 have h1:=(hO nd hnd).1
 have h2:=hnm nd hnd
 refine ⟨?_,by omega⟩
 unfold Z1y at h2
 simp at h2
 omega
noncomputable def Z97 (ts:List TV):Nat:=(outF (clsF (Z2j ts).1 (bfsF (kidG (Z2j ts).1) (Z2j ts).1.length ((Z2j ts).2.map Int.toNat))) (Z2j ts).1 (bfsF (kidG (Z2j ts).1) (Z2j ts).1.length ((Z2j ts).2.map Int.toNat))).length
theorem Zh2 {ts:List TV} (h:∀ t ∈ ts,TOk t):∀ x ∈ (Z2j ts).2,0 ≤ x∧x < (Z2j ts).1.length:=by
 obtain ⟨_,_,_,g4,g5⟩:=Zdw ts h
 intro x hx
 obtain ⟨i,hi,rfl⟩:=List.getElem_of_mem hx
 obtain ⟨t,ht⟩:∃ t,ts[i]? = some t:=⟨_,List.getElem?_eq_getElem (by omega)⟩
 obtain ⟨r,e1,e2,_⟩:=g5 i t ht
 rw [List.getElem?_eq_getElem hi] at e1
 injection e1 with e1
 omega
theorem Zvl {xs:List Int} (h:∀ x ∈ xs,0 ≤ x):nats (xs.map Int.toNat) = xs:=by
 show (xs.map Int.toNat).map (fun (a:Nat) => (a:Int)) = xs
 rw [List.map_map]
 conv => rhs; rw [← List.map_id xs]
 refine List.map_congr_left fun x hx => ?_
 have:=h x hx
 simp
 omega
section
variable {s:St} {Q:AVal→St→Prop}
theorem Zwg {tv:AVal} {ts:List TV} (hw:s.Wf) (hT:Z4s s tv ts) (hz:∀ t ∈ ts,Z0z t.1 t.2 = 0) (h1:1 ≤ ts.length) (hl:ts.length ≤ 12) (hsum:sumL ts ≤ 60)
  (q:∀ Bn rv s',Keeps s s'→(∀ t,¬ rv = .tup t)→Q (.tup [.agg [.slice Bn 0 (Z97 ts) (.lim (Z97 ts)),.int .i64 0],rv,.int .i64 0]) s'):Z0f Tryd.prog 28 [tv] s Q:=by
 have hTl:Z1b tv = some ts.length:=by
  rcases hT with ⟨e1,rfl⟩ | ⟨b,o,c,cs,rfl,_⟩
  ·exact e1
  ·rfl
 have hTt:∀ t,¬ tv = .tup t:=by
  rintro t rfl
  cases hTl
 have hok:∀ t ∈ ts,TOk t:=fun t ht => TOk.check (hz t ht)
 have hn1:¬ (ts.length:Int) < 1:=by omega
 have hn12:¬ (12:Int) < (ts.length:Int):=by omega
 refine Z09 (Z0n (by decide)) fi28 rfl (by decide) rfl ?_
 refine Z00 ?_
 simp
 have d1:=(Ctx.start (fun _ => False) hw).alloc (C [.nilSlice,.int .i64 0])
 generalize s.alloc (.cells [.nilSlice,.int .i64 0] false) = s1 at d1 ⊢
 generalize s.next = B2 at d1 ⊢
 refine AM.wp_seq ?_
 refine Z00 ?_
 simp [hTl,hTt,hn1,hn12]
 refine AM.Z03 ?_
 simp
 refine AM.wp_skip ?_
 simp
 refine AM.wp_seq ?_
 refine Z00 ?_
 simp
 refine Z05 ?_
 refine Zio d1.wf (hT.keep d1.Z0b) (fun t ht => ⟨by have:=(Z77 (hz t ht)).2.1; omega,Zj7 (hok t ht).1 (hok t ht).2.1⟩) (by omega) fun s2 k2 => ?_
 have d2:=d1.keeps k2
 have hcf:Z6h ts = 0:=by
  unfold Z6h
  rw [List.find?_eq_none.2 fun t ht => by simpa using hz t ht]
 rw [hcf]
 simp
 refine Z00 ?_
 simp
 refine AM.Z03 ?_
 simp
 refine AM.wp_skip ?_
 simp
 refine Z00 ?_
 simp
 refine Z00 ?_
 simp
 refine AM.wp_seq ?_
 refine Zwf hT hok hl hsum d2 (by simp) (by simp) (by simp) (by simp) fun t s3 nv rv mn mg r' t2 t6 t7 hR hg d3 => ?_
 simp only [andThen]
 obtain ⟨hO,hnm,g3,g4,g5⟩:=Zdw ts hok
 have hrts:=Zh2 hok
 have hpos:1 ≤ (Z2j ts).1.length:=by
  obtain ⟨t,ht⟩:∃ t,ts[0]? = some t:=⟨_,List.getElem?_eq_getElem (by omega)⟩
  obtain ⟨r,_,e2,_⟩:=g5 0 t ht
  omega
 unfold Z97 at q
 generalize Z2j ts = X at hR hg hO hnm g3 g4 g5 hrts hpos q
 generalize hrs:X.2.map Int.toNat = rs at q
 have hrn:nats rs = X.2:=by rw [← hrs]; exact Zvl fun x hx => (hrts x hx).1
 have hr:∀ a ∈ rs,a < X.1.length:=by
  intro a ha
  rw [← hrs] at ha
  obtain ⟨x,hx,rfl⟩:=List.mem_map.1 ha
  have:=hrts x hx
  omega
 have hrl:rs.length ≤ 12:=by rw [← hrs]; simp; omega
 have hmn:Ctx s (fun _ => False) mn s3:=d3.sub ((List.sublist_append_left mn _).trans (List.sublist_cons_self _ _))
 have hmg:Ctx s (fun _ => False) mg s3:=d3.sub (((List.sublist_append_left mg r').trans (List.sublist_append_right mn _)).trans (List.sublist_cons_self _ _))
 refine Z00 ?_
 simp [t6,t7]
 refine Z05 ?_
 refine Zer (roots:=rs) d3.wf (hR.at hmn) hO (by omega) (by rw [hrn]; exact (hg.row.kid fun y hy => hmg.own y hy).ints hmg.wf) (by omega) hr fun lv ml s4 hgl hx => ?_
 obtain ⟨hC,hnd,hlt,hroot⟩:=Z7c hO hr
 have hLl:=Z2a hnd hlt
 generalize bfsF (kidG X.1) X.1.length rs = L at hgl hC hnd hlt hroot hLl q
 have d4:Ctx s (fun _ => False) (ml ++ ((B2,C [.nilSlice,.int .i64 0]) :: (mn ++ (mg ++ r')))) s4:=Ctx.on (m:=[]) (by simpa using d3) (by simpa using hx)
 have hLv:Z0e s4 lv (nats L):=(hgl.row.kid fun y hy => hx.own y hy).ints hx.wf
 have hmn4:Ctx s (fun _ => False) mn s4:=d4.sub (((List.sublist_append_left mn _).trans (List.sublist_cons_self _ _)).trans (List.sublist_append_right _ _))
 have hN0:=hR.at0 hmn4
 have hNA:=hR.at hmn4
 rcases hN0 with ⟨_,e0⟩ | ⟨p,c0,rfl,hG⟩
 ·rw [e0] at hpos
  simp at hpos
 have hks:∀ (a:Nat) nd,X.1[a]? = some nd→nd.2.length ≤ 4∧∀ k ∈ nd.2,0 ≤ k∧k < X.1.length:=fun a nd h => hO nd (List.mem_of_getElem? h)
 have hLne:L ≠ []:=by
  rintro rfl
  cases hrs0:rs with
  | nil =>
   rw [hrs0] at hrs
   have:=congrArg List.length hrs
   simp at this
   rw [this] at g4
   simp at g4
   omega
  | cons x l =>
   have:=hroot x (by rw [hrs0]; simp)
   cases this
 obtain ⟨R,c1,c2,c3⟩:=Zgv hC hLne
 simp
 refine Z00 ?_
 simp [t6]
 refine Z05 ?_
 refine Zgp d4.wf hG (by omega) hLv hC.lt (by omega) hks c1 c2 fun Bx s5 k5 hbx hox => ?_
 have d5:=d4.keeps k5
 rw [Zkf hC c3,← Zi5 hC]
 rw [c3] at hox
 have hM:(outF (clsF X.1 L) X.1 L).length ≤ L.length:=Zi4 _ _ _
 have hM60:¬ (60:Int) < ((outF (clsF X.1 L) X.1 L).length:Int):=by omega
 have hcl:=Zbp hC
 generalize hMM:(outF (clsF X.1 L) X.1 L).length = M at hM hM60 q ⊢
 simp
 refine AM.wp_seq ?_
 refine Z00 ?_
 simp [hM60]
 refine AM.Z03 ?_
 simp [hM60]
 refine AM.wp_skip ?_
 simp
 have d6:Ctx s (fun _ => False) ((Bx,C (ints (clsF X.1 L))) :: (ml ++ ((B2,C [.nilSlice,.int .i64 0]) :: (mn ++ (mg ++ r'))))) s5:=d4.made k5 hbx (St.Z2v hox)
 have d7:Ctx s (fun _ => False) (mg ++ ((Bx,C (ints (clsF X.1 L))) :: (ml ++ ((B2,C [.nilSlice,.int .i64 0]) :: (mn ++ r'))))) s5:=d6.perm (Z0r fun z => by
  simp only [Z0h,Z0o]
  omega)
 have hCx:∀ s',Ctx s (fun _ => False) ((Bx,C (ints (clsF X.1 L))) :: (ml ++ ((B2,C [.nilSlice,.int .i64 0]) :: (mn ++ r')))) s'→Z0e s' (.slice Bx 0 X.1.length (.lim X.1.length)) (clsF X.1 L):=by
  intro s' d
  have:=Z5q d.wf (d.o 0 rfl) (.lim X.1.length)
  rwa [hcl] at this
 refine AM.wp_seq ?_
 refine Zwe hg (by omega) hCx (fun x hx => by have:=hrts x hx; omega) d7 (by simp [t7]) (by simp) fun t8 s6 mg' hF _ d8 => ?_
 have w2:PT.get (posOf 2) t8 = some (.ptr B2 0):=(hF 2 (by simp)).trans (by simp [t2])
 have w6:PT.get (posOf 6) t8 = some (.slice p 0 X.1.length c0):=(hF 6 (by simp)).trans (by simp [t6])
 have w7:PT.get (posOf 7) t8 = some rv:=(hF 7 (by simp)).trans (by simp [t7])
 have w16:PT.get (posOf 16) t8 = some lv:=(hF 16 (by simp)).trans (by simp)
 have w17:PT.get (posOf 17) t8 = some (.slice Bx 0 X.1.length (.lim X.1.length)):=(hF 17 (by simp)).trans (by simp)
 have w18:PT.get (posOf 18) t8 = some (.int .i64 M):=(hF 18 (by simp)).trans (by simp)
 simp only [andThen]
 have d9:=d8.sub (List.sublist_append_right mg' _)
 have hmn9:Ctx s (fun _ => False) mn s6:=d9.sub (((List.sublist_append_left mn _).trans (List.sublist_cons_self _ _)).trans ((List.sublist_append_right ml _).trans (List.sublist_cons_self _ _)))
 have hml9:Ctx s (fun _ => False) ml s6:=d9.sub ((List.sublist_append_left ml _).trans (List.sublist_cons_self _ _))
 refine Z00 ?_
 simp [w6,w7,w16,w17,w18]
 refine Z05 ?_
 refine Zlk (nds:=X.1) d9.wf (hR.at hmn9) ((hgl.row.kid fun y hy => hml9.own y hy).ints hml9.wf) (hCx s6 d9) (by omega) (by omega) hcl hC.lt hks (fun a nd _ h => Zl7 (hnm nd (List.mem_of_getElem? h))) (fun j a hj => ?_) hMM fun Bn mm s7 hMg hc8 => ?_
 ·have hj':=(List.getElem?_eq_some_iff.1 hj).1
  have hsp:L = L.take j ++ a :: L.drop (j + 1):=by
   have h1:=List.take_append_drop j L
   rw [List.drop_eq_getElem_cons hj'] at h1
   have h2:L[j] = a:=(List.getElem?_eq_some_iff.1 hj).2
   rw [h2] at h1
   exact h1.symm
  obtain ⟨c,e1,e2,_⟩:=Zhv hC hsp
  exact ⟨c,e1,e2⟩
 have d10:Ctx s (fun _ => False) (mm ++ ((Bx,C (ints (clsF X.1 L))) :: (ml ++ ((B2,C [.nilSlice,.int .i64 0]) :: (mn ++ r'))))) s7:=Ctx.on (m:=[]) (by simpa using d9) (by simpa using hc8)
 have d11:=d10.perm (m':=(B2,C [.nilSlice,.int .i64 0]) :: (mm ++ ((Bx,C (ints (clsF X.1 L))) :: (ml ++ (mn ++ r'))))) (Z0r fun z => by
  simp only [Z0h,Z0o]
  omega)
 have hrt:=hg.ntup
 simp [w2,w7,d11.o 0 rfl,hrt]
 have d12:=d11.put 0 rfl (C [.slice Bn 0 M (.lim M),.int .i64 0])
 simp only [List.set_cons_zero] at d12
 generalize s7.put B2 (.cells [.slice Bn 0 M (.lim M),.int .i64 0] false) = s8 at d12 ⊢
 refine AM.wp_ret ?_
 have hl42:Z45 Tryd.prog 42 = some (some 2):=by kernel_rfl
 simp [w2,d12.c 0 rfl,hl42]
 exact q Bn rv s8 d12.Z0b hrt
end
theorem Zs1 (cs:List CV) (k:Nat) (x:Int):Z0d (setH cs k x) = Z0d cs:=by
 unfold setH
 split
 ·rename_i c hc
  unfold Z0d
  rw [List.map_set]
  refine List.ext_getElem? fun j => ?_
  rw [List.getElem?_set]
  split
  ·rename_i e
   subst e
   have:=(List.getElem?_eq_some_iff.1 hc).1
   rw [if_pos (by simpa using this),List.getElem?_map,hc]
   rfl
  ·rfl
 ·rfl
theorem Z6m (cs:List CV) (k:Nat) (x:Int) (i:Int):Z06 (setH cs k x) i = Z06 cs i:=by
 unfold setH
 split
 ·rename_i c hc
  exact Zjy (d:={ c with held:=x }) hc rfl i
 ·rfl
theorem Zm1 {cs:List CV} {k:Nat} (hk:k < cs.length) (x:Int) (a:Nat):Z2g (setH cs k x) a = if a = k then x else Z2g cs a:=by
 have hc:cs[k]? = some cs[k]:=List.getElem?_eq_getElem hk
 unfold setH
 rw [hc]
 simp only
 by_cases e:a = k
 ·subst e
  rw [if_pos rfl,Z7d (List.getElem?_set_self hk)]
 ·rw [if_neg e]
  unfold Z2g
  rw [List.getElem?_set_ne (fun h => e h.symm)]
theorem Zun (cs:List CV) (k:Nat) (x:Int):Z15 (setH cs k x) = Z15 cs:=by
 rw [Z98,Z98,Z9t]
 unfold Z17
 simp only [Z6m]
theorem Zdd (cs:List CV) (k:Nat) (x:Int) (a:Nat):lb (setH cs k x) a = lb cs a:=by
 unfold lb
 rw [Zs1]
structure HeldW (cs:List CV) (cells:List Int) (ts:List TV):Prop where
 good:HG cs
 len:cs.length = 24
 same:cells.length = ts.length
 at':∀ (i:Nat) (a:Int) (t:TV),cells[i]? = some a→ts[i]? = some t→∃ n:Nat,a = n∧Z06 cs (n:Int) = true∧lb cs n = lab t.1 t.2.toNat
 held:∀ a:Nat,Z06 cs (a:Int) = true→Z2g cs a = (cells.count (a:Int):Nat)
theorem HeldW.mem {cs:List CV} {cells:List Int} {ts:List TV} (h:HeldW cs cells ts) {a:Int} (ha:a ∈ cells):∃ n:Nat,a = n∧Z06 cs (n:Int) = true:=by
 obtain ⟨i,hi,rfl⟩:=List.getElem_of_mem ha
 obtain ⟨t,ht⟩:∃ t,ts[i]? = some t:=⟨_,List.getElem?_eq_getElem (by have:=h.same; omega)⟩
 obtain ⟨n,e1,e2,_⟩:=h.at' i _ t (List.getElem?_eq_getElem hi) ht
 exact ⟨n,e1,e2⟩
theorem HeldW.grown {cs c:List CV} {cells:List Int} {ts:List TV} (h:HeldW cs cells ts) (hg:Grown cs c):HeldW c cells ts:=by
 refine ⟨hg.good,by rw [hg.len]; exact h.len,h.same,fun i a t ha ht => ?_,fun a ha => ?_⟩
 ·obtain ⟨n,e1,e2,e3⟩:=h.at' i a t ha ht
  exact ⟨n,e1,hg.takes e2,by rw [hg.lab h.good.ok.toHOk e2]; exact e3⟩
 ·cases ht:Z06 cs (a:Int) with
  | true =>
   rw [← h.held a ht]
   unfold Z2g
   rw [hg.keep a ht]
  | false =>
   obtain ⟨d,hd,_⟩:=Z32 ha
   rw [Z7d hd,hg.new a d ht hd]
   have:cells.count (a:Int) = 0:=by
    rw [List.count_eq_zero]
    intro hm
    obtain ⟨n,e1,e2⟩:=h.mem hm
    have:a = n:=by omega
    subst this
    rw [ht] at e2
    cases e2
   rw [this]
   rfl
theorem HeldW.hold {cs:List CV} {cells:List Int} {ts:List TV} (h:HeldW cs cells ts) (hl:cells.length ≤ 12) {a:Nat} {t:TV} (ha:Z06 cs (a:Int) = true) (hlab:lb cs a = lab t.1 t.2.toNat) :
  ∃ c,Z73 cs (a:Int) = (0,c)∧HeldW c (cells ++ [(a:Int)]) (ts ++ [t])∧Z15 c = Z15 cs∧(Z5y cs→Z5y c):=by
 obtain ⟨d,hd,hdt,_⟩:=Z32 ha
 have hal:=(List.getElem?_eq_some_iff.1 hd).1
 have hh:=h.held a ha
 rw [Z7d hd] at hh
 have hcl:cells.count (a:Int) ≤ cells.length:=List.count_le_length
 have hne:¬ d.held = 1000:=by omega
 have hw:IntKind.wrap .i64 (d.held + 1) = d.held + 1:=IntWalk.i64_in _ (by omega)
 have hgo:=(Zvi h.good (a:Int)).1
 have he:Z73 cs (a:Int) = (0,setH cs a (d.held + 1)):=by
  unfold Z73
  rw [if_neg (by rw [ha]; decide),Int.toNat_natCast,hd]
  simp only
  rw [if_neg hne,hw]
 rw [he] at hgo
 refine ⟨_,he,⟨hgo,by rw [Z9t]; exact h.len,by simp [h.same],fun i b u hb hu => ?_,fun b hb => ?_⟩,Zun _ _ _,fun hT x y hx hy e => ?_⟩
 ·by_cases hi:i < cells.length
  ·rw [List.getElem?_append_left hi] at hb
   rw [List.getElem?_append_left (by rw [← h.same]; exact hi)] at hu
   obtain ⟨n,e1,e2,e3⟩:=h.at' i b u hb hu
   exact ⟨n,e1,by rw [Z6m]; exact e2,by rw [Zdd]; exact e3⟩
  ·rw [List.getElem?_append_right (by omega)] at hb
   rw [List.getElem?_append_right (by rw [← h.same]; omega),← h.same] at hu
   have hi0:i - cells.length = 0:=by
    have:=(List.getElem?_eq_some_iff.1 hb).1
    simp at this
    omega
   rw [hi0] at hb hu
   simp at hb hu
   subst hb hu
   exact ⟨a,rfl,by rw [Z6m]; exact ha,by rw [Zdd]; exact hlab⟩
 ·rw [Z6m] at hb
  rw [Zm1 hal,List.count_append]
  by_cases e:b = a
  ·subst e
   rw [if_pos rfl]
   simp
   omega
  ·rw [if_neg e,h.held b hb]
   have:List.count (b:Int) [(a:Int)] = 0:=by
    rw [List.count_eq_zero]
    simp
    omega
   rw [this]
   simp
 ·rw [Z6m] at hx hy
  rw [Zdd,Zdd] at e
  exact hT x y hx hy e
theorem HeldW.put {cs:List CV} {cells:List Int} {ts:List TV} (h:HeldW cs cells ts) (hT:Z5y cs) {ns:List ND} {root:Int} (hz:Z0z ns root = 0) (hs:Z15 cs + ns.length ≤ 24) :
  ∃ (a:Nat) (c:List CV),putF cs ns root = ((a:Int),0,c)∧HeldW c cells ts∧Z5y c∧Z06 c (a:Int) = true∧lb c a = lab ns root.toNat∧Z15 c ≤ Z15 cs + ns.length:=by
 obtain ⟨o1,o2,hGO,hnm,r0,r1⟩:=Z77 hz
 have hr:root.toNat < ns.length:=by omega
 have hlen:=(Zag (r:=root.toNat) hGO hr).2
 have hg:=Zzc h.good ns root
 have hcl:=h.len
 rcases Zlw h.good hz with ⟨hx,hno,hs'⟩ | ⟨a,hx,ha,hlab,_⟩ | ⟨a,f,c,hx,hp,hf,ha,hlab,hno,hs1,hs2⟩
 ·omega
 ·exact ⟨a,cs,hx,h,hT,ha,hlab,by omega⟩
 ·rw [hx] at hg
  exact ⟨a,c,hx,h.grown hg,hp.tight h.good hGO hr hT,ha,hlab,by omega⟩
theorem Zfw {cs:List CV} (hG:HG cs) (h:∀ a:Nat,Z06 cs (a:Int) = true→Z2g cs a = 0):Z0m cs = []:=by
 obtain ⟨_,_,_,_,r5⟩:=Zbz hG
 refine List.eq_nil_iff_forall_not_mem.2 fun a ha => ?_
 exact r5 (fun _ => False) (fun _ _ h => h.elim) (fun a ht hh => by have:=h a ht; omega) a ha
theorem HeldW.count {cs:List CV} {cells:List Int} {ts:List TV} (h:HeldW cs cells ts) (hT:Z5y cs) (hok:∀ t ∈ ts,TOk t):(Z0m cs).length = if ts = [] then 0 else Z97 ts:=by
 by_cases h0:ts = []
 ·rw [if_pos h0]
  subst h0
  have hc:cells = []:=List.length_eq_zero_iff.1 h.same
  subst hc
  rw [Zfw h.good fun a ha => by rw [h.held a ha]; rfl]
  rfl
 ·rw [if_neg h0]
  obtain ⟨hO,hnm,g3,g4,g5⟩:=Zdw ts hok
  have hrts:=Zh2 hok
  refine Zpj h.good hT hO (fun r hr => ?_) (fun a ha hh => ?_) fun r hr => ?_
  ·obtain ⟨x,hx,rfl⟩:=List.mem_map.1 hr
   have:=hrts x hx
   omega
  ·rw [h.held a ha] at hh
   have hm:(a:Int) ∈ cells:=List.count_pos_iff.1 (by omega)
   obtain ⟨i,hi,e⟩:=List.getElem_of_mem hm
   have hc:=List.getElem?_eq_getElem hi
   rw [e] at hc
   obtain ⟨t,ht⟩:∃ t,ts[i]? = some t:=⟨_,List.getElem?_eq_getElem (by have:=h.same; omega)⟩
   obtain ⟨n,e1,e2,e3⟩:=h.at' i _ t hc ht
   have:a = n:=by omega
   subst this
   obtain ⟨r,f1,f2,f3⟩:=g5 i t ht
   exact ⟨r,List.mem_map.2 ⟨(r:Int),List.mem_of_getElem? f1,by simp⟩,by rw [e3,f3]⟩
  ·obtain ⟨x,hx,rfl⟩:=List.mem_map.1 hr
   obtain ⟨i,hi,rfl⟩:=List.getElem_of_mem hx
   obtain ⟨t,ht⟩:∃ t,ts[i]? = some t:=⟨_,List.getElem?_eq_getElem (by omega)⟩
   have hcl:i < cells.length:=by have:=h.same; omega
   obtain ⟨n,e1,e2,e3⟩:=h.at' i _ t (List.getElem?_eq_getElem hcl) ht
   obtain ⟨r,f1,f2,f3⟩:=g5 i t ht
   rw [List.getElem?_eq_getElem hi] at f1
   injection f1 with f1
   refine ⟨n,e2,?_,?_⟩
   ·rw [h.held n e2]
    have:0 < cells.count (n:Int):=List.count_pos_iff.2 (by rw [← e1]; exact List.getElem_mem hcl)
    omega
   ·rw [e3,f1,Int.toNat_natCast,f3]
theorem HeldW.sweep {cs:List CV} {cells:List Int} {ts:List TV} (h:HeldW cs cells ts):HeldW (Z3n cs).2.2 cells ts:=by
 have hS:=Zcu h.good
 refine ⟨hS.good,by rw [hS.len]; exact h.len,h.same,fun i a t ha ht => ?_,fun a ha => ?_⟩
 ·obtain ⟨n,e1,e2,e3⟩:=h.at' i a t ha ht
  have hh:0 < Z2g cs n:=by
   rw [h.held n e2]
   have:0 < cells.count (n:Int):=List.count_pos_iff.2 (by rw [← e1]; exact List.mem_of_getElem? ha)
   omega
  obtain ⟨g1,_⟩:=hS.held h.good e2 hh
  exact ⟨n,e1,g1,by rw [hS.lab h.good g1]; exact e3⟩
 ·have:=((hS.take a).1 ha).1
  rw [← h.held a this]
  unfold Z2g
  rw [hS.keep a ha]
theorem HeldW.drop {cs:List CV} {cells:List Int} {ts:List TV} {a:Int} {t:TV} (h:HeldW cs (a :: cells) (t :: ts)) (hl:cells.length ≤ 12):∃ c,Z7n cs a = (0,c)∧HeldW c cells ts:=by
 obtain ⟨n,rfl,ha,_⟩:=h.at' 0 a t rfl rfl
 obtain ⟨d,hd,hdt,_⟩:=Z32 ha
 have hal:=(List.getElem?_eq_some_iff.1 hd).1
 have hh:=h.held n ha
 rw [Z7d hd,List.count_cons_self] at hh
 have hcl:cells.count (n:Int) ≤ cells.length:=List.count_le_length
 have hne:¬ d.held = 0:=by omega
 have hw:IntKind.wrap .i64 (d.held - 1) = d.held - 1:=IntWalk.i64_in _ (by omega)
 have he:Z7n cs (n:Int) = (0,setH cs n (d.held - 1)):=by
  unfold Z7n
  rw [if_neg (by rw [ha]; decide),Int.toNat_natCast,hd]
  simp only
  rw [if_neg hne,hw]
 refine ⟨_,he,⟨Zqb h.good (by omega) ha,by rw [Z9t]; exact h.len,by have:=h.same; simpa using this,fun i b u hb hu => ?_,fun b hb => ?_⟩⟩
 ·obtain ⟨m,e1,e2,e3⟩:=h.at' (i + 1) b u (by simpa using hb) (by simpa using hu)
  exact ⟨m,e1,by rw [Z6m]; exact e2,by rw [Zdd]; exact e3⟩
 ·rw [Z6m] at hb
  have hb':=h.held b hb
  rw [Zm1 hal]
  by_cases e:b = n
  ·subst e
   rw [if_pos rfl]
   omega
  ·rw [if_neg e,hb',List.count_cons_of_ne (by omega)]
theorem HeldW.nil {cs:List CV} (h:HeldW cs [] []):(Z3n cs).2.1 = 0∧Z15 (Z3n cs).2.2 = 0∧(Z7n (Z3n cs).2.2 0).1 = 1:=by
 have hr:=Zfw h.good fun a ha => by rw [h.held a ha]; rfl
 obtain ⟨s1,_,_⟩:=Zjt h.good
 rw [hr] at s1
 refine ⟨rfl,s1,?_⟩
 have hS:=Zcu h.good
 have:Z06 (Z3n cs).2.2 0 = false:=by
  cases ht:Z06 (Z3n cs).2.2 0 with
  | false => rfl
  | true =>
   have:=((hS.take 0).1 ht).2
   rw [hr] at this
   cases this
 unfold Z7n
 rw [if_pos this]
def Za7:List AVal→List TV→List AVal
 | nv :: NV,t :: ts => nv :: .int .i64 t.2 :: Za7 NV ts
 | _,_ => []
theorem Zjz:∀ {NV:List AVal} {ts:List TV} (nv:AVal) (t:TV),NV.length = ts.length→Za7 (NV ++ [nv]) (ts ++ [t]) = Za7 NV ts ++ [nv,.int .i64 t.2]
 | [],[],nv,t,_ => rfl
 | x :: NV,u :: ts,nv,t,h => by
  have:=Zjz (NV:=NV) (ts:=ts) nv t (by simpa using h)
  show x :: .int .i64 u.2 :: Za7 (NV ++ [nv]) (ts ++ [t]) = _
  rw [this]
  rfl
 | [],_ :: _,_,_,h => by simp at h
 | _ :: _,[],_,_,h => by simp at h
theorem Zm8:∀ {NV:List AVal} {ts:List TV} {i:Nat} {nv:AVal} {t:TV},NV[i]? = some nv→ts[i]? = some t→(Za7 NV ts)[i * 2]? = some nv∧(Za7 NV ts)[i * 2 + 1]? = some (.int .i64 t.2)
 | [],_,_,_,_,h,_ => by simp at h
 | _ :: _,[],_,_,_,_,h => by simp at h
 | x :: NV,u :: ts,0,nv,t,h1,h2 => by
  simp at h1 h2
  subst h1 h2
  exact ⟨rfl,rfl⟩
 | x :: NV,u :: ts,i + 1,nv,t,h1,h2 => by
  have:=Zm8 (NV:=NV) (ts:=ts) (i:=i) (by simpa using h1) (by simpa using h2)
  show (x :: .int .i64 u.2 :: Za7 NV ts)[_]? = _∧(x :: .int .i64 u.2 :: Za7 NV ts)[_]? = _
  rw [show (i + 1) * 2 = i * 2 + 1 + 1 from by omega]
  simpa using this
def Z5z (tv:AVal) (ts:List TV) (m:Lets):Prop:=∃ NV mg ml,Z9y 2 tv ts.length (Za7 NV ts) mg∧Z6n (ts.map Prod.fst) NV ml∧m.Perm (mg ++ ml)
theorem Z5z.nil:Z5z .nilSlice [] []:=⟨[],[],[],Z9y.nil 2,rfl,List.Perm.refl _⟩
theorem Z5z.len {tv:AVal} {ts:List TV} {m:Lets} (h:Z5z tv ts m):Z1b tv = some ts.length:=by
 obtain ⟨_,_,_,h,_⟩:=h
 exact h.len
theorem Z5z.ntup {tv:AVal} {ts:List TV} {m:Lets} (h:Z5z tv ts m):∀ t,¬ tv = .tup t:=by
 obtain ⟨_,_,_,h,_⟩:=h
 exact h.ntup
theorem Z5z.at {s0 s:St} {W:Pos→Prop} {tv:AVal} {ts:List TV} {m:Lets} (h:Z5z tv ts m) (hc:Ctx s0 W m s):Z4s s tv ts:=by
 obtain ⟨NV,mg,ml,hg,hT,hp⟩:=h
 have hc':=hc.perm hp
 have hNl:NV.length = ts.length:=by simpa using hT.len
 rcases hg with ⟨hl,⟨h0,rfl,rfl⟩ | ⟨q,h0,rfl,rfl⟩⟩
 ·exact .inl ⟨rfl,List.length_eq_zero_iff.1 h0⟩
 ·refine .inr ⟨q,0,.opn 2,Za7 NV ts,rfl,hc'.oi 0 rfl,hc'.c 0 rfl,by omega,fun i t hi => ?_⟩
  obtain ⟨nv,m1,m2,e1,e2,e3⟩:=hT.at (i:=i) (ns:=t.1) (by rw [List.getElem?_map,hi]; rfl)
  obtain ⟨f1,f2⟩:=Zm8 e1 hi
  rw [Nat.zero_add]
  have hc2:Ctx s0 W m1 s:=((Ctx.tail (by simpa using hc')).perm e3).sub (List.sublist_append_left m1 m2)
  exact ⟨nv,f1,f2,e2.at hc2⟩
section
variable {s0 s:St} {W:Pos→Prop} {Bs:Pos} {bv:AVal} {bs:List Int} {r:Lets} {t0:PT AVal}
theorem Ztm {Q:Ex→PT AVal→St→Prop} {fr:FI} {hb:Pos} {m:Lets} {k:SK} {cs:List CV} (hB:Z3o s0 W bv bs) (hk:k.nx = 0) (hW:HeldW cs [] []) (hT:Z5y cs) (hz:Z15 cs = 0) (hH:Z3s hb .nilSlice cs m)
  (h:Ctx s0 W ((Bs,Z1q bv k) :: (m ++ r)) s)
  (u3:PT.get (posOf 3) t0 = some (.ptr Bs 0)) (u4:PT.get (posOf 4) t0 = some (.ptr hb 0)) (u6:PT.get (posOf 6) t0 = some .nilSlice) (u7:PT.get (posOf 7) t0 = some .nilSlice)
  (q:∀ t s' cs' cells ts cv tv mc mt m' r',PT.get (posOf 4) t = some (.ptr hb 0)→PT.get (posOf 6) t = some cv→PT.get (posOf 7) t = some tv→HeldW cs' cells ts→Z5y cs'→(∀ t ∈ ts,Z0z t.1 t.2 = 0∧t.1.length ≤ 6)→ts.length ≤ 4→Z3s hb .nilSlice cs' m'→Z1a cv cells mc→Z5z tv ts mt →
   Ctx s0 W (m' ++ (mc ++ (mt ++ r'))) s'→Q .normal t s'):wp Tryd.prog c5_17 fr t0 s Q:=by
 refine Z00 ?_
 simp
 refine AM.wp_block ?_
 refine AM.wp_loop (fun x t s' => ∃ (i:Nat) (cs:List CV) (cells:List Int) (ts:List TV) (cv tv:AVal) (mc mt m r':Lets) (k:SK),i ≤ 4∧x = 4 - i∧PT.get (posOf 3) t = some (.ptr Bs 0)∧PT.get (posOf 4) t = some (.ptr hb 0)∧PT.get (posOf 6) t = some cv∧PT.get (posOf 7) t = some tv∧PT.get (posOf 33) t = some (.int .i64 i) ∧
   HeldW cs cells ts∧Z5y cs∧(∀ t ∈ ts,Z0z t.1 t.2 = 0∧t.1.length ≤ 6)∧ts.length ≤ i∧Z15 cs ≤ 6 * i∧k.nx ≤ 300 * i∧Z3s hb .nilSlice cs m∧Z1a cv cells mc∧Z5z tv ts mt∧Ctx s0 W ((Bs,Z1q bv k) :: (m ++ (mc ++ (mt ++ r')))) s') 4
   ⟨0,cs,[],[],.nilSlice,.nilSlice,[],[],m,r,k,by simp,by simp,by simp [u3],by simp [u4],by simp [u6],by simp [u7],by simp,hW,hT,by simp,by simp,by omega,by omega,hH,.inl ⟨rfl,rfl,rfl⟩,Z5z.nil,by simpa using h⟩ ?_
 clear hW hT hz hH h hk
 rintro x t s' ⟨i,cs,cells,ts,cv,tv,mc,mt,m,r',k,hi,rfl,t3,t4,t6,t7,t33,hW,hT,hok,htl,hsz,hnx,hH,hg,hTr,d⟩
 refine Z00 ?_
 simp [t33]
 refine AM.wp_seq ?_
 refine AM.Z03 ?_
 by_cases hlt:i < 4
 ·have hwr:IntKind.wrap .i64 ((i:Int) + 1) = (i:Int) + 1:=IntWalk.i64_in _ (by omega)
  have hlt':(i:Int) < 4:=by omega
  simp [hlt']
  refine AM.wp_skip ?_
  simp
  refine AM.wp_seq ?_
  refine AM.wp_block ?_
  refine Z00 ?_
  simp [t3]
  refine Z05 ?_
  obtain ⟨hGO,hnm,n1,n6,r0,r1⟩:=Zwo bs (nodes:=6) (by decide) k
  have hnx2:=Zwn bs (nodes:=6) k
  refine tree_c hB d (by omega) (by decide) (by decide) fun nv mn s1 hN d1 => ?_
  generalize Z81 bs 6 k = T at hGO hnm n1 n6 r0 r1 hnx2 hN d1
  have hz:=Zn0 hGO n1 (by omega) (fun nd h => (hnm nd h).1) r0 r1
  have hsm:=Zj7 hGO fun nd h => (hnm nd h).1
  have hnt:=hN.ntup
  have hnc:=hN.cells
  simp [hnt,hnc]
  have d2:=(d1.alloc (C [.nilSlice,.int .i64 0])).put 0 rfl (C [nv,.int .i64 T.1.2])
  simp only [List.set_cons_zero] at d2
  generalize (s1.alloc (.cells [.nilSlice,.int .i64 0] false)).put s1.next (.cells [nv,.int .i64 T.1.2] false) = s2 at d2 ⊢
  generalize s1.next = B8 at d2 ⊢
  refine Z00 ?_
  simp [t4,d2.c 0 rfl]
  refine Z05 ?_
  have d3:=d2.perm (m':=m ++ ((B8,C [nv,.int .i64 T.1.2]) :: (Bs,Z1q bv T.2) :: (mn ++ (mc ++ (mt ++ r'))))) (Z0r fun z => by
   simp only [Z0h,Z0o]
   omega)
  obtain ⟨a,c,hput,hW2,hT2,ha,hlab,hsz2⟩:=hW.put hT hz (by omega)
  refine put_c hH d3 hW.good.ok.toHOk (hN.at0 (d2.sub ((List.sublist_append_left mn _).trans ((List.sublist_cons_self _ _).trans (List.sublist_cons_self _ _))))) hsm (by omega) fun m2 s3 hH2 d4 => ?_
  rw [hput] at hH2 ⊢
  simp only at hH2
  simp
  refine AM.wp_seq ?_
  refine Z00 ?_
  simp
  refine AM.Z03 ?_
  simp
  refine AM.wp_skip ?_
  simp
  refine Z00 ?_
  simp [t3]
  refine Z05 ?_
  have d5:=d4.perm (m':=(Bs,Z1q bv T.2) :: (m2 ++ ((B8,C [nv,.int .i64 T.1.2]) :: (mn ++ (mc ++ (mt ++ r')))))) (Z0r fun z => by
   simp only [Z0h,Z0o]
   omega)
  have hbn:=Z8l bs 2 T.2
  refine rare_c hB d5 (by omega) (by omega) fun s4 d6 => ?_
  generalize Z2i bs 2 T.2 = Y at hbn d6 ⊢
  by_cases hy:Y.1 = 0
  ·simp [hy]
   refine AM.Z03 ?_
   simp
   refine AM.wp_seq ?_
   refine Z00 ?_
   simp [t4]
   refine Z05 ?_
   have d7:=d6.perm (m':=m2 ++ ((B8,C [nv,.int .i64 T.1.2]) :: (Bs,Z1q bv Y.2) :: (mn ++ (mc ++ (mt ++ r'))))) (Z0r fun z => by
    simp only [Z0h,Z0o]
    omega)
   have hcl:cells.length ≤ 12:=by have:=hW.same; omega
   obtain ⟨c2,hhold,hW3,hsz3,hT3⟩:=hW2.hold (t:=(T.1.1,T.1.2)) hcl ha hlab
   refine hold_c hH2 d7 fun m3 s5 hH3 d8 => ?_
   rw [hhold] at hH3 ⊢
   simp only at hH3
   simp
   refine AM.Z03 ?_
   simp
   refine AM.wp_skip ?_
   simp
   have hB8:∀ {X:Lets} {s':St},Ctx s0 W (m3 ++ X) s'→(B8,C [nv,.int .i64 T.1.2]) ∈ X→s'.cells B8 = some [nv,.int .i64 T.1.2]:=fun d h => Z0i (Z1l (d.own (B8,C [nv,.int .i64 T.1.2]) (by simp [h])))
   have hns:s5.obj s5.next = none:=d8.wf _ (Z08 _)
   have hnv8:Z27 8 (.agg [nv,.int .i64 T.1.2]) (.agg [nv,.int .i64 T.1.2]) = true:=by
    rcases hN with ⟨_,rfl,_⟩ | ⟨q',V,mr,_,rfl,_⟩
    ·simp [Z27]
    ·simp [Z27,Za0]
   obtain ⟨NV,mgt,ml,hgt,hTL,hpt⟩:=hTr
   refine AM.wp_region ?_
   simp [t6,t7,hB8 d8 (by simp),hns,hg.ntup,hgt.ntup,hnt,hnc,Z13,srcP]
   have e1:=d8.alloc (C [.int .i64 a])
   generalize s5.alloc (.cells [.int .i64 a] false) = s6 at e1 ⊢
   generalize s5.next = T1 at e1 ⊢
   have e2:=e1.perm (m':=((T1,C [.int .i64 a]) :: (B8,C [nv,.int .i64 T.1.2]) :: (Bs,Z1q bv Y.2) :: (m3 ++ mn)) ++ (mc ++ (mt ++ r'))) (Z0r fun z => by
    simp only [Z0h,Z0o]
    omega)
   refine Z4t e2 hg (by omega) fun cv2 mc2 s7 hg2 e3 => ?_
   have hns2:s7.obj s7.next = none:=e3.wf _ (Z08 _)
   have hB8':s7.cells B8 = some [nv,.int .i64 T.1.2]:=Z0i (Z1l (e3.own (B8,C [nv,.int .i64 T.1.2]) (by simp)))
   simp [hB8',hnv8,hns2,hgt.ntup,hnt,hnc,hg2.ntup,Z13,srcP]
   have e4:=e3.alloc (C [nv,.int .i64 T.1.2])
   generalize s7.alloc (.cells [nv,.int .i64 T.1.2] false) = s8 at e4 ⊢
   generalize s7.next = T2 at e4 ⊢
   have e5:=e4.perm (m':=((T2,C [nv,.int .i64 T.1.2]) :: (T1,C [.int .i64 a]) :: (B8,C [nv,.int .i64 T.1.2]) :: (Bs,Z1q bv Y.2) :: (m3 ++ (mn ++ mc2))) ++ (mgt ++ (ml ++ r'))) (Z0r fun z => by
    have:=Z8d hpt z
    simp only [Z0h,Z0o] at this ⊢
    omega)
   refine Ztl e5 hgt (new:=[nv,.int .i64 T.1.2]) rfl (by simp [Z0j]; omega) fun tv2 mgt2 s9 hgt2 e6 => ?_
   have hNVl:NV.length = ts.length:=by simpa using hTL.len
   rw [← Zjz (ts:=ts) nv (T.1.1,T.1.2) hNVl] at hgt2
   have hTL2:Z6n ((ts ++ [(T.1.1,T.1.2)]).map Prod.fst) (NV ++ [nv]) (ml ++ mn):=by
    rw [List.map_append]
    exact hTL.snoc hN
   refine AM.wp_region ?_
   simp [t33,hwr]
   refine ⟨4 - (i + 1),by omega,i + 1,by omega,rfl,t3,t4,by omega,c2,cells ++ [(a:Int)],ts ++ [(T.1.1,T.1.2)],hW3,hT3 hT2,fun x y hm => ?_,by simp; omega,by omega,mc2,mgt2 ++ (ml ++ mn),m3,(T2,C [nv,.int .i64 T.1.2]) :: (T1,C [.int .i64 a]) :: (B8,C [nv,.int .i64 T.1.2]) :: r',Y.2,by omega,hH3,hg2,⟨NV ++ [nv],mgt2,ml ++ mn,by simpa using hgt2,hTL2,List.Perm.refl _⟩,?_⟩
   ·rcases List.mem_append.1 hm with hm | hm
    ·exact hok _ hm
    ·simp at hm
     obtain ⟨rfl,rfl⟩:=hm
     exact ⟨hz,by omega⟩
   ·exact e6.perm (Z0r fun z => by
     simp only [Z0h,Z0o]
     omega)
  ·simp [hy]
   refine AM.Z03 ?_
   simp
   refine AM.wp_skip ?_
   simp
   refine AM.wp_region ?_
   simp [t33,hwr]
   refine ⟨4 - (i + 1),by omega,i + 1,by omega,rfl,t3,t4,c,cells,ts,cv,t6,tv,t7,by omega,hW2,hT2,fun x y hm => hok _ hm,by omega,by omega,mc,mt,m2,(B8,C [nv,.int .i64 T.1.2]) :: (mn ++ r'),Y.2,by omega,hH2,hg,hTr,d6.perm (Z0r fun z => by
    simp only [Z0h,Z0o]
    omega)⟩
 ·have hlt':¬ (i:Int) < 4:=by omega
  simp [hlt']
  refine AM.wp_exit ?_
  simp
  refine q _ s' cs cells ts cv tv mc mt m r' (by simp [t4]) (by simp [t6]) (by simp [t7]) hW hT hok (by omega) hH hg hTr (d.tail.perm ?_)
  exact List.Perm.refl _
end
section
variable {s0 s:St} {W:Pos→Prop} {r:Lets} {t0:PT AVal} {fr:FI}
theorem Ztn {Q:Ex→PT AVal→St→Prop} {hb:Pos} {cs:List CV} {m mc mt:Lets} {cells:List Int} {ts:List TV} {cv tv:AVal} (hW:HeldW cs cells ts) (hok:∀ t ∈ ts,Z0z t.1 t.2 = 0∧t.1.length ≤ 6) (hl:ts.length ≤ 4) (hH:Z3s hb .nilSlice cs m) (hg:Z1a cv cells mc) (hT:Z5z tv ts mt)
  (hc:Ctx s0 W (m ++ (mc ++ (mt ++ r))) s) (u4:PT.get (posOf 4) t0 = some (.ptr hb 0)) (u6:PT.get (posOf 6) t0 = some cv) (u7:PT.get (posOf 7) t0 = some tv)
  (q:∀ t s' cs' m' r',PT.get (posOf 4) t = some (.ptr hb 0)→HeldW cs' [] []→Z3s hb .nilSlice cs' m'→Ctx s0 W (m' ++ r') s'→Q .normal t s'):wp Tryd.prog c5_74 fr t0 s Q:=by
 have hsame:=hW.same
 refine Z00 ?_
 simp [u6,hg.len,hg.ntup]
 refine AM.wp_block ?_
 refine AM.wp_loop (fun x t s' => ∃ (i:Nat) (cs:List CV) (m r':Lets),i ≤ cells.length∧x = cells.length - i∧PT.get (posOf 4) t = some (.ptr hb 0)∧PT.get (posOf 7) t = some tv∧PT.get (posOf 104) t = some cv∧PT.get (posOf 105) t = some (.int .i64 cells.length)∧PT.get (posOf 106) t = some (.int .i64 i) ∧
   HeldW cs (cells.drop i) (ts.drop i)∧Z3s hb .nilSlice cs m∧Ctx s0 W (m ++ (mc ++ (mt ++ r'))) s') cells.length
   ⟨0,cs,m,r,by simp,by simp,by simp [u4],by simp [u7],by simp,by simp,by simp,hW,hH,hc⟩ ?_
 clear hW hH hc
 rintro x t s' ⟨i,cs,m,r',hi,rfl,t4,t7,t104,t105,t106,hW,hH,d⟩
 refine Z00 ?_
 simp [t105,t106]
 refine AM.wp_seq ?_
 refine AM.Z03 ?_
 by_cases hlt:i < cells.length
 ·have hwr:IntKind.wrap .i64 ((i:Int) + 1) = (i:Int) + 1:=IntWalk.i64_in _ (by omega)
  obtain ⟨a,ha⟩:∃ a,cells[i]? = some a:=⟨_,List.getElem?_eq_getElem hlt⟩
  obtain ⟨tt,htt⟩:∃ tt,ts[i]? = some tt:=⟨_,List.getElem?_eq_getElem (by omega)⟩
  have hd1:cells.drop i = a :: cells.drop (i + 1):=by rw [List.drop_eq_getElem_cons hlt,(List.getElem?_eq_some_iff.1 ha).2]
  have hd2:ts.drop i = tt :: ts.drop (i + 1):=by rw [List.drop_eq_getElem_cons (by omega),(List.getElem?_eq_some_iff.1 htt).2]
  rw [hd1,hd2] at hW
  obtain ⟨n,rfl,hat,hlab⟩:=hW.at' 0 a tt rfl rfl
  obtain ⟨hz,h6⟩:=hok tt (List.mem_of_getElem? htt)
  obtain ⟨o1,o2,k1,k2,k3,k4⟩:=Z77 hz
  have hG:=hW.good
  have hl60:cs.length ≤ 60:=by have:=hW.len; omega
  obtain ⟨c,hdrop,hW2⟩:=hW.drop (by simp; omega)
  have hga:(ints cells)[i]? = some (.int .i64 n):=by rw [List.getElem?_map,ha]; rfl
  have hmc:Ctx s0 W mc s':=d.sub ((List.sublist_append_left mc _).trans (List.sublist_append_right m _))
  have hcs:Z0e s' cv cells:=(hg.row.kid fun y hy => hmc.own y hy).ints hmc.wf
  have hmtl:ts.length ≠ 0:=by omega
  simp [hlt]
  refine AM.wp_skip ?_
  simp
  refine AM.wp_seq ?_
  refine AM.wp_block ?_
  rcases hcs with ⟨_,ee⟩ | ⟨bx,ox,cx,cellsx,rfl,hbx,hcsx,hlex,helx⟩
  ·rw [ee] at hlt
   simp at hlt
  have hgx:=helx i _ ha
  refine Z00 ?_
  simp [t104,t106,hlt,hcsx,hgx]
  refine Z00 ?_
  simp [t4]
  refine Z05 ?_
  refine get_c hH d hG.ok fun nv2 mn2 s1 hN d1 => ?_
  rw [Zyt hG hl60 hat] at hN ⊢
  simp only at hN
  obtain ⟨g1,g2,g3,g4⟩:=Zf9 hG hl60 hat
  have hll:=Zrd hG.ok hat
  have hNt:=hN.ntup
  have hNc:=hN.cells
  simp [hNt,hNc]
  have d2:=(d1.alloc (C [.nilSlice,.int .i64 0])).put 0 rfl (C [nv2,.int .i64 0])
  simp only [List.set_cons_zero] at d2
  generalize (s1.alloc (.cells [.nilSlice,.int .i64 0] false)).put s1.next (.cells [nv2,.int .i64 0] false) = s2 at d2 ⊢
  generalize s1.next = B19 at d2 ⊢
  have hmt:Ctx s0 W mt s2:=d2.sub ((((List.sublist_append_left mt r').trans (List.sublist_append_right mc _)).trans (List.sublist_append_right m _)).trans ((List.sublist_append_right mn2 _).trans (List.sublist_cons_self _ _)))
  have hTA:=hT.at hmt
  have hNA:=hN.at (d2.sub (m':=mn2) ((List.sublist_append_left mn2 _).trans (List.sublist_cons_self _ _)))
  rcases hTA with ⟨_,ee⟩ | ⟨bt,ot,ct,cellst,rfl,hbt,hcst,hlet,helt⟩
  ·rw [ee] at hmtl
   simp at hmtl
  obtain ⟨tnv,f1,f2,f3⟩:=helt i tt htt
  have hs1:=Zdc f1 f2
  have hle1:ot + i * 2 + 2 ≤ cellst.length:=by omega
  have hlt2:i < ts.length:=by omega
  refine Z00 ?_
  simp [t7,d2.c 0 rfl,hlt2,hcst,hle1,hs1]
  refine Z05 ?_
  refine Ztw d2.wf hNA f3 g1 k1 g2 g3 o1 o2 g4 k2 (by omega) (by omega) k3 k4 (by
   rw [← hlab,← hll]
   rfl) fun s3 k3' => ?_
  have d3:=d2.keeps k3'
  have d4:=d3.perm (m':=m ++ (mc ++ (mt ++ ((B19,C [nv2,.int .i64 0]) :: (mn2 ++ r'))))) (Z0r fun z => by
   simp only [Z0h,Z0o]
   omega)
  simp [t4]
  refine Z05 ?_
  refine Zti hH d4 fun m3 s4 hH3 d5 => ?_
  rw [hdrop] at hH3 ⊢
  simp only at hH3
  simp
  refine AM.Z03 ?_
  simp
  refine AM.wp_skip ?_
  simp
  refine AM.wp_region ?_
  simp [t106,hwr]
  exact ⟨cells.length - (i + 1),by omega,i + 1,by omega,by omega,by simp [t4],by simp [t7],by simp [t104],by simp [t105],by simp,c,hW2,m3,hH3,_,d5⟩
 ·simp [hlt]
  refine AM.wp_exit ?_
  simp
  have hie:i = cells.length:=by omega
  subst hie
  rw [List.drop_length,List.drop_eq_nil_of_le (by omega)] at hW
  exact q _ s' cs m _ (by simp [t4]) hW hH d
theorem Zlc {Q:Ex→PT AVal→St→Prop} {hb:Pos} {cs:List CV} {m mc mt:Lets} {cells:List Int} {ts:List TV} {cv tv:AVal} {w:Nat} (hW:HeldW cs cells ts) (hok:∀ t ∈ ts,Z0z t.1 t.2 = 0∧t.1.length ≤ 6) (hl:ts.length ≤ 4) (hH:Z3s hb .nilSlice cs m) (hg:Z1a cv cells mc) (hT:Z5z tv ts mt)
  (hw:(Z0m cs).length = w) (hc:Ctx s0 W (m ++ (mc ++ (mt ++ r))) s) (u4:PT.get (posOf 4) t0 = some (.ptr hb 0)) (u6:PT.get (posOf 6) t0 = some cv) (u7:PT.get (posOf 7) t0 = some tv) (u11:PT.get (posOf 11) t0 = some (.int .i64 w))
  (q:∀ t s',PT.get (posOf 2) t = some (.bool true)→Q .ret t s'):wp Tryd.prog c5_63 fr t0 s Q:=by
 obtain ⟨z1,z2,z3⟩:=Zjt hW.good
 have hl24:=hW.len
 have hsw:=hW.sweep
 have hl24':=hsw.len
 have hsz:Z15 cs ≤ cs.length:=List.countP_le_length
 rw [hw] at z1 z2 z3
 have e1:(((Z15 cs - w:Nat):Int)) = (Z15 cs:Int) - (w:Int):=by omega
 rw [e1] at z2
 have e2:IntKind.wrap .i64 ((Z15 cs:Int) - (w:Int)) = (Z15 cs:Int) - (w:Int):=IntWalk.i64_in _ (by omega)
 refine Z00 ?_
 simp [u4]
 refine Z05 ?_
 refine Zjs hH hc fun s1 c1 => ?_
 simp
 refine Z00 ?_
 simp [u4]
 refine Z05 ?_
 refine Zqe hH c1 hW.good.ok fun m2 s2 hH2 c2 => ?_
 have hsf:(Z3n cs).2.1 = 0:=rfl
 rw [z2,hsf]
 generalize (Z3n cs).2.2 = cs2 at hH2 z1 hsw hl24'
 simp
 refine AM.wp_seq ?_
 refine Z00 ?_
 simp [u4,u11]
 refine Z05 ?_
 refine Zjs hH2 c2 fun s3 c3 => ?_
 rw [z1]
 simp [u4,u11,e2]
 refine Z05 ?_
 refine Zjs hH2 c3 fun s4 c4 => ?_
 rw [z1]
 simp [u4]
 refine Z05 ?_
 refine free_c hH2 c4 fun s5 c5 => ?_
 rw [z1]
 have e3:IntKind.wrap .i64 ((w:Int) + ((cs2.length - w:Nat):Int)) = 24:=by rw [IntWalk.i64_in _ (by omega)]; omega
 generalize ((cs2.length - w:Nat):Int) = fz at e3 ⊢
 simp [e3]
 refine AM.Z03 ?_
 simp
 refine AM.wp_skip ?_
 simp
 refine AM.wp_seq ?_
 refine Ztn hsw hok hl hH2 hg hT c5 (by simp [u4]) (by simp [u6]) (by simp [u7]) fun t s6 cs3 m3 r3 t4 hW3 hH3 c6 => ?_
 simp only [andThen]
 obtain ⟨n1,n2,n3⟩:=hW3.nil
 refine Z00 ?_
 simp [t4]
 refine Z05 ?_
 refine Zqe hH3 c6 hW3.good.ok fun m4 s7 hH4 c7 => ?_
 rw [n1]
 generalize (Z3n cs3).1 = sx
 generalize (Z3n cs3).2.2 = cs4 at hH4 n2 n3
 simp
 refine Z00 ?_
 simp [t4]
 refine Z05 ?_
 refine Zjs hH4 c7 fun s8 c8 => ?_
 rw [n2]
 simp [t4]
 refine Z05 ?_
 refine Zti hH4 c8 fun m5 s9 hH5 c9 => ?_
 rw [n3]
 simp
 refine Z05 ?_
 refine Zk2 Zub ?_
 simp
 refine AM.wp_ret ?_
 exact q _ _ (by simp)
end
section
variable {s:St} {Q:AVal→St→Prop}
theorem Zto {bv:AVal} {bs:List Int} (hw:s.Wf) (hB:Z3o s (fun _ => False) bv bs) (q:∀ s',Q (.bool true) s'):Z0f Tryd.prog 5 [bv] s Q:=by
 have hbt:=hB.ntup
 have c0:=Ctx.start (fun _ => False) hw
 refine Z09 (Z0n (by decide)) fi5 rfl (by decide) rfl ?_
 refine Z00 ?_
 simp
 refine Z00 ?_
 simp
 refine Z05 ?_
 refine fill_c hB c0 fun Bs s1 c1 => ?_
 simp
 have hnx:=Zwa bs
 generalize Zgm bs = k at c1 hnx
 refine Z00 ?_
 simp
 refine Z05 ?_
 refine new_c c1 (by decide) (by decide) fun hb m s2 hH c2 => ?_
 have h24:(24:Int).toNat = 24:=rfl
 rw [h24] at hH
 have hnot:∀ a:Nat,Z06 (List.replicate 24 Z37) (a:Int) = false:=by
  intro a
  cases ht:Z06 (List.replicate 24 Z37) (a:Int) with
  | false => rfl
  | true =>
   obtain ⟨d,hd,hdt,_⟩:=Z32 ht
   rw [List.eq_of_mem_replicate (List.mem_of_getElem? hd)] at hdt
   cases hdt
 have hW0:HeldW (List.replicate 24 Z37) [] []:=⟨Zyr 24,by simp,rfl,fun i a t h => by simp at h,fun a ha => by rw [hnot a] at ha; cases ha⟩
 have hT0:Z5y (List.replicate 24 Z37):=fun a b ha => by rw [hnot a] at ha; cases ha
 have hz0:Z15 (List.replicate 24 Z37) = 0:=by decide
 generalize List.replicate 24 Z37 = cs at hH hW0 hT0 hz0
 simp
 refine AM.wp_seq ?_
 refine Z00 ?_
 simp
 refine AM.Z03 ?_
 simp
 refine AM.wp_skip ?_
 simp
 refine Z00 ?_
 simp
 refine Z00 ?_
 simp
 refine AM.wp_seq ?_
 have c3:=c2.perm (m':=(Bs,Z1q bv k) :: (m ++ [])) (Z0r fun z => by
  simp only [Z0h,Z0o,Z2n]
  omega)
 refine Ztm hB hnx hW0 hT0 hz0 hH c3 (by simp) (by simp) (by simp) (by simp) fun t s3 cs' cells ts cv tv mc mt m' r' t4 t6 t7 hW hT hok hl hH' hg hTr c4 => ?_
 simp only [andThen]
 have hcnt:=hW.count hT fun t ht => TOk.check (hok t ht).1
 refine Z00 ?_
 simp
 refine AM.wp_seq ?_
 refine Z00 ?_
 have htl:=hTr.len
 have htt:=hTr.ntup
 by_cases h0:ts = []
 ·subst h0
  rw [if_pos rfl] at hcnt
  simp [t7,htl,htt]
  refine AM.Z03 ?_
  simp
  refine AM.wp_skip ?_
  simp
  refine Zlc (w:=0) hW hok hl hH' hg hTr hcnt c4 (by simp [t4]) (by simp [t6]) (by simp [t7]) (by simp) fun t5 s5 h2 => ?_
  simp [h2]
  exact q _
 ·rw [if_neg h0] at hcnt
  have hpos:0 < ts.length:=List.length_pos_iff.2 h0
  simp [t7,htl,htt,hpos]
  refine AM.Z03 ?_
  simp
  refine Z00 ?_
  simp [t7]
  refine Z05 ?_
  have hmt:Ctx s (fun _ => False) mt s3:=c4.sub (((List.sublist_append_left mt r').trans (List.sublist_append_right mc _)).trans (List.sublist_append_right m' _))
  have hsum:sumL ts ≤ 60:=by
   have:∀ l:List TV,(∀ t ∈ l,t.1.length ≤ 6)→sumL l ≤ 6 * l.length:=by
    intro l
    induction l using Z7z with
    | nil => intro _; simp [sumL]
    | append_singleton l t ih =>
     intro h
     have h1:=ih fun x hx => h x (by simp [hx])
     have h2:=h t (by simp)
     rw [Zar]
     simp
     omega
   have:=this ts fun t ht => (hok t ht).2
   omega
  refine Zwg c4.wf (hTr.at hmt) (fun t ht => (hok t ht).1) hpos (by omega) hsum fun Bn rv s4 k4 hrt => ?_
  have c5:=c4.keeps k4
  simp [hrt]
  have c6:=(c5.alloc (C [.nilSlice,.int .i64 0])).put 0 rfl (C [.slice Bn 0 (Z97 ts) (.lim (Z97 ts)),.int .i64 0])
  simp only [List.set_cons_zero] at c6
  generalize (s4.alloc (.cells [.nilSlice,.int .i64 0] false)).put s4.next (.cells [.slice Bn 0 (Z97 ts) (.lim (Z97 ts)),.int .i64 0] false) = s6 at c6 ⊢
  generalize s4.next = B12 at c6 ⊢
  refine AM.wp_seq ?_
  refine Z00 ?_
  simp
  refine AM.Z03 ?_
  simp
  refine AM.wp_skip ?_
  simp
  refine AM.wp_region ?_
  simp [c6.c 0 rfl]
  refine Zlc (w:=Z97 ts) hW hok hl hH' hg hTr hcnt c6.tail (by simp [t4]) (by simp [t6]) (by simp [t7]) (by simp) fun t5 s5 h2 => ?_
  simp [h2]
  exact q _
end
end Go.Proofs
end
