/- Parts of the proof: Can2, Fnd1, Fnd2, Fin, Put1, Hp1, Hp2, Hp3, Tgt, Hp4, Hp5, Hm2. -/
import Derived.Test.YtoipnedbpjfeiaaDoorAm07
set_option linter.all false
set_option linter.unusedSectionVars false
set_option linter.unusedSimpArgs false
set_option linter.unusedVariables false
section
open Go Go.AM
namespace Go.Proofs
set_option maxRecDepth 100000
theorem Zra {nds nds':List ND} {R:Nat→Nat→Prop} (h:∀ a b,R a b→∃ x y,nds[a]? = some x∧nds'[b]? = some y∧x.1 = y.1∧x.2.length = y.2.length∧∀ (j:Nat) (k m:Int),x.2[j]? = some k→y.2[j]? = some m→R k.toNat m.toNat) :
  ∀ (d a b:Nat),R a b→unf nds d a = unf nds' d b
 | 0,a,b,_ => rfl
 | d + 1,a,b,hab => by
  obtain ⟨x,y,hx,hy,e1,e2,e3⟩:=h a b hab
  rw [Z8n hx,Z8n hy,e1]
  congr 1
  refine List.ext_getElem? fun j => ?_
  rw [List.getElem?_map,List.getElem?_map]
  by_cases hj:j < x.2.length
  ·rw [List.getElem?_eq_getElem hj,List.getElem?_eq_getElem (show j < y.2.length by omega)]
   simp only [Option.map_some]
   rw [Zra h d _ _ (e3 j _ _ (List.getElem?_eq_getElem hj) (List.getElem?_eq_getElem (show j < y.2.length by omega)))]
  ·rw [List.getElem?_eq_none (by omega),List.getElem?_eq_none (by omega)]; rfl
theorem Z9q {nds nds':List ND} {R:Nat→Nat→Prop} (h:∀ a b,R a b→∃ x y,nds[a]? = some x∧nds'[b]? = some y∧x.1 = y.1∧x.2.length = y.2.length∧∀ (j:Nat) (k m:Int),x.2[j]? = some k→y.2[j]? = some m→R k.toNat m.toNat)
  {a b:Nat} (hab:R a b):lab nds a = lab nds' b:=funext fun d => Zra h d a b hab
section
open Classical
variable {β:Type}
noncomputable def idxB (b:β):List β→Nat
 | [] => 0
 | x :: l => if x = b then 0 else idxB b l + 1
theorem Zqr {b:β}:∀ {l:List β},b ∈ l→idxB b l < l.length
 | [],h => by cases h
 | x :: l,h => by
  unfold idxB
  split
  ·simp
  ·rename_i hx
   rcases List.mem_cons.1 h with rfl | h
   ·exact (hx rfl).elim
   ·have:=Zqr h
    simp
    omega
theorem Zqq {b:β} {m:List β}:∀ {l:List β},b ∈ l→idxB b (l ++ m) = idxB b l
 | [],h => by cases h
 | x :: l,h => by
  rw [List.cons_append]
  unfold idxB
  split
  ·rfl
  ·rename_i hx
   rcases List.mem_cons.1 h with rfl | h
   ·exact (hx rfl).elim
   ·rw [Zqq h]
theorem Zng {b:β} {m:List β}:∀ {l:List β},b ∉ l→idxB b (l ++ m) = l.length + idxB b m
 | [],_ => by simp
 | x :: l,h => by
  rw [List.cons_append]
  conv => lhs; unfold idxB
  split
  ·rename_i hx
   exact (h (by simp [hx])).elim
  ·rw [Zng (fun hm => h (by simp [hm])),List.length_cons]
   omega
theorem Zne {b:β}:∀ {l:List β},b ∈ l→l[idxB b l]? = some b
 | [],h => by cases h
 | x :: l,h => by
  unfold idxB
  split
  ·rename_i hx
   rw [hx]; rfl
  ·rename_i hx
   rcases List.mem_cons.1 h with rfl | h
   ·exact (hx rfl).elim
   ·simpa using Zne h
theorem Znf {α μ:Type} {f:α→β} {g:α→μ} {a:α}:∀ {l:List α},(∀ e ∈ l,(f e = f a ↔ g e = g a))→idxB (f a) (l.map f) = idxB (g a) (l.map g)
 | [],_ => rfl
 | e :: l,h => by
  rw [List.map_cons,List.map_cons]
  unfold idxB
  have:=h e (by simp)
  by_cases he:f e = f a
  ·rw [if_pos he,if_pos (this.1 he)]
  ·rw [if_neg he,if_neg (fun hg => he (this.2 hg)),Znf fun x hx => h x (by simp [hx])]
noncomputable def Z5d {α:Type} (f:α→β) (l:List α):List α:=l.foldl (fun v a => if f a ∈ v.map f then v else v ++ [a]) []
theorem Za5 {α:Type} (f:α→β) (l:List α) (a:α):Z5d f (l ++ [a]) = if f a ∈ (Z5d f l).map f then Z5d f l else Z5d f l ++ [a]:=by
 unfold Z5d
 rw [List.foldl_append]
 rfl
theorem Zj3 {α:Type} (f:α→β) (l:List α):(Z5d f l).map f = dd (l.map f):=by
 induction l using Zbu with
 | nil => rfl
 | append_singleton l a ih =>
  rw [Za5,List.map_append,List.map_cons,List.map_nil,Zgm,← ih]
  unfold addB
  split
  ·rfl
  ·rw [List.map_append]; rfl
theorem Ze9 {α:Type} (f:α→β) (l:List α):∀ x ∈ Z5d f l,x ∈ l:=by
 induction l using Zbu with
 | nil => intro x hx; cases hx
 | append_singleton l a ih =>
  intro x hx
  rw [Za5] at hx
  split at hx
  ·exact List.mem_append_left _ (ih x hx)
  ·rcases List.mem_append.1 hx with hx | hx
   ·exact List.mem_append_left _ (ih x hx)
   ·exact List.mem_append_right _ hx
theorem Zpm {α μ:Type} {f:α→β} {g:α→μ} (l:List α):(∀ a ∈ l,∀ b ∈ l,(f a = f b ↔ g a = g b))→Z5d f l = Z5d g l:=by
 induction l using Zbu with
 | nil => intro _; rfl
 | append_singleton l a ih =>
  intro h
  have e:=ih fun x hx y hy => h x (by simp [hx]) y (by simp [hy])
  rw [Za5,Za5,← e]
  have:f a ∈ (Z5d f l).map f ↔ g a ∈ (Z5d f l).map g:=by
   rw [List.mem_map,List.mem_map]
   constructor
   ·rintro ⟨x,hx,hf⟩
    exact ⟨x,hx,(h x (by simp [Ze9 f l x hx]) a (by simp)).1 hf⟩
   ·rintro ⟨x,hx,hf⟩
    exact ⟨x,hx,(h x (by simp [Ze9 f l x hx]) a (by simp)).2 hf⟩
  by_cases hm:f a ∈ (Z5d f l).map f
  ·rw [if_pos hm,if_pos (this.1 hm)]
  ·rw [if_neg hm,if_neg (fun hg => hm (this.2 hg))]
theorem Zwu {α μ:Type} {f:α→β} {g:α→μ} {l:List α} (h:∀ a ∈ l,∀ b ∈ l,(f a = f b ↔ g a = g b)) {a:α} (ha:a ∈ l):idxB (f a) (dd (l.map f)) = idxB (g a) (dd (l.map g)):=by
 rw [← Zj3 f l,← Zj3 g l,← Zpm l h]
 exact Znf fun e he => h e (Ze9 f l e he) a ha
end
theorem Zla (f:Nat→Key):∀ (L:List Nat) (D:List Key),Z1a f D L = Z2y D (L.map f)
 | [],D => rfl
 | a :: L,D => by
  show Z1a f (addK D (f a)) L = Z2y (addB D (f a)) (L.map f)
  rw [Zla f L]
  congr 1
  unfold addK addB
  by_cases h:f a ∈ D
  ·rw [if_pos h,if_pos h]
  ·rw [if_neg h,if_neg h]
theorem Zj8 {b:Key}:∀ (l:List Key),l.idxOf b = idxB b l
 | [] => rfl
 | x :: l => by
  rw [List.idxOf_cons]
  unfold idxB
  by_cases h:x = b
  ·rw [if_pos h]; simp [h]
  ·rw [if_neg h,← Zj8 l]
   have:(x == b) = false:=by simpa using h
   rw [this]
   rfl
theorem Zgk {nds:List ND} {L:List Nat} (hC:Closed nds L) {a:Nat} (ha:a ∈ L):(clsF nds L)[a]? = some ((idxB (lab nds a) (dd (L.map (lab nds))):Nat):Int):=by
 obtain ⟨f,hf,hs⟩:=Zmz hC
 rw [hf a ha,Zj8,Zla]
 have:idxB (f a) (dd (L.map f)) = idxB (lab nds a) (dd (L.map (lab nds))):=Zwu (fun x hx y hy => (hs x hx y hy).trans (Zky hC hx hy)) ha
 rw [← this]
 rfl
noncomputable def canN (D:List Lab) (b:Lab):ND:=(lname b,(Zgr b).map fun x => ((idxB x D:Nat):Int))
noncomputable def canD (D:List Lab):List ND:=D.map (canN D)
theorem Zv8 {nds:List ND} {L:List Nat} (hC:Closed nds L) {a:Nat} {nd:ND} (ha:a ∈ L) (h:nds[a]? = some nd):Z45 (clsF nds L) nd = canN (dd (L.map (lab nds))) (lab nds a):=by
 unfold Z45 canN
 rw [Zcn h,Z8u h,List.map_map]
 congr 1
 refine List.map_congr_left fun k hk => ?_
 rw [Zgk hC ((hC.kids a ha nd h).2 k hk)]
 rfl
theorem Zkj {nds:List ND} {L:List Nat} (hC:Closed nds L):outF (clsF nds L) nds L = canD (dd (L.map (lab nds))):=by
 have key:∀ (P S:List Nat),L = P ++ S→outF (clsF nds L) nds P = (dd (P.map (lab nds))).map (canN (dd (L.map (lab nds)))):=by
  intro P
  induction P using Zbu with
  | nil => intro S _; rfl
  | append_singleton P x ih =>
   intro S hS
   have ihp:=ih (x :: S) (by rw [hS]; simp)
   have hx:x ∈ L:=by rw [hS]; simp
   have hnd:nds[x]? = some (nds[x]'(hC.lt x hx)):=List.getElem?_eq_getElem _
   have e1:outF (clsF nds L) nds (P ++ [x]) = Z2k (clsF nds L) nds (outF (clsF nds L) nds P) x:=by unfold outF; rw [List.foldl_append]; rfl
   rw [e1,ihp]
   unfold Z2k
   rw [Zgk hC hx,hnd]
   simp only
   rw [Zv8 hC hx hnd]
   obtain ⟨T,hT⟩:=Zca ((x :: S).map (lab nds)) (dd (P.map (lab nds)))
   have hD:dd (L.map (lab nds)) = dd (P.map (lab nds)) ++ T:=by
    rw [hS,List.append_assoc,List.map_append,Zfh]
    exact hT
   rw [List.map_append,List.map_cons,List.map_nil,Zgm,List.length_map]
   unfold addB
   by_cases hm:lab nds x ∈ dd (P.map (lab nds))
   ·rw [if_pos hm,hD,Zqq hm,if_pos (by have:=Zqr hm; omega)]
   ·rw [if_neg hm]
    have:¬ ((idxB (lab nds x) (dd (L.map (lab nds))):Nat):Int) < ((dd (P.map (lab nds))).length:Nat):=by
     rw [hD,Zng hm]
     omega
    rw [if_neg this,List.map_append]
    rfl
 exact key L [] (by simp)
noncomputable def canT (g:Nat) (b:Lab):List ND:=canD (runL Zgr g [b] 0)
theorem Zqg {K:Nat→List Nat} {nds:List ND} {n r g:Nat} (hK:∀ a,a < n→∀ k ∈ K a,k < n) {P:Nat→Prop} (hP:∀ a,P a→∀ k ∈ K a,P k) (hκ:∀ a,P a→∃ nd,nds[a]? = some nd∧K a = nd.2.map Int.toNat) (hr:r < n) (hPr:P r) (hg:n + 1 ≤ g) :
  dd ((bfsF K n [r]).map (lab nds)) = runL Zgr g [lab nds r] 0:=by
 have h1:bfsF K n [r] = runB K (n + 1) [r] 0:=rfl
 have h2:dd ([r].map (lab nds)) = [lab nds r]:=by simp [dd,Z2y,addB]
 rw [h1]
 have:=run_lab (f:=lab nds) (κ:=Zgr) hK hP (fun a ha => by
  obtain ⟨nd,e1,e2⟩:=hκ a ha
  rw [Z8u e1,e2,List.map_map]
  rfl) (n + 1) [r] 0 g (by simp) (by simpa using hr) (by simpa using hPr) (by omega) (by simpa [dd,Z2y] using hg) (by intro x a hx; omega) (by simp)
 rw [this,h2]
 rfl
theorem Zef {cs:List CV} (h:HOk2 cs) {i g:Nat} (hi:Z06 cs (i:Int) = true) (hg:cs.length + 1 ≤ g):Z27 cs i = canT g (lab (Z0f cs) i):=by
 obtain ⟨hC,_⟩:=Zb4 h (roots:=[i]) (by simpa using hi)
 unfold Z27 canT
 rw [Zkj hC]
 congr 1
 refine Zqg h.Zqt (P:=fun a => Z06 cs (a:Int) = true) (fun a ha => Zkc h.toHOk ha) (fun a ha => ?_) (Z1t hi) hi hg
 obtain ⟨_,d,hd,ht,_⟩:=Z1v ha
 rw [Int.toNat_natCast] at hd
 refine ⟨_,Z2a hd,?_⟩
 unfold kidN
 rw [Z1l hd,if_pos ht]
theorem Zsc {ns:List ND} (h:GrOk ns) {r g:Nat} (hr:r < ns.length) (hg:ns.length + 1 ≤ g):Z1b ns r = canT g (lab ns r):=by
 obtain ⟨hC,_⟩:=Zcj h (roots:=[r]) (by simpa using hr)
 unfold Z1b canT
 rw [Zkj hC]
 congr 1
 exact Zqg h.Zdi (P:=fun a => a < ns.length) h.Zdi (fun a ha => ⟨_,List.getElem?_eq_getElem ha,Zee (List.getElem?_eq_getElem ha)⟩) hr hr hg
theorem Zld {cs cs':List CV} (h:HOk2 cs) (h':HOk2 cs') {i i':Nat} (hi:Z06 cs (i:Int) = true) (hi':Z06 cs' (i':Int) = true) (hl:lab (Z0f cs) i = lab (Z0f cs') i'):Z27 cs i = Z27 cs' i':=by
 rw [Zef h hi (g:=cs.length + cs'.length + 1) (by omega),Zef h' hi' (g:=cs.length + cs'.length + 1) (by omega),hl]
theorem Zmd {cs:List CV} {ns:List ND} (h:HOk2 cs) (h':GrOk ns) {i r:Nat} (hi:Z06 cs (i:Int) = true) (hr:r < ns.length) (hl:lab (Z0f cs) i = lab ns r):Z27 cs i = Z1b ns r:=by
 rw [Zef h hi (g:=cs.length + ns.length + 1) (by omega),Zsc h' hr (g:=cs.length + ns.length + 1) (by omega),hl]
def Z5s (n:Nat) (nd:ND):ND:=(nd.1,nd.2.map fun k => (n:Int) + k)
def bigG (cs:List CV) (ts:List ND):List ND:=Z0f cs ++ ts.map (Z5s cs.length)
def bigL (cs:List CV) (ts:List ND):List Nat:=Z0z cs cs.length ++ (List.range ts.length).map fun i => cs.length + i
noncomputable def Z1q (cs:List CV) (ts:List ND):List Int:=(List.range ts.length).map fun i => Z3c (fun d => decide (((clsF (bigG cs ts) (bigL cs ts))[cs.length + i]?).getD 0 = d)) ((clsF (bigG cs ts) (bigL cs ts)).take cs.length)
theorem Zby (cs:List CV) (ts:List ND):(bigG cs ts).length = cs.length + ts.length:=by simp [bigG,Z0t]
theorem Zf6 {cs:List CV} {ts:List ND} {a:Nat} (h:a < cs.length):(bigG cs ts)[a]? = (Z0f cs)[a]?:=by
 unfold bigG
 rw [List.getElem?_append_left (by rw [Z0t]; exact h)]
theorem Zf7 {cs:List CV} {ts:List ND} (i:Nat):(bigG cs ts)[cs.length + i]? = (ts[i]?).map (Z5s cs.length):=by
 unfold bigG
 rw [List.getElem?_append_right (by rw [Z0t]; omega),Z0t,List.getElem?_map]
 congr 2
 omega
theorem Z9t {cs:List CV} {ts:List ND} {a:Nat}:a ∈ bigL cs ts ↔ (a < cs.length∧Z06 cs (a:Int) = true) ∨ (cs.length ≤ a∧a < cs.length + ts.length):=by
 unfold bigL
 rw [List.mem_append,Z44]
 refine or_congr Iff.rfl ?_
 simp only [List.mem_map,List.mem_range]
 constructor
 ·rintro ⟨i,hi,rfl⟩
  omega
 ·rintro ⟨h1,h2⟩
  exact ⟨a - cs.length,by omega,by omega⟩
theorem Ztl {cs:List CV} {ts:List ND} (hO:HOk cs) (hT:GrOk ts):Closed (bigG cs ts) (bigL cs ts)∧∀ (a:Nat) nd,(bigG cs ts)[a]? = some nd→nd.2.length ≤ 4∧∀ k ∈ nd.2,0 ≤ k∧k < (bigG cs ts).length:=by
 have hg:∀ (a:Nat) nd,(bigG cs ts)[a]? = some nd→(a < cs.length∧(Z0f cs)[a]? = some nd) ∨ (cs.length ≤ a∧∃ x,ts[a - cs.length]? = some x∧nd = Z5s cs.length x):=by
  intro a nd h
  by_cases ha:a < cs.length
  ·rw [Zf6 ha] at h
   exact .inl ⟨ha,h⟩
  ·obtain ⟨i,rfl⟩:∃ i,a = cs.length + i:=⟨a - cs.length,by omega⟩
   rw [Zf7] at h
   cases hx:ts[i]? with
   | none => rw [hx] at h; cases h
   | some x =>
    rw [hx] at h
    refine .inr ⟨by omega,x,by rw [Nat.add_sub_cancel_left]; exact hx,?_⟩
    simpa using h.symm
 refine ⟨⟨fun a ha => ?_,fun a ha x hx => ?_⟩,fun a nd h => ?_⟩
 ·rw [Zby]
  rcases Z9t.1 ha with h | h <;> omega
 ·rcases hg a x hx with ⟨h1,h2⟩ | ⟨h1,y,h2,rfl⟩
  ·have hcl:=hO.closed
   have ham:a ∈ Z0z cs cs.length:=by
    rcases Z9t.1 ha with h | h
    ·exact Z44.2 h
    ·omega
   obtain ⟨h4,hk⟩:=hcl.kids a ham x h2
   refine ⟨h4,fun k hkm => ?_⟩
   exact List.mem_append_left _ (hk k hkm)
  ·obtain ⟨h4,hk⟩:=hT y (List.mem_of_getElem? h2)
   refine ⟨by simpa [Z5s] using h4,fun k hkm => ?_⟩
   obtain ⟨k',hk',rfl⟩:=List.mem_map.1 hkm
   obtain ⟨k0,k1⟩:=hk k' hk'
   exact Z9t.2 (.inr (by omega))
 ·rw [Zby]
  rcases hg a nd h with ⟨h1,h2⟩ | ⟨h1,y,h2,rfl⟩
  ·obtain ⟨g1,g2⟩:=hO.Z97 a nd h2
   refine ⟨g1,fun k hk => ?_⟩
   obtain ⟨k0,k1⟩:=g2 k hk
   rw [Z0t] at k1
   omega
  ·obtain ⟨h4,hk⟩:=hT y (List.mem_of_getElem? h2)
   refine ⟨by simpa [Z5s] using h4,fun k hkm => ?_⟩
   obtain ⟨k',hk',rfl⟩:=List.mem_map.1 hkm
   obtain ⟨k0,k1⟩:=hk k' hk'
   omega
section
variable {sc s:St} {fr:FI} {t0:PT AVal} {n:Nat} {r:Lets} {Q:Ex→PT AVal→St→Prop}
theorem Zs3 {B9 B10:Pos} {nm:List UInt8} {kv0:AVal} {ks:List Int} (hk:Z0h sc kv0 ks) (h4:ks.length ≤ 4) (hn:n ≤ 400) (hin:∀ k ∈ ks,0 ≤ k∧k < 1000)
  (hc:Ctx sc (fun _ => False) ((B10,C [.str nm,.nilSlice]) :: (B9,C [.str nm,kv0]) :: r) s) (t7:PT.get (posOf 7) t0 = some (.int .i64 n)) (t9:PT.get (posOf 9) t0 = some (.ptr B9 0)) (t10:PT.get (posOf 10) t0 = some (.ptr B10 0))
  (q:∀ t s' kv mg,Fr [12,35,36,37,38] t0 t→Z1d kv (ks.map fun k => (n:Int) + k) mg→Ctx sc (fun _ => False) ((B10,C [.str nm,kv]) :: (B9,C [.str nm,kv0]) :: (mg ++ r)) s'→Q .normal t s'):wp Tryd.prog Zu0 fr t0 s Q:=by
 have hkt:=hk.ntup
 refine Z00 ?_
 simp [t9,hc.c 1 rfl,hkt,hk.len]
 refine AM.wp_block ?_
 refine AM.wp_loop (fun m t s' => ∃ (j:Nat) (kv:AVal) (mg:Lets),j ≤ ks.length∧m = ks.length - j∧Fr [12,35,36,37,38] t0 t∧PT.get (posOf 35) t = some kv0∧PT.get (posOf 36) t = some (.int .i64 ks.length)∧PT.get (posOf 37) t = some (.int .i64 j) ∧
   Z1d kv ((ks.take j).map fun k => (n:Int) + k) mg∧Ctx sc (fun _ => False) ((B10,C [.str nm,kv]) :: (B9,C [.str nm,kv0]) :: (mg ++ r)) s') ks.length ⟨0,.nilSlice,[],by simp,by simp,?_,by simp,by simp,by simp,.inl ⟨by simp,rfl,rfl⟩,hc⟩ ?_
 ·intro y hy
  simp at hy
  simp [hy]
 rintro m t s' ⟨j,kv,mg,hj,rfl,hF,t35,t36,t37,hg,hc'⟩
 refine Z00 ?_
 simp [t36,t37]
 refine AM.wp_seq ?_
 refine AM.Z03 ?_
 by_cases hlt:j < ks.length
 ·have hwr:IntKind.wrap .i64 ((j:Int) + 1) = ((j + 1:Nat):Int):=by rw [IntWalk.i64_in _ (by omega)]; omega
  obtain ⟨k,hkk⟩:∃ k,ks[j]? = some k:=⟨_,List.getElem?_eq_getElem hlt⟩
  obtain ⟨k0,k1⟩:=hin k (List.mem_of_getElem? hkk)
  have hwk:IntKind.wrap .i64 ((n:Int) + k) = (n:Int) + k:=IntWalk.i64_in _ (by omega)
  have u7:=(hF 7 (by simp)).trans t7
  have u10:=(hF 10 (by simp)).trans t10
  rcases hk.keep hc'.Z0g with ⟨_,h0⟩ | ⟨b5,o5,c5,cells5,rfl,hb5,hcs5,hle5,hel5⟩
  ·rw [h0] at hlt
   simp at hlt
  have hgk:=hel5 _ _ hkk
  simp [hlt]
  refine AM.wp_skip ?_
  simp
  refine AM.wp_seq ?_
  refine AM.wp_block ?_
  refine Z00 ?_
  simp [t35,t37,hlt,hcs5,hgk]
  refine AM.wp_region ?_
  have hns:s'.obj s'.next = none:=hc'.wf _ (Z09 _)
  simp [u7,u10,hc'.c 0 rfl,hg.ntup,hg.cells,hns,hwk,Z1p,srcP]
  have d2:=hc'.alloc (C [.int .i64 (n + k)])
  generalize s'.alloc (.cells [.int .i64 (n + k)] false) = sB at d2 ⊢
  generalize s'.next = T at d2 ⊢
  refine Z5c (pre:=[(T,C [.int .i64 (n + k)]),(B10,C [.str nm,kv]),(B9,C [.str nm,.slice b5 o5 ks.length c5])]) d2 hg (by simp; omega) fun kv' mg' sC hg' d3 => ?_
  simp only [List.cons_append,List.nil_append] at d3
  simp [hg'.ntup,hg'.cells,d3.o 1 rfl]
  have d4:=(d3.put 1 rfl (C [.str nm,kv'])).tail
  simp only [List.set_cons_zero,List.set_cons_succ] at d4
  have hnx:((ks.take j).map fun k => (n:Int) + k) ++ [(n:Int) + k] = (ks.take (j + 1)).map fun k => (n:Int) + k:=by
   rw [List.take_add_one,hkk,List.map_append]
   simp
  rw [hnx] at hg'
  refine AM.wp_region ?_
  simp [t37,hwr]
  refine ⟨ks.length - (j + 1),by omega,j + 1,by omega,by omega,?_,by simp [t35],by simp [t36],by simp,kv',mg',by simpa using hg',d4⟩
  intro y hy
  simp at hy
  simp [hy]
  exact hF y (by simp [hy])
 ·simp [hlt]
  refine AM.wp_exit ?_
  simp
  have hje:j = ks.length:=by omega
  subst hje
  rw [List.take_length] at hg
  refine q _ s' kv mg ?_ hg hc'
  intro y hy
  simp at hy
  simp [hy]
  exact hF y (by simp [hy])
theorem Zy1 {s0:St} {W:Pos→Prop} {q:Pos} {cells:List AVal} {m:Nat} {cp:Cap} {a b:AVal} {Q:AVal→St→Prop} (h:Ctx s0 W ((q,C cells) :: r) s) (hl:cells.length = 2 * m) (h1:1 ≤ m) (hm:m ≤ 1000) (hcp:cp = .lim m ∨ cp = .opn 2)
  (qq:∀ q' s',Ctx s0 W ((q',C (cells ++ [a,b])) :: r) s'→Q (.slice q' 0 (m + 1) (.opn 2)) s'):appP (2,40) (.slice q 0 m cp) [a,b] 1 s Q:=by
 have ht:List.take (m * 2) (List.drop 0 cells) = cells:=by rw [List.drop_zero]; exact List.take_of_length_le (by omega)
 rcases hcp with rfl | rfl
 ·simp only [appP,Z4r]
  rw [if_neg (by decide),if_neg (by omega),if_neg (by omega),h.c 0 rfl]
  refine ⟨by omega,by unfold Z0n; omega,?_⟩
  rw [ht]
  exact qq _ _ ((h.alloc (C (cells ++ [a,b]))).sub (.cons_cons _ (.cons _ (List.Sublist.refl _))))
 ·simp only [appP,Z4r]
  rw [if_neg (by decide)]
  refine ⟨trivial,?_⟩
  rw [h.o 0 rfl]
  simp only [Z13]
  rw [if_neg (by omega),if_neg (by omega)]
  refine ⟨by omega,by unfold Z0n; omega,?_⟩
  rw [ht]
  exact qq _ _ ((h.put0 .dead).tail.alloc (C (cells ++ [a,b])))
end
def Z48 (n:Nat) (ts:List ND) (i:Nat):List ND:=(ts.take i).map (Z5s n)
theorem Zjt {n i:Nat} {ts:List ND} {nd:ND} (h:ts[i]? = some nd):Z48 n ts (i + 1) = Z48 n ts i ++ [Z5s n nd]:=by
 unfold Z48
 rw [List.take_add_one,h]
 simp
theorem Zzy {s0 s:St} {p:Pos} {cs:List CV} {V:List AVal} {m:Lets} {Q:AVal→St→Prop} (hc:Ctx s0 (fun _ => False) m s) (hp:s0.Old p) (hpc:s0.cells p = some (encs (rcs cs V))) (hV:V.length = cs.length) (h4:cs.length ≤ 400)
  (hK:∀ j c,(rcs cs V)[j]? = some c→Z0h s0 c.kv (Z0y cs j))
  (q:∀ pn lv mg Vg s',Z1d lv (nats (Z0z cs cs.length)) mg→Vg.length = cs.length→(∀ (i:Nat) nd kv,(Z0f cs)[i]? = some nd→Vg[i]? = some kv→Z0h s0 kv nd.2)→Ctx s0 (fun _ => False) ((pn,C (Z0l (Z0f cs) Vg)) :: (mg ++ m)) s'→Q (.tup [.slice pn 0 cs.length (.lim cs.length),lv]) s') :
  Z0c Tryd.prog 50 [.agg [.slice p 0 cs.length (.lim cs.length)]] s Q:=by
 have hl:=Z24 hV
 have htk:=Zkt hV cs.length
 have hget:∀ (i:Nat) (c:CV),cs[i]? = some c→∃ kv,V[i]? = some kv∧(rcs cs V)[i]? = some ⟨c.taken,c.name,kv,c.held⟩:=fun i c hi => by
  have hlt:=(List.getElem?_eq_some_iff.1 hi).1
  have hv:V[i]? = some (V[i]'(by omega)):=List.getElem?_eq_getElem _
  exact ⟨_,hv,Z1u hi hv⟩
 generalize rcs cs V = l at hpc hK hl htk hget
 rw [← hl]
 refine Zl8 hc.wf (hc.Z0g.old hp) ((hc.Z0g.cells hp).trans hpc) (by omega) (fun j c hj => (hK j c hj).keep hc.Z0g) fun pn lv s3 k3 hpn hox hlv _ _ => ?_
 rw [hl] at hox hlv ⊢
 rw [htk] at hlv
 have hel:∀ (i:Nat) (c:CV),cs[i]? = some c→∃ kv,(nlI l cs.length)[i]? = some (if c.taken = true then (c.name,kv) else ([],.nilSlice))∧Z0h s0 kv c.kids:=by
  intro i c hi
  obtain ⟨kv,g1,g2⟩:=hget i c hi
  refine ⟨kv,?_,?_⟩
  ·rw [Z8w g2]
   have hlt:=(List.getElem?_eq_some_iff.1 hi).1
   simp [hlt]
  ·have:=hK i _ g2
   rwa [Z1l hi] at this
 have hPl:(nlI l cs.length).length = cs.length:=by rw [Z6z,hl]
 generalize nlI l cs.length = P at hox hel hPl
 have hP:penc P = Z0l (Z0f cs) (P.map Prod.snd):=by
  unfold Z0l
  congr 1
  refine List.ext_getElem? fun i => ?_
  by_cases hi:i < cs.length
  ·obtain ⟨kv,g1,_⟩:=hel i _ (List.getElem?_eq_getElem hi)
   rw [List.getElem?_zipWith,Z2a (List.getElem?_eq_getElem hi),List.getElem?_map,g1]
   split <;> rfl
  ·rw [List.getElem?_eq_none (by omega),List.getElem?_eq_none (by simp [Z0t]; omega)]
 rw [hP] at hox
 have hVg:∀ (i:Nat) nd kv,(Z0f cs)[i]? = some nd→(P.map Prod.snd)[i]? = some kv→Z0h s0 kv nd.2:=by
  intro i nd kv hnd hkv
  have hi:i < cs.length:=by have:=(List.getElem?_eq_some_iff.1 hnd).1; rwa [Z0t] at this
  obtain ⟨kv',g1,g2⟩:=hel i _ (List.getElem?_eq_getElem hi)
  rw [Z2a (List.getElem?_eq_getElem hi)] at hnd
  rw [List.getElem?_map,g1] at hkv
  by_cases ht:cs[i].taken = true
  ·simp [ht] at hnd hkv
   subst hnd hkv
   exact g2
  ·simp [ht] at hnd hkv
   subst hnd hkv
   exact .inl ⟨rfl,rfl⟩
 have c1:=hc.made k3 hpn (St.Z28 hox)
 rcases hlv with ⟨rfl,h0⟩ | ⟨q',rfl,h0,h5,h6,h7⟩
 ·exact q pn .nilSlice [] _ s3 (.inl ⟨by rw [h0]; rfl,rfl,rfl⟩) (by simp [hPl]) hVg (by simpa using c1)
 ·have hq:(q',C (ints (nats (Z0z cs cs.length)))).1 ∉ (((pn,C (Z0l (Z0f cs) (P.map Prod.snd))) :: m).map (·.1)):=by
   rw [List.map_cons,List.mem_cons]
   rintro (h | h)
   ·exact h7 h
   ·exact hc.Zva h6 h
  have hobj:s3.obj q' = some (C (ints (nats (Z0z cs cs.length)))):=by
   have:=St.Z28 h5
   rw [this]
   simp [ints]
  have c2:=c1.add (b:=q') (x:=C (ints (nats (Z0z cs cs.length)))) hobj (fun ho => h6 (hc.Z0g.old ho)) hq
  refine q pn _ [(q',C (ints (nats (Z0z cs cs.length))))] _ s3 (.inr ⟨q',by simpa using h0,by simp,rfl⟩) (by simp [hPl]) hVg (c2.perm (List.Perm.swap _ _ _))
def capI (n:Nat):Nat→Cap
 | 0 => .lim n
 | _ + 1 => .opn 2
theorem Zzk (n i:Nat):capI n i = .lim (n + i) ∨ capI n i = .opn 2:=by
 cases i with
 | zero => exact .inl rfl
 | succ i => exact .inr rfl
theorem seg2 {cs:List AVal} {o:Nat} {a b:AVal} (h1:cs[o]? = some a) (h2:cs[o + 1]? = some b):(cs.drop o).take 2 = [a,b]∧o + 2 ≤ cs.length:=by
 obtain ⟨g1,e1⟩:=List.getElem?_eq_some_iff.1 h1
 obtain ⟨g2,e2⟩:=List.getElem?_eq_some_iff.1 h2
 refine ⟨?_,by omega⟩
 rw [List.drop_eq_getElem_cons g1,List.drop_eq_getElem_cons g2,e1,e2]
 rfl
theorem Zn9 {s:St} {p:Pos} {cs:List CV} {V:List AVal} {nv:AVal} {ts:List ND} {root:Int} {Q:AVal→St→Prop} (hw:s.Wf) (hp:s.Old p) (hpc:s.cells p = some (encs (rcs cs V))) (hV:V.length = cs.length) (h1:1 ≤ cs.length) (h4:cs.length ≤ 400)
  (hK:∀ j c,(rcs cs V)[j]? = some c→Z0h s c.kv (Z0y cs j)) (hO:HOk cs) (hN:Z1i s nv ts) (hT:GrOk ts) (hl1:1 ≤ ts.length) (hl2:ts.length ≤ 60)
  (q:∀ Bo s',Keeps s s'→¬ s.Old Bo→s'.own Bo = some (ints (Z1q cs ts))→Q (.slice Bo 0 ts.length (.lim ts.length)) s'):Z0c Tryd.prog 62 [.agg [.slice p 0 cs.length (.lim cs.length)],.agg [nv,.int .i64 root]] s Q:=by
 have hNt:=hN.ntup
 have hNc:=hN.Z8h
 have hl:=Z24 hV
 refine Z08 (Z0i (by decide)) fi62 rfl (by decide) rfl ?_
 refine Z00 ?_
 simp [hNt,hNc]
 have d1:=(Ctx.start (fun _ => False) hw).alloc (C [.slice p 0 cs.length (.lim cs.length)])
 generalize s.alloc (.cells [.slice p 0 cs.length (.lim cs.length)] false) = s1 at d1 ⊢
 generalize s.next = B2 at d1 ⊢
 have d2:=d1.alloc (C [nv,.int .i64 root])
 generalize s1.alloc (.cells [nv,.int .i64 root] false) = s2 at d2 ⊢
 generalize s1.next = B3 at d2 ⊢
 refine Z00 ?_
 simp [d2.c 1 rfl]
 refine Z02 ?_
 refine Zzy d2 hp hpc hV h4 hK fun pn lv mg Vg s3 hg hVg hVk d3 => ?_
 simp
 refine Z00 ?_
 simp
 have d4:Ctx s (fun _ => False) ((pn,C (Z0l (Z0f cs ++ Z48 cs.length ts 0) (Vg ++ []))) :: (B3,C [nv,.int .i64 root]) :: ([] ++ (mg ++ []))) s3:=by
  have:=d3.perm (m':=(B2,C [.slice p 0 cs.length (.lim cs.length)]) :: (pn,C (Z0l (Z0f cs) Vg)) :: (B3,C [nv,.int .i64 root]) :: mg) (Z0k fun x => by
   simp only [Z0j,Z0e,Z0q]
   omega)
  simpa [Z48] using this.tail
 refine AM.wp_seq ?_
 refine Z00 ?_
 simp [d4.c 1 rfl,hNt,hN.len]
 refine AM.wp_block ?_
 refine AM.wp_loop (fun k t s' => ∃ (i:Nat) (qn:Pos) (lv:AVal) (Vk:List AVal) (mk mg:Lets),i ≤ ts.length∧k = ts.length - i∧PT.get (posOf 3) t = some (.ptr B3 0)∧PT.get (posOf 5) t = some (.slice qn 0 (cs.length + i) (capI cs.length i))∧PT.get (posOf 6) t = some lv∧PT.get (posOf 7) t = some (.int .i64 cs.length) ∧
   PT.get (posOf 24) t = some nv∧PT.get (posOf 25) t = some (.int .i64 ts.length)∧PT.get (posOf 26) t = some (.int .i64 i)∧Z1d lv (nats (Z0z cs cs.length ++ (List.range i).map fun x => cs.length + x)) mg∧Z16 ((Z48 cs.length ts i).map Prod.snd) Vk mk ∧
   Ctx s (fun _ => False) ((qn,C (Z0l (Z0f cs ++ Z48 cs.length ts i) (Vg ++ Vk))) :: (B3,C [nv,.int .i64 root]) :: (mk ++ (mg ++ []))) s') ts.length
  ⟨0,pn,lv,[],[],mg,by simp,by simp,by simp,by simp [capI],by simp,by simp,by simp,by simp,by simp,by simpa using hg,by simp [Z48,Z16],d4⟩ ?_
 rintro k t s' ⟨i,qn,lv,Vk,mk,mg,hi,rfl,t3,t5,t6,t7,t24,t25,t26,hg,hR,d⟩
 refine Z00 ?_
 simp [t25,t26]
 refine AM.wp_seq ?_
 refine AM.Z03 ?_
 by_cases hlt:i < ts.length
 ·have hwr:IntKind.wrap .i64 ((i:Int) + 1) = ((i + 1:Nat):Int):=by rw [IntWalk.i64_in _ (by omega)]; omega
  have hwn:IntKind.wrap .i64 ((cs.length:Int) + i) = ((cs.length + i:Nat):Int):=by rw [IntWalk.i64_in _ (by omega)]; omega
  obtain ⟨nd,hnd⟩:∃ nd,ts[i]? = some nd:=⟨_,List.getElem?_eq_getElem hlt⟩
  obtain ⟨hk4,hkin⟩:=hT nd (List.mem_of_getElem? hnd)
  rcases hN with ⟨_,e0⟩ | ⟨bn,on,cn,cellsn,rfl,hbn,hcsn,hlen,heln⟩
  ·rw [e0] at hnd
   simp at hnd
  have rn:∀ {m:Lets} {s'':St},Ctx s (fun _ => False) m s''→s''.cells bn = some cellsn:=fun d => (d.Z0g.cells hbn).trans hcsn
  obtain ⟨hgn,kv,hgk,hkv⟩:=heln i nd hnd
  have hkt:=hkv.ntup
  have hkc:=hkv.Z8h
  obtain ⟨hsg,hsl⟩:=seg2 hgn hgk
  have hmin:min 2 (cellsn.length - (on + i * 2)) = 2:=by omega
  simp [hlt]
  refine AM.wp_skip ?_
  simp
  refine AM.wp_seq ?_
  refine AM.wp_block ?_
  refine Z00 ?_
  simp [t24,t26,hlt,rn d,hsl,hmin,hsg]
  have e1:=(d.alloc (C [.str [],.nilSlice])).put 0 rfl (C [.str nd.1,kv])
  simp only [List.set_cons_zero] at e1
  generalize (s'.alloc (.cells [.str [],.nilSlice] false)).put s'.next (.cells [.str nd.1,kv] false) = s4 at e1 ⊢
  generalize s'.next = B9 at e1 ⊢
  refine Z00 ?_
  simp [e1.c 0 rfl]
  have e2:=(e1.alloc (C [.str [],.nilSlice])).put 0 rfl (C [.str nd.1,.nilSlice])
  simp only [List.set_cons_zero] at e2
  generalize (s4.alloc (.cells [.str [],.nilSlice] false)).put s4.next (.cells [.str nd.1,.nilSlice] false) = s5 at e2 ⊢
  generalize s4.next = B10 at e2 ⊢
  refine AM.wp_seq ?_
  refine Zs3 (n:=cs.length) hkv hk4 h4 (fun k hk => by have:=hkin k hk; omega) e2 (by simp [t7]) (by simp) (by simp) fun t2 s6 kv2 mk2 hF2 hg2 e3 => ?_
  have u3:PT.get (posOf 3) t2 = some (.ptr B3 0):=(hF2 3 (by simp)).trans (by simp [t3])
  have u5:PT.get (posOf 5) t2 = some (.slice qn 0 (cs.length + i) (capI cs.length i)):=(hF2 5 (by simp)).trans (by simp [t5])
  have u6:PT.get (posOf 6) t2 = some lv:=(hF2 6 (by simp)).trans (by simp [t6])
  have u7:PT.get (posOf 7) t2 = some (.int .i64 cs.length):=(hF2 7 (by simp)).trans (by simp [t7])
  have u8:PT.get (posOf 8) t2 = some (.int .i64 i):=(hF2 8 (by simp)).trans (by simp)
  have u10:PT.get (posOf 10) t2 = some (.ptr B10 0):=(hF2 10 (by simp)).trans (by simp)
  have u24:PT.get (posOf 24) t2 = some (.slice bn on ts.length cn):=(hF2 24 (by simp)).trans (by simp [t24])
  have u25:PT.get (posOf 25) t2 = some (.int .i64 ts.length):=(hF2 25 (by simp)).trans (by simp [t25])
  have u26:PT.get (posOf 26) t2 = some (.int .i64 i):=(hF2 26 (by simp)).trans (by simp [t26])
  simp
  refine AM.wp_region ?_
  simp [u5,u6,u7,u8,u10,e3.c 0 rfl,hg2.ntup,hg2.cells,Z1p,srcP]
  have e4:=e3.alloc (C [.str nd.1,kv2])
  generalize s6.alloc (.cells [.str nd.1,kv2] false) = s7 at e4 ⊢
  generalize s6.next = T at e4 ⊢
  have hVk':Vk.length = i:=by
   have:=hR.len
   simpa [Z48,Nat.min_eq_left hi] using this
  have hVV:(Vg ++ Vk).length = (Z0f cs ++ Z48 cs.length ts i).length:=by simp [hVg,hVk',Z0t,Z48,Nat.min_eq_left hi]
  have hcl:(Z0l (Z0f cs ++ Z48 cs.length ts i) (Vg ++ Vk)).length = 2 * (cs.length + i):=by
   rw [Z6e hVV]
   simp [Z0t,Z48,Nat.min_eq_left hi]
  have e5:=e4.perm (m':=(qn,C (Z0l (Z0f cs ++ Z48 cs.length ts i) (Vg ++ Vk))) :: (B3,C [.slice bn on ts.length cn,.int .i64 root]) :: (mk2 ++ (mk ++ mg)) ++ [(T,C [.str nd.1,kv2]),(B10,C [.str nd.1,kv2]),(B9,C [.str nd.1,kv])]) (Z0k fun x => by
   simp only [Z0j,Z0e,Z0q]
   omega)
  have e6:=e5.sub (m':=(qn,C (Z0l (Z0f cs ++ Z48 cs.length ts i) (Vg ++ Vk))) :: (B3,C [.slice bn on ts.length cn,.int .i64 root]) :: (mk2 ++ (mk ++ mg))) (List.sublist_append_left _ _)
  refine Zy1 e6 hcl (by omega) (by omega) (Zzk _ _) fun qn' s8 e7 => ?_
  have hsn:Z0l (Z0f cs ++ Z48 cs.length ts i) (Vg ++ Vk) ++ [.str nd.1,kv2] = Z0l (Z0f cs ++ Z48 cs.length ts (i + 1)) (Vg ++ (Vk ++ [kv2])):=by
   have:=Zjh hVV (Z5s cs.length nd) kv2
   rw [List.append_assoc,← Zjt hnd,List.append_assoc] at this
   exact this.symm
  rw [hsn] at e7
  have e8:=e7.alloc (C [.int .i64 (cs.length + i:Nat)])
  rw [hwn]
  generalize s8.alloc (.cells [.int .i64 (cs.length + i:Nat)] false) = s9 at e8 ⊢
  generalize s8.next = T2 at e8 ⊢
  have e9:=e8.tail.perm (m':=[(qn',C (Z0l (Z0f cs ++ Z48 cs.length ts (i + 1)) (Vg ++ (Vk ++ [kv2])))),(B3,C [.slice bn on ts.length cn,.int .i64 root])] ++ (mg ++ (mk ++ mk2))) (Z0k fun x => by
   simp only [Z0j,Z0e,Z0q]
   omega)
  have hll:(Z0z cs cs.length).length ≤ cs.length:=Nat.le_trans (List.length_filter_le _ _) (by simp)
  refine Z5c e9 hg (by simp; omega) fun lv' mg' s10 hg' e10 => ?_
  have hg'':Z1d lv' (nats (Z0z cs cs.length ++ (List.range (i + 1)).map fun x => cs.length + x)) mg':=by
   have:nats (Z0z cs cs.length ++ (List.range (i + 1)).map fun x => cs.length + x) = nats (Z0z cs cs.length ++ (List.range i).map fun x => cs.length + x) ++ [((cs.length + i:Nat):Int)]:=by
    rw [List.range_succ]
    simp
   rw [this]
   exact hg'
  have hR':Z16 ((Z48 cs.length ts (i + 1)).map Prod.snd) (Vk ++ [kv2]) (mk ++ mk2):=by
   rw [Zjt hnd,List.map_append]
   exact hR.snoc hg2.row
  refine AM.wp_region ?_
  simp [u26,hwr]
  refine ⟨ts.length - (i + 1),by omega,i + 1,by omega,by omega,u3,qn',⟨rfl,by omega,rfl⟩,u7,u24,u25,by omega,Vk ++ [kv2],mk ++ mk2,mg',by simpa using hg'',hR',?_⟩
  refine e10.perm (Z0k fun x => ?_)
  simp only [Z0j,Z0e,Z0q]
  omega
 ·simp [hlt]
  refine AM.wp_exit ?_
  simp
  have hie:i = ts.length:=by omega
  subst hie
  have htl:Z48 cs.length ts ts.length = ts.map (Z5s cs.length):=by simp [Z48]
  rw [htl] at hR d
  have hVk':Vk.length = ts.length:=by
   have:=hR.len
   simpa using this
  have hVV:(Vg ++ Vk).length = (Z0f cs ++ ts.map (Z5s cs.length)).length:=by simp [hVg,hVk',Z0t]
  have hbl:=Zby cs ts
  have hNG:NodesG s' qn (bigG cs ts):=by
   refine ⟨d.oi 0 rfl,_,d.c 0 rfl,by rw [Z6e hVV]; simp [bigG],fun j nd hnd => ?_⟩
   have hj:j < cs.length + ts.length:=by have:=(List.getElem?_eq_some_iff.1 hnd).1; omega
   have hv:(Vg ++ Vk)[j]? = some ((Vg ++ Vk)[j]'(by simp; omega)):=List.getElem?_eq_getElem _
   obtain ⟨g1,g2⟩:=Z7h hnd hv
   refine ⟨g1,_,g2,?_⟩
   generalize (Vg ++ Vk)[j]'(by simp; omega) = kv at hv
   by_cases hjn:j < cs.length
   ·rw [Zf6 hjn] at hnd
    rw [List.getElem?_append_left (by omega)] at hv
    exact (hVk j nd kv hnd hv).keep d.Z0g
   ·obtain ⟨x,rfl⟩:∃ x,j = cs.length + x:=⟨j - cs.length,by omega⟩
    rw [Zf7] at hnd
    rw [List.getElem?_append_right (by omega),hVg,Nat.add_sub_cancel_left] at hv
    obtain ⟨kv',r1,r2⟩:=hR.each (i:=x) (ks:=nd.2) (by rw [List.map_map,List.getElem?_map]; rw [← Option.map_map,hnd]; rfl)
    rw [hv] at r1
    cases r1
    rcases r2 with ⟨r3,r4⟩ | ⟨q',c',r3,r4,r5⟩
    ·exact .inl ⟨r4,r3⟩
    ·rw [r4]
     exact Z4l d.wf (Z17 (d.own (q',C (ints nd.2)) (by simp [r5]))) c'
  obtain ⟨hC,hks⟩:=Ztl hO hT
  have hLi:Z0h s' lv (nats (bigL cs ts)):=(hg.row.kid fun y hy => d.own y (by simp [hy])).ints d.wf
  have hll:(Z0z cs cs.length).length ≤ cs.length:=Nat.le_trans (List.length_filter_le _ _) (by simp)
  have hbL:(bigL cs ts).length ≤ 1000:=by simp [bigL]; omega
  have hlt':=hg.ntup
  refine Z00 ?_
  simp [t5,t6]
  refine Z02 ?_
  refine Zcc hbl d.wf hNG (by omega) hLi hbL hC hks fun Bx s4 k4 hBx hox => ?_
  have hcl:=Z9k hC
  simp only [Z1q] at q
  generalize clsF (bigG cs ts) (bigL cs ts) = cls at hox hcl q
  have e1:=d.made k4 hBx (St.Z28 hox)
  rw [hbl] at hcl
  simp
  have hz3:ts.length ≤ Z0n:=by unfold Z0n; omega
  have hz4:ts.length * 8 ≤ Z0n:=by unfold Z0n; omega
  refine Z00 ?_
  simp [t3,e1.c 2 rfl,hNt,hN.len,hz3,hz4]
  have e2:=e1.alloc (C (List.replicate ts.length (.int .i64 0)))
  have hBo:¬ s.Old s4.next:=fun ho => Z09 s4 (e1.Z0g.old ho)
  generalize s4.alloc (.cells (List.replicate ts.length (.int .i64 0)) false) = s5 at e2 ⊢
  generalize s4.next = Bo at e2 hBo ⊢
  refine AM.wp_seq ?_
  refine Z00 ?_
  simp
  have e3:=e2.sub (m':=(Bo,C (List.replicate ts.length (.int .i64 0))) :: (Bx,C (ints cls)) :: []) (.cons_cons _ (.cons_cons _ (List.nil_sublist _)))
  have hz0:List.replicate ts.length (AVal.int .i64 0) = ints (((List.range ts.length).map fun i => Z3c (fun d => decide ((cls[cs.length + i]?).getD 0 = d)) (cls.take cs.length)).take 0 ++ List.replicate (ts.length - 0) 0):=by simp [ints]
  generalize hres:((List.range ts.length).map fun i => Z3c (fun d => decide ((cls[cs.length + i]?).getD 0 = d)) (cls.take cs.length)) = res at hz0 q
  have hresl:res.length = ts.length:=by rw [← hres]; simp
  rw [hz0] at e3
  refine AM.wp_block ?_
  refine AM.wp_loop (fun k t s' => ∃ i:Nat,i ≤ ts.length∧k = ts.length - i∧PT.get (posOf 7) t = some (.int .i64 cs.length)∧PT.get (posOf 13) t = some (.slice Bx 0 (cs.length + ts.length) (.lim (cs.length + ts.length)))∧PT.get (posOf 14) t = some (.slice Bo 0 ts.length (.lim ts.length)) ∧
    PT.get (posOf 69) t = some (.int .i64 ts.length)∧PT.get (posOf 70) t = some (.int .i64 i)∧Ctx s (fun _ => False) ((Bo,C (ints (res.take i ++ List.replicate (ts.length - i) 0))) :: (Bx,C (ints cls)) :: []) s') ts.length
   ⟨0,by simp,by simp,by simp [t7],by simp,by simp,by simp,by simp,e3⟩ ?_
  rintro k t s' ⟨i,hi,rfl,t7,t13,t14,t69,t70,d⟩
  refine Z00 ?_
  simp [t69,t70]
  refine AM.wp_seq ?_
  refine AM.Z03 ?_
  by_cases hlt:i < ts.length
  ·have hwr:IntKind.wrap .i64 ((i:Int) + 1) = ((i + 1:Nat):Int):=by rw [IntWalk.i64_in _ (by omega)]; omega
   have hwn:IntKind.wrap .i64 ((cs.length:Int) + i) = ((cs.length + i:Nat):Int):=by rw [IntWalk.i64_in _ (by omega)]; omega
   obtain ⟨cc,hcc⟩:∃ cc,cls[cs.length + i]? = some cc:=⟨_,List.getElem?_eq_getElem (by omega)⟩
   have hgc:(ints cls)[cs.length + i]? = some (.int .i64 cc):=by rw [List.getElem?_map,hcc]; rfl
   simp [hlt]
   refine AM.wp_skip ?_
   simp
   refine AM.wp_seq ?_
   refine AM.wp_block ?_
   refine Z00 ?_
   simp [t70]
   refine AM.wp_region ?_
   simp [t7,t13,t14]
   refine Zo2 (a:=0) (b:=cs.length) (off:=0) (n:=cs.length + ts.length) (c:=cs.length + ts.length) (p:=Bx) (by simp) rfl ⟨.i64,by simp⟩ (by omega) (by omega) ?_
   rw [if_neg (by omega),hwn]
   have hlt2:((cs.length + i:Nat):Int) < (cs.length:Int) + ts.length:=by omega
   have hlt3:(0:Int) ≤ ((cs.length + i:Nat):Int):=by omega
   simp only [Nat.zero_mul,Nat.add_zero,Nat.zero_add,Nat.sub_zero,Int.toNat_natCast,Nat.mul_one]
   refine ⟨hlt3,hlt2,?_⟩
   rw [d.c 1 rfl]
   simp only [Z13,hgc]
   have hIx:Z0h s' (.slice Bx 0 cs.length (.lim (cs.length + ts.length))) (cls.take cs.length):=by
    refine .inr ⟨Bx,0,.lim (cs.length + ts.length),ints cls,?_,d.oi 1 rfl,d.c 1 rfl,?_,fun j k hk => ?_⟩
    ·rw [List.length_take,hcl,Nat.min_eq_left (by omega)]
    ·simp
     omega
    ·rw [List.getElem?_take] at hk
     split at hk
     ·rw [Nat.zero_add,List.getElem?_map,hk]
      rfl
     ·cases hk
   refine Z02 ?_
   refine Zed hIx (by rw [List.length_take]; omega) ?_
   have hri:res[i]? = some (Z3c (fun d => decide (cc = d)) (cls.take cs.length)):=by
    rw [← hres,List.getElem?_map,List.getElem?_range hlt]
    simp [hcc]
   generalize Z3c (fun d => decide (cc = d)) (cls.take cs.length) = vv at hri ⊢
   have hnx:(res.take i ++ List.replicate (ts.length - i) 0).set i vv = res.take (i + 1) ++ List.replicate (ts.length - (i + 1)) 0:=by
    have hln:(res.take i).length = i:=by rw [List.length_take]; omega
    rw [List.set_append_right _ _ (by omega),hln,Nat.sub_self]
    have e:ts.length - i = (ts.length - (i + 1)) + 1:=by omega
    rw [e,List.replicate_succ,List.set_cons_zero,List.take_add_one,hri]
    simp
   have hln:(res.take i ++ List.replicate (ts.length - i) 0).length = ts.length:=by
    rw [List.length_append,List.length_take,List.length_replicate]
    omega
   have hlay:lay (ints (res.take i ++ List.replicate (ts.length - i) 0)) i [.int .i64 vv] = ints (res.take (i + 1) ++ List.replicate (ts.length - (i + 1)) 0):=by
    have:=Z6k (res.take i ++ List.replicate (ts.length - i) 0) i vv (by omega)
    rw [hnx] at this
    exact this
   have hown:=d.o 0 rfl
   have dd:=d.put 0 rfl (C (ints (res.take (i + 1) ++ List.replicate (ts.length - (i + 1)) 0)))
   simp only [List.set_cons_zero] at dd
   have hlen:i + 1 ≤ (ints (res.take i ++ List.replicate (ts.length - i) 0)).length:=by rw [List.length_map]; omega
   generalize ints (res.take i ++ List.replicate (ts.length - i) 0) = mv at hlay hown hlen
   generalize hY:ints (res.take (i + 1) ++ List.replicate (ts.length - (i + 1)) 0) = Y at hlay dd
   simp [lay] at hlay
   simp [hlt,hown,hlen]
   rw [hlay]
   refine AM.wp_region ?_
   simp [t70,hwr]
   exact ⟨ts.length - (i + 1),by omega,i + 1,by omega,by omega,by simp [t7],by simp [t13],by simp [t14],by simp [t69],by simp,by rw [← hY] at dd ⊢; simpa [ints] using dd⟩
  ·simp [hlt]
   refine AM.wp_exit ?_
   simp
   have hie:i = ts.length:=by omega
   subst hie
   have hrt:res.take ts.length ++ List.replicate (ts.length - ts.length) 0 = res:=by
    rw [Nat.sub_self,← hresl,List.take_length]
    simp
   rw [hrt] at d
   refine Z00 ?_
   simp [t14]
   refine AM.wp_ret ?_
   simp
   exact q Bo s' d.Z0g hBo (d.o 0 rfl)
noncomputable def findF (cs:List CV) (ns:List ND) (root:Int):Int × Int :=
 if Z15 ns root ≠ 0 then (0,Z15 ns root) else
 if ((Z1q cs (Z1b ns root.toNat))[0]?).getD 0 < 0 then (0,1) else (((Z1q cs (Z1b ns root.toNat))[0]?).getD 0,0)
theorem Zal {ns:List ND} {r:Nat} (hO:GrOk ns) (hr:r < ns.length):GrOk (Z1b ns r)∧1 ≤ (Z1b ns r).length∧(Z1b ns r).length ≤ ns.length:=by
 have hr':∀ a ∈ [r],a < ns.length:=by simpa using hr
 obtain ⟨hC,hnd,hlt,hroot⟩:=Zcj hO hr'
 unfold Z1b
 generalize bfsF (kidG ns) ns.length [r] = L at hC hnd hlt hroot
 have hm:(outF (clsF ns L) ns L).length = Zje ns L:=Zo9 hC
 refine ⟨fun x hx => ?_,?_,?_⟩
 ·obtain ⟨a,nd,h1,h2,rfl⟩:=Zem hx
  refine ⟨by simpa [Z45] using (hO nd (List.mem_of_getElem? h2)).1,fun k hk => ?_⟩
  obtain ⟨k',hk',rfl⟩:=List.mem_map.1 hk
  obtain ⟨_,hkin⟩:=hC.kids a h1 nd h2
  obtain ⟨c,e1,e2⟩:=Zff hC (hkin k' hk')
  rw [e1]
  simp only [Option.getD_some]
  omega
 ·rcases hroot r (by simp) with h
  obtain ⟨c,e1,e2⟩:=Zff hC h
  omega
 ·have:=Zo8 (clsF ns L) ns L
  have:=Z2w hnd hlt
  omega
theorem Zea (cs:List CV) (ts:List ND):(Z1q cs ts).length = ts.length:=by simp [Z1q]
theorem find_c {s0 s:St} {W:Pos→Prop} {hb:Pos} {vs:AVal} {cs:List CV} {m r:Lets} {nv:AVal} {ns:List ND} {root:Int} {Q:AVal→St→Prop} (hH:Z26 hb vs cs m) (h:Ctx s0 W (m ++ r) s) (hO:HOk cs) (hN:Z8z s nv ns) (hsm:Zbm ns) (hmax:ns.length ≤ 2 ^ 62)
  (q:∀ s',Keeps s s'→Q (.tup [.int .i64 (findF cs ns root).1,.int .i64 (findF cs ns root).2]) s'):Z0c Tryd.prog 20 [.ptr hb 0,.agg [nv,.int .i64 root]] s Q:=by
 obtain ⟨p,V,mr,hc,hR,hV,h1,h4,hP⟩:=Z7w hH h
 have hNt:=hN.at.ntup
 have hNc:=hN.at.Z8h
 have hno:cs.length ≠ 0:=by omega
 have d0:=Ctx.start (fun _ => False) hc.wf
 refine Z08 (Z0i (by decide)) fi20 rfl (by decide) rfl ?_
 refine Z00 ?_
 simp [hNt,hNc]
 have d1:=d0.alloc (C [nv,.int .i64 root])
 generalize s.alloc (.cells [nv,.int .i64 root] false) = s1 at d1 ⊢
 generalize s.next = B3 at d1 ⊢
 refine AM.wp_seq ?_
 refine Z00 ?_
 simp
 refine Z02 ?_
 refine Z6b ((d1.Z0g.cells (hc.oi 0 rfl)).trans (hc.c 0 rfl)) rfl hno ?_
 simp
 refine AM.Z03 ?_
 simp
 refine AM.wp_skip ?_
 simp
 refine AM.wp_seq ?_
 refine Z00 ?_
 simp [d1.c 0 rfl]
 refine Z02 ?_
 refine Zhs d1.wf (hN.at.keep d1.Z0g) hmax hsm fun s2 k2 => ?_
 have d2:=d1.keeps k2
 unfold findF at q
 simp
 refine Z00 ?_
 simp
 refine AM.Z03 ?_
 by_cases hz:Z15 ns root = 0
 ·rw [if_neg (by simp [hz])] at q
  simp [hz]
  refine AM.wp_skip ?_
  simp
  refine Z00 ?_
  simp [d2.c 0 rfl]
  refine Z02 ?_
  refine Znn d2.wf (hN.keep d2.Z0g) hsm hmax (fun _ _ hne => (hne hz).elim) fun Bn mn s3 _ hM hx => ?_
  obtain ⟨o1,o2,hGO,hnm,r0,r1⟩:=Zai hz
  obtain ⟨hGL,hL1,hL2⟩:=Zal (r:=root.toNat) hGO (by omega)
  generalize hLG:Z1b ns root.toNat = LG at hM hGL hL1 hL2 q
  have d3:Ctx s (fun _ => False) (mn ++ [(B3,C [nv,.int .i64 root])]) s3:=Ctx.on (m:=[]) (by simpa using d2) (by simpa using hx)
  have d4:=d3.perm (m':=(B3,C [nv,.int .i64 root]) :: mn) (Z0k fun x => by
   simp only [Z0j,Z0e,Z0q]
   omega)
  simp [d4.o 0 rfl]
  have d5:=d4.put 0 rfl (C [.slice Bn 0 LG.length (.lim LG.length),.int .i64 0])
  simp only [List.set_cons_zero] at d5
  generalize s3.put B3 (.cells [.slice Bn 0 LG.length (.lim LG.length),.int .i64 0] false) = s4 at d5 ⊢
  have hMA:=hM.at (.lim LG.length) d5.tail
  have hb4:s4.cells hb = some [.slice p 0 cs.length (.lim cs.length),vs]:=(d5.Z0g.cells (hc.oi 0 rfl)).trans (hc.c 0 rfl)
  have c4:=hc.keeps d5.Z0g
  refine Z00 ?_
  simp [hb4,d5.c 0 rfl]
  refine Z02 ?_
  have hobs:∀ j c,(rcs cs V)[j]? = some c→Z0h s4 c.kv (Z0y cs j):=by
   intro j c hj
   obtain ⟨_,_,r3⟩:=Z6o (p:=p) (cs:=cs) (V:=V) c4 (by simp) hR (fun y hy => by simp [hy])
   have hjl:j < cs.length:=by have:=(List.getElem?_eq_some_iff.1 hj).1; rwa [Z24 hV] at this
   obtain ⟨kv,e1,e2⟩:=r3 j _ (List.getElem?_eq_getElem hjl)
   rw [Z1u (List.getElem?_eq_getElem hjl) e1] at hj
   cases hj
   rw [Z1l (List.getElem?_eq_getElem hjl)]
   exact e2
  refine Zn9 (V:=V) d5.wf (c4.oi 1 rfl) (c4.c 1 rfl) hV h1 h4 hobs hO hMA hGL hL1 (by omega) fun Bo s5 k5 hBo hox => ?_
  have hfl:=Zea cs LG
  obtain ⟨x,hx0⟩:∃ x,(Z1q cs LG)[0]? = some x:=⟨_,List.getElem?_eq_getElem (by omega)⟩
  rw [hx0] at q
  simp only [Option.getD_some] at q
  have hg0:(ints (Z1q cs LG))[0]? = some (.int .i64 x):=by rw [List.getElem?_map,hx0]; rfl
  have hL1':0 < LG.length:=by omega
  have hcBo:s5.cells Bo = some (ints (Z1q cs LG)):=Z0a hox
  generalize ints (Z1q cs LG) = fl at hg0 hcBo
  simp [hL1',hcBo,hg0]
  have k6:=d5.Z0g.trans k5
  refine AM.wp_seq ?_
  refine Z00 ?_
  simp
  refine AM.Z03 ?_
  by_cases hx1:x < 0
  ·rw [if_pos hx1] at q
   simp [hx1]
   refine Z00 ?_
   simp
   refine AM.wp_ret ?_
   simp
   exact q _ k6
  ·rw [if_neg hx1] at q
   simp [hx1]
   refine AM.wp_skip ?_
   simp
   refine Z00 ?_
   simp
   refine AM.wp_ret ?_
   simp
   exact q _ k6
 ·rw [if_pos (by simpa using hz)] at q
  simp [hz]
  refine Z00 ?_
  simp
  refine AM.wp_ret ?_
  simp
  exact q _ d2.Z0g
def Z3k (L:List ND) (th:List Int) (cs:List CV):Nat→Option (List CV × List Int)
 | 0 => some (cs,th)
 | i + 1 => match Z3k L th cs i with
  | none => none
  | some x => if 0 ≤ (th[i]?).getD 0 then some x else if Z5p x.1 < 0 then none else some (x.1.set (Z5p x.1).toNat ⟨true,((L[i]?).getD ([],[])).1,[],0⟩,x.2.set i (Z5p x.1))
def Z1x (f:List Int) (ks:List Int):List Int:=ks.map fun k => (f[k.toNat]?).getD 0
def setK (cs:List CV) (a:Nat) (ks:List Int):List CV:=match cs[a]? with
 | some c => cs.set a { c with kids:=ks }
 | none => cs
def Z2b (L:List ND) (th f:List Int) (cs:List CV):Nat→List CV
 | 0 => cs
 | i + 1 => if 0 ≤ (th[i]?).getD 0 then Z2b L th f cs i else setK (Z2b L th f cs i) ((f[i]?).getD 0).toNat (Z1x f ((L[i]?).getD ([],[])).2)
theorem Zxo (cs:List CV) (a:Nat) (ks:List Int):(setK cs a ks).length = cs.length:=by
 unfold setK; split <;> simp
theorem Z8q (L:List ND) (th f:List Int) (cs:List CV):∀ i,(Z2b L th f cs i).length = cs.length
 | 0 => rfl
 | i + 1 => by
  unfold Z2b
  split
  ·exact Z8q L th f cs i
  ·rw [Zxo,Z8q L th f cs i]
theorem Zrh {L:List ND} {th:List Int} {cs:List CV} {i:Nat} (h:Z3k L th cs i = none):∀ j,i ≤ j→Z3k L th cs j = none:=by
 intro j hj
 induction j with
 | zero =>
  have:i = 0:=by omega
  subst this
  exact h
 | succ j ih =>
  by_cases e:i = j + 1
  ·subst e; exact h
  ·unfold Z3k
   rw [ih (by omega)]
noncomputable def putF (cs:List CV) (ns:List ND) (root:Int):Int × Int × List CV :=
 if Z15 ns root ≠ 0 then (0,Z15 ns root,cs) else
 if (0:Int) ≤ ((Z1q cs (Z1b ns root.toNat))[0]?).getD (0:Int) then (((Z1q cs (Z1b ns root.toNat))[0]?).getD (0:Int),(0:Int),cs) else
 match Z3k (Z1b ns root.toNat) (Z1q cs (Z1b ns root.toNat)) cs (Z1b ns root.toNat).length with
 | none => (0,12,cs)
 | some (c,f) => ((f[0]?).getD (0:Int),(0:Int),Z2b (Z1b ns root.toNat) (Z1q cs (Z1b ns root.toNat)) f c (Z1b ns root.toNat).length)
theorem Z87 (cs:List CV):Z5p cs = -1 ∨ ∃ (i:Nat) (c:CV),Z5p cs = i∧cs[i]? = some c∧c.taken = false:=by
 unfold Z5p
 split
 ·rename_i i h
  obtain ⟨h1,h2,_⟩:=List.findIdx?_eq_some_iff_getElem.1 h
  exact .inr ⟨i,cs[i],rfl,List.getElem?_eq_getElem h1,by simpa using h2⟩
 ·exact .inl rfl
structure AllI (L:List ND) (th:List Int) (cs c:List CV) (V:List AVal) (f:List Int) (i:Nat):Prop where
 len:c.length = cs.length
 flen:f.length = L.length
 cell:∀ j,j < i→(th[j]?).getD 0 < 0→∃ (a:Nat) (d:CV),f[j]? = some (a:Int)∧c[a]? = some d∧d.taken = true∧d.kids = []∧V[a]? = some .nilSlice
 inj:∀ j j',j < i→j' < i→(th[j]?).getD 0 < 0→(th[j']?).getD 0 < 0→f[j]? = f[j']?→j = j'
theorem AllI.zero {L:List ND} {th:List Int} {cs:List CV} {V:List AVal} (h:th.length = L.length):AllI L th cs cs V th 0 :=
 ⟨rfl,h,fun j hj => by omega,fun j j' hj => by omega⟩
theorem AllI.skip {L:List ND} {th f:List Int} {cs c:List CV} {V:List AVal} {i:Nat} (h:AllI L th cs c V f i) (hi:0 ≤ (th[i]?).getD 0):AllI L th cs c V f (i + 1):=by
 refine ⟨h.len,h.flen,fun j hj hn => ?_,fun j j' hj hj' hn hn' e => ?_⟩
 ·by_cases e:j = i
  ·subst e; omega
  ·exact h.cell j (by omega) hn
 ·by_cases e1:j = i
  ·subst e1; omega
  ·by_cases e2:j' = i
   ·subst e2; omega
   ·exact h.inj j j' (by omega) (by omega) hn hn' e
theorem AllI.next {L:List ND} {th f:List Int} {cs c:List CV} {V:List AVal} {i a:Nat} {nm:List UInt8} {d:CV} (h:AllI L th cs c V f i) (hV:V.length = cs.length) (hi:i < L.length) (ha:c[a]? = some d) (hf:d.taken = false) :
  AllI L th cs (c.set a ⟨true,nm,[],0⟩) (V.set a .nilSlice) (f.set i a) (i + 1):=by
 have hal:a < c.length:=(List.getElem?_eq_some_iff.1 ha).1
 have hne:∀ {b:Nat} {x:CV},c[b]? = some x→x.taken = true→a ≠ b:=by
  rintro b x hx ht rfl
  rw [ha] at hx
  cases hx
  rw [hf] at ht
  cases ht
 have hfi:i < f.length:=by rw [h.flen]; exact hi
 refine ⟨by rw [List.length_set]; exact h.len,by rw [List.length_set]; exact h.flen,fun j hj hn => ?_,fun j j' hj hj' hn hn' e => ?_⟩
 ·by_cases e:j = i
  ·subst e
   have hav:a < V.length:=by rw [hV,← h.len]; exact hal
   exact ⟨a,⟨true,nm,[],0⟩,by simp [hfi],by simp [hal],rfl,rfl,by simp [hav]⟩
  ·obtain ⟨b,x,h1,h2,h3,h4,h5⟩:=h.cell j (by omega) hn
   have:=hne h2 h3
   exact ⟨b,x,by rw [List.getElem?_set_ne (by omega)]; exact h1,by rw [List.getElem?_set_ne this]; exact h2,h3,h4,by rw [List.getElem?_set_ne this]; exact h5⟩
 ·by_cases e1:j = i
  ·by_cases e2:j' = i
   ·omega
   ·exfalso
    subst e1
    obtain ⟨b,x,h1,h2,h3,_⟩:=h.cell j' (by omega) hn'
    rw [List.getElem?_set_ne (show j ≠ j' by omega),h1] at e
    simp [hfi] at e
    exact hne h2 h3 (by omega)
  ·by_cases e2:j' = i
   ·exfalso
    subst e2
    obtain ⟨b,x,h1,h2,h3,_⟩:=h.cell j (by omega) hn
    rw [List.getElem?_set_ne (show j' ≠ j by omega),h1] at e
    simp [hfi] at e
    exact hne h2 h3 (by omega)
   ·rw [List.getElem?_set_ne (show i ≠ j by omega),List.getElem?_set_ne (show i ≠ j' by omega)] at e
    exact h.inj j j' (by omega) (by omega) hn hn' e
structure FilI (L:List ND) (th c0l:List Int) (c:List CV) (V:List AVal) (i:Nat):Prop where
 cell:∀ j,i ≤ j→j < L.length→(th[j]?).getD 0 < 0→∃ (a:Nat) (d:CV),c0l[j]? = some (a:Int)∧c[a]? = some d∧d.kids = []∧V[a]? = some .nilSlice
 inj:∀ j j',j < L.length→j' < L.length→(th[j]?).getD 0 < 0→(th[j']?).getD 0 < 0→c0l[j]? = c0l[j']?→j = j'
theorem AllI.fil {L:List ND} {th f:List Int} {cs c:List CV} {V:List AVal} (h:AllI L th cs c V f L.length):FilI L th f c V 0 :=
 ⟨fun j _ hj hn => by
  obtain ⟨a,d,h1,h2,_,h4,h5⟩:=h.cell j hj hn
  exact ⟨a,d,h1,h2,h4,h5⟩,h.inj⟩
theorem FilI.skip {L:List ND} {th f:List Int} {c:List CV} {V:List AVal} {i:Nat} (h:FilI L th f c V i):FilI L th f c V (i + 1) :=
 ⟨fun j hj => h.cell j (by omega),h.inj⟩
theorem FilI.next {L:List ND} {th f:List Int} {c:List CV} {V:List AVal} {i a:Nat} {d:CV} {kv:AVal} (h:FilI L th f c V i) (hi:i < L.length) (hn:(th[i]?).getD 0 < 0) (ha:f[i]? = some (a:Int)):FilI L th f (c.set a d) (V.set a kv) (i + 1):=by
 refine ⟨fun j hj hl hm => ?_,h.inj⟩
 obtain ⟨b,x,h1,h2,h3,h4⟩:=h.cell j (by omega) hl hm
 have:a ≠ b:=by
  rintro rfl
  have:=h.inj i j hi hl hn hm (by rw [ha,h1])
  omega
 exact ⟨b,x,h1,by rw [List.getElem?_set_ne this]; exact h2,h3,by rw [List.getElem?_set_ne this]; exact h4⟩
noncomputable abbrev lb (cs:List CV) (a:Nat):Lab:=lab (Z0f cs) a
theorem Zqh {nds:List ND} {L:List Nat} {a:Nat} (hC:Closed nds L) (ha:a < nds.length) (h:a ∉ L):(clsF nds L)[a]? = some (-1):=by
 obtain ⟨R,h1,_⟩:=Z9j hC
 rw [h1]
 exact Zg0 nds L R a ha h
theorem Ze1 {nds:List ND} {L:List Nat} {a b:Nat} (hC:Closed nds L) (ha:a ∈ L) (hb:b ∈ L):(clsF nds L)[a]? = (clsF nds L)[b]? ↔ lab nds a = lab nds b:=(Ze0 hC ha hb).trans (Zky hC ha hb)
noncomputable abbrev clsH (cs:List CV):List Int:=clsF (Z0f cs) (Z0z cs cs.length)
theorem Zdk {cs:List CV} {a:Nat}:a ∈ Z0z cs cs.length ↔ Z06 cs (a:Int) = true:=by
 rw [Z44]
 exact ⟨fun h => h.2,fun h => ⟨Z1t h,h⟩⟩
theorem Z7n {cs:List CV} (h:HOk cs) {a:Nat} (ha:Z06 cs (a:Int) = true) :
  ∃ j:Nat,toC (clsH cs) (a:Int) = j∧j ≤ a∧Z06 cs (j:Int) = true∧lb cs j = lb cs a∧∀ j',j' < j→Z06 cs (j':Int) = true→lb cs j' ≠ lb cs a:=by
 have hL:=Zdk.2 ha
 have hc:=Zgk h.closed hL
 obtain ⟨j,h1,h2,h3,h4⟩:=Zp0 hc
 have hlt:=Z1t ha
 have hj:j ∈ Z0z cs cs.length:=Classical.byContradiction fun hn => by
  have:=Zqh h.closed (a:=j) (by rw [Z0t]; omega) hn
  rw [h3] at this
  injection this with this
  omega
 refine ⟨j,h1,h2,Zdk.1 hj,(Ze1 h.closed hj hL).1 (h3.trans hc.symm),fun j' hj' ht e => ?_⟩
 have:=(Ze1 h.closed (Zdk.2 ht) hL).2 e
 rw [hc] at this
 exact h4 j' _ hj' this rfl
theorem Zih {cs:List CV} (h:HOk cs) {a j:Nat} (ha:Z06 cs (a:Int) = true) (hj:Z06 cs (j:Int) = true) (hl:lb cs j = lb cs a) (hm:∀ j',j' < j→Z06 cs (j':Int) = true→lb cs j' ≠ lb cs a):toC (clsH cs) (a:Int) = j:=by
 obtain ⟨j0,h1,h2,h3,h4,h5⟩:=Z7n h ha
 rw [h1]
 rcases Nat.lt_trichotomy j0 j with h6 | h6 | h6
 ·exact (hm j0 h6 h3 h4).elim
 ·rw [h6]
 ·exact (h5 j h6 hj hl).elim
theorem Zh0 {cs:List CV} (h:HOk cs) {a:Nat} (ha:Z06 cs (a:Int) = true):toC (clsH cs) (toC (clsH cs) (a:Int)) = toC (clsH cs) (a:Int):=by
 obtain ⟨j0,h1,h2,h3,h4,h5⟩:=Z7n h ha
 rw [h1]
 exact Zih h h3 h3 rfl (fun j' hj' ht e => h5 j' hj' ht (e.trans h4))
theorem Z3u {cs:List CV} {a:Nat} (ha:Z06 cs (a:Int) = true):∃ c,cs[a]? = some c∧c.taken = true∧(Z0f cs)[a]? = some (c.name,c.kids):=by
 obtain ⟨_,d,hd,ht,_⟩:=Z1v ha
 rw [Int.toNat_natCast] at hd
 refine ⟨d,hd,ht,?_⟩
 rw [Z2a hd,if_pos ht]
theorem Z7f {cs:List CV} (h:HOk cs) {a:Nat} {c:CV} {k:Int} (hc:cs[a]? = some c) (ht:c.taken = true) (hk:k ∈ c.kids):Z06 cs ((k.toNat:Nat):Int) = true∧0 ≤ k:=by
 have h1:=h.kids c (List.mem_of_getElem? hc) ht k hk
 have h0:=(Z1v h1).1
 rw [Int.toNat_of_nonneg h0]
 exact ⟨h1,h0⟩
theorem Zms {cs:List CV} (ts:List ND) (hO:HOk cs) {a:Nat} (ha:Z06 cs (a:Int) = true):lab (bigG cs ts) a = lb cs a:=by
 refine Z9q (R:=fun x y => x = y∧Z06 cs (x:Int) = true) ?_ ⟨rfl,ha⟩
 rintro x y ⟨rfl,hx⟩
 obtain ⟨c,h1,h2,h3⟩:=Z3u hx
 refine ⟨_,_,by rw [Zf6 (Z1t hx)]; exact h3,h3,rfl,rfl,fun j k m hk hm => ?_⟩
 rw [hk] at hm
 cases hm
 exact ⟨rfl,(Z7f hO h1 h2 (List.mem_of_getElem? hk)).1⟩
theorem Zmt (cs:List CV) {ts:List ND} (hT:GrOk ts) {i:Nat} (hi:i < ts.length):lab (bigG cs ts) (cs.length + i) = lab ts i:=by
 refine Z9q (R:=fun x y => x = cs.length + y∧y < ts.length) ?_ ⟨rfl,hi⟩
 rintro x y ⟨rfl,hy⟩
 have hg:ts[y]? = some ts[y]:=List.getElem?_eq_getElem hy
 refine ⟨Z5s cs.length ts[y],ts[y],by rw [Zf7,hg]; rfl,hg,rfl,by simp [Z5s],fun j k m hk hm => ?_⟩
 have hm2:(Z5s cs.length ts[y]).2[j]? = some ((cs.length:Int) + m):=by
  unfold Z5s
  simp only
  rw [List.getElem?_map,hm]
  rfl
 rw [hm2] at hk
 cases hk
 have:=(hT _ (List.getElem_mem hy)).2 m (List.mem_of_getElem? hm)
 omega
theorem Zeb {cs:List CV} {ts:List ND} (hO:HOk cs) (hT:GrOk ts) {i:Nat} (hi:i < ts.length):∃ v:Int,(Z1q cs ts)[i]? = some v ∧
  ((v = -1∧∀ j:Nat,Z06 cs (j:Int) = true→lb cs j ≠ lab ts i) ∨ ∃ j:Nat,v = j∧Z06 cs (j:Int) = true∧lb cs j = lab ts i∧∀ j',j' < j→Z06 cs (j':Int) = true→lb cs j' ≠ lab ts i):=by
 obtain ⟨hC,_⟩:=Ztl hO hT
 have hmn:cs.length + i ∈ bigL cs ts:=Z9t.2 (.inr (by omega))
 have hc:=Zgk hC hmn
 have hcl:(clsF (bigG cs ts) (bigL cs ts)).length = cs.length + ts.length:=by rw [Z9k hC,Zby]
 have hmc:∀ j:Nat,Z06 cs (j:Int) = true→j ∈ bigL cs ts:=fun j hj => Z9t.2 (.inl ⟨Z1t hj,hj⟩)
 have hkey:∀ j:Nat,j < cs.length→((clsF (bigG cs ts) (bigL cs ts))[j]? = (clsF (bigG cs ts) (bigL cs ts))[cs.length + i]? ↔ Z06 cs (j:Int) = true∧lb cs j = lab ts i):=by
  intro j hj
  by_cases ht:Z06 cs (j:Int) = true
  ·rw [Ze1 hC (hmc j ht) hmn,Zms ts hO ht,Zmt cs hT hi]
   exact ⟨fun e => ⟨ht,e⟩,fun e => e.2⟩
  ·have hn:j ∉ bigL cs ts:=fun hm => by
    rcases Z9t.1 hm with ⟨_,h⟩ | ⟨h,_⟩
    ·exact ht h
    ·omega
   rw [Zqh hC (by rw [Zby]; omega) hn,hc]
   constructor
   ·intro e
    injection e with e
    omega
   ·intro e
    exact (ht e.1).elim
 generalize hcls:clsF (bigG cs ts) (bigL cs ts) = cls at hc hcl hkey
 generalize hx:((idxB (lab (bigG cs ts) (cs.length + i)) (dd ((bigL cs ts).map (lab (bigG cs ts)))):Nat):Int) = x at hc
 have hv:(Z1q cs ts)[i]? = some (Z3c (fun d => decide (x = d)) (cls.take cs.length)):=by
  unfold Z1q
  rw [List.getElem?_map,List.getElem?_range hi,hcls]
  simp only [Option.map_some]
  rw [hc]
  rfl
 refine ⟨_,hv,?_⟩
 have hat:∀ (j:Nat) (d:Int),(cls.take cs.length)[j]? = some d→j < cs.length∧cls[j]? = some d:=by
  intro j d h
  rw [List.getElem?_take] at h
  split at h
  ·exact ⟨by assumption,h⟩
  ·cases h
 by_cases hex:∃ j,j < cs.length∧cls[j]? = some x
 ·-- the least such place
  have hmin:∃ j,j < cs.length∧cls[j]? = some x∧∀ j',j' < j→cls[j']? ≠ some x:=by
   obtain ⟨j,h1,h2⟩:=hex
   revert h1 h2
   refine Nat.strongRecOn (motive:=fun j => j < cs.length→cls[j]? = some x→_) j fun n ih h1 h2 => ?_
   by_cases hl:∃ j',j' < n∧cls[j']? = some x
   ·obtain ⟨j',h3,h4⟩:=hl
    exact ih j' h3 (by omega) h4
   ·exact ⟨n,h1,h2,fun j' hj' e => hl ⟨j',hj',e⟩⟩
  obtain ⟨j,h1,h2,h3⟩:=hmin
  have e:Z3c (fun d => decide (x = d)) (cls.take cs.length) = j:=Zch (i:=j) (k:=x) (fun j' d hj hd => by
   obtain ⟨_,h5⟩:=hat j' d hd
   simp only [decide_eq_false_iff_not]
   rintro rfl
   exact h3 j' hj h5) (by rw [List.getElem?_take,if_pos h1]; exact h2) (by simp)
  rw [e]
  obtain ⟨t1,t2⟩:=(hkey j h1).1 (h2.trans hc.symm)
  refine .inr ⟨j,rfl,t1,t2,fun j' hj' ht' e' => h3 j' hj' ?_⟩
  rw [(hkey j' (by omega)).2 ⟨ht',e'⟩,hc]
 ·have e:Z3c (fun d => decide (x = d)) (cls.take cs.length) = -1:=Zd2 fun j d _ hd => by
   obtain ⟨h4,h5⟩:=hat j d hd
   simp only [decide_eq_false_iff_not]
   rintro rfl
   exact hex ⟨j,h4,h5⟩
  rw [e]
  refine .inl ⟨rfl,fun j hj e' => hex ⟨j,Z1t hj,?_⟩⟩
  rw [(hkey j (Z1t hj)).2 ⟨hj,e'⟩,hc]
theorem Zfr {ns:List ND} (h:GrOk ns) {r:Nat} (hr:r < ns.length):lab (Z1b ns r) 0 = lab ns r:=by
 obtain ⟨hC,hnd,hlt,hroot⟩:=Zcj h (roots:=[r]) (by simpa using hr)
 have hpre:∃ w,bfsF (kidG ns) ns.length [r] = r :: w:=by
  have h1:bfsF (kidG ns) ns.length [r] = runB (kidG ns) (ns.length + 1) [r] 0:=rfl
  obtain ⟨w,hw⟩:=Zid (kidG ns) (ns.length + 1) [r] 0
  exact ⟨w,by rw [h1,hw]; rfl⟩
 have hL:Z1b ns r = canD (dd ((bfsF (kidG ns) ns.length [r]).map (lab ns))):=Zkj hC
 generalize bfsF (kidG ns) ns.length [r] = L at hC hroot hpre hL
 rw [hL]
 obtain ⟨w,rfl⟩:=hpre
 have hD0:(dd ((r :: w).map (lab ns)))[0]? = some (lab ns r):=by
  have e:dd ((r :: w).map (lab ns)) = Z2y [lab ns r] (w.map (lab ns)):=by
   show Z2y (addB [] (lab ns r)) (w.map (lab ns)) = _
   congr 1
  obtain ⟨T,hT⟩:=Zca (w.map (lab ns)) [lab ns r]
  rw [e,hT]
  rfl
 generalize hD:dd ((r :: w).map (lab ns)) = D at hD0
 refine Z9q (R:=fun x y => D[x]? = some (lab ns y)∧y ∈ r :: w) ?_ ⟨hD0,by simp⟩
 rintro x y ⟨hx,hy⟩
 have hg:ns[y]? = some (ns[y]'(hC.lt y hy)):=List.getElem?_eq_getElem _
 refine ⟨canN D (lab ns y),_,by unfold canD; rw [List.getElem?_map,hx]; rfl,hg,by unfold canN; rw [Zcn hg],by unfold canN; rw [Z8u hg]; simp,fun j k m hk hm => ?_⟩
 have hmL:=(hC.kids y hy _ hg).2 m (List.mem_of_getElem? hm)
 unfold canN at hk
 simp only at hk
 rw [Z8u hg,List.map_map,List.getElem?_map,hm] at hk
 simp only [Option.map_some,Option.some.injEq,Function.comp] at hk
 rw [← hk,Int.toNat_natCast]
 refine ⟨Zne ?_,hmL⟩
 rw [← hD]
 exact Zjf.2 (List.mem_map.2 ⟨m.toNat,hmL,rfl⟩)
theorem Znk {nds nds':List ND} {a b:Nat} {x y:ND} (hx:nds[a]? = some x) (hy:nds'[b]? = some y) (h:lab nds a = lab nds' b) :
  x.1 = y.1∧x.2.length = y.2.length∧∀ (j:Nat) (k m:Int),x.2[j]? = some k→y.2[j]? = some m→lab nds k.toNat = lab nds' m.toNat:=by
 have h1:=Zcn hx
 have h2:=Z8u hx
 rw [h,Zcn hy] at h1
 rw [h,Z8u hy] at h2
 refine ⟨h1.symm,by simpa using (congrArg List.length h2).symm,fun j k m hk hm => ?_⟩
 have:=congrArg (fun l => l[j]?) h2
 simpa [hk,hm] using this.symm
def Zdb (T:Int→Bool) (c:CV):Prop:=c = Z2g ∨ (c.taken = true∧c.kids.length ≤ 4∧(∀ k ∈ c.kids,T k = true)∧Z1s c.name = true∧0 ≤ c.held∧c.held ≤ 1000)
def HG (cs:List CV):Prop:=∀ c ∈ cs,Zdb (Z06 cs) c
theorem HG.ok {cs:List CV} (h:HG cs):HOk2 cs:=by
 refine ⟨⟨fun c hc => ?_,fun c hc ht => ?_⟩,fun c hc ht => ?_⟩
 ·rcases h c hc with rfl | ⟨_,h4,_⟩
  ·simp [Z2g]
  ·exact h4
 ·rcases h c hc with rfl | ⟨_,_,h4,_⟩
  ·simp [Z2g]
  ·exact h4
 ·rcases h c hc with rfl | ⟨h4,_⟩
  ·rfl
  ·rw [h4] at ht
   cases ht
theorem Zdb.mono {T T':Int→Bool} {c:CV} (h:Zdb T c) (hT:∀ k,T k = true→T' k = true):Zdb T' c:=by
 rcases h with h | ⟨h1,h2,h3,h4⟩
 ·exact .inl h
 ·exact .inr ⟨h1,h2,fun k hk => hT k (h3 k hk),h4⟩
theorem HG.set {cs:List CV} {i:Nat} {d:CV} (h:HG cs) (hT:∀ k,Z06 cs k = true→Z06 (cs.set i d) k = true) (hd:Zdb (Z06 (cs.set i d)) d):HG (cs.set i d):=by
 intro c hc
 rcases List.mem_or_eq_of_mem_set hc with hc | rfl
 ·exact (h c hc).mono hT
 ·exact hd
theorem Zcz {cs:List CV} {i:Nat} {d:CV} (hi:i < cs.length) (k:Int):Z06 (cs.set i d) k = if k = (i:Int) then d.taken else Z06 cs k:=by
 unfold Z06
 by_cases h:k = (i:Int)
 ·subst h
  simp [hi]
 ·rw [if_neg h]
  by_cases h0:0 ≤ k
  ·have:i ≠ k.toNat:=by omega
   rw [List.getElem?_set_ne this]
  ·simp [h0]
theorem Zou {cs:List CV} {a:Nat} {d e:CV} (h:HG cs) (ha:cs[a]? = some d) (hd:d.taken = false) (he:e.taken = true) (hk:Zdb (Z06 (cs.set a e)) e):HG (cs.set a e)∧(∀ k,Z06 cs k = true→Z06 (cs.set a e) k = true):=by
 have hal:a < cs.length:=(List.getElem?_eq_some_iff.1 ha).1
 have hT:∀ k,Z06 cs k = true→Z06 (cs.set a e) k = true:=fun k hk => by
  rw [Zcz hal]
  split
  ·exact he
  ·exact hk
 exact ⟨h.set hT hk,hT⟩
theorem Zv4 {cs:List CV} (h:HG cs) (nm:List UInt8) (ks:List Int):HG (mkF cs nm ks).2.2∧(mkF cs nm ks).2.2.length = cs.length:=by
 unfold mkF
 split
 ·exact ⟨h,rfl⟩
 ·rename_i h1
  split
  ·exact ⟨h,rfl⟩
  ·rename_i h2
   split
   ·exact ⟨h,rfl⟩
   ·rename_i h3
    split
    ·exact ⟨h,rfl⟩
    ·rename_i h4
     rcases Z87 cs with hf | ⟨a,d,hf,ha,hd⟩
     ·omega
     ·rw [hf]
      simp only [Int.toNat_natCast,List.length_set,and_true]
      have hal:a < cs.length:=(List.getElem?_eq_some_iff.1 ha).1
      refine (Zou (e:=⟨true,nm,ks,0⟩) h ha hd rfl (.inr ⟨rfl,by show ks.length ≤ 4; omega,fun k hk => ?_,by simpa using h1,Int.le_refl 0,by show (0:Int) ≤ 1000; decide⟩)).1
      rw [Zcz hal]
      split
      ·rfl
      ·simp only [Bool.not_eq_false,List.all_eq_true] at h3
       exact h3 k hk
theorem Zjw {cs:List CV} {i:Nat} {c d:CV} (hc:cs[i]? = some c) (ht:d.taken = c.taken) (k:Int):Z06 (cs.set i d) k = Z06 cs k:=by
 have hi:i < cs.length:=(List.getElem?_eq_some_iff.1 hc).1
 rw [Zcz hi]
 split
 ·rename_i h
  rw [h,Z0x hc,ht]
 ·rfl
theorem tieF_ok {cs:List CV} (h:HG cs) (i j k:Int):HG (tieF cs i j k).2∧(tieF cs i j k).2.length = cs.length:=by
 unfold tieF
 split
 ·rename_i h1
  obtain ⟨e1,e2,e3,e4⟩:=h1
  obtain ⟨_,d,hd,ht,_⟩:=Z1v e1
  rw [hd]
  simp only [List.length_set,and_true]
  have hT:=Zjw (cs:=cs) (d:={ d with kids:=d.kids.set j.toNat k }) hd rfl
  refine h.set (fun x hx => by rw [hT]; exact hx) ?_
  rcases h d (List.mem_of_getElem? hd) with h2 | ⟨g1,g2,g3,g4⟩
  ·rw [h2] at ht
   cases ht
  ·refine .inr ⟨g1,by simpa using g2,fun x hx => ?_,g4⟩
   rw [hT]
   rcases List.mem_or_eq_of_mem_set hx with hx | rfl
   ·exact g3 x hx
   ·exact e2
 ·exact ⟨h,rfl⟩
theorem setH_ok {cs:List CV} (h:HG cs) {i:Nat} {x:Int} (hx:0 ≤ x∧x ≤ 1000) (ht:Z06 cs (i:Int) = true):HG (setH cs i x):=by
 unfold setH
 split
 ·rename_i c hc
  have hT:=Zjw (cs:=cs) (d:={ c with held:=x }) hc rfl
  refine h.set (fun y hy => by rw [hT]; exact hy) ?_
  rw [Z0x hc] at ht
  rcases h c (List.mem_of_getElem? hc) with h2 | ⟨g1,g2,g3,g4,_⟩
  ·rw [h2] at ht
   cases ht
  ·exact .inr ⟨g1,g2,fun y hy => by rw [hT]; exact g3 y hy,g4,hx.1,hx.2⟩
 ·exact h
theorem Zwt {cs:List CV} (h:HG cs) (i:Int):HG (Z6j cs i).2∧(Z6j cs i).2.length = cs.length:=by
 unfold Z6j
 split
 ·exact ⟨h,rfl⟩
 ·rename_i h1
  have h1:Z06 cs i = true:=by simpa using h1
  obtain ⟨h0,d,hd,ht,_⟩:=Z1v h1
  rw [hd]
  simp only
  split
  ·exact ⟨h,rfl⟩
  ·rename_i h2
   refine ⟨?_,Zos _ _ _⟩
   rcases h d (List.mem_of_getElem? hd) with h3 | ⟨g1,g2,g3,g4,g5,g6⟩
   ·rw [h3] at ht
    cases ht
   ·rw [IntWalk.i64_in _ (by omega)]
    exact setH_ok h (by omega) (by rw [Int.toNat_of_nonneg h0]; exact h1)
structure AllP (L:List ND) (th:List Int) (cs c:List CV) (f:List Int) (i:Nat):Prop where
 len:c.length = cs.length
 flen:f.length = L.length
 good:HG c
 keep:∀ a:Nat,Z06 cs (a:Int) = true→c[a]? = cs[a]?
 mono:∀ k,Z06 cs k = true→Z06 c k = true
 cell:∀ (j:Nat) (nd:ND),j < i→L[j]? = some nd→(th[j]?).getD 0 < 0→∃ a:Nat,f[j]? = some (a:Int)∧Z06 cs (a:Int) = false∧c[a]? = some ⟨true,nd.1,[],0⟩
 inj:∀ (j j':Nat),j < i→j' < i→(th[j]?).getD 0 < 0→(th[j']?).getD 0 < 0→f[j]? = f[j']?→j = j'
 rest:∀ j,(i ≤ j ∨ 0 ≤ (th[j]?).getD 0)→f[j]? = th[j]?
 only:∀ a:Nat,Z06 c (a:Int) = true→Z06 cs (a:Int) = true ∨ ∃ j,j < i∧(th[j]?).getD 0 < 0∧f[j]? = some (a:Int)
theorem Zhq {L:List ND} {th:List Int} {cs:List CV} (h:HG cs) (hth:th.length = L.length) (hnm:∀ nd ∈ L,Z1s nd.1 = true):∀ (i:Nat),i ≤ L.length→∀ c f,Z3k L th cs i = some (c,f)→AllP L th cs c f i
 | 0,_,c,f,e => by
  simp only [Z3k,Option.some.injEq,Prod.mk.injEq] at e
  obtain ⟨rfl,rfl⟩:=e
  exact ⟨rfl,hth,h,fun _ _ => rfl,fun _ h => h,fun j nd hj => by omega,fun j j' hj => by omega,fun _ _ => rfl,fun a ha => .inl ha⟩
 | i + 1,hi,c,f,e => by
  unfold Z3k at e
  cases hp:Z3k L th cs i with
  | none => rw [hp] at e; cases e
  | some x =>
   obtain ⟨c0,f0⟩:=x
   have H:=Zhq h hth hnm i (by omega) c0 f0 hp
   rw [hp] at e
   simp only at e
   by_cases ht:0 ≤ (th[i]?).getD 0
   ·rw [if_pos ht] at e
    cases e
    refine ⟨H.len,H.flen,H.good,H.keep,H.mono,fun j nd hj hnd hn => ?_,fun j j' hj hj' hn hn' e => ?_,fun j hj => ?_,fun a ha => ?_⟩
    ·by_cases e:j = i
     ·subst e; omega
     ·exact H.cell j nd (by omega) hnd hn
    ·by_cases e1:j = i
     ·subst e1; omega
     ·by_cases e2:j' = i
      ·subst e2; omega
      ·exact H.inj j j' (by omega) (by omega) hn hn' e
    ·refine H.rest j ?_
     rcases hj with hj | hj
     ·exact .inl (by omega)
     ·exact .inr hj
    ·rcases H.only a ha with h | ⟨j,h1,h2,h3⟩
     ·exact .inl h
     ·exact .inr ⟨j,by omega,h2,h3⟩
   ·rw [if_neg ht] at e
    rcases Z87 c0 with hf | ⟨a,d,hf,ha,hd⟩
    ·rw [hf] at e
     rw [if_pos (by omega)] at e
     cases e
    ·rw [hf,if_neg (by omega)] at e
     simp only [Option.some.injEq,Prod.mk.injEq,Int.toNat_natCast] at e
     obtain ⟨rfl,rfl⟩:=e
     have hil:i < L.length:=hi
     obtain ⟨nd0,hnd0⟩:∃ nd,L[i]? = some nd:=⟨_,List.getElem?_eq_getElem hil⟩
     rw [hnd0]
     simp only [Option.getD_some]
     have hal:a < c0.length:=(List.getElem?_eq_some_iff.1 ha).1
     have hfi:i < f0.length:=by rw [H.flen]; exact hil
     have hna:Z06 c0 (a:Int) = false:=by rw [Z0x ha]; exact hd
     have hncs:Z06 cs (a:Int) = false:=by
      cases hq:Z06 cs (a:Int) with
      | false => rfl
      | true => rw [H.mono _ hq] at hna; cases hna
     have hgn:=hnm nd0 (List.mem_of_getElem? hnd0)
     obtain ⟨hg1,hT⟩:=Zou (e:=⟨true,nd0.1,[],0⟩) H.good ha hd rfl (.inr ⟨rfl,Nat.zero_le 4,by simp,hgn,Int.le_refl 0,by show (0:Int) ≤ 1000; decide⟩)
     have hne:∀ {b:Nat} {nm:List UInt8},c0[b]? = some ⟨true,nm,[],0⟩→a ≠ b:=by
      rintro b nm hb rfl
      rw [ha] at hb
      cases hb
      cases hd
     have hnef:∀ (j:Nat),j < i→(th[j]?).getD 0 < 0→f0[j]? ≠ some (a:Int):=by
      intro j hj hn e
      obtain ⟨nd,hnd⟩:∃ nd,L[j]? = some nd:=⟨_,List.getElem?_eq_getElem (by omega)⟩
      obtain ⟨b,h1,_,h3⟩:=H.cell j nd hj hnd hn
      rw [h1] at e
      have:a = b:=by
       injection e with e
       omega
      exact hne h3 this
     refine ⟨by rw [List.length_set]; exact H.len,by rw [List.length_set]; exact H.flen,hg1,fun b hb => ?_,fun k hk => hT k (H.mono k hk),fun j nd hj hnd hn => ?_,fun j j' hj hj' hn hn' e => ?_,fun j hj => ?_,fun b hb => ?_⟩
     ·rw [List.getElem?_set_ne]
      ·exact H.keep b hb
      ·rintro rfl
       rw [hncs] at hb
       cases hb
     ·by_cases e:j = i
      ·subst e
       rw [hnd0] at hnd
       cases hnd
       exact ⟨a,by simp [hfi],hncs,by simp [hal]⟩
      ·obtain ⟨b,h1,h2,h3⟩:=H.cell j nd (by omega) hnd hn
       exact ⟨b,by rw [List.getElem?_set_ne (by omega)]; exact h1,h2,by rw [List.getElem?_set_ne (hne h3)]; exact h3⟩
     ·by_cases e1:j = i
      ·by_cases e2:j' = i
       ·omega
       ·exfalso
        subst e1
        rw [List.getElem?_set_ne (show j ≠ j' by omega)] at e
        simp only [List.getElem?_set_self hfi] at e
        exact hnef j' (by omega) hn' e.symm
      ·by_cases e2:j' = i
       ·exfalso
        subst e2
        rw [List.getElem?_set_ne (show j' ≠ j by omega)] at e
        simp only [List.getElem?_set_self hfi] at e
        exact hnef j (by omega) hn e
       ·rw [List.getElem?_set_ne (show i ≠ j by omega),List.getElem?_set_ne (show i ≠ j' by omega)] at e
        exact H.inj j j' (by omega) (by omega) hn hn' e
     ·by_cases e:j = i
      ·subst e
       rcases hj with hj | hj
       ·omega
       ·exact (ht hj).elim
      ·rw [List.getElem?_set_ne (by omega)]
       refine H.rest j ?_
       rcases hj with hj | hj
       ·exact .inl (by omega)
       ·exact .inr hj
     ·rw [Zcz hal] at hb
      split at hb
      ·rename_i e
       have:b = a:=by omega
       subst this
       exact .inr ⟨i,by omega,by omega,by simp [hfi]⟩
      ·rcases H.only b hb with h | ⟨j,h1,h2,h3⟩
       ·exact .inl h
       ·exact .inr ⟨j,by omega,h2,by rw [List.getElem?_set_ne (by omega)]; exact h3⟩
theorem Zi0 {L:List ND} {th f:List Int} {cs c:List CV} {l:Nat} (hl:L.length = l) (H:AllP L th cs c f l):∀ i,i ≤ l→∀ a:Nat,
  ((∀ j,j < l→(th[j]?).getD 0 < 0→f[j]? ≠ some (a:Int))→(Z2b L th f c i)[a]? = c[a]?) ∧
  ∀ (j:Nat) (nd:ND),L[j]? = some nd→(th[j]?).getD 0 < 0→f[j]? = some (a:Int)→(Z2b L th f c i)[a]? = some ⟨true,nd.1,if j < i then Z1x f nd.2 else [],0⟩
 | 0,_,a => by
  refine ⟨fun _ => rfl,fun j nd hnd hn hf => ?_⟩
  obtain ⟨b,h1,_,h3⟩:=H.cell j nd (by rw [← hl]; exact (List.getElem?_eq_some_iff.1 hnd).1) hnd hn
  rw [hf] at h1
  have:a = b:=by
   injection h1 with h1
   omega
  subst this
  rw [if_neg (by omega)]
  exact h3
 | i + 1,hi,a => by
  obtain ⟨g1,g2⟩:=Zi0 hl H i (by omega) a
  have hil:i < L.length:=by omega
  obtain ⟨nd0,hnd0⟩:∃ nd,L[i]? = some nd:=⟨_,List.getElem?_eq_getElem hil⟩
  unfold Z2b
  by_cases ht:0 ≤ (th[i]?).getD 0
  ·rw [if_pos ht]
   refine ⟨g1,fun j nd hnd hn hf => ?_⟩
   rw [g2 j nd hnd hn hf]
   have:j ≠ i:=by rintro rfl; omega
   by_cases e:j < i
   ·rw [if_pos e,if_pos (by omega)]
   ·rw [if_neg e,if_neg (by omega)]
  ·rw [if_neg ht]
   obtain ⟨b,h1,_,_⟩:=H.cell i nd0 (by omega) hnd0 (by omega)
   have h2b:=(Zi0 hl H i (by omega) b).2 i nd0 hnd0 (by omega) h1
   rw [if_neg (by omega)] at h2b
   rw [h1,hnd0]
   simp only [Option.getD_some,Int.toNat_natCast]
   unfold setK
   rw [h2b]
   simp only
   have hbl:b < (Z2b L th f c i).length:=(List.getElem?_eq_some_iff.1 h2b).1
   refine ⟨fun hno => ?_,fun j nd hnd hn hf => ?_⟩
   ·rw [List.getElem?_set_ne]
    ·exact g1 hno
    ·rintro rfl
     exact hno i (by omega) (by omega) h1
   ·by_cases e:j = i
    ·subst e
     rw [hf] at h1
     have:a = b:=by
      injection h1 with h1
      omega
     subst this
     rw [hnd0] at hnd
     cases hnd
     rw [List.getElem?_set_self hbl,if_pos (by omega)]
    ·have hab:b ≠ a:=by
      rintro rfl
      exact e (H.inj j i (by rw [← hl]; exact (List.getElem?_eq_some_iff.1 hnd).1) (by omega) hn (by omega) (hf.trans h1.symm))
     rw [List.getElem?_set_ne hab,g2 j nd hnd hn hf]
     by_cases e2:j < i
     ·rw [if_pos e2,if_pos (by omega)]
     ·rw [if_neg e2,if_neg (by omega)]
structure Grown (cs c:List CV):Prop where
 good:HG c
 len:c.length = cs.length
 keep:∀ a:Nat,Z06 cs (a:Int) = true→c[a]? = cs[a]?
 new:∀ (a:Nat) (d:CV),Z06 cs (a:Int) = false→c[a]? = some d→d.held = 0
theorem HG.Zs4 {cs:List CV} (h:HG cs) {a:Nat} {d:CV} (hd:cs[a]? = some d) (ht:Z06 cs (a:Int) = false):d = Z2g:=by
 rw [Z0x hd] at ht
 rcases h d (List.mem_of_getElem? hd) with e | ⟨e,_⟩
 ·exact e
 ·rw [ht] at e; cases e
theorem Grown.refl {cs:List CV} (h:HG cs):Grown cs cs:=⟨h,rfl,fun _ _ => rfl,fun a d ht hd => by rw [h.Zs4 hd ht]; rfl⟩
theorem Grown.takes {cs c:List CV} (h:Grown cs c) {a:Nat} (ha:Z06 cs (a:Int) = true):Z06 c (a:Int) = true:=by
 obtain ⟨d,hd,ht,_⟩:=Z3u ha
 rw [Z0x ((h.keep a ha).trans hd)]
 exact ht
theorem Grown.lab {cs c:List CV} (hO:HOk cs) (h:Grown cs c) {a:Nat} (ha:Z06 cs (a:Int) = true):lb c a = lb cs a:=by
 refine Z9q (R:=fun x y => x = y∧Z06 cs (y:Int) = true) ?_ ⟨rfl,ha⟩
 rintro x y ⟨rfl,hx⟩
 obtain ⟨d,h1,h2,h3⟩:=Z3u hx
 have h4:(Z0f c)[x]? = some (d.name,d.kids):=by
  rw [Z2a ((h.keep x hx).trans h1),if_pos h2]
 refine ⟨_,_,h4,h3,rfl,rfl,fun j k m hk hm => ?_⟩
 rw [hk] at hm
 cases hm
 exact ⟨rfl,(Z7f hO h1 h2 (List.mem_of_getElem? hk)).1⟩
theorem Znl {ns:List ND} (h:GrOk ns) {r:Nat} (hr:r < ns.length) {P:List UInt8→Prop} (hn:∀ nd ∈ ns,P nd.1):∀ nd ∈ Z1b ns r,P nd.1:=by
 intro nd hnd
 unfold Z1b at hnd
 obtain ⟨a,x,_,h2,rfl⟩:=Zem hnd
 exact hn x (List.mem_of_getElem? h2)
structure PutOk (cs:List CV) (L:List ND) (th f:List Int) (c:List CV):Prop extends Grown cs c where
 at':∀ j,j < L.length→∃ a:Nat,f[j]? = some (a:Int)∧Z06 c (a:Int) = true∧lb c a = lab L j
 only:∀ a:Nat,Z06 c (a:Int) = true→Z06 cs (a:Int) = true ∨ ∃ j,j < L.length∧(th[j]?).getD 0 < 0∧f[j]? = some (a:Int)
theorem Zzv {cs c:List CV} {L:List ND} {f:List Int} (hG:HG cs) (hL:GrOk L) (hnm:∀ nd ∈ L,Z1s nd.1 = true) (H:AllP L (Z1q cs L) cs c f L.length):PutOk cs L (Z1q cs L) f (Z2b L (Z1q cs L) f c L.length):=by
 have hO:=hG.ok
 have hA:=fun i hi a => Zi0 (c:=c) rfl H i hi a
 have hlen:(Z2b L (Z1q cs L) f c L.length).length = c.length:=Z8q _ _ _ _ _
 have hfr:∀ (a:Nat),((∀ j,j < L.length→((Z1q cs L)[j]?).getD 0 < 0→f[j]? ≠ some (a:Int))→(Z2b L (Z1q cs L) f c L.length)[a]? = c[a]?) ∧
   ∀ (j:Nat) (nd:ND),L[j]? = some nd→((Z1q cs L)[j]?).getD 0 < 0→f[j]? = some (a:Int)→(Z2b L (Z1q cs L) f c L.length)[a]? = some ⟨true,nd.1,Z1x f nd.2,0⟩:=fun a => by
  obtain ⟨g1,g2⟩:=hA L.length (Nat.le_refl _) a
  refine ⟨g1,fun j nd hnd hn hf => ?_⟩
  rw [g2 j nd hnd hn hf,if_pos (List.getElem?_eq_some_iff.1 hnd).1]
 generalize Z2b L (Z1q cs L) f c L.length = e at hfr hlen
 clear hA
 have hat:∀ j,j < L.length→(((Z1q cs L)[j]?).getD 0 < 0∧∃ a nd,f[j]? = some ((a:Nat):Int)∧Z06 cs (a:Int) = false∧L[j]? = some nd∧e[a]? = some ⟨true,nd.1,Z1x f nd.2,0⟩) ∨
   (0 ≤ ((Z1q cs L)[j]?).getD 0∧∃ a:Nat,f[j]? = some (a:Int)∧Z06 cs (a:Int) = true∧lb cs a = lab L j):=by
  intro j hj
  obtain ⟨v,hv,h⟩:=Zeb hO.toHOk hL hj
  rcases h with ⟨rfl,_⟩ | ⟨a,rfl,h1,h2,_⟩
  ·left
   have hn:((Z1q cs L)[j]?).getD 0 < 0:=by rw [hv]; decide
   obtain ⟨nd,hnd⟩:∃ nd,L[j]? = some nd:=⟨_,List.getElem?_eq_getElem hj⟩
   obtain ⟨a,g1,g2,_⟩:=H.cell j nd hj hnd hn
   exact ⟨hn,a,nd,g1,g2,hnd,(hfr a).2 j nd hnd hn g1⟩
  ·right
   have hn:0 ≤ ((Z1q cs L)[j]?).getD 0:=by rw [hv]; simp
   refine ⟨hn,a,?_,h1,h2⟩
   rw [H.rest j (.inr hn),hv]
 have hold:∀ a:Nat,Z06 cs (a:Int) = true→e[a]? = cs[a]?:=by
  intro a ha
  rw [(hfr a).1,H.keep a ha]
  intro j hj hn hf
  rcases hat j hj with ⟨_,b,nd,g1,g2,_⟩ | ⟨h0,_⟩
  ·rw [hf] at g1
   have:a = b:=by
    injection g1 with g1
    omega
   subst this
   rw [ha] at g2
   cases g2
  ·omega
 have htk:∀ j,j < L.length→∃ a:Nat,f[j]? = some (a:Int)∧Z06 e (a:Int) = true:=by
  intro j hj
  rcases hat j hj with ⟨_,a,nd,g1,_,_,g4⟩ | ⟨_,a,g1,g2,_⟩
  ·exact ⟨a,g1,by rw [Z0x g4]⟩
  ·obtain ⟨d,hd,ht,_⟩:=Z3u g2
   exact ⟨a,g1,by rw [Z0x ((hold a g2).trans hd)]; exact ht⟩
 have hmono:∀ k,Z06 cs k = true→Z06 e k = true:=by
  intro k hk
  have h0:=(Z1v hk).1
  obtain ⟨x,rfl⟩:∃ x:Nat,k = x:=⟨k.toNat,by omega⟩
  obtain ⟨d,hd,ht,_⟩:=Z3u hk
  rw [Z0x ((hold x hk).trans hd)]
  exact ht
 have hsame:∀ (a:Nat) (x:CV),c[a]? = some x→x.taken = false→e[a]? = c[a]?:=by
  intro a x hx ht
  refine (hfr a).1 fun j hj hn hf => ?_
  obtain ⟨nd,hnd⟩:∃ nd,L[j]? = some nd:=⟨_,List.getElem?_eq_getElem hj⟩
  obtain ⟨b,g1,_,g3⟩:=H.cell j nd hj hnd hn
  rw [hf] at g1
  have:a = b:=by
   injection g1 with g1
   omega
  subst this
  rw [hx] at g3
  cases g3
  cases ht
 have hgood:HG e:=by
  intro d hd
  obtain ⟨a,ha⟩:=List.getElem?_of_mem hd
  have hal:a < c.length:=by rw [← hlen]; exact (List.getElem?_eq_some_iff.1 ha).1
  have hca:c[a]? = some c[a]:=List.getElem?_eq_getElem hal
  cases ht:c[a].taken with
  | false =>
   rw [hsame a _ hca ht,hca] at ha
   cases ha
   rcases H.good _ (List.getElem_mem hal) with h | ⟨h,_⟩
   ·exact .inl h
   ·rw [ht] at h; cases h
  | true =>
   rcases H.only a (by rw [Z0x hca]; exact ht) with h | ⟨j,hj,hn,hf⟩
   ·rw [hold a h] at ha
    exact (hG d (List.mem_of_getElem? ha)).mono hmono
   ·obtain ⟨nd,hnd⟩:∃ nd,L[j]? = some nd:=⟨_,List.getElem?_eq_getElem hj⟩
    rw [(hfr a).2 j nd hnd hn hf] at ha
    cases ha
    obtain ⟨hk4,hkin⟩:=hL nd (List.mem_of_getElem? hnd)
    refine .inr ⟨rfl,by simpa [Z1x] using hk4,fun k hk => ?_,hnm nd (List.mem_of_getElem? hnd),Int.le_refl 0,by show (0:Int) ≤ 1000; decide⟩
    obtain ⟨m,hm,rfl⟩:=List.mem_map.1 hk
    have:=hkin m hm
    obtain ⟨b,g1,g2⟩:=htk m.toNat (by omega)
    rw [g1]
    exact g2
 have hGr:Grown cs e:=⟨hgood,hlen.trans H.len,hold,fun a d hna had => by
  have hal:a < c.length:=by rw [← hlen]; exact (List.getElem?_eq_some_iff.1 had).1
  have hca:c[a]? = some c[a]:=List.getElem?_eq_getElem hal
  cases ht:c[a].taken with
  | false =>
   rw [hsame a _ hca ht,hca] at had
   cases had
   rcases H.good _ (List.getElem_mem hal) with h | ⟨h,_⟩
   ·rw [h]; rfl
   ·rw [ht] at h; cases h
  | true =>
   rcases H.only a (by rw [Z0x hca]; exact ht) with h | ⟨j,hj,hn,hf⟩
   ·rw [hna] at h; cases h
   ·obtain ⟨nd,hnd⟩:∃ nd,L[j]? = some nd:=⟨_,List.getElem?_eq_getElem hj⟩
    rw [(hfr a).2 j nd hnd hn hf] at had
    cases had
    rfl⟩
 refine ⟨hGr,fun j hj => ?_,fun a ha => ?_⟩
 ·obtain ⟨a,g1,g2⟩:=htk j hj
  refine ⟨a,g1,g2,?_⟩
  refine Z9q (R:=fun x y => y < L.length∧(f[y]? = some (x:Int) ∨ (Z06 cs (x:Int) = true∧lb cs x = lab L y))) ?_ ⟨hj,.inl g1⟩
  rintro x y ⟨hy,hxy⟩
  have hg:L[y]? = some L[y]:=List.getElem?_eq_getElem hy
  have hkin:=(hL _ (List.getElem_mem hy)).2
  have hold':Z06 cs (x:Int) = true→lb cs x = lab L y→∃ u v,(Z0f e)[x]? = some u∧L[y]? = some v∧u.1 = v.1∧u.2.length = v.2.length ∧
    ∀ (j:Nat) (k m:Int),u.2[j]? = some k→v.2[j]? = some m→m.toNat < L.length∧(f[m.toNat]? = some ((k.toNat:Nat):Int) ∨ (Z06 cs ((k.toNat:Nat):Int) = true∧lb cs k.toNat = lab L m.toNat)):=by
   intro hx hl
   obtain ⟨d,h1,h2,h3⟩:=Z3u hx
   obtain ⟨e1,e2,e3⟩:=Znk h3 hg hl
   refine ⟨_,_,by rw [Z2a ((hold x hx).trans h1),if_pos h2],hg,e1,e2,fun j k m hk hm => ⟨?_,.inr ⟨?_,e3 j k m hk hm⟩⟩⟩
   ·have:=hkin m (List.mem_of_getElem? hm)
    omega
   ·exact (Z7f hO.toHOk h1 h2 (List.mem_of_getElem? hk)).1
  rcases hxy with hf | ⟨hx,hl⟩
  ·rcases hat y hy with ⟨hn,b,nd,k1,k2,k3,k4⟩ | ⟨h0,b,k1,k2,k3⟩
   ·rw [hf] at k1
    have:x = b:=by
     injection k1 with k1
     omega
    subst this
    rw [hg] at k3
    cases k3
    refine ⟨(L[y].1,Z1x f L[y].2),L[y],by rw [Z2a k4,if_pos rfl],hg,rfl,by simp [Z1x],fun j k m hk hm => ?_⟩
    have hm':=hkin m (List.mem_of_getElem? hm)
    refine ⟨by omega,.inl ?_⟩
    obtain ⟨z,z1,z2⟩:=htk m.toNat (by omega)
    unfold Z1x at hk
    simp only at hk
    rw [List.getElem?_map,hm] at hk
    simp only [Option.map_some,Option.some.injEq] at hk
    rw [z1] at hk
    simp only [Option.getD_some] at hk
    rw [← hk,z1]
    simp
   ·rw [hf] at k1
    have:x = b:=by
     injection k1 with k1
     omega
    subst this
    exact hold' k2 k3
  ·exact hold' hx hl
 ·have hal:a < c.length:=by rw [← hlen]; exact Z1t ha
  have hca:c[a]? = some c[a]:=List.getElem?_eq_getElem hal
  cases ht:c[a].taken with
  | false =>
   obtain ⟨d,hd,hdt,_⟩:=Z3u ha
   rw [hsame a _ hca ht,hca] at hd
   cases hd
   rw [ht] at hdt
   cases hdt
  | true => exact H.only a (by rw [Z0x hca]; exact ht)
theorem Zs5 {cs:List CV} (h:Z5p cs < 0):∀ c ∈ cs,c.taken = true:=by
 intro c hc
 unfold Z5p at h
 split at h
 ·omega
 ·rename_i hn
  have:=List.findIdx?_eq_none_iff.1 hn c hc
  simpa using this
theorem Zvv {cs:List CV} {a:Nat} {d e:CV} (ha:cs[a]? = some d) (hd:d.taken = false) (he:e.taken = true):Z38 (cs.set a e) = Z38 cs + 1:=by
 have hal:a < cs.length:=(List.getElem?_eq_some_iff.1 ha).1
 have h1:cs[a] = d:=(List.getElem?_eq_some_iff.1 ha).2
 unfold Z38
 rw [List.countP_set hal,h1,hd,he]
 simp
theorem Zt0 {cs:List CV} (h:∀ c ∈ cs,c.taken = true):Z38 cs = cs.length:=by
 unfold Z38
 exact List.countP_eq_length.2 h
theorem Zdx {L:List ND} {th:List Int} {cs:List CV}:∀ (i:Nat) c f,Z3k L th cs i = some (c,f)→Z38 cs ≤ Z38 c∧Z38 c ≤ Z38 cs + i
 | 0,c,f,e => by
  simp only [Z3k,Option.some.injEq,Prod.mk.injEq] at e
  obtain ⟨rfl,rfl⟩:=e
  omega
 | i + 1,c,f,e => by
  unfold Z3k at e
  cases hp:Z3k L th cs i with
  | none => rw [hp] at e; cases e
  | some x =>
   obtain ⟨c0,f0⟩:=x
   obtain ⟨h1,h2⟩:=Zdx i c0 f0 hp
   rw [hp] at e
   simp only at e
   by_cases ht:0 ≤ (th[i]?).getD 0
   ·rw [if_pos ht] at e
    cases e
    omega
   ·rw [if_neg ht] at e
    rcases Z87 c0 with hf | ⟨a,d,hf,ha,hd⟩
    ·rw [hf] at e
     rw [if_pos (by omega)] at e
     cases e
    ·rw [hf,if_neg (by omega)] at e
     simp only [Option.some.injEq,Prod.mk.injEq,Int.toNat_natCast] at e
     obtain ⟨rfl,rfl⟩:=e
     rw [Zvv (e:=⟨true,((L[i]?).getD ([],[])).1,[],0⟩) ha hd rfl]
     omega
theorem Zim {L:List ND} {th:List Int} {cs:List CV} (h:HG cs) (hth:th.length = L.length) (hnm:∀ nd ∈ L,Z1s nd.1 = true):∀ (i:Nat),i ≤ L.length→Z3k L th cs i = none→cs.length < Z38 cs + i
 | 0,_,e => by cases e
 | i + 1,hi,e => by
  unfold Z3k at e
  cases hp:Z3k L th cs i with
  | none =>
   have:=Zim h hth hnm i (by omega) hp
   omega
  | some x =>
   obtain ⟨c0,f0⟩:=x
   have H:=Zhq h hth hnm i (by omega) c0 f0 hp
   obtain ⟨h1,h2⟩:=Zdx i c0 f0 hp
   rw [hp] at e
   simp only at e
   by_cases ht:0 ≤ (th[i]?).getD 0
   ·rw [if_pos ht] at e
    cases e
   ·rw [if_neg ht] at e
    by_cases hf:Z5p c0 < 0
    ·have:=Zt0 (Zs5 hf)
     have:=H.len
     omega
    ·rw [if_neg hf] at e
     cases e
theorem Ze7 (L:List ND) (th f:List Int) (cs:List CV):∀ i,Z38 (Z2b L th f cs i) = Z38 cs
 | 0 => rfl
 | i + 1 => by
  unfold Z2b
  split
  ·exact Ze7 L th f cs i
  ·rw [← Ze7 L th f cs i]
   unfold setK
   split
   ·rename_i c hc
    obtain ⟨hl,h1⟩:=List.getElem?_eq_some_iff.1 hc
    unfold Z38
    rw [List.countP_set hl,h1]
    have:0 < List.countP (fun c => c.taken) (Z2b L th f cs i) ∨ c.taken = false:=by
     cases ht:c.taken with
     | false => exact .inr rfl
     | true => exact .inl (List.countP_pos_iff.2 ⟨c,List.mem_of_getElem? hc,ht⟩)
    rcases this with h | h
    ·cases ht:c.taken <;> simp <;> omega
    ·simp [h]
   ·rfl
inductive PutIs (cs:List CV) (ns:List ND) (r:Nat) (x:Int × Int × List CV):Prop where
 | full (h:x = (0,12,cs)) (hno:∀ j:Nat,Z06 cs (j:Int) = true→lb cs j ≠ lab ns r) (hs:cs.length < Z38 cs + (Z1b ns r).length)
 | there (a:Nat) (h:x = ((a:Int),0,cs)) (ht:Z06 cs (a:Int) = true) (hl:lb cs a = lab ns r) (hm:∀ j:Nat,j < a→Z06 cs (j:Int) = true→lb cs j ≠ lab ns r)
 | fresh (a:Nat) (f:List Int) (c:List CV) (h:x = ((a:Int),0,c)) (hp:PutOk cs (Z1b ns r) (Z1q cs (Z1b ns r)) f c) (hf:f[0]? = some (a:Int)) (ht:Z06 c (a:Int) = true) (hl:lb c a = lab ns r) (hno:∀ j:Nat,Z06 cs (j:Int) = true→lb cs j ≠ lab ns r)
   (hs:Z38 cs ≤ Z38 c∧Z38 c ≤ Z38 cs + (Z1b ns r).length)
theorem Zlw {cs:List CV} {ns:List ND} {root:Int} (hG:HG cs) (hz:Z15 ns root = 0):PutIs cs ns root.toNat (putF cs ns root):=by
 obtain ⟨o1,o2,hGO,hnm,r0,r1⟩:=Zai hz
 have hr:root.toNat < ns.length:=by omega
 obtain ⟨hGL,hL1,hL2⟩:=Zal (r:=root.toNat) hGO hr
 have hll:=Zfr hGO hr
 have hnL:=Znl (P:=fun x => Z1s x = true) hGO hr hnm
 have hfl:=Zea cs (Z1b ns root.toNat)
 obtain ⟨v,hv,hvs⟩:=Zeb hG.ok.toHOk hGL (i:=0) (by omega)
 have hP:putF cs ns root = if 0 ≤ v then ((v,(0:Int),cs):Int × Int × List CV) else match Z3k (Z1b ns root.toNat) (Z1q cs (Z1b ns root.toNat)) cs (Z1b ns root.toNat).length with
  | none => ((0:Int),(12:Int),cs)
  | some (c,f) => ((f[0]?).getD (0:Int),(0:Int),Z2b (Z1b ns root.toNat) (Z1q cs (Z1b ns root.toNat)) f c (Z1b ns root.toNat).length):=by
  unfold putF
  rw [if_neg (by simpa using hz),hv]
  simp only [Option.getD_some] <;> rfl
 rw [hP]
 rw [hll] at hvs
 rcases hvs with ⟨rfl,hno⟩ | ⟨a,rfl,h1,h2,h3⟩
 ·rw [if_neg (by decide)]
  cases hal:Z3k (Z1b ns root.toNat) (Z1q cs (Z1b ns root.toNat)) cs (Z1b ns root.toNat).length with
  | none => exact .full rfl hno (Zim hG hfl hnL _ (Nat.le_refl _) hal)
  | some x =>
   obtain ⟨c,f⟩:=x
   have H:=Zhq hG hfl hnL _ (Nat.le_refl _) c f hal
   have hp:=Zzv hG hGL hnL H
   obtain ⟨a,g1,g2,g3⟩:=hp.at' 0 (by omega)
   rw [hll] at g3
   refine .fresh a f _ ?_ hp g1 g2 g3 hno ?_
   ·simp only
    rw [g1]
    rfl
   ·rw [Ze7]
    exact Zdx _ c f hal
 ·rw [if_pos (by omega)]
  exact .there a rfl h1 h2 h3
theorem Zxe {cs:List CV} {ns:List ND} {root:Int} (hz:Z15 ns root ≠ 0):putF cs ns root = (0,Z15 ns root,cs):=by
 unfold putF
 rw [if_pos hz]
theorem Zkk {cs:List CV} (hG:HG cs) (ns:List ND) (root:Int):Grown cs (putF cs ns root).2.2:=by
 by_cases hz:Z15 ns root = 0
 ·rcases Zlw hG hz with ⟨h,_,_⟩ | ⟨a,h,_,_,_⟩ | ⟨a,f,c,h,hp,_,_,_,_,_⟩
  ·rw [h]; exact Grown.refl hG
  ·rw [h]; exact Grown.refl hG
  ·rw [h]; exact hp.toGrown
 ·rw [Zxe hz]
  exact Grown.refl hG
theorem Zq9 {s:St} {p B:Pos} {l:List RC} {yv:AVal} {I:Nat→St→Prop} {S:St→Prop} {Q:AVal→St→Prop} (hl:l.length ≤ 400) (hyt:∀ t,¬ yv = .tup t)
  (hI:∀ i s',I i s'→s'.Wf∧s'.Old p∧s'.Old B∧s'.cells p = some (encs l)∧s'.cells B = some [.slice p 0 l.length (.lim l.length)])
  (hst:∀ i s' s'',I i s'→Keeps s' s''→I i s'') (hskip:∀ i c s',l[i]? = some c→c.taken = false→I i s'→I (i + 1) s')
  (hy:∀ (i:Nat) c s' (R:AVal→St→Prop),l[i]? = some c→c.taken = true→I i s'→(∀ s'',I (i + 1) s''→R (.bool true) s'')→(∀ s'',S s''→R (.bool false) s'')→Z39 Tryd.prog yv [.int .i64 i] s' R)
  (h0:I 0 s) (q:∀ s',I l.length s'→Q (.tup []) s') (q2:∀ s',S s'→Q (.tup []) s'):Z0c Tryd.prog 87 [yv,.ptr B 0] s Q:=by
 obtain ⟨_,_,_,_,hB⟩:=hI 0 s h0
 refine Z08 (Z0i (by decide)) fi87 rfl (by decide) rfl ?_
 refine Z00 ?_
 simp [hB]
 refine AM.wp_block ?_
 refine AM.wp_loop (fun m t s' => ∃ i:Nat,i ≤ l.length∧m = l.length - i∧PT.get (posOf 0) t = some yv∧PT.get (posOf 6) t = some (.slice p 0 l.length (.lim l.length))∧PT.get (posOf 7) t = some (.int .i64 l.length)∧PT.get (posOf 8) t = some (.int .i64 i)∧I i s') l.length ⟨0,by simp,by simp,by simp,by simp,by simp,by simp,h0⟩ ?_
 rintro m t s' ⟨i,hi,rfl,t0,t6,t7,t8,hIi⟩
 obtain ⟨hw,hp,hBo,hc,hB'⟩:=hI i s' hIi
 refine Z00 ?_
 simp [t7,t8]
 refine AM.wp_seq ?_
 refine AM.Z03 ?_
 by_cases hlt:i < l.length
 ·obtain ⟨c,hci⟩:∃ c,l[i]? = some c:=⟨_,List.getElem?_eq_getElem hlt⟩
  have hseg:=Ze5 l i c hci
  have hle:i * 4 + 4 ≤ (encs l).length:=by rw [Z36]; omega
  have hwr:IntKind.wrap .i64 ((i:Int) + 1) = ((i + 1:Nat):Int):=by rw [IntWalk.i64_in _ (by omega)]; omega
  simp [hlt]
  refine AM.wp_skip ?_
  simp
  refine AM.wp_seq ?_
  refine AM.wp_block ?_
  refine Z00 ?_
  simp [t6,t8,hlt,hc,hle,hseg,RC.enc]
  have hK:Keeps s' ((s'.alloc (.cells [.bool false,.str [],.nilSlice,.int .i64 0] false)).put s'.next (.cells c.enc false)):=(Keeps.alloc _ _).put _ (Z09 _) (Z18 _ _)
  have hO:((s'.alloc (.cells [.bool false,.str [],.nilSlice,.int .i64 0] false)).put s'.next (.cells c.enc false)).cells s'.next = some c.enc:=Zfc _ _ _ _
  simp only [RC.enc] at hK hO
  generalize (s'.alloc (.cells [.bool false,.str [],.nilSlice,.int .i64 0] false)).put s'.next (.cells [.bool c.taken,.str c.name,c.kv,.int .i64 c.held] false) = s1 at hK hO ⊢
  generalize s'.next = V at hO ⊢
  have hI1:=hst i s' s1 hIi hK
  refine Z00 ?_
  cases hct:c.taken with
  | false =>
   rw [hct] at hO
   simp [hO]
   refine AM.Z03 ?_
   simp
   refine AM.wp_skip ?_
   simp
   refine AM.wp_region ?_
   simp [t8,hwr]
   exact ⟨l.length - (i + 1),by omega,i + 1,by omega,by omega,by simp [t0],by simp [t6],by simp [t7],by simp,hskip i c s1 hci hct hI1⟩
  | true =>
   rw [hct] at hO
   simp [hO,t0,hyt]
   refine hy i c s1 _ hci hct hI1 (fun s2 hI2 => ?_) (fun s2 hS2 => ?_)
   rotate_left
   ·simp
    refine AM.Z03 ?_
    simp
    refine AM.wp_ret ?_
    simp
    exact q2 s2 hS2
   simp
   refine AM.Z03 ?_
   simp
   refine AM.wp_skip ?_
   simp
   refine AM.wp_region ?_
   simp [t8,hwr]
   exact ⟨l.length - (i + 1),by omega,i + 1,by omega,by omega,by simp [t0],by simp [t6],by simp [t7],by simp,hI2⟩
 ·simp [hlt]
  refine AM.wp_exit ?_
  simp
  have hie:i = l.length:=by omega
  subst hie
  exact q s' hIi
section
variable {s0 s:St} {W:Pos→Prop} {m r:Lets}
theorem Zkl {fr:FI} {t:PT AVal} {Q:Ex→PT AVal→St→Prop} {f:RO} {k k':Nat} {b:MCode} {fi:FInfo} {p B:Pos} {l:List RC} {n:Nat} {m0:Lets} (J:Nat→Lets→Prop) (E:Lets→Prop) (hn:l.length = n) (hl:n ≤ 400)
  (hx:getO t [] f = some (.fn 87 [] [.ptr B 0])) (hr:fr.round = none) (hfi:funInfo Tryd.prog fr.fn = some fi) (hpl:Z6g fi.ps fi.ntmps [k] = some [some (posOf k)])
  (hp:∀ i m s',J i m→Ctx s0 W m s'→s'.Old p∧s'.cells p = some (encs l))
  (hskip:∀ i c m,l[i]? = some c→c.taken = false→J i m→J (i + 1) m)
  (hbody:∀ (i:Nat) c s1 m Lb X (Wx:Ex→PT AVal→St→Prop),l[i]? = some c→c.taken = true→J i m→Ctx s0 W ((Lb,X) :: (B,C [.slice p 0 n (.lim n)]) :: m) s1 →
   (∀ t s2 m',J (i + 1) m'→Ctx s0 W ((Lb,X) :: (B,C [.slice p 0 n (.lim n)]) :: m') s2→Wx .normal t s2)→(∀ t s2 m',E m'→Ctx s0 W ((Lb,X) :: (B,C [.slice p 0 n (.lim n)]) :: m') s2→Wx .ret t s2) →
   wp Tryd.prog b { fn:=fr.fn,ntmps:=fi.ntmps,ps:=fi.ps,round:=some Lb } (PT.set (posOf k') (.int .i64 i) (PT.set (posOf k) (.int .i64 i) t)) s1 Wx)
  (h0:J 0 m0) (hc:Ctx s0 W ((B,C [.slice p 0 n (.lim n)]) :: m0) s) (q:∀ s' m,J n m→Ctx s0 W m s'→Q .normal t s') (q2:∀ s' m,E m→Ctx s0 W m s'→Q .ret t s') :
  wp Tryd.prog (.range f [k] (.region [.run none (.move (.per (posOf k)))] [some (posOf k')]) b) fr t s Q:=by
 subst hn
 refine AM.Zij hx (fun l0 e => by rw [hr] at e; cases e) ?_
 have c0:=hc.alloc (.loop { state:=.ready,pending:=none,fn:=fr.fn,tm:=t,params:=[k],assign:=.region [.run none (.move (.per (posOf k)))] [some (posOf k')],body:=b })
 generalize s.alloc (.loop { state:=.ready,pending:=none,fn:=fr.fn,tm:=t,params:=[k],assign:=.region [.run none (.move (.per (posOf k)))] [some (posOf k')],body:=b }) = sA at c0 ⊢
 generalize s.next = Lb at c0 ⊢
 refine Zq9 (p:=p) (I:=fun i s' => ∃ m,J i m∧Ctx s0 W ((Lb,.loop { state:=.ready,pending:=none,fn:=fr.fn,tm:=t,params:=[k],assign:=.region [.run none (.move (.per (posOf k)))] [some (posOf k')],body:=b }) :: (B,C [.slice p 0 l.length (.lim l.length)]) :: m) s') (S:=fun s' => ∃ m,E m∧Ctx s0 W ((Lb,.loop { state:=.done,pending:=some .ret,fn:=fr.fn,tm:=t,params:=[k],assign:=.region [.run none (.move (.per (posOf k)))] [some (posOf k')],body:=b }) :: (B,C [.slice p 0 l.length (.lim l.length)]) :: m) s') hl (by simp) ?_ ?_ ?_ ?_ ⟨m0,h0,c0⟩ ?_ ?_
 ·rintro i s' ⟨m,hj,hc⟩
  obtain ⟨a,b⟩:=hp i m s' hj hc.tail.tail
  exact ⟨hc.wf,a,hc.oi 1 rfl,b,hc.c 1 rfl⟩
 ·rintro i s' s'' ⟨m,hj,hc⟩ hk
  exact ⟨m,hj,hc.keeps hk⟩
 ·rintro i c s' hci hct ⟨m,hj,hc⟩
  exact ⟨m,hskip i c m hci hct hj,hc⟩
 ·rintro i c s' R hci hct ⟨m,hj,hc⟩ hR hR2
  refine Zda (pl:=[some (posOf k)]) (tree:=PT.set (posOf k) (.int .i64 i) t) (hc.x 0 rfl) hfi hpl rfl rfl ?_
  refine AM.wp_region ?_
  simp
  refine ⟨_,hc.x 0 rfl,rfl,?_⟩
  refine hbody i c _ m Lb _ _ hci hct hj (hc.put 0 rfl _) (fun t2 s2 m' hj' hc' => ?_) (fun t2 s2 m' he hc' => ?_)
  ·refine ⟨_,hc'.x 0 rfl,?_⟩
   exact hR _ ⟨m',hj',hc'.put 0 rfl _⟩
  ·refine ⟨_,hc'.x 0 rfl,?_⟩
   exact hR2 _ ⟨m',he,hc'.put 0 rfl _⟩
 ·rintro s2 ⟨m,hj,hc⟩
  refine ⟨_,hc.x 0 rfl,rfl,?_⟩
  exact q _ m hj (hc.put 0 rfl _).tail.tail
 ·rintro s2 ⟨m,hj,hc⟩
  refine ⟨_,hc.x 0 rfl,rfl,?_⟩
  exact q2 _ m hj (hc.put 0 rfl _).tail.tail
end
noncomputable def Zjx (cs:List CV):Bool:=(Z0z cs cs.length).all fun (j:Nat) => decide (toC (clsF (Z0f cs) (Z0z cs cs.length)) (j:Int) = (j:Int))
theorem tight_c {s0 s:St} {W:Pos→Prop} {hb:Pos} {vs:AVal} {cs:List CV} {m r:Lets} {Q:AVal→St→Prop} (hH:Z26 hb vs cs m) (h:Ctx s0 W (m ++ r) s) (hO:HOk cs)
  (q:∀ s',Ctx s0 W (m ++ r) s'→Q (.tup [.bool (Zjx cs),.int .i64 0]) s'):Z0c Tryd.prog 25 [.ptr hb 0] s Q:=by
 obtain ⟨p,V,mr,hc,hR,hV,h1,h4,hP⟩:=Z7w hH h
 have hl:=Z24 hV
 have hno:cs.length ≠ 0:=by omega
 refine Z08 (Z0i (by decide)) fi25 rfl (by decide) rfl ?_
 refine Z00 ?_
 simp
 have c1:=hc.alloc (C [.bool false])
 generalize s.alloc (.cells [.bool false] false) = s1 at c1 ⊢
 generalize s.next = B2 at c1 ⊢
 have c2:=c1.alloc (C [.int .i64 0])
 generalize s1.alloc (.cells [.int .i64 0] false) = s2 at c2 ⊢
 generalize s1.next = B3 at c2 ⊢
 refine AM.wp_seq ?_
 refine Z00 ?_
 simp
 refine Z02 ?_
 refine Z6b (c2.c 2 rfl) rfl hno ?_
 simp
 refine AM.Z03 ?_
 simp
 refine AM.wp_skip ?_
 simp
 refine Z00 ?_
 simp [c2.c 2 rfl]
 refine Z02 ?_
 have hobs:∀ {L:Lets} {s':St},Ctx s0 W L s'→(p,C (encs (rcs cs V))) ∈ L→(∀ y ∈ mr,y ∈ L)→∀ j c,(rcs cs V)[j]? = some c→Z0h s' c.kv (Z0y cs j):=by
  intro L s' hc' hp hm j c hj
  obtain ⟨_,_,r3⟩:=Z6o (p:=p) (cs:=cs) (V:=V) hc' hp hR hm
  have hjl:j < cs.length:=by have:=(List.getElem?_eq_some_iff.1 hj).1; rwa [hl] at this
  obtain ⟨kv,e1,e2⟩:=r3 j _ (List.getElem?_eq_getElem hjl)
  rw [Z1u (List.getElem?_eq_getElem hjl) e1] at hj
  cases hj
  rw [Z1l (List.getElem?_eq_getElem hjl)]
  exact e2
 refine Zk7 (K:=Z0y cs) hl c2.wf (c2.oi 3 rfl) (c2.c 3 rfl) h4 (hobs c2 (by simp) (fun y hy => by simp [hy])) fun pn lv s3 k3 hN hLv => ?_
 rw [Zkf hV] at hN
 rw [Zkt hV] at hLv
 have c3:=c2.keeps k3
 simp
 refine Z02 ?_
 refine Zcc (Z0t cs) c3.wf hN (by omega) hLv (by have:(Z0z cs cs.length).length ≤ cs.length:=Nat.le_trans (List.length_filter_le _ _) (by simp); omega) hO.closed hO.Z97 fun Bx s4 k4 hBx hox => ?_
 have hcl:=Z9k hO.closed
 rw [Z0t] at hcl
 simp only [Zjx] at q
 generalize clsF (Z0f cs) (Z0z cs cs.length) = cls at hox hcl q ⊢
 have c4:=c3.made k4 hBx (St.Z28 hox)
 simp
 have c5:=(c4.alloc (C [.nilSlice])).put 0 rfl (C [.slice Bx 0 cs.length (.lim cs.length)])
 simp only [List.set_cons_zero] at c5
 generalize (s4.alloc (.cells [.nilSlice] false)).put s4.next (.cells [.slice Bx 0 cs.length (.lim cs.length)] false) = s5 at c5 ⊢
 generalize s4.next = B4 at c5 ⊢
 refine AM.wp_seq ?_
 refine Z00 ?_
 simp [c5.c 4 rfl]
 refine Z02 ?_
 refine Z8m fun BB hBB => ?_
 have c6:=c5.alloc (C [.slice p 0 cs.length (.lim cs.length)])
 rw [← hBB] at c6
 generalize s5.alloc (.cells [.slice p 0 cs.length (.lim cs.length)] false) = s6 at c6 ⊢
 simp
 have hback:∀ {x:Lets} {s':St},Ctx s0 W (x ++ ((hb,C [.slice p 0 cs.length (.lim cs.length),vs]) :: (p,C (encs (rcs cs V))) :: (mr ++ r))) s'→Ctx s0 W (m ++ r) s':=by
  intro x s' hx
  refine (hx.sub (List.sublist_append_right _ _)).perm ?_
  refine Z0k fun a => ?_
  have:=Z4j hP a
  simp only [Z0j,Z0e] at this ⊢
  omega
 refine AM.wp_block ?_
 refine Zkl (B:=BB) (p:=p) (l:=rcs cs V)
  (J:=fun i m => ((Z0z cs i).all fun (j:Nat) => decide (toC cls (j:Int) = (j:Int))) = true∧m = (B4,C [.slice Bx 0 cs.length (.lim cs.length)]) :: (Bx,C (ints cls)) :: (B3,C [.int .i64 0]) :: (B2,C [.bool false]) :: (hb,C [.slice p 0 cs.length (.lim cs.length),vs]) :: (p,C (encs (rcs cs V))) :: (mr ++ r))
  (E:=fun m => ((Z0z cs cs.length).all fun (j:Nat) => decide (toC cls (j:Int) = (j:Int))) = false∧m = (B4,C [.slice Bx 0 cs.length (.lim cs.length)]) :: (Bx,C (ints cls)) :: (B3,C [.int .i64 0]) :: (B2,C [.bool false]) :: (hb,C [.slice p 0 cs.length (.lim cs.length),vs]) :: (p,C (encs (rcs cs V))) :: (mr ++ r))
  hl h4 (by simp) rfl fi25 rfl ?_ ?_ ?_ ⟨by simp [Z0z],rfl⟩ c6 ?_ ?_
 ·rintro i m s' ⟨_,rfl⟩ hc'
  exact ⟨hc'.oi 5 rfl,hc'.c 5 rfl⟩
 ·rintro i c m hci hct ⟨hall,rfl⟩
  have hi:i < cs.length:=by have:=(List.getElem?_eq_some_iff.1 hci).1; rwa [hl] at this
  rw [Z1u (List.getElem?_eq_getElem hi) (List.getElem?_eq_getElem (show i < V.length by omega))] at hci
  cases hci
  exact ⟨by rw [Za8 (List.getElem?_eq_getElem hi) hct]; exact hall,rfl⟩
 ·rintro i c s' m Lb X Wx hci hct ⟨hall,rfl⟩ hc' hW hW2
  have hi:i < cs.length:=by have:=(List.getElem?_eq_some_iff.1 hci).1; rwa [hl] at this
  rw [Z1u (List.getElem?_eq_getElem hi) (List.getElem?_eq_getElem (show i < V.length by omega))] at hci
  have htk:cs[i].taken = true:=by cases hci; exact hct
  have hnx:=Z88 (List.getElem?_eq_getElem hi) htk
  obtain ⟨cc,hcc⟩:∃ cc,cls[i]? = some cc:=⟨_,List.getElem?_eq_getElem (by omega)⟩
  have e:Z3c (fun d => decide (cc = d)) cls = toC cls (i:Int):=by unfold toC; simp [hcc]
  have hgx:(ints cls)[i]? = some (.int .i64 cc):=by unfold ints; rw [List.getElem?_map,hcc]; rfl
  obtain ⟨icl,hicl⟩:∃ x,x = ints cls:=⟨_,rfl⟩
  have hbx:=hc'.c 3 rfl
  rw [← hicl] at hgx hbx
  refine AM.wp_block ?_
  refine Z00 ?_
  simp [hc'.c 2 rfl,hi,hbx,hgx]
  refine Z02 ?_
  refine Zed (ks:=cls) (by have:=Z4l hc'.wf (hc'.o 3 rfl) (.lim cs.length); rw [hcl] at this; exact this) (by omega) ?_
  rw [e]
  simp
  refine AM.Z03 ?_
  by_cases hto:toC cls (i:Int) = (i:Int)
  ·simp [hto]
   refine AM.wp_skip ?_
   refine hW _ _ _ ⟨?_,rfl⟩ hc'
   rw [hnx,List.all_append,hall]
   simp [hto]
  ·simp [hto]
   refine Z00 ?_
   simp [hc'.o 4 rfl,hc'.o 5 rfl]
   have d1:=hc'.put 5 rfl (C [.bool false])
   simp only [List.set_cons_succ,List.set_cons_zero] at d1
   generalize s'.put B2 (.cells [.bool false] false) = s7 at d1 ⊢
   simp [d1.o 4 rfl]
   have d2:=d1.put 4 rfl (C [.int .i64 0])
   simp only [List.set_cons_succ,List.set_cons_zero] at d2
   generalize s7.put B3 (.cells [.int .i64 0] false) = s8 at d2 ⊢
   refine AM.wp_ret ?_
   refine hW2 _ _ _ ⟨?_,rfl⟩ d2
   rw [List.all_eq_false]
   refine ⟨i,?_,by simpa using hto⟩
   rw [Z44,Z0x (List.getElem?_eq_getElem hi)]
   exact ⟨hi,htk⟩
 ·rintro s' m ⟨hall,rfl⟩ hc'
  rw [hall] at q
  simp
  refine Z00 ?_
  simp [hc'.o 3 rfl]
  have d1:=hc'.put 3 rfl (C [.bool true])
  simp only [List.set_cons_succ,List.set_cons_zero] at d1
  generalize s'.put B2 (.cells [.bool true] false) = s7 at d1 ⊢
  simp [d1.o 2 rfl]
  have d2:=d1.put 2 rfl (C [.int .i64 0])
  simp only [List.set_cons_succ,List.set_cons_zero] at d2
  generalize s7.put B3 (.cells [.int .i64 0] false) = s8 at d2 ⊢
  refine AM.wp_ret ?_
  simp [d2.c 2 rfl,d2.c 3 rfl]
  exact q s8 (hback (x:=[(B4,C [.slice Bx 0 cs.length (.lim cs.length)]),(Bx,C (ints cls)),(B3,C [.int .i64 0]),(B2,C [.bool true])]) d2)
 ·rintro s' m ⟨hall,rfl⟩ hc'
  rw [hall] at q
  simp [hc'.c 2 rfl,hc'.c 3 rfl]
  exact q s' (hback (x:=[(B4,C [.slice Bx 0 cs.length (.lim cs.length)]),(Bx,C (ints cls)),(B3,C [.int .i64 0]),(B2,C [.bool false])]) hc')
def Z1z (cs:List CV) (a:Nat):Int:=match cs[a]? with
 | some c => c.held
 | none => 0
theorem Z3h {cs:List CV} {a:Nat} {c:CV} (h:cs[a]? = some c):Z1z cs a = c.held:=by unfold Z1z; rw [h]
def tot:List CV→Int
 | [] => 0
 | c :: r => c.held + tot r
theorem Zdu:∀ {cs:List CV} {a:Nat} {c d:CV},cs[a]? = some c→tot (cs.set a d) = tot cs - c.held + d.held
 | [],a,c,d,h => by simp at h
 | x :: cs,0,c,d,h => by
  simp at h
  subst h
  simp only [List.set_cons_zero,tot]
  omega
 | x :: cs,a + 1,c,d,h => by
  simp only [List.set_cons_succ,tot]
  rw [Zdu (cs:=cs) (a:=a) (c:=c) (by simpa using h)]
  omega
theorem Zp1:∀ {cs:List CV} {a:Nat} {c:CV},(∀ x ∈ cs,0 ≤ x.held)→cs[a]? = some c→c.held ≤ tot cs∧0 ≤ tot cs
 | [],a,c,_,h => by simp at h
 | x :: cs,0,c,hp,h => by
  simp at h
  subst h
  have h0:=hp x (by simp)
  simp only [tot]
  have:0 ≤ tot cs:=by
   have:∀ l:List CV,(∀ x ∈ l,0 ≤ x.held)→0 ≤ tot l:=by
    intro l
    induction l with
    | nil => intro _; decide
    | cons y l ih =>
     intro hl
     have:=hl y (by simp)
     have:=ih fun z hz => hl z (by simp [hz])
     simp only [tot]
     omega
   exact this cs fun y hy => hp y (by simp [hy])
  omega
 | x :: cs,a + 1,c,hp,h => by
  have h0:=hp x (by simp)
  have:=Zp1 (cs:=cs) (a:=a) (c:=c) (fun y hy => hp y (by simp [hy])) (by simpa using h)
  simp only [tot]
  omega
theorem HG.held {cs:List CV} (h:HG cs):∀ c ∈ cs,0 ≤ c.held∧c.held ≤ 1000:=by
 intro c hc
 rcases h c hc with rfl | ⟨_,_,_,_,h5⟩
 ·decide
 ·exact h5
def Z68 (cls:List Int) (d:CV):CV:=if d.taken = true then { d with kids:=d.kids.map (toC cls) } else d
theorem mvC_get {cls:List Int} {cs:List CV} {a:Nat} {d:CV} (h:cs[a]? = some d):(Z58 cls cs)[a]? = some (Z68 cls d):=by
 unfold Z58
 rw [List.getElem?_map,h]
 rfl
theorem Zd4 (cls:List Int) (d:CV):(Z68 cls d).held = d.held:=by unfold Z68; split <;> rfl
theorem Zp2 (cls:List Int):∀ cs:List CV,tot (Z58 cls cs) = tot cs
 | [] => rfl
 | d :: cs => by
  have h1:Z58 cls (d :: cs) = Z68 cls d :: Z58 cls cs:=rfl
  rw [h1]
  simp only [tot]
  rw [Zp2 cls cs,Zd4]
def gs (cs:List CV):List Int→Int
 | [] => 0
 | g :: r => Z1z cs g.toNat + gs cs r
theorem Zqo (cs:List CV) (g:Int):∀ l,gs cs (l ++ [g]) = gs cs l + Z1z cs g.toNat
 | [] => by simp [gs]
 | x :: l => by simp only [List.cons_append,gs]; rw [Zqo cs g l]; omega
theorem Zk8 {cs ds:List CV}:∀ {l:List Int},(∀ g ∈ l,Z1z cs g.toNat = Z1z ds g.toNat)→gs cs l = gs ds l
 | [],_ => rfl
 | x :: l,h => by
  simp only [gs]
  rw [h x (by simp),Zk8 fun g hg => h g (by simp [hg])]
theorem Zr8:∀ (l:List Int) (cs:List CV),l.Nodup→(∀ g ∈ l,0 ≤ g∧g.toNat < cs.length)→tot (relC cs l) = tot cs - gs cs l
 | [],cs,_,_ => by simp [relC,gs]
 | g :: l,cs,hn,hl => by
  rw [List.nodup_cons] at hn
  obtain ⟨g0,g1⟩:=hl g (by simp)
  show tot (relC (cs.set g.toNat Z2g) l) = _
  rw [Zr8 l (cs.set g.toNat Z2g) hn.2 (fun x hx => by rw [List.length_set]; exact hl x (by simp [hx])),Zdu (List.getElem?_eq_getElem g1)]
  have e1:gs (cs.set g.toNat Z2g) l = gs cs l:=Zk8 fun x hx => by
   have hne:g.toNat ≠ x.toNat:=by
    intro e
    have:=(hl x (by simp [hx])).1
    have:g = x:=by omega
    exact hn.1 (this ▸ hx)
   unfold Z1z
   rw [List.getElem?_set_ne hne]
  rw [e1]
  simp only [gs]
  rw [Z3h (List.getElem?_eq_getElem g1)]
  show tot cs - _ + 0 - _ = _
  omega
theorem Zdq : ∀ (l : List Int) (cs : List CV) (a : Nat), (∀ g ∈ l, 0 ≤ g) → (relC cs l)[a]? = if (a : Int) ∈ l ∧ a < cs.length then some Z2g else cs[a]?
  | [], cs, a, _ => by simp [relC]
  | g :: l, cs, a, h => by
    show (relC (cs.set g.toNat Z2g) l)[a]? = _
    rw [Zdq l _ a fun x hx => h x (by simp [hx]), List.length_set]
    have g0 := h g (by simp)
    by_cases hl : (a : Int) ∈ l ∧ a < cs.length
    · rw [if_pos hl, if_pos ⟨by simp [hl.1], hl.2⟩]
    · rw [if_neg hl, List.getElem?_set]
      by_cases e : g.toNat = a
      · rw [if_pos e]
        by_cases hal : a < cs.length
        · rw [if_pos (by omega), if_pos ⟨by have : (a : Int) = g := by omega
                                            rw [this]; simp, hal⟩]
        · rw [if_neg (by omega), if_neg (fun h => hal h.2), List.getElem?_eq_none (by omega)]
      · rw [if_neg e, if_neg]
        rintro ⟨h1, h2⟩
        rcases List.mem_cons.1 h1 with h1 | h1
        · omega
        · exact hl ⟨h1, h2⟩
structure HeldI (cls:List Int) (cs:List CV) (i:Nat):Prop where
 shape:∀ (a:Nat) (d:CV),cs[a]? = some d→∃ h:Int,(Z0o cls cs i)[a]? = some { Z68 cls d with held:=h }∧d.held ≤ h∧h ≤ 1000 * (i + 1)
 tot:tot (Z0o cls cs i) = tot cs + gs cs (Z1e cls cs i)
 gone:∀ (a:Nat) (d:CV),cs[a]? = some d→d.taken = true→toC cls (a:Int) ≠ (a:Int)→Z1z (Z0o cls cs i) a = d.held
 free:∀ (a:Nat) (d:CV),cs[a]? = some d→d.taken = false→(Z0o cls cs i)[a]? = some d
 into:∀ (x:Nat) (d:CV),x < i→cs[x]? = some d→d.taken = true→toC cls (x:Int) ≠ (x:Int)→d.held ≤ Z1z (Z0o cls cs i) (toC cls (x:Int)).toNat
theorem Znd {cls:List Int} {cs:List CV} (hG:HG cs) (hlen:cs.length ≤ 400) (htc:∀ a:Nat,Z06 cs (a:Int) = true→∃ j:Nat,toC cls (a:Int) = j∧Z06 cs (j:Int) = true∧toC cls (j:Int) = j):∀ i,i ≤ cs.length→HeldI cls cs i
 | 0,_ => by
  have hmv:∀ (a:Nat) (d:CV),cs[a]? = some d→(Z0o cls cs 0)[a]? = some (Z68 cls d):=fun a d h => mvC_get h
  refine ⟨fun a d h => ⟨d.held,?_,Int.le_refl _,?_⟩,?_,fun a d h _ _ => ?_,fun a d h hf => ?_,fun x d hx => by omega⟩
  ·rw [hmv a d h,← Zd4 cls d]
  ·have:=(hG.held d (List.mem_of_getElem? h)).2
   omega
  ·show Go.Proofs.tot (Z58 cls cs) = _
   rw [Zp2]
   have:Z1e cls cs 0 = []:=rfl
   rw [this]
   simp [gs]
  ·rw [Z3h (hmv a d h),Zd4]
  ·rw [hmv a d h]
   unfold Z68
   rw [if_neg (by rw [hf]; decide)]
 | i + 1,hi => by
  have H:=Znd hG hlen htc i (by omega)
  obtain ⟨c,hc⟩:∃ c,cs[i]? = some c:=⟨_,List.getElem?_eq_getElem (by omega)⟩
  have hch:=hG.held c (List.mem_of_getElem? hc)
  by_cases hg:c.taken = true∧toC cls (i:Int) ≠ (i:Int)
  ·obtain ⟨j,hj,hjt,hjj⟩:=htc i (by rw [Z0x hc]; exact hg.1)
   have hjl:=Z1t hjt
   obtain ⟨dj,hdj,hdjt,_⟩:=Z3u hjt
   obtain ⟨h,h1,h2,h3⟩:=H.shape j dj hdj
   have hdj0:=(hG.held dj (List.mem_of_getElem? hdj)).1
   have hji:j ≠ i:=fun e => hg.2 (by rw [hj,e])
   have hw:IntKind.wrap .i64 (h + c.held) = h + c.held:=IntWalk.i64_in _ (by omega)
   have hstep:Z0o cls cs (i + 1) = (Z0o cls cs i).set j { Z68 cls dj with held:=h + c.held }:=by
    rw [Z0o,hc]
    simp only
    rw [if_pos hg,hj,Int.toNat_natCast]
    unfold addH
    rw [h1]
    simp only
    rw [hw]
   have hjl2:j < (Z0o cls cs i).length:=by rw [Z2q]; exact hjl
   refine ⟨fun a d had => ?_,?_,fun a d had ht hne => ?_,fun a d had hf => ?_,fun x d hx hxd ht hne => ?_⟩
   ·by_cases e:j = a
    ·subst e
     rw [hdj] at had
     cases had
     refine ⟨h + c.held,by rw [hstep,List.getElem?_set_self hjl2],by omega,by omega⟩
    ·obtain ⟨h',g1,g2,g3⟩:=H.shape a d had
     exact ⟨h',by rw [hstep,List.getElem?_set_ne e]; exact g1,g2,by omega⟩
   ·rw [hstep,Zdu h1,H.tot,Zh9 hc hg.1 hg.2,Zqo,Int.toNat_natCast,Z3h hc]
    simp only
    omega
   ·have e:j ≠ a:=by
     rintro rfl
     exact hne hjj
    rw [← H.gone a d had ht hne,hstep]
    unfold Z1z
    rw [List.getElem?_set_ne e]
   ·have e:j ≠ a:=by
     rintro rfl
     rw [hdj] at had
     cases had
     rw [hf] at hdjt
     cases hdjt
    rw [hstep,List.getElem?_set_ne e]
    exact H.free a d had hf
   ·by_cases e:x = i
    ·subst e
     rw [hc] at hxd
     cases hxd
     rw [hj,Int.toNat_natCast,hstep,Z3h (List.getElem?_set_self hjl2)]
     simp only
     omega
    ·have h4:=H.into x d (by omega) hxd ht hne
     refine Int.le_trans h4 ?_
     rw [hstep]
     unfold Z1z
     by_cases e2:j = (toC cls (x:Int)).toNat
     ·rw [← e2,List.getElem?_set_self hjl2,h1]
      simp only
      omega
     ·rw [List.getElem?_set_ne e2]
      exact Int.le_refl _
  ·have hstep:Z0o cls cs (i + 1) = Z0o cls cs i:=by
    rw [Z0o,hc]
    simp only
    rw [if_neg hg]
   have hgone:Z1e cls cs (i + 1) = Z1e cls cs i:=by
    cases ht:c.taken with
    | false => exact Zha hc ht
    | true => exact Zhb hc ht (Classical.byContradiction fun hn => hg ⟨ht,hn⟩)
   refine ⟨fun a d had => ?_,by rw [hstep,hgone]; exact H.tot,fun a d had ht hne => by rw [hstep]; exact H.gone a d had ht hne,fun a d had hf => by rw [hstep]; exact H.free a d had hf,fun x d hx hxd ht hne => ?_⟩
   ·obtain ⟨h',g1,g2,g3⟩:=H.shape a d had
    exact ⟨h',by rw [hstep]; exact g1,g2,by omega⟩
   ·rw [hstep]
    refine H.into x d ?_ hxd ht hne
    have:x ≠ i:=by
     rintro rfl
     rw [hc] at hxd
     cases hxd
     exact hg ⟨ht,hne⟩
    omega
structure MergeIs (cs c:List CV):Prop where
 good:HG c
 len:c.length = cs.length
 tot:tot c = tot cs
 take:∀ a:Nat,Z06 c (a:Int) = true ↔ Z06 cs (a:Int) = true∧toC (clsH cs) (a:Int) = a
 lab:∀ a:Nat,Z06 c (a:Int) = true→lb c a = lb cs a
 goes:∀ a:Nat,Z06 cs (a:Int) = true→∃ j:Nat,toC (clsH cs) (a:Int) = j∧j ≤ a∧Z06 c (j:Int) = true∧lb c j = lb cs a∧Z1z cs a ≤ Z1z c j
theorem Zpr {cs:List CV} (hG:HG cs) (hlen:cs.length ≤ 400) (ht:tot cs ≤ 1000):∃ many c,Zc6 cs = (many,0,c)∧MergeIs cs c:=by
 have hO:=hG.ok.toHOk
 have htc:∀ a:Nat,Z06 cs (a:Int) = true→∃ j:Nat,toC (clsH cs) (a:Int) = j∧Z06 cs (j:Int) = true∧toC (clsH cs) (j:Int) = j:=fun a ha => by
  obtain ⟨j,h1,h2,h3,_⟩:=Z7n hO ha
  refine ⟨j,h1,h3,?_⟩
  have:=Zh0 hO ha
  rwa [h1] at this
 have H:=Znd hG hlen htc cs.length (Nat.le_refl _)
 have hgm:∀ a:Nat,(a:Int) ∈ Z1e (clsH cs) cs cs.length ↔ Z06 cs (a:Int) = true∧toC (clsH cs) (a:Int) ≠ a:=fun a => by
  rw [Z96]
  constructor
  ·rintro ⟨_,_,h1,h2⟩
   exact ⟨h1,h2⟩
  ·rintro ⟨h1,h2⟩
   have:=Z1t h1
   exact ⟨by omega,by omega,h1,h2⟩
 have hg0:∀ g ∈ Z1e (clsH cs) cs cs.length,0 ≤ g:=fun g hg => (Z96.1 hg).1
 have hl:(Z0o (clsH cs) cs cs.length).length = cs.length:=Z2q _ _ _
 have hrel:=Zr8 (Z1e (clsH cs) cs cs.length) (Z0o (clsH cs) cs cs.length) (Znc _ _ _) (fun g hg => by
  obtain ⟨h1,h2,_⟩:=Z96.1 hg
  rw [hl]
  omega)
 have hgs:gs (Z0o (clsH cs) cs cs.length) (Z1e (clsH cs) cs cs.length) = gs cs (Z1e (clsH cs) cs cs.length):=Zk8 fun g hg => by
  obtain ⟨h1,h2,h3,h4⟩:=Z96.1 hg
  have e:((g.toNat:Nat):Int) = g:=by omega
  obtain ⟨d,hd,htk,_⟩:=Z3u (cs:=cs) (a:=g.toNat) (by rw [e]; exact h3)
  rw [H.gone g.toNat d hd htk (by rw [e]; exact h4),Z3h hd]
 have hget:∀ (a:Nat) (d:CV),cs[a]? = some d→∃ h:Int,d.held ≤ h∧(relC (Z0o (clsH cs) cs cs.length) (Z1e (clsH cs) cs cs.length))[a]? = some (if d.taken = true∧toC (clsH cs) (a:Int) ≠ a then Z2g else { Z68 (clsH cs) d with held:=h }):=by
  intro a d hd
  obtain ⟨h,g1,g2,_⟩:=H.shape a d hd
  refine ⟨h,g2,?_⟩
  rw [Zdq _ _ a hg0,hl]
  have hal:a < cs.length:=(List.getElem?_eq_some_iff.1 hd).1
  have:=hgm a
  rw [Z0x hd] at this
  by_cases hb:d.taken = true∧toC (clsH cs) (a:Int) ≠ a
  ·rw [if_pos ⟨this.2 hb,hal⟩,if_pos hb]
  ·rw [if_neg (fun hm => hb (this.1 hm.1)),if_neg hb,g1]
 have hkeep:∀ a:Nat,Z06 cs (a:Int) = true∧toC (clsH cs) (a:Int) ≠ a ∨ (relC (Z0o (clsH cs) cs cs.length) (Z1e (clsH cs) cs cs.length))[a]? = (Z0o (clsH cs) cs cs.length)[a]?:=by
  intro a
  by_cases hb:Z06 cs (a:Int) = true∧toC (clsH cs) (a:Int) ≠ a
  ·exact .inl hb
  ·right
   rw [Zdq _ _ a hg0,if_neg (fun hm => hb ((hgm a).1 hm.1))]
 have hlen2:(relC (Z0o (clsH cs) cs cs.length) (Z1e (clsH cs) cs cs.length)).length = cs.length:=by rw [Zc8,hl]
 have htot2:tot (relC (Z0o (clsH cs) cs cs.length) (Z1e (clsH cs) cs cs.length)) = tot cs:=by rw [hrel,hgs,H.tot]; omega
 have hpos2:∀ x ∈ relC (Z0o (clsH cs) cs cs.length) (Z1e (clsH cs) cs cs.length),0 ≤ x.held:=by
  intro x hx
  obtain ⟨a,ha⟩:=List.getElem?_of_mem hx
  obtain ⟨d,hd⟩:∃ d,cs[a]? = some d:=⟨_,List.getElem?_eq_getElem (by rw [← hlen2]; exact (List.getElem?_eq_some_iff.1 ha).1)⟩
  obtain ⟨h,h1,h2⟩:=hget a d hd
  have:=(hG.held d (List.mem_of_getElem? hd)).1
  rw [h2] at ha
  cases ha
  split
  ·decide
  ·show 0 ≤ h
   omega
 have hno:(Z0o (clsH cs) cs cs.length).any (fun c => decide (1000 < c.held)) = false:=by
  rw [List.any_eq_false]
  intro x hx
  obtain ⟨a,ha⟩:=List.getElem?_of_mem hx
  obtain ⟨d,hd⟩:∃ d,cs[a]? = some d:=⟨_,List.getElem?_eq_getElem (by rw [← hl]; exact (List.getElem?_eq_some_iff.1 ha).1)⟩
  have hdh:=hG.held d (List.mem_of_getElem? hd)
  by_cases hb:d.taken = true∧toC (clsH cs) (a:Int) ≠ a
  ·have:=H.gone a d hd hb.1 hb.2
   rw [Z3h ha] at this
   simp only [decide_eq_true_eq]
   omega
  ·have hr:=Zdq (Z1e (clsH cs) cs cs.length) (Z0o (clsH cs) cs cs.length) a hg0
   rw [if_neg,ha] at hr
   ·have:=(Zp1 hpos2 hr).1
    rw [htot2] at this
    simp only [decide_eq_true_eq]
    omega
   ·rintro ⟨hm,_⟩
    have:=(hgm a).1 hm
    rw [Z0x hd] at this
    exact hb this
 have hm:Zc6 cs = (((Z1e (clsH cs) cs cs.length).length:Int),0,relC (Z0o (clsH cs) cs cs.length) (Z1e (clsH cs) cs cs.length)):=by
  unfold Zc6
  rw [if_neg (by rw [hno]; decide)]
 refine ⟨_,_,hm,?_⟩
 generalize relC (Z0o (clsH cs) cs cs.length) (Z1e (clsH cs) cs cs.length) = c at hget hkeep hlen2 htot2 hpos2
 have htake:∀ a:Nat,Z06 c (a:Int) = true ↔ Z06 cs (a:Int) = true∧toC (clsH cs) (a:Int) = a:=by
  intro a
  by_cases hal:a < cs.length
  ·have hd:cs[a]? = some cs[a]:=List.getElem?_eq_getElem hal
   obtain ⟨h,_,h2⟩:=hget a _ hd
   rw [Z0x h2,Z0x hd]
   by_cases hb:cs[a].taken = true∧toC (clsH cs) (a:Int) ≠ a
   ·rw [if_pos hb]
    constructor
    ·intro e; cases e
    ·rintro ⟨_,e⟩; exact (hb.2 e).elim
   ·rw [if_neg hb]
    have:(Z68 (clsH cs) cs[a]).taken = cs[a].taken:=by unfold Z68; split <;> rfl
    show (Z68 (clsH cs) cs[a]).taken = true ↔ _
    rw [this]
    exact ⟨fun ht => ⟨ht,Classical.byContradiction fun hn => hb ⟨ht,hn⟩⟩,fun h => h.1⟩
  ·have h1:Z06 c (a:Int) = false:=by
    cases e:Z06 c (a:Int) with
    | false => rfl
    | true => have:=Z1t e; omega
   have h2:Z06 cs (a:Int) = false:=by
    cases e:Z06 cs (a:Int) with
    | false => rfl
    | true => have:=Z1t e; omega
   rw [h1,h2]
   simp
 have hkept:∀ a:Nat,Z06 c (a:Int) = true→∃ d h,cs[a]? = some d∧d.taken = true∧d.held ≤ h∧c[a]? = some ⟨true,d.name,d.kids.map (toC (clsH cs)),h⟩:=by
  intro a ha
  obtain ⟨h1,h2⟩:=(htake a).1 ha
  obtain ⟨d,hd,htk,_⟩:=Z3u h1
  obtain ⟨h,g1,g2⟩:=hget a d hd
  rw [if_neg (fun hb => hb.2 h2)] at g2
  refine ⟨d,h,hd,htk,g1,?_⟩
  rw [g2]
  unfold Z68
  rw [if_pos htk]
  simp [htk]
 have htoc:∀ k:Int,Z06 cs k = true→Z06 c (toC (clsH cs) k) = true:=by
  intro k hk
  have h0:=(Z1v hk).1
  have e:((k.toNat:Nat):Int) = k:=by omega
  obtain ⟨j,h1,_,h3,_⟩:=Z7n hO (a:=k.toNat) (by rw [e]; exact hk)
  rw [e] at h1
  rw [h1]
  refine (htake j).2 ⟨h3,?_⟩
  have:=Zh0 hO (a:=k.toNat) (by rw [e]; exact hk)
  rw [e,h1] at this
  exact this
 have hlab:∀ a:Nat,Z06 c (a:Int) = true→lb c a = lb cs a:=by
  intro a ha
  refine Z9q (R:=fun x y => Z06 c (x:Int) = true∧Z06 cs (y:Int) = true∧lb cs x = lb cs y) ?_ ⟨ha,((htake a).1 ha).1,rfl⟩
  rintro x y ⟨hx,hy,hxy⟩
  obtain ⟨d,h,hd,htk,_,hcx⟩:=hkept x hx
  obtain ⟨e,he,het,hey⟩:=Z3u hy
  have hdx:(Z0f cs)[x]? = some (d.name,d.kids):=by rw [Z2a hd,if_pos htk]
  obtain ⟨e1,e2,e3⟩:=Znk hdx hey hxy
  refine ⟨(d.name,d.kids.map (toC (clsH cs))),_,by rw [Z2a hcx,if_pos rfl],hey,e1,by simpa using e2,fun j k m hk hm => ?_⟩
  simp only at hk
  rw [List.getElem?_map] at hk
  cases hkd:d.kids[j]? with
  | none => rw [hkd] at hk; cases hk
  | some k' =>
   rw [hkd] at hk
   simp only [Option.map_some,Option.some.injEq] at hk
   obtain ⟨k1,k2⟩:=Z7f hO hd htk (List.mem_of_getElem? hkd)
   have m1:=(Z7f hO he het (List.mem_of_getElem? hm)).1
   have e4:((k'.toNat:Nat):Int) = k':=by omega
   obtain ⟨z,z1,_,z3,z4,_⟩:=Z7n hO k1
   rw [e4,hk] at z1
   have hzc:=htoc k' (by rw [← e4]; exact k1)
   rw [hk] at hzc
   rw [z1] at hzc ⊢
   rw [Int.toNat_natCast]
   exact ⟨hzc,m1,z4.trans (e3 j k' m hkd hm)⟩
 refine ⟨fun x hx => ?_,hlen2,htot2,htake,hlab,fun a ha => ?_⟩
 ·obtain ⟨a,hxa⟩:=List.getElem?_of_mem hx
  cases htk:Z06 c (a:Int) with
  | true =>
   obtain ⟨d,h,hd,hdt,hdh,hca⟩:=hkept a htk
   rw [hxa] at hca
   cases hca
   rcases hG d (List.mem_of_getElem? hd) with e | ⟨g1,g2,g3,g4,g5,_⟩
   ·rw [e] at hdt; cases hdt
   ·have htx:=(Zp1 hpos2 hxa).1
    simp only at htx
    refine .inr ⟨rfl,by simpa using g2,fun k hk => ?_,g4,by show 0 ≤ h; omega,by show h ≤ 1000; omega⟩
    obtain ⟨k',hk',rfl⟩:=List.mem_map.1 hk
    exact htoc k' (g3 k' hk')
  | false =>
   obtain ⟨d,hd⟩:∃ d,cs[a]? = some d:=⟨_,List.getElem?_eq_getElem (by rw [← hlen2]; exact (List.getElem?_eq_some_iff.1 hxa).1)⟩
   by_cases hb:d.taken = true∧toC (clsH cs) (a:Int) ≠ a
   ·obtain ⟨h,h1,h2⟩:=hget a d hd
    rw [hxa,if_pos hb] at h2
    exact .inl (Option.some.inj h2)
   ·have hdf:d.taken = false:=by
     cases hdt:d.taken with
     | false => rfl
     | true =>
      have:=(htake a).2 ⟨by rw [Z0x hd]; exact hdt,Classical.byContradiction fun hn => hb ⟨hdt,hn⟩⟩
      rw [htk] at this
      cases this
    rcases hkeep a with ⟨h1,_⟩ | h1
    ·rw [Z0x hd,hdf] at h1
     cases h1
    ·rw [hxa,H.free a d hd hdf] at h1
     cases h1
     rcases hG x (List.mem_of_getElem? hd) with e | ⟨g1,_⟩
     ·exact .inl e
     ·rw [hdf] at g1; cases g1
 ·obtain ⟨j,h1,h2,h3,h4,_⟩:=Z7n hO ha
  have hcj:Z06 c (j:Int) = true:=(htake j).2 ⟨h3,by have:=Zh0 hO ha; rwa [h1] at this⟩
  refine ⟨j,h1,h2,hcj,(hlab j hcj).trans h4,?_⟩
  obtain ⟨d,hd,htk,_⟩:=Z3u ha
  obtain ⟨e,h,he,_,heh,hcje⟩:=hkept j hcj
  have hjj:toC (clsH cs) (j:Int) = j:=by have:=Zh0 hO ha; rwa [h1] at this
  have hk:c[j]? = (Z0o (clsH cs) cs cs.length)[j]?:=by
   rcases hkeep j with ⟨_,h⟩ | h
   ·exact (h hjj).elim
   ·exact h
  have hcc:Z1z c j = Z1z (Z0o (clsH cs) cs cs.length) j:=by unfold Z1z; rw [hk]
  rw [hcc,Z3h hd]
  by_cases haj:toC (clsH cs) (a:Int) = a
  ·have:a = j:=by omega
   subst this
   obtain ⟨h',g1,g2,_⟩:=H.shape a d hd
   rw [Z3h g1]
   exact g2
  ·have:=H.into a d (Z1t ha) hd htk haj
   rwa [h1,Int.toNat_natCast] at this
def Zml (cs:List CV):Prop:=∀ a b:Nat,Z06 cs (a:Int) = true→Z06 cs (b:Int) = true→lb cs a = lb cs b→a = b
theorem Zxw {cs:List CV} (hO:HOk cs) (h:Zml cs):Zjx cs = true:=by
 unfold Zjx
 rw [List.all_eq_true]
 intro j hj
 have ht:=Zdk.1 hj
 simp only [decide_eq_true_eq]
 exact Zih hO ht ht rfl fun j' hj' ht' e => by
  have:=h j' j ht' ht e
  omega
theorem MergeIs.tight {cs c:List CV} (hO:HOk cs) (h:MergeIs cs c):Zml c:=by
 intro a b ha hb e
 rw [h.lab a ha,h.lab b hb] at e
 obtain ⟨a1,a2⟩:=(h.take a).1 ha
 obtain ⟨b1,b2⟩:=(h.take b).1 hb
 obtain ⟨j,g1,_,g3,g4,g5⟩:=Z7n hO a1
 have:toC (clsH cs) (b:Int) = j:=Zih hO b1 g3 (g4.trans e) fun j' hj' ht' e' => g5 j' hj' ht' (e'.trans e.symm)
 omega
theorem Zr7:∀ {cs ds:List CV},cs.length = ds.length→(∀ a,a < cs.length→Z1z cs a = Z1z ds a)→tot cs = tot ds
 | [],[],_,_ => rfl
 | c :: cs,d :: ds,hl,h => by
  have h0:=h 0 (by simp)
  have:=Zr7 (cs:=cs) (ds:=ds) (by simpa using hl) (fun a ha => by
   have:=h (a + 1) (by simpa using ha)
   simpa [Z1z] using this)
  simp [Z1z] at h0
  simp only [tot]
  omega
 | [],_ :: _,hl,_ => by simp at hl
 | _ :: _,[],hl,_ => by simp at hl
theorem Grown.tot {cs c:List CV} (hG:HG cs) (h:Grown cs c):tot c = tot cs:=by
 refine Zr7 h.len fun a ha => ?_
 cases ht:Z06 cs (a:Int) with
 | true =>
  unfold Z1z
  rw [h.keep a ht]
 | false =>
  have hd:cs[a]? = some (cs[a]'(by rw [← h.len]; exact ha)):=List.getElem?_eq_getElem _
  have hc:c[a]? = some c[a]:=List.getElem?_eq_getElem ha
  rw [Z3h hd,Z3h hc,h.new a _ ht hc,hG.Zs4 hd ht]
  rfl
theorem Zli {cs:List CV} (h:HG cs) (nm:List UInt8) (ks:List Int):Grown cs (mkF cs nm ks).2.2:=by
 obtain ⟨h1,h2⟩:=Zv4 h nm ks
 have key:(mkF cs nm ks).2.2 = cs ∨ ∃ a d,cs[a]? = some d∧d.taken = false∧(mkF cs nm ks).2.2 = cs.set a ⟨true,nm,ks,0⟩:=by
  unfold mkF
  split
  ·exact .inl rfl
  ·split
   ·exact .inl rfl
   ·split
    ·exact .inl rfl
    ·split
     ·exact .inl rfl
     ·rcases Z87 cs with hf | ⟨a,d,hf,ha,hd⟩
      ·omega
      ·right
       exact ⟨a,d,ha,hd,by rw [hf]; rfl⟩
 rcases key with e | ⟨a,d,ha,hd,e⟩
 ·rw [e]; exact Grown.refl h
 ·refine ⟨h1,h2,fun b hb => ?_,fun b x hb hx => ?_⟩
  ·rw [e,List.getElem?_set_ne]
   rintro rfl
   rw [Z0x ha,hd] at hb
   cases hb
  ·rw [e,List.getElem?_set] at hx
   split at hx
   ·split at hx
    ·cases hx; rfl
    ·cases hx
   ·rw [h.Zs4 hx hb]
    rfl
theorem mkF_err (cs:List CV) (h:HG cs):(mkF cs [97] []).2.1 = 0 ∨ (mkF cs [97] []).2.1 = 12:=by
 unfold mkF
 rw [if_neg (by decide),if_neg (by decide),if_neg (by simp)]
 split
 ·exact .inr rfl
 ·exact .inl rfl
theorem Zfp {cs:List CV} (hO:HOk2 cs):Closed (Z0f cs) (Z25 cs)∧(∀ a ∈ Z25 cs,Z06 cs (a:Int) = true)∧(∀ a ∈ Z25 cs,∀ k ∈ kidN cs a,k ∈ Z25 cs)∧∀ a:Nat,Z06 cs (a:Int) = true→0 < Z1z cs a→a ∈ Z25 cs:=by
 have hr:∀ r ∈ (Z21 cs cs.length).map Int.toNat,Z06 cs (r:Int) = true:=by
  intro r hr
  obtain ⟨k,hk,rfl⟩:=List.mem_map.1 hr
  obtain ⟨h0,_,h2⟩:=Z8s hk
  rwa [Int.toNat_of_nonneg h0]
 obtain ⟨h1,_,h3,h4⟩:=Zb4 hO hr
 refine ⟨h1,h3,fun a ha k hk => ?_,fun a ha hh => h4 a ?_⟩
 ·obtain ⟨d,hd,ht,hg⟩:=Z3u (h3 a ha)
  unfold kidN at hk
  rw [Z1l hd] at hk
  obtain ⟨x,hx,rfl⟩:=List.mem_map.1 hk
  exact (h1.kids a ha _ hg).2 x hx
 ·refine List.mem_map.2 ⟨(a:Int),?_,by simp⟩
  unfold Z21
  refine List.mem_map.2 ⟨a,List.mem_filter.2 ⟨Zdk.2 ha,?_⟩,rfl⟩
  obtain ⟨d,hd,_⟩:=Z3u ha
  rw [Z3h hd] at hh
  rw [hd]
  simpa using hh
structure SweepIs (cs c:List CV):Prop where
 good:HG c
 len:c.length = cs.length
 tot:tot c ≤ tot cs
 take:∀ a:Nat,Z06 c (a:Int) = true ↔ Z06 cs (a:Int) = true∧a ∈ Z25 cs
 keep:∀ a:Nat,Z06 c (a:Int) = true→c[a]? = cs[a]?
theorem Zq8 {cs:List CV} (hG:HG cs):SweepIs cs (Zdt cs).2.2:=by
 obtain ⟨r1,r2,r3,r4⟩:=Zfp hG.ok
 have hu0:∀ g ∈ Z3m cs (Z25 cs) cs.length,0 ≤ g:=fun g hg => (Zgg.1 hg).1
 have hum:∀ a:Nat,(a:Int) ∈ Z3m cs (Z25 cs) cs.length ↔ Z06 cs (a:Int) = true∧a ∉ Z25 cs:=fun a => by
  rw [Zgg]
  constructor
  ·rintro ⟨_,_,h1,h2⟩
   exact ⟨h1,by simpa using h2⟩
  ·rintro ⟨h1,h2⟩
   have:=Z1t h1
   exact ⟨by omega,by omega,h1,by simpa using h2⟩
 show SweepIs cs (relC cs (Z3m cs (Z25 cs) cs.length))
 have hget:∀ a:Nat,(Z06 cs (a:Int) = true∧a ∉ Z25 cs∧(relC cs (Z3m cs (Z25 cs) cs.length))[a]? = some Z2g) ∨ (¬ (Z06 cs (a:Int) = true∧a ∉ Z25 cs)∧(relC cs (Z3m cs (Z25 cs) cs.length))[a]? = cs[a]?):=by
  intro a
  rw [Zdq _ _ a hu0]
  by_cases hb:Z06 cs (a:Int) = true∧a ∉ Z25 cs
  ·left
   exact ⟨hb.1,hb.2,by rw [if_pos ⟨(hum a).2 hb,Z1t hb.1⟩]⟩
  ·right
   exact ⟨hb,by rw [if_neg (fun hm => hb ((hum a).1 hm.1))]⟩
 have hlen:(relC cs (Z3m cs (Z25 cs) cs.length)).length = cs.length:=Zc8 _ _
 generalize relC cs (Z3m cs (Z25 cs) cs.length) = c at hget hlen
 have htake:∀ a:Nat,Z06 c (a:Int) = true ↔ Z06 cs (a:Int) = true∧a ∈ Z25 cs:=by
  intro a
  rcases hget a with ⟨h1,h2,h3⟩ | ⟨h1,h2⟩
  ·rw [Z0x h3]
   simp [Z2g,h2]
  ·have e:Z06 c (a:Int) = Z06 cs (a:Int):=by unfold Z06; simp [h2]
   rw [e]
   exact ⟨fun h => ⟨h,Classical.byContradiction fun hn => h1 ⟨h,hn⟩⟩,fun h => h.1⟩
 have hkeep:∀ a:Nat,Z06 c (a:Int) = true→c[a]? = cs[a]?:=by
  intro a ha
  rcases hget a with ⟨h1,h2,h3⟩ | ⟨h1,h2⟩
  ·exact (h2 ((htake a).1 ha).2).elim
  ·exact h2
 refine ⟨fun x hx => ?_,hlen,?_,htake,hkeep⟩
 ·obtain ⟨a,hxa⟩:=List.getElem?_of_mem hx
  cases ht:Z06 c (a:Int) with
  | false =>
   rcases hget a with ⟨_,_,h3⟩ | ⟨_,h2⟩
   ·rw [hxa] at h3
    exact .inl (Option.some.inj h3)
   ·rw [h2] at hxa
    rw [Z0x (h2.trans hxa)] at ht
    rcases hG x (List.mem_of_getElem? hxa) with h | ⟨h,_⟩
    ·exact .inl h
    ·rw [ht] at h; cases h
  | true =>
   obtain ⟨h1,h2⟩:=(htake a).1 ht
   rw [hkeep a ht] at hxa
   rcases hG x (List.mem_of_getElem? hxa) with h | ⟨g1,g2,g3,g4⟩
   ·exact .inl h
   ·refine .inr ⟨g1,g2,fun k hk => ?_,g4⟩
    obtain ⟨k1,k0⟩:=Z7f hG.ok.toHOk hxa g1 hk
    have hkr:k.toNat ∈ Z25 cs:=r3 a h2 _ (by unfold kidN; rw [Z1l hxa]; exact List.mem_map.2 ⟨k,hk,rfl⟩)
    have:=(htake k.toNat).2 ⟨k1,hkr⟩
    rwa [Int.toNat_of_nonneg k0] at this
 ·have hle:∀ a,a < c.length→Z1z c a ≤ Z1z cs a:=by
   intro a ha
   rcases hget a with ⟨_,_,h3⟩ | ⟨_,h2⟩
   ·have hd:cs[a]? = some (cs[a]'(by rw [← hlen]; exact ha)):=List.getElem?_eq_getElem _
    rw [Z3h h3,Z3h hd]
    exact (hG.held _ (List.getElem_mem _)).1
   ·unfold Z1z
    rw [h2]
    exact Int.le_refl _
  have:∀ (l m:List CV),l.length = m.length→(∀ a,a < l.length→Z1z l a ≤ Z1z m a)→Go.Proofs.tot l ≤ Go.Proofs.tot m:=by
   intro l
   induction l with
   | nil =>
    intro m hl _
    cases m with
    | nil => exact Int.le_refl _
    | cons _ _ => simp at hl
   | cons x l ih =>
    intro m hl h
    cases m with
    | nil => simp at hl
    | cons y m =>
     have h0:=h 0 (by simp)
     have:=ih m (by simpa using hl) (fun a ha => by
      have:=h (a + 1) (by simpa using ha)
      simpa [Z1z] using this)
     simp [Z1z] at h0
     simp only [Go.Proofs.tot]
     omega
  exact this c cs hlen hle
theorem SweepIs.lab {cs c:List CV} (hG:HG cs) (h:SweepIs cs c) {a:Nat} (ha:Z06 c (a:Int) = true):lb c a = lb cs a:=by
 refine Z9q (R:=fun x y => x = y∧Z06 c (y:Int) = true) ?_ ⟨rfl,ha⟩
 rintro x y ⟨rfl,hx⟩
 obtain ⟨d,h1,h2,h3⟩:=Z3u hx
 have h4:(Z0f cs)[x]? = some (d.name,d.kids):=by
  rw [Z2a ((h.keep x hx).symm.trans h1),if_pos h2]
 refine ⟨_,_,h3,h4,rfl,rfl,fun j k m hk hm => ?_⟩
 rw [hk] at hm
 cases hm
 exact ⟨rfl,(Z7f h.good.ok.toHOk h1 h2 (List.mem_of_getElem? hk)).1⟩
theorem SweepIs.held {cs c:List CV} (hG:HG cs) (h:SweepIs cs c) {a:Nat} (ha:Z06 cs (a:Int) = true) (hh:0 < Z1z cs a):Z06 c (a:Int) = true∧Z1z c a = Z1z cs a:=by
 obtain ⟨_,_,_,r4⟩:=Zfp hG.ok
 have ht:=(h.take a).2 ⟨ha,r4 a ha hh⟩
 refine ⟨ht,?_⟩
 unfold Z1z
 rw [h.keep a ht]
theorem Zi1 {cs:List CV} (h:HOk cs):GrOk (Z0f cs):=by
 intro nd hnd
 obtain ⟨a,ha⟩:=List.getElem?_of_mem hnd
 exact h.Z97 a nd ha
theorem Zjb {cs:List CV} (h:HOk2 cs) {i:Nat} (hi:Z06 cs (i:Int) = true):Z27 cs i = Z1b (Z0f cs) i :=
 Zmd h (Zi1 h.toHOk) hi (by rw [Z0t]; exact Z1t hi) rfl
theorem Zsd {cs:List CV} (h:HOk2 cs) {i:Nat} (hi:Z06 cs (i:Int) = true):lab (Z27 cs i) 0 = lb cs i:=by
 rw [Zjb h hi]
 exact Zfr (Zi1 h.toHOk) (by rw [Z0t]; exact Z1t hi)
theorem Zc5 {cs:List CV} (h:HG cs) (hl:cs.length ≤ 60) {i:Nat} (hi:Z06 cs (i:Int) = true):GrOk (Z27 cs i)∧1 ≤ (Z27 cs i).length∧(Z27 cs i).length ≤ 60∧∀ nd ∈ Z27 cs i,Z1s nd.1 = true:=by
 have hO:=h.ok
 have hlt:=Z1t hi
 obtain ⟨h1,h2,h3⟩:=Zal (Zi1 hO.toHOk) (r:=i) (by rw [Z0t]; exact hlt)
 rw [← Zjb hO hi] at h1 h2 h3
 rw [Z0t] at h3
 refine ⟨h1,h2,by omega,fun nd hnd => ?_⟩
 unfold Z27 at hnd
 obtain ⟨a,x,ha,hx,rfl⟩:=Zem hnd
 obtain ⟨_,_,h6,_⟩:=Zb4 hO (roots:=[i]) (by simpa using hi)
 obtain ⟨d,hd,ht,hg⟩:=Z3u (h6 a ha)
 rw [hg] at hx
 cases hx
 rcases h d (List.mem_of_getElem? hd) with e | ⟨_,_,_,e,_⟩
 ·rw [e] at ht; cases ht
 ·exact e
theorem Zfd {ns:List ND} {root:Int} (h1:GrOk ns) (h2:1 ≤ ns.length) (h3:ns.length ≤ 60) (h4:∀ nd ∈ ns,Z1s nd.1 = true) (h5:0 ≤ root) (h6:root < ns.length):Z15 ns root = 0:=by
 unfold Z15
 have e1:(ns.all fun nd => decide (nd.2.length ≤ 4)) = true:=by
  rw [List.all_eq_true]
  intro nd hnd
  simpa using (h1 nd hnd).1
 have e2:(ns.all fun nd => Z1s nd.1) = true:=by
  rw [List.all_eq_true]
  exact h4
 have e3:(ns.all fun nd => nd.2.all fun k => decide (0 ≤ k) && decide (k < ns.length)) = true:=by
  rw [List.all_eq_true]
  intro nd hnd
  rw [List.all_eq_true]
  intro k hk
  have:=(h1 nd hnd).2 k hk
  simp [this.1,this.2]
 rw [if_neg (by
  intro h
  rcases h with h | h | h
  ·omega
  ·omega
  ·rw [e1] at h; cases h),if_neg (by rw [e2]; decide),if_neg (by
  intro h
  rcases h with h | h
  ·simp at h
   omega
  ·rw [e3] at h; cases h)]
theorem Zk6 {cs:List CV} (h:HG cs) (hl:cs.length ≤ 60) {i:Nat} (hi:Z06 cs (i:Int) = true):getF cs (i:Int) = (0,Z27 cs i):=by
 obtain ⟨_,_,h3,_⟩:=Zc5 h hl hi
 unfold getF
 rw [if_neg (by rw [hi]; decide),if_neg (by rw [Int.toNat_natCast]; omega),Int.toNat_natCast]
theorem Zzx {cs:List CV} {i:Int} (hi:Z06 cs i = false):getF cs i = (1,[]):=by
 unfold getF
 rw [if_pos hi]
theorem Zs2 {cs:List CV} {ns:List ND} {root:Int} (hO:HOk cs) (hz:Z15 ns root = 0) {a:Nat} (ha:Z06 cs (a:Int) = true) (hl:lb cs a = lab ns root.toNat) :
  ∃ j:Nat,findF cs ns root = ((j:Int),0)∧j ≤ a∧Z06 cs (j:Int) = true∧lb cs j = lab ns root.toNat:=by
 obtain ⟨o1,o2,hGO,hnm,r0,r1⟩:=Zai hz
 have hr:root.toNat < ns.length:=by omega
 obtain ⟨hGL,hL1,hL2⟩:=Zal (r:=root.toNat) hGO hr
 have hll:=Zfr hGO hr
 obtain ⟨v,hv,hvs⟩:=Zeb hO hGL (i:=0) (by omega)
 rw [hll] at hvs
 rcases hvs with ⟨rfl,hno⟩ | ⟨j,rfl,h1,h2,h3⟩
 ·exact (hno a ha hl).elim
 ·refine ⟨j,?_,?_,h1,h2⟩
  ·unfold findF
   rw [if_neg (by simpa using hz),hv]
   simp only [Option.getD_some]
   rw [if_neg (by omega)]
  ·rcases Nat.lt_or_ge a j with h | h
   ·exact (h3 a h ha hl).elim
   ·exact h
structure StepIs (cs c:List CV):Prop where
 good:HG c
 len:c.length = cs.length
 tot:tot c ≤ 1000
 stays:∀ a:Nat,Z06 cs (a:Int) = true→0 < Z1z cs a→(Z06 c (a:Int) = true∧lb c a = lb cs a∧0 < Z1z c a) ∨
  (Z06 c (a:Int) = false∧Zml c∧∃ j:Nat,j < a∧Z06 c (j:Int) = true∧lb c j = lb cs a∧0 < Z1z c j)
theorem Zjs {cs c:List CV} (hG:HG cs) (ht:tot cs ≤ 1000) (h:Grown cs c):StepIs cs c:=by
 refine ⟨h.good,h.len,by rw [h.tot hG]; exact ht,fun a ha hh => .inl ⟨h.takes ha,h.lab hG.ok.toHOk ha,?_⟩⟩
 unfold Z1z at hh ⊢
 rw [h.keep a ha]
 exact hh
theorem Zt4 {cs c:List CV} (hG:HG cs) (ht:tot cs ≤ 1000) (h:SweepIs cs c):StepIs cs c:=by
 refine ⟨h.good,h.len,by have:=h.tot; omega,fun a ha hh => ?_⟩
 obtain ⟨h1,h2⟩:=h.held hG ha hh
 exact .inl ⟨h1,h.lab hG h1,by omega⟩
theorem Zt3 {cs c:List CV} (hG:HG cs) (ht:tot cs ≤ 1000) (h:MergeIs cs c):StepIs cs c:=by
 refine ⟨h.good,h.len,by rw [h.tot]; exact ht,fun a ha hh => ?_⟩
 obtain ⟨j,h1,h2,h3,h4,h5⟩:=h.goes a ha
 by_cases e:j = a
 ·subst e
  exact .inl ⟨h3,h4,by omega⟩
 ·refine .inr ⟨?_,h.tight hG.ok.toHOk,j,by omega,h3,h4,by omega⟩
  cases hta:Z06 c (a:Int) with
  | false => rfl
  | true =>
   have:=((h.take a).1 hta).2
   omega
structure GoodK (cs:List CV) (x:Int) (ns:List ND):Prop where
 nat:0 ≤ x
 take:Z06 cs x = true
 held:0 < Z1z cs x.toNat
 tree:Z27 cs x.toNat = ns
theorem GoodK.right {cs:List CV} {x:Int} {ns:List ND} (hG:HG cs) (hl:cs.length ≤ 60) (h:GoodK cs x ns):GrOk ns∧1 ≤ ns.length∧ns.length ≤ 60∧(∀ nd ∈ ns,Z1s nd.1 = true)∧lab ns 0 = lb cs x.toNat∧Z15 ns 0 = 0:=by
 have hx:Z06 cs ((x.toNat:Nat):Int) = true:=by rw [Int.toNat_of_nonneg h.nat]; exact h.take
 obtain ⟨g1,g2,g3,g4⟩:=Zc5 hG hl hx
 have g5:=Zsd hG.ok hx
 rw [h.tree] at g1 g2 g3 g4 g5
 exact ⟨g1,g2,g3,g4,g5,Zfd g1 g2 g3 g4 (by decide) (by omega)⟩
theorem Zun {cs c:List CV} {x:Int} {ns:List ND} (hG:HG cs) (hl:cs.length ≤ 60) (hS:StepIs cs c) (h:GoodK cs x ns) :
  (Z06 c x = true∧GoodK c x ns) ∨ (Z06 c x = false∧∃ j:Nat,findF c ns 0 = ((j:Int),0)∧(j:Int) < x∧GoodK c (j:Int) ns):=by
 obtain ⟨n,rfl⟩:∃ n:Nat,x = n:=⟨x.toNat,by have:=h.nat; omega⟩
 obtain ⟨g1,g2,g3,g4,g5,g6⟩:=h.right hG hl
 have ht:=h.take
 have hh:=h.held
 rw [Int.toNat_natCast] at hh g5
 have htr:=h.tree
 rw [Int.toNat_natCast] at htr
 rcases hS.stays n ht hh with ⟨h1,h2,h3⟩ | ⟨h1,h2,j,h3,h4,h5,h6⟩
 ·refine .inl ⟨h1,⟨by omega,h1,by rw [Int.toNat_natCast]; exact h3,?_⟩⟩
  rw [Int.toNat_natCast,← htr]
  exact Zld hS.good.ok hG.ok h1 ht h2
 ·refine .inr ⟨h1,?_⟩
  obtain ⟨z,z1,z2,z3,z4⟩:=Zs2 hS.good.ok.toHOk g6 h4 (h5.trans g5.symm)
  have:z = j:=h2 z j z3 h4 (z4.trans (g5.trans h5.symm))
  subst this
  refine ⟨z,z1,by omega,⟨by omega,h4,by rw [Int.toNat_natCast]; exact h6,?_⟩⟩
  rw [Int.toNat_natCast,← htr]
  exact Zld hS.good.ok hG.ok h4 ht h5
theorem Zxv (cs:List CV) (i j k:Int):tot (tieF cs i j k).2 = tot cs:=by
 unfold tieF
 split
 ·split
  ·rename_i c hc
   simp only
   rw [Zdu hc]
   simp only
   omega
  ·rfl
 ·rfl
theorem Zup {cs:List CV} (hG:HG cs) (i:Int):tot (Z6j cs i).2 ≤ tot cs + 1:=by
 unfold Z6j
 split
 ·simp only; omega
 ·split
  ·rename_i c hc
   split
   ·simp only; omega
   ·have:=hG.held c (List.mem_of_getElem? hc)
    simp only
    unfold setH
    rw [hc]
    simp only
    rw [Zdu hc,IntWalk.i64_in _ (by omega)]
    simp only
    omega
  ·simp only; omega
end Go.Proofs
end
