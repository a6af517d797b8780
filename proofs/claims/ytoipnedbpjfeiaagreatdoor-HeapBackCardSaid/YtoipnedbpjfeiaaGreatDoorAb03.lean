/- Parts of the proof: Draw5, Draw6, Draw7, Sym, Wp. -/
import Derived.Test.YtoipnedbpjfeiaaGreatDoorAb02
set_option linter.all false
set_option linter.unusedSectionVars false
set_option linter.unusedSimpArgs false
set_option linter.unusedVariables false
section
namespace Go.AM
variable [Orc] [OrcOk]
theorem put_defers (a:Act) (dst:Option Tmp) (u:Value):(a.put dst u).defers = a.defers:=by
  unfold Act.put; split <;> rfl
theorem Zok (a:Act) (dst:Option Tmp) (u:Value):(a.put dst u).tmps.size = a.tmps.size:=by
  unfold Act.put; split <;> simp
theorem Zoj {a:Act} {d:Tmp} {u:Value} (h:d < a.tmps.size):(a.put (some d) u).tmps[d]? = some u:=by simp [Act.put,h]
theorem Zcv {a:Act} {dst:Option Tmp} {t:Tmp} {u:Value} (h:dst ≠ some t):(a.put dst u).tmps[t]? = a.tmps[t]?:=by
  cases dst with
  | none => rfl
  | some d => exact Array.getElem?_setIfInBounds_ne (fun e => h (by rw [e]))
def upd {α:Type} (f:Nat→α) (i:Nat) (v:α):Nat→α:=fun j => if j = i then v else f j
theorem Z56 {α:Type} (f:Nat→α) (i:Nat) (v:α):upd f i v i = v:=by simp [upd]
theorem Z55 {α:Type} {f:Nat→α} {i j:Nat} {v:α} (h:j ≠ i):upd f i v j = f j:=by simp [upd,h]
theorem Zr1 {α:Type} {f:Nat→α} {i:Nat} {v:α} {l:List Nat} (h:i ∉ l):(i :: l).map (upd f i v) = v :: l.map f:=by
  rw [List.map_cons,Z56]
  congr 1
  exact List.map_congr_left fun j hj => Z55 fun e => h (e ▸ hj)
open Classical in
noncomputable def hold (p:Prop):Bool:=decide p
theorem Z1x {p:Prop}:hold p = true ↔ p:=by simp [hold]
theorem Zpt {P:Program} {t:TypeId} {x:Option AVal} {s s':St} {K K':VK} (h:Z6r P t x s K = true) (hb:∀ b off,x = some (.ptr b off)→PT.get b s'.heap = PT.get b s.heap) (hK:∀ v,K v s = true→K' v s' = true) :
    Z6r P t x s' K' = true:=by
  obtain ⟨n,hn,h1⟩:=Z01.1 h
  obtain ⟨a,ha,h2⟩:=Z01.1 h1
  obtain ⟨b,off,rfl,h3⟩:=AVal.Z29.1 h2
  obtain ⟨cs,ro,hc,h4⟩:=Z1i.1 h3
  obtain ⟨v,hv,hd⟩:=Zg4 h4
  exact Z01.2 ⟨n,hn,Z01.2 ⟨_,ha,AVal.Z29.2 ⟨b,off,rfl,Z1i.2 ⟨cs,ro,(hb b off ha).trans hc,hd (fun v => K' v s') (hK v hv)⟩⟩⟩⟩
theorem Zk6 {P:Program} {rec:RecT} {o:Op} {ρ:Operand→Option AVal} {T:St} {K:VK} (hc:Z15 P o ≤ 1) (h:opK P rec o ρ T K = true) :
    ∃ v,K v T = true∧∀ T',Grown T T'→∀ K':VK,K' v T' = true→opK P rec o ρ T' K' = true:=by
  rcases Nat.lt_or_ge (Z15 P o) 1 with h0 | h1
  · have h0:Z15 P o = 0:=by omega
    rw [Za1 h0 T T] at h
    obtain ⟨v,h1,h2⟩:=opK_det (P:=P) (rec:=rec) (s:=T) (ρ:=ρ) h0 (fun v => K v T) h
    refine ⟨v,h1,fun T' _ K' hk => ?_⟩
    rw [Za1 h0 T' T]
    exact h2 (fun v => K' v T') hk
  · obtain ⟨t,a,rfl⟩:=Zfz (P:=P) (o:=o) (by omega)
    obtain ⟨v,h1,h2⟩:=Zsx (show Z6r P t (ρ a) T K = true from h)
    exact ⟨v,h1,fun T' hg K' hk => h2 T' hg K' hk⟩
section
variable (P:Program) (rec:RecT) (ops:Array Oper) (masks:List Nat) (tree:PT AVal)
def Z32 (vals:Nat→AVal) (i:Nat) (T:St):Prop :=
  Z2g ops (opAt ops i) (rho ops masks tree vals i) (opK P rec (opAt ops i).op (rho ops masks tree vals i) T fun v s => hold (v = vals i∧s = T)) (hold (vals i = .tup [])) = true
def Z9l (vals:Nat→AVal) (nm:Nat→Option Pos) (i:Nat) (T:St):Prop :=
  Z2g ops (opAt ops i) (rho ops masks tree vals i) (hold (∃ x v q,nm i = some q∧vals i = v q∧PT.get q T.heap = some x ∧
    ∀ ι ρc,(∀ y,ORl ι (rho ops masks tree vals i y) (ρc y))→Lays P ι x v (fun w => (execOp ρc (opAt ops i)).run P w))) (hold (vals i = .tup [])) = true
def Prom (vals:Nat→AVal) (nm:Nat→Option Pos) (i:Nat) (T:St):Prop :=
  (cls P ops i ≤ 1∧Z32 P rec ops masks tree vals i T) ∨ (cls P ops i = 2∧Z9l P ops masks tree vals nm i T)
end
section
variable {P:Program} {rec:RecT} {ops:Array Oper} {masks:List Nat} {tree:PT AVal}
theorem Z32.to {vals:Nat→AVal} {i:Nat} {T T':St} (hc:cls P ops i ≤ 1) (hg:Grown T T') (h:Z32 P rec ops masks tree vals i T):Z32 P rec ops masks tree vals i T':=by
  unfold Z32 at h ⊢
  rcases Z7v h with ⟨h1,h2⟩ | ⟨h1,h2⟩
  · rw [h2]
    obtain ⟨v,h3,h4⟩:=Zk6 hc h1
    exact h4 T' hg _ (Z1x.2 ⟨(Z1x.1 h3).1,rfl⟩)
  · rw [h2]; exact h1
theorem Prom.grow {vals:Nat→AVal} {nm:Nat→Option Pos} {i:Nat} {T T':St} (hg:Grown T T') (h:Prom P rec ops masks tree vals nm i T):Prom P rec ops masks tree vals nm i T':=by
  rcases h with ⟨hc,h⟩ | ⟨hc,h⟩
  · exact .inl ⟨hc,h.to hc hg⟩
  · refine .inr ⟨hc,?_⟩
    unfold Z9l at h ⊢
    rcases Z7v h with ⟨h1,h2⟩ | ⟨h1,h2⟩
    · rw [h2]
      obtain ⟨x,v,q,e1,e2,e3,e4⟩:=Z1x.1 h1
      exact Z1x.2 ⟨x,v,q,e1,e2,hg _ _ e3,e4⟩
    · rw [h2]; exact h1
theorem Prom.congr {vals vals':Nat→AVal} {nm nm':Nat→Option Pos} {i:Nat} {T:St} (hv:∀ j,Anc masks i j→vals j = vals' j) (hi:vals i = vals' i) (hn:nm i = nm' i) (h:Prom P rec ops masks tree vals nm i T):Prom P rec ops masks tree vals' nm' i T:=by
  have hr:rho ops masks tree vals i = rho ops masks tree vals' i:=Zg6 hv
  unfold Prom Z32 Z9l at h ⊢
  rw [← hr,← hi,← hn]
  exact h
end
section
variable (P:Program) (rec:RecT) (ops:Array Oper) (masks:List Nat) (tree:PT AVal) (fi:FI) (k:PT AVal→St→Bool) (a0:Act) (ι0:Ren) (w0:World)
structure Inv (pre:List Nat) (vals:Nat→AVal) (nm:Nat→Option Pos) (T:St) (L:Nat→Prop) (ι:Ren) (a:Act) (w:World) (pl:List PItem) (done:Nat):Prop where
  wr:WRel P ι T w
  ext:Ext ι0 w0 ι w
  defs:a.defers = a0.defers
  size:a.tmps.size = a0.tmps.size
  sub:∀ i,L i→i ∈ pre
  lt:∀ i ∈ pre,i < ops.size
  anc:∀ i ∈ pre,∀ j,Anc masks i j→j ∈ pre
  lanc:∀ i,L i→∀ j,Anc masks i j→L j
  t1:∀ j,L j→∀ d,Z0t ops j = some d→∃ u,a.tmps[d]? = some u∧VRel ι (vals j) u
  t2:∀ t,(∀ j,L j→Z0t ops j ≠ some t)→a.tmps[t]? = a0.tmps[t]?
  effs:∀ i ∈ pre,2 < cls P ops i→L i
  prom:∀ i ∈ pre,¬ L i→Prom P rec ops masks tree vals nm i T
  names:∀ i ∈ pre,¬ L i→∀ q,nm i = some q→ι q = none∧q.toNat < T.next.toNat
  apart:∀ i ∈ pre,∀ j ∈ pre,¬ L i→¬ L j→i ≠ j→∀ q,nm i = some q→nm j ≠ some q
  nmk:∀ i q,nm i = some q→cls P ops i = 2
  bits:∀ j,done.testBit j = true ↔ j ∈ pre
  plan:Z6s P ops masks pl done = true
  cont:Z2s P rec fi ops (Z3w ops pl) (pre.map (Z0t ops)) (pre.map vals) tree T k = true
end
section
variable {P:Program} {rec:RecT} {ops:Array Oper} {masks:List Nat} {tree:PT AVal} {fi:FI} {k:PT AVal→St→Bool} {a0:Act} {ι0:Ren} {w0:World}
  {pre:List Nat} {vals:Nat→AVal} {nm:Nat→Option Pos} {T:St} {L:Nat→Prop} {ι:Ren} {a:Act} {w:World} {pl:List PItem} {done:Nat}
theorem Zcd (hb:∀ j,done.testBit j = true ↔ j ∈ pre) (i j:Nat):(done ||| (1 <<< i)).testBit j = true ↔ j ∈ i :: pre:=by
  rw [Nat.testBit_or,Bool.or_eq_true,Nat.one_shiftLeft,Nat.testBit_two_pow,decide_eq_true_eq,hb j,List.mem_cons]
  constructor
  · rintro (h | h)
    · exact .inr h
    · exact .inl h.symm
  · rintro (h | h)
    · exact .inr h.symm
    · exact .inl h
theorem Z8f {i:Nat} (hb:∀ j,done.testBit j = true ↔ j ∈ pre) (hlt:∀ i ∈ pre,i < ops.size) (h:Zg8 ops masks i done = true) :
    i < ops.size∧i ∉ pre∧(∀ j,Anc masks i j→j ∈ pre)∧∀ j ∈ pre,Anc masks i j ∨ ∀ d,Z0t ops j = some d→d ∉ Z71 ops i:=by
  unfold Zg8 at h
  simp only [Bool.and_eq_true,decide_eq_true_eq,Bool.not_eq_true',beq_iff_eq] at h
  obtain ⟨⟨⟨h1,h2⟩,h3⟩,h4⟩:=h
  refine ⟨h1,fun hm => ?_,fun j hj => ?_,fun j hj => ?_⟩
  · have:=(hb i).2 hm
    rw [h2] at this; cases this
  · have:=congrArg (fun m => m.testBit j) h3
    simp only [Nat.testBit_and] at this
    rw [show (maskAt masks i).testBit j = true from hj] at this
    exact (hb j).1 (by simpa using this)
  · have:=List.all_eq_true.1 h4 j (by simpa using hlt j hj)
    rw [(hb j).2 hj] at this
    simp only [Bool.not_true,Bool.false_or,Bool.or_eq_true] at this
    rcases this with h5 | h5
    · exact .inl h5
    · refine .inr fun d e => ?_
      rw [show (opAt ops j).dst = some d from e] at h5
      simpa using h5
theorem Inv.push {i:Nat} {T':St} {v:AVal} {nq:Option Pos} {r:List PItem} (h:Inv P rec ops masks tree fi k a0 ι0 w0 pre vals nm T L ι a w pl done) (hi:i < ops.size) (hn:i ∉ pre) (ha:∀ j,Anc masks i j→j ∈ pre) (hc:cls P ops i ≤ 2)
    (hg:Grown T T') (hnx:T.next.toNat ≤ T'.next.toNat) (hp:Prom P rec ops masks tree (upd vals i v) (upd nm i nq) i T')
    (hq:∀ q,nq = some q→cls P ops i = 2∧ι q = none∧q.toNat < T'.next.toNat∧∀ j ∈ pre,¬ L j→nm j ≠ some q)
    (hpl:Z6s P ops masks r (done ||| (1 <<< i)) = true) (hk:Z2s P rec fi ops (Z3w ops r) (Z0t ops i :: pre.map (Z0t ops)) (v :: pre.map vals) tree T' k = true) :
    Inv P rec ops masks tree fi k a0 ι0 w0 (i :: pre) (upd vals i v) (upd nm i nq) T' L ι a w r (done ||| (1 <<< i)):=by
  have hLi:¬ L i:=fun e => hn (h.sub i e)
  have hne:∀ j ∈ pre,j ≠ i:=fun j hj e => hn (e ▸ hj)
  refine ⟨h.wr.grow hg hnx,h.ext,h.defs,h.size,fun j hj => List.mem_cons_of_mem _ (h.sub j hj),?_,?_,h.lanc,?_,h.t2,?_,?_,?_,?_,?_,Zcd h.bits i,hpl,?_⟩
  · intro j hj
    rcases List.mem_cons.1 hj with rfl | hj
    · exact hi
    · exact h.lt j hj
  · intro j hj m hm
    rcases List.mem_cons.1 hj with rfl | hj
    · exact List.mem_cons_of_mem _ (ha m hm)
    · exact List.mem_cons_of_mem _ (h.anc j hj m hm)
  · intro j hj d hd
    rw [Z55 (hne j (h.sub j hj))]
    exact h.t1 j hj d hd
  · intro j hj hcj
    rcases List.mem_cons.1 hj with rfl | hj
    · omega
    · exact h.effs j hj hcj
  · intro j hj hLj
    rcases List.mem_cons.1 hj with rfl | hj
    · exact hp
    · refine Prom.congr (fun m hm => ?_) ?_ ?_ ((h.prom j hj hLj).grow hg)
      · rw [Z55 (hne m (h.anc j hj m hm))]
      · rw [Z55 (hne j hj)]
      · rw [Z55 (hne j hj)]
  · intro j hj hLj q e
    rcases List.mem_cons.1 hj with rfl | hj
    · rw [Z56] at e
      exact ⟨(hq q e).2.1,(hq q e).2.2.1⟩
    · rw [Z55 (hne j hj)] at e
      obtain ⟨h1,h2⟩:=h.names j hj hLj q e
      exact ⟨h1,by omega⟩
  · intro j hj m hm hLj hLm hjm q e
    rcases List.mem_cons.1 hj with rfl | hj
    · rw [Z56] at e
      rcases List.mem_cons.1 hm with rfl | hm
      · exact absurd rfl hjm
      · rw [Z55 (hne m hm)]
        exact (hq q e).2.2.2 m hm hLm
    · have hj':=hj
      rw [Z55 (hne j hj)] at e
      rcases List.mem_cons.1 hm with rfl | hm
      · rw [Z56]
        intro e'
        exact (hq q e').2.2.2 j hj' hLj e
      · rw [Z55 (hne m hm)]
        exact h.apart j hj m hm hLj hLm hjm q e
  · intro j q e
    by_cases hj:j = i
    · subst hj
      rw [Z56] at e
      exact (hq q e).1
    · rw [Z55 hj] at e
      exact h.nmk j q e
  · rw [List.map_cons,Zr1 hn]
    exact hk
theorem Inv.settle (ht : TmpsOk ops masks) : ∀ (pl : List PItem) (pre : List Nat) (vals : Nat → AVal) (nm : Nat → Option Pos) (T : St) (done : Nat), Inv P rec ops masks tree fi k a0 ι0 w0 pre vals nm T L ι a w pl done →
    ∃ pre' vals' nm' T' pl' done', Inv P rec ops masks tree fi k a0 ι0 w0 pre' vals' nm' T' L ι a w pl' done' ∧ (pl' = [] ∨ ∃ i cs r, pl' = .eff i cs :: r)
  | [], pre, vals, nm, T, done, h => ⟨pre, vals, nm, T, [], done, h, .inl rfl⟩
  | .eff i cs :: r, pre, vals, nm, T, done, h => ⟨pre, vals, nm, T, _, done, h, .inr ⟨i, cs, r, rfl⟩⟩
  | .calm i :: r, pre, vals, nm, T, done, h => by
    have hpl := h.plan
    simp only [Z6s, Bool.and_eq_true, decide_eq_true_eq] at hpl
    obtain ⟨⟨hst, hc⟩, hr⟩ := hpl
    obtain ⟨hi, hn, ha, hrd⟩ := Z8f h.bits h.lt hst
    have hlook := fun x hx => Zco (tree := tree) ht (vals := vals) h.lt ha hrd x hx
    have hk : Z2g ops (opAt ops i) (fun x => getO tree (pre.map vals) (Z06 (pre.map (Z0t ops)) x))
        (opK P rec (opAt ops i).op (fun x => getO tree (pre.map vals) (Z06 (pre.map (Z0t ops)) x)) T fun v s => Z2s P rec fi ops (Z3w ops r) (Z0t ops i :: pre.map (Z0t ops)) (v :: pre.map vals) tree s k)
        (Z2s P rec fi ops (Z3w ops r) (Z0t ops i :: pre.map (Z0t ops)) (.tup [] :: pre.map vals) tree T k) = true := h.cont
    rw [Z9b (fun t ht => hlook (.tmp t) (fun t' e => by cases e; exact ht)), Zcs (ρ' := rho ops masks tree vals i) (fun x hx => hlook x (fun t e => Zbh (e ▸ hx)))] at hk
    have hri : ∀ v, rho ops masks tree (upd vals i v) i = rho ops masks tree vals i := fun v => Zg6 fun j hj => Z55 fun e => hn (e ▸ ha j hj)
    have hqn : ∀ q, (none : Option Pos) = some q → cls P ops i = 2 ∧ ι q = none ∧ q.toNat < T.next.toNat ∧ ∀ j ∈ pre, ¬ L j → nm j ≠ some q := fun q e => by cases e
    rcases Z7v hk with ⟨h1, h2⟩ | ⟨h1, h2⟩
    · obtain ⟨v, h3, h4⟩ := Zk6 hc h1
      refine Inv.settle ht r _ _ _ _ _ (h.push (v := v) (nq := none) hi hn ha (Nat.le_trans hc (by decide)) (Grown.refl T) (Nat.le_refl _) (.inl ⟨hc, ?_⟩) hqn hr h3)
      unfold Z32
      rw [hri, h2, Z56]
      exact h4 T (Grown.refl T) _ (Z1x.2 ⟨rfl, rfl⟩)
    · refine Inv.settle ht r _ _ _ _ _ (h.push (v := .tup []) (nq := none) hi hn ha (Nat.le_trans hc (by decide)) (Grown.refl T) (Nat.le_refl _) (.inl ⟨hc, ?_⟩) hqn hr h1)
      unfold Z32
      rw [hri, h2, Z56]
      exact Z1x.2 rfl
  | .make i :: r, pre, vals, nm, T, done, h => by
    have hpl := h.plan
    simp only [Z6s, Bool.and_eq_true, beq_iff_eq] at hpl
    obtain ⟨⟨hst, hc⟩, hr⟩ := hpl
    obtain ⟨hi, hn, ha, hrd⟩ := Z8f h.bits h.lt hst
    have hlook := fun x hx => Zco (tree := tree) ht (vals := vals) h.lt ha hrd x hx
    have hk0 : @Option.rec AObj (fun _ => Bool) (Z2g ops (opAt ops i) (fun x => getO tree (pre.map vals) (Z06 (pre.map (Z0t ops)) x))
        (opK P rec (opAt ops i).op (fun x => getO tree (pre.map vals) (Z06 (pre.map (Z0t ops)) x)) T fun v s => Z2s P rec fi ops (Z3w ops r) (Z0t ops i :: pre.map (Z0t ops)) (v :: pre.map vals) tree s k)
        (Z2s P rec fi ops (Z3w ops r) (Z0t ops i :: pre.map (Z0t ops)) (.tup [] :: pre.map vals) tree T k)) (fun _ => fail 56) (PT.get T.next T.heap) = true := h.cont
    cases hfr : PT.get T.next T.heap with
    | some y => rw [hfr] at hk0; cases hk0
    | none =>
      rw [hfr] at hk0
      have hk := hk0
      simp only at hk
      rw [Z9b (fun t ht => hlook (.tmp t) (fun t' e => by cases e; exact ht)), Zcs (ρ' := rho ops masks tree vals i) (fun x hx => hlook x (fun t e => Zbh (e ▸ hx)))] at hk
      have hri : ∀ v, rho ops masks tree (upd vals i v) i = rho ops masks tree vals i := fun v => Zg6 fun j hj => Z55 fun e => hn (e ▸ ha j hj)
      rcases Z7v hk with ⟨h1, h2⟩ | ⟨h1, h2⟩
      · obtain ⟨x, v, _, h3, h4⟩ := Zrr hc h1
        have hsucc : T.next.succ.toNat = T.next.toNat + 1 := Pos.Zbn _
        refine Inv.settle ht r _ _ _ _ _ (h.push (T' := { heap := PT.set T.next x T.heap, next := T.next.succ }) (v := v T.next) (nq := some T.next) hi hn ha (Nat.le_of_eq hc) (Grown.set hfr) (by simp only [hsucc]; omega) (.inr ⟨hc, ?_⟩) (fun q e => ?_) hr h3)
        · unfold Z9l
          rw [hri, h2, Z56, Z56]
          exact Z1x.2 ⟨x, v, T.next, rfl, rfl, PT.Z1p _ _ _, h4⟩
        · cases e
          refine ⟨hc, h.wr.Z7k, by simp only [hsucc]; omega, fun j hj hLj e => ?_⟩
          have := (h.names j hj hLj _ e).2
          omega
      · refine Inv.settle ht r _ _ _ _ _ (h.push (v := .tup []) (nq := none) hi hn ha (Nat.le_of_eq hc) (Grown.refl T) (Nat.le_refl _) (.inr ⟨hc, ?_⟩) (fun q e => by cases e) hr h1)
        unfold Z9l
        rw [hri, h2, Z56]
        exact Z1x.2 rfl
end
end Go.AM
end
section
namespace Go.AM
variable [Orc] [OrcOk]
theorem Zwu {a b:Cap} (h:Zch a b = true):a = b:=by
  cases a <;> cases b <;> simp [Zch] at h <;> rw [h]
theorem Zk3 {f:AVal→AVal→Bool} (hf:∀ x y,f x y = true→x = y):∀ (a b:List AVal),a.length = b.length→((a.zip b).all fun x => f x.1 x.2) = true→a = b
  | [],[],_,_ => rfl
  | [],_ :: _,h,_ => by simp at h
  | _ :: _,[],h,_ => by simp at h
  | x :: a,y :: b,h,e => by
    simp only [List.zip_cons_cons,List.all_cons,Bool.and_eq_true] at e
    rw [hf x y e.1,Zk3 hf a b (by simpa using h) e.2]
theorem Z9r:∀ (d:Nat) (a b:AVal),Z2l d a b = true→a = b
  | 0,a,b,h => by simp [Z2l] at h
  | d + 1,a,b,h => by
    cases a <;> cases b <;> simp only [Z2l,Bool.and_eq_true,beq_iff_eq,Bool.false_eq_true] at h <;> first
      | rfl
      | (rw [h])
      | (rw [h.1,h.2])
      | (rw [Pos.toNat_inj h])
      | (rw [Pos.toNat_inj h.1,h.2])
      | (rw [Pos.toNat_inj h.1.1.1,h.1.1.2,h.1.2,Zwu h.2])
      | (rw [Zk3 (Z9r d) _ _ h.1 h.2])
      | (rw [h.1.1.1.1,Zk3 (Z9r d) _ _ h.1.1.1.2 h.1.2,Zk3 (Z9r d) _ _ h.1.1.2 h.2])
      | (cases h)
section
variable {P:Program} {rec:RecT} {ops:Array Oper} {masks:List Nat} {tree:PT AVal} {fi:FI} {k:PT AVal→St→Bool} {a0:Act} {ι0:Ren} {w0:World}
  {pre:List Nat} {vals:Nat→AVal} {nm:Nat→Option Pos} {T:St} {L:Nat→Prop} {ι:Ren} {a:Act} {w:World} {pl:List PItem} {done:Nat} {F:Fence} {m:Nat} {Q:Exit→Act→World→Prop} {i:Nat}
theorem Z7m (h:i < ops.size):ops[i]? = some (opAt ops i):=by
  unfold opAt
  simp [h]
theorem Inv.real (h:Inv P rec ops masks tree fi k a0 ι0 w0 pre vals nm T L ι a w pl done) (ht:TmpsOk ops masks) (h0:∀ t v,PT.get (posOf t) tree = some v→∃ u,a0.tmps[t]? = some u∧VRel ι0 v u) (hi:i < ops.size) (hL:¬ L i)
    (hanc:∀ j,Anc masks i j→L j) (x:Operand):ORl ι (rho ops masks tree vals i x) (a.eval x) :=
  Zv8 ht hi hL (fun j hj => h.lt j (h.sub j hj)) hanc h.lanc h.t1 h.t2 (fun t v e => let ⟨u,h1,h2⟩:=h0 t v e; ⟨u,h1,h2.mono h.ext.le⟩) x
theorem Inv.ran (h:Inv P rec ops masks tree fi k a0 ι0 w0 pre vals nm T L ι a w pl done) (ht:TmpsOk ops masks) (hds:∀ d,Z0t ops i = some d→d < a0.tmps.size) (hi:i ∈ pre) (hL:¬ L i) (hanc:∀ j,Anc masks i j→L j)
    {ι':Ren} {u:Value} {w':World} (hw:WRel P ι' T w') (he:Ext ι w ι' w') (hv:VRel ι' (vals i) u) (hnames:∀ j ∈ pre,¬ L j→j ≠ i→∀ q,nm j = some q→ι' q = none) :
    Inv P rec ops masks tree fi k a0 ι0 w0 pre vals nm T (fun j => L j ∨ j = i) ι' (a.put (Z0t ops i) u) w' pl done:=by
  refine ⟨hw,h.ext.trans he,(put_defers a _ u).trans h.defs,(Zok a _ u).trans h.size,?_,h.lt,h.anc,?_,?_,?_,?_,?_,?_,?_,h.nmk,h.bits,h.plan,h.cont⟩
  · rintro j (hj | rfl)
    · exact h.sub j hj
    · exact hi
  · rintro j (hj | rfl) x hx
    · exact .inl (h.lanc j hj x hx)
    · exact .inl (hanc x hx)
  · rintro j (hj | rfl) d hd
    · obtain ⟨u',h1,h2⟩:=h.t1 j hj d hd
      refine ⟨u',?_,h2.mono he.le⟩
      rw [Zcv]
      · exact h1
      · intro e
        have:=ht.one i j d (h.lt i hi) (h.lt j (h.sub j hj)) e hd
        exact hL (this ▸ hj)
    · rw [hd]
      exact ⟨u,Zoj (by rw [h.size]; exact hds d hd),hv⟩
  · intro t hno
    rw [Zcv (hno i (.inr rfl))]
    exact h.t2 t fun j hj => hno j (.inl hj)
  · intro j hj hc
    exact .inl (h.effs j hj hc)
  · intro j hj hLj
    exact h.prom j hj fun e => hLj (.inl e)
  · intro j hj hLj q e
    exact ⟨hnames j hj (fun e => hLj (.inl e)) (fun e => hLj (.inr e)) q e,(h.names j hj (fun e => hLj (.inl e)) q e).2⟩
  · intro j hj x hx hLj hLx
    exact h.apart j hj x hx (fun e => hLj (.inl e)) (fun e => hLx (.inl e))
theorem Zw5 (hs:Sound P rec) (hF:∀ f,F.fn f) (hd:F.depth = none) (h:Inv P rec ops masks tree fi k a0 ι0 w0 pre vals nm T L ι a w pl done) (ht:TmpsOk ops masks) (hds:∀ d,Z0t ops i = some d→d < a0.tmps.size)
    (h0:∀ t v,PT.get (posOf t) tree = some v→∃ u,a0.tmps[t]? = some u∧VRel ι0 v u) (hi:i ∈ pre) (hL:¬ L i) (hanc:∀ j,Anc masks i j→L j) (hc:cls P ops i ≤ 1) {K:Act→World→Prop}
    (hK:∀ ι' a' w',Inv P rec ops masks tree fi k a0 ι0 w0 pre vals nm T (fun j => L j ∨ j = i) ι' a' w' pl done→K a' w'):wpOpIn F m P ops Q i K a w:=by
  have hlt:=h.lt i hi
  have hreal:=h.real ht h0 hlt hL hanc
  have hp:Z32 P rec ops masks tree vals i T:=by
    rcases h.prom i hi hL with ⟨_,hp⟩ | ⟨hc2,_⟩
    · exact hp
    · omega
  unfold wpOpIn
  rw [Z7m hlt]
  show if Region.wanted (opAt ops i) (yielded ops a.tmps) = true then _ else _
  have hno:∀ j ∈ pre,¬ L j→j ≠ i→∀ q,nm j = some q→ι q = none:=fun j hj hLj _ q e => (h.names j hj hLj q e).1
  rcases Zab hp hreal with ⟨hw,h1⟩ | ⟨hw,h1⟩
  · rw [if_pos hw]
    have h2:opK P rec (opAt ops i).op (rho ops masks tree vals i) (T.known ι) (fun v s => hold (v = vals i∧s = T.known ι)) = true:=by
      rcases Nat.lt_or_ge (cls P ops i) 1 with hc0 | hc1
      · have hc0:Z15 P (opAt ops i).op = 0:=Nat.lt_one_iff.1 hc0
        rw [Za1 hc0 (T.known ι) T]
        rw [Za1 hc0 T T] at h1
        have:(fun v (_:St) => hold (v = vals i∧T = T)) = (fun v (_:St) => hold (v = vals i∧T.known ι = T.known ι)):=by
          funext v _
          simp [hold]
        rw [← this]
        exact h1
      · obtain ⟨t,x,hx⟩:=Zfz (P:=P) (o:=(opAt ops i).op) (Nat.le_antisymm hc hc1)
        rw [hx] at h1 ⊢
        refine Zpt (K:=fun v s => hold (v = vals i∧s = T)) (K':=fun v s => hold (v = vals i∧s = T.known ι)) (show Z6r P t (rho ops masks tree vals i x) T (fun v s => hold (v = vals i∧s = T)) = true from h1) (fun b off e => ?_) (fun v hv => Z1x.2 ⟨(Z1x.1 hv).1,rfl⟩)
        have hrel:=hreal x _ e
        generalize a.eval x = gx at hrel
        cases hrel with
        | ptr hb => exact St.Z7h (by simp [hb])
    refine Zi4 hs h2 hF hd h.wr.known hreal fun v w' ι' s' av he hw' hv hk => ?_
    obtain ⟨rfl,rfl⟩:=Z1x.1 hk
    have hι:ι' = ι:=WRel.Ztb he.le hw'
    subst hι
    exact hK _ _ _ (h.ran ht hds hi hL hanc (h.wr.unknown hw') he hv hno)
  · rw [if_neg (by rw [hw]; simp)]
    refine ⟨fun f _ => hF f,hK ι _ _ (h.ran ht hds hi hL hanc h.wr (Ext.refl ι w) ?_ hno)⟩
    rw [Z1x.1 h1]
    exact .tup .nil
theorem Zw6 (hF:∀ f,F.fn f) (h:Inv P rec ops masks tree fi k a0 ι0 w0 pre vals nm T L ι a w pl done) (ht:TmpsOk ops masks) (hds:∀ d,Z0t ops i = some d→d < a0.tmps.size)
    (h0:∀ t v,PT.get (posOf t) tree = some v→∃ u,a0.tmps[t]? = some u∧VRel ι0 v u) (hi:i ∈ pre) (hL:¬ L i) (hanc:∀ j,Anc masks i j→L j) (hc:cls P ops i = 2) {K:Act→World→Prop}
    (hK:∀ ι' a' w',Inv P rec ops masks tree fi k a0 ι0 w0 pre vals nm T (fun j => L j ∨ j = i) ι' a' w' pl done→K a' w'):wpOpIn F m P ops Q i K a w:=by
  have hlt:=h.lt i hi
  have hreal:=h.real ht h0 hlt hL hanc
  have hp:Z9l P ops masks tree vals nm i T:=by
    rcases h.prom i hi hL with ⟨hc2,_⟩ | ⟨_,hp⟩
    · omega
    · exact hp
  unfold wpOpIn
  rw [Z7m hlt]
  show if Region.wanted (opAt ops i) (yielded ops a.tmps) = true then _ else _
  rcases Zab hp hreal with ⟨hw,h1⟩ | ⟨hw,h1⟩
  · rw [if_pos hw]
    obtain ⟨x,v,q,e1,e2,e3,e4⟩:=Z1x.1 h1
    obtain ⟨obj,u,sz,hrun,hlay⟩:=e4 ι a.eval hreal w
    have hrun:(execOp a.eval (opAt ops i)).run P w = .ok (.value u) { w with heap:=w.heap.push obj }:=hrun
    obtain ⟨hqn,hqlt⟩:=h.names i hi hL q e1
    obtain ⟨hv,hx⟩:=hlay (Ren.set ι q ⟨w.heap.size,0,sz,false⟩) q (Ren.Z9e hqn) (Ren.Z41 _ _ _)
    obtain ⟨hw',he'⟩:=h.wr.adopt e3 hqn hqlt hx
    have hnd:∀ c,(opAt ops i).op ≠ .defer c:=fun c e => by
      have:Z15 P (opAt ops i).op = 2:=hc
      rw [e] at this
      simp [Z15] at this
    refine ⟨fun f _ => hF f,?_⟩
    rw [Oper.semAt_eq _ _ _ hnd,hrun]
    show K _ _
    refine hK _ _ _ (h.ran ht hds hi hL hanc hw' he' (e2 ▸ hv) fun j hj hLj hji q' e => ?_)
    have hne:q' ≠ q:=fun e' => h.apart j hj i hi hLj hL hji q' e (e' ▸ e1)
    rw [Ren.Zox hne]
    exact (h.names j hj hLj q' e).1
  · rw [if_neg (by rw [hw]; simp)]
    refine ⟨fun f _ => hF f,hK ι _ _ (h.ran ht hds hi hL hanc h.wr (Ext.refl ι w) ?_ fun j hj hLj _ q e => (h.names j hj hLj q e).1)⟩
    rw [Z1x.1 h1]
    exact .tup .nil
theorem chks (ht : TmpsOk ops masks) (hlt : ∀ j ∈ pre, j < ops.size) (hanc : ∀ i ∈ pre, ∀ j, Anc masks i j → j ∈ pre) {R : List DItem} : ∀ (cs : List Nat), (∀ j ∈ cs, j ∈ pre ∧ cls P ops j ≤ 1 ∧ (Z0t ops j).isSome = true ∧ ∀ x ∈ pre, Anc masks j x ∨ ∀ d, Z0t ops x = some d → d ∉ Z71 ops j) →
    Z2s P rec fi ops (cs.map (fun j => .chk (opAt ops j)) ++ R) (pre.map (Z0t ops)) (pre.map vals) tree T k = true →
    Z2s P rec fi ops R (pre.map (Z0t ops)) (pre.map vals) tree T k = true ∧ ∀ j ∈ cs, ∀ T0, Z32 P rec ops masks tree vals j T0 → Z32 P rec ops masks tree vals j T
  | [], _, h => ⟨h, fun j hj => by cases hj⟩
  | j :: cs, hcs, h => by
    obtain ⟨hj, hc, hds, hrd⟩ := hcs j (by simp)
    have hlook := fun x hx => Zco (tree := tree) ht (vals := vals) hlt (hanc j hj) hrd x hx
    have h : Z2g ops (opAt ops j) (fun x => getO tree (pre.map vals) (Z06 (pre.map (Z0t ops)) x))
        (opK P rec (opAt ops j).op (fun x => getO tree (pre.map vals) (Z06 (pre.map (Z0t ops)) x)) T fun v _ => optK (opAt ops j).dst fun d => optK (getO tree (pre.map vals) (Z06 (pre.map (Z0t ops)) (.tmp d))) fun u =>
          ifK (Z2l 8 v u) (Z2s P rec fi ops (cs.map (fun j => .chk (opAt ops j)) ++ R) (pre.map (Z0t ops)) (pre.map vals) tree T k) (fail 49))
        (Z2s P rec fi ops (cs.map (fun j => .chk (opAt ops j)) ++ R) (pre.map (Z0t ops)) (pre.map vals) tree T k) = true := h
    rw [Z9b (fun t ht => hlook (.tmp t) (fun t' e => by cases e; exact ht)), Zcs (ρ' := rho ops masks tree vals j) (fun x hx => hlook x (fun t e => Zbh (e ▸ hx)))] at h
    rcases Z7v h with ⟨h1, h2⟩ | ⟨h1, h2⟩
    · obtain ⟨v, h3, h4⟩ := Zk6 hc h1
      obtain ⟨d, hd, h5⟩ := Z01.1 h3
      obtain ⟨u, hu, h6⟩ := Z01.1 h5
      rcases Z03.1 h6 with ⟨h7, h8⟩ | ⟨_, h8⟩
      · have hvu := Z9r _ _ _ h7
        subst hvu
        have huv : v = vals j := by
          simp only [Z06] at hu
          cases hi : idxOf d (pre.map (Z0t ops)) 0 with
          | none => exact absurd hd (Z7x pre hi j hj)
          | some e =>
            rw [hi] at hu
            obtain ⟨j', g1, g2⟩ := Zcl pre hi
            have : j' = j := ht.one j' j d (hlt _ (List.mem_of_getElem? g1)) (hlt j hj) g2 hd
            subst this
            have hu : nthO (pre.map vals) e = some v := hu
            rw [Zgp] at hu
            simp [g1] at hu
            exact hu.symm
        subst huv
        obtain ⟨h9, h10⟩ := chks ht hlt hanc cs (fun x hx => hcs x (by simp [hx])) h8
        refine ⟨h9, fun x hx T0 hp => ?_⟩
        rcases List.mem_cons.1 hx with rfl | hx
        · unfold Z32
          rw [h2]
          exact h4 T (Grown.refl T) _ (Z1x.2 ⟨rfl, rfl⟩)
        · exact h10 x hx T0 hp
      · cases h8
    · obtain ⟨h9, h10⟩ := chks ht hlt hanc cs (fun x hx => hcs x (by simp [hx])) h1
      refine ⟨h9, fun x hx T0 hp => ?_⟩
      rcases List.mem_cons.1 hx with rfl | hx
      · unfold Z32 at hp ⊢
        rw [h2] at hp ⊢
        exact hp
      · exact h10 x hx T0 hp
theorem Zom {j:Nat} {dn:Nat} {pr:List Nat} (hb:∀ x,dn.testBit x = true ↔ x ∈ pr) (hlt:∀ x ∈ pr,x < ops.size) (h:Zki ops masks j dn = true):∀ x ∈ pr,Anc masks j x ∨ ∀ d,Z0t ops x = some d→d ∉ Z71 ops j:=by
  intro x hx
  have:=List.all_eq_true.1 h x (by simpa using hlt x hx)
  rw [(hb x).2 hx] at this
  simp only [Bool.not_true,Bool.false_or,Bool.or_eq_true] at this
  rcases this with h5 | h5
  · exact .inl h5
  · refine .inr fun d e => ?_
    rw [show (opAt ops x).dst = some d from e] at h5
    simpa using h5
theorem Zy2 (hs : Sound P rec) (hF : ∀ f, F.fn f) (hd : F.depth = none) {cs : List Nat} {r : List PItem} (h : Inv P rec ops masks tree fi k a0 ι0 w0 pre vals nm T L ι a w (.eff i cs :: r) done) (ht : TmpsOk ops masks)
    (hds : ∀ d, Z0t ops i = some d → d < a0.tmps.size) (h0 : ∀ t v, PT.get (posOf t) tree = some v → ∃ u, a0.tmps[t]? = some u ∧ VRel ι0 v u) (hanc : ∀ j, Anc masks i j → L j) {K : Act → World → Prop}
    (hK : ∀ vals' T' ι' a' w', Inv P rec ops masks tree fi k a0 ι0 w0 (i :: pre) vals' nm T' (fun j => L j ∨ j = i) ι' a' w' r (done ||| (1 <<< i)) → K a' w') : wpOpIn F m P ops Q i K a w := by
  have hpl := h.plan
  simp only [Z6s, Bool.and_eq_true] at hpl
  obtain ⟨⟨⟨hst, hef⟩, hch⟩, hr⟩ := hpl
  obtain ⟨hlt, hn, ha, hrd⟩ := Z8f h.bits h.lt hst
  have hLi : ¬ L i := fun e => hn (h.sub i e)
  have hne : ∀ j ∈ pre, j ≠ i := fun j hj e => hn (e ▸ hj)
  have hreal := h.real ht h0 hlt hLi hanc
  have hlook := fun x hx => Zco (tree := tree) ht (vals := vals) h.lt ha hrd x hx
  have hk : Z2g ops (opAt ops i) (fun x => getO tree (pre.map vals) (Z06 (pre.map (Z0t ops)) x))
      (opK P rec (opAt ops i).op (fun x => getO tree (pre.map vals) (Z06 (pre.map (Z0t ops)) x)) T fun v s =>
        Z2s P rec fi ops (cs.map (fun j => .chk (opAt ops j)) ++ Z3w ops r) (Z0t ops i :: pre.map (Z0t ops)) (v :: pre.map vals) tree s k)
      (Z2s P rec fi ops (cs.map (fun j => .chk (opAt ops j)) ++ Z3w ops r) (Z0t ops i :: pre.map (Z0t ops)) (.tup [] :: pre.map vals) tree T k) = true := h.cont
  rw [Z9b (fun t ht => hlook (.tmp t) (fun t' e => by cases e; exact ht)), Zcs (ρ' := rho ops masks tree vals i) (fun x hx => hlook x (fun t e => Zbh (e ▸ hx)))] at hk
  have hpend : ∀ j ∈ pre, ¬ L j → cls P ops j ≤ 1 ∧ (cls P ops j = 1 → j ∈ cs) := by
    intro j hj hLj
    have h1 := List.all_eq_true.1 hef j (by simpa using h.lt j hj)
    simp only [Bool.and_eq_true, (h.bits j).2 hj, Bool.not_true, Bool.false_or, Bool.true_or, true_and] at h1
    obtain ⟨h2, h3⟩ := h1
    have hna : ¬ (maskAt masks i).testBit j = true := fun e => hLj (hanc j e)
    have hnf : (maskAt masks i).testBit j = false := by simpa using hna
    rw [hnf] at h2 h3
    simp only [Bool.or_false, bne_iff_ne, ne_eq] at h2 h3
    have hle : cls P ops j ≤ 2 := by
      rcases Nat.lt_or_ge 2 (cls P ops j) with h4 | h4
      · exact absurd (h.effs j hj h4) hLj
      · exact h4
    have h2 : ¬ cls P ops j = 2 := h2
    refine ⟨by omega, fun e => ?_⟩
    simp only [Bool.or_eq_true, bne_iff_ne, ne_eq] at h3
    rcases h3 with h3 | h3
    · exact absurd e h3
    · simpa using h3
  have hlt' : ∀ j ∈ i :: pre, j < ops.size := fun j hj => by
    rcases List.mem_cons.1 hj with rfl | hj
    · exact hlt
    · exact h.lt j hj
  have hanc' : ∀ j ∈ i :: pre, ∀ x, Anc masks j x → x ∈ i :: pre := fun j hj x hx => by
    rcases List.mem_cons.1 hj with rfl | hj
    · exact List.mem_cons_of_mem _ (ha x hx)
    · exact List.mem_cons_of_mem _ (h.anc j hj x hx)
  have hcs : ∀ j ∈ cs, j ∈ i :: pre ∧ cls P ops j ≤ 1 ∧ (Z0t ops j).isSome = true ∧ ∀ x ∈ i :: pre, Anc masks j x ∨ ∀ d, Z0t ops x = some d → d ∉ Z71 ops j := fun j hj => by
    have h1 := List.all_eq_true.1 hch j hj
    unfold chkOk at h1
    simp only [Bool.and_eq_true, beq_iff_eq] at h1
    obtain ⟨⟨⟨h2, h3⟩, h4⟩, h5⟩ := h1
    exact ⟨(Zcd h.bits i j).1 h2, Nat.le_of_eq h3, h5, Zom (Zcd h.bits i) hlt' h4⟩
  have hgo : ∀ (v : AVal) (T' : St) (ι' : Ren) (u : Value) (w' : World), WRel P ι' T' w' → Ext ι w ι' w' → VRel ι' v u →
      Z2s P rec fi ops (cs.map (fun j => .chk (opAt ops j)) ++ Z3w ops r) (Z0t ops i :: pre.map (Z0t ops)) (v :: pre.map vals) tree T' k = true → K (a.put (Z0t ops i) u) w' := by
    intro v T' ι' u w' hw' he hv hk
    have hk' : Z2s P rec fi ops (cs.map (fun j => .chk (opAt ops j)) ++ Z3w ops r) ((i :: pre).map (Z0t ops)) ((i :: pre).map (upd vals i v)) tree T' k = true := by
      rw [Zr1 hn]
      exact hk
    obtain ⟨hk2, hchk⟩ := chks ht hlt' hanc' cs hcs hk'
    have hinv : Inv P rec ops masks tree fi k a0 ι0 w0 (i :: pre) (upd vals i v) nm T' (fun j => L j ∨ j = i) ι' (a.put (Z0t ops i) u) w' r (done ||| (1 <<< i)) := by
      refine ⟨hw', h.ext.trans he, (put_defers a _ u).trans h.defs, (Zok a _ u).trans h.size, ?_, hlt', hanc', ?_, ?_, ?_, ?_, ?_, ?_, ?_, h.nmk, Zcd h.bits i, hr, hk2⟩
      · rintro j (hj | rfl)
        · exact List.mem_cons_of_mem _ (h.sub j hj)
        · simp
      · rintro j (hj | rfl) x hx
        · exact .inl (h.lanc j hj x hx)
        · exact .inl (hanc x hx)
      · rintro j (hj | rfl) d hdj
        · obtain ⟨u', h1, h2⟩ := h.t1 j hj d hdj
          rw [Z55 (hne j (h.sub j hj))]
          refine ⟨u', ?_, h2.mono he.le⟩
          rw [Zcv]
          · exact h1
          · intro e
            exact hne j (h.sub j hj) (ht.one i j d hlt (h.lt j (h.sub j hj)) e hdj).symm
        · rw [Z56, hdj]
          exact ⟨u, Zoj (by rw [h.size]; exact hds d hdj), hv⟩
      · intro t hno
        rw [Zcv (hno i (.inr rfl))]
        exact h.t2 t fun j hj => hno j (.inl hj)
      · intro j hj hc
        rcases List.mem_cons.1 hj with rfl | hj
        · exact .inr rfl
        · exact .inl (h.effs j hj hc)
      · intro j hj hLj
        have hji : j ≠ i := fun e => hLj (.inr e)
        have hjp : j ∈ pre := by
          rcases List.mem_cons.1 hj with e | hj
          · exact absurd e hji
          · exact hj
        have hLj' : ¬ L j := fun e => hLj (.inl e)
        obtain ⟨hc1, hc2⟩ := hpend j hjp hLj'
        have hp : Z32 P rec ops masks tree vals j T := by
          rcases h.prom j hjp hLj' with ⟨_, hp⟩ | ⟨hc3, _⟩
          · exact hp
          · omega
        have hp' : Z32 P rec ops masks tree (upd vals i v) j T := by
          rcases Prom.congr (vals' := upd vals i v) (nm' := nm) (nm := nm) (fun x hx => by rw [Z55 (hne x (h.anc j hjp x hx))]) (by rw [Z55 hji]) rfl (.inl ⟨hc1, hp⟩ : Prom P rec ops masks tree vals nm j T) with ⟨_, hp⟩ | ⟨hc3, _⟩
          · exact hp
          · omega
        refine .inl ⟨hc1, ?_⟩
        rcases Nat.lt_or_ge (cls P ops j) 1 with h1 | h1
        · have hc0 : Z15 P (opAt ops j).op = 0 := Nat.lt_one_iff.1 h1
          unfold Z32 at hp' ⊢
          rcases Z7v hp' with ⟨g1, g2⟩ | ⟨g1, g2⟩
          · rw [g2, Za1 hc0 T' T]
            rw [Za1 hc0 T T] at g1
            have : (fun v' (_ : St) => hold (v' = upd vals i v j ∧ T = T)) = (fun v' (_ : St) => hold (v' = upd vals i v j ∧ T' = T')) := by
              funext v' _
              simp [hold]
            rw [← this]
            exact g1
          · rw [g2]; exact g1
        · exact hchk j (hc2 (Nat.le_antisymm hc1 h1)) T hp'
      · intro j hj hLj q e
        have hji : j ≠ i := fun e => hLj (.inr e)
        have hjp : j ∈ pre := by
          rcases List.mem_cons.1 hj with e | hj
          · exact absurd e hji
          · exact hj
        have := (hpend j hjp (fun e => hLj (.inl e))).1
        have := h.nmk j q e
        omega
      · intro j hj x hx hLj hLx _ q e
        have hji : j ≠ i := fun e => hLj (.inr e)
        have hjp : j ∈ pre := by
          rcases List.mem_cons.1 hj with e | hj
          · exact absurd e hji
          · exact hj
        have := (hpend j hjp (fun e => hLj (.inl e))).1
        have := h.nmk j q e
        omega
    exact hK _ _ _ _ _ hinv
  unfold wpOpIn
  rw [Z7m hlt]
  show if Region.wanted (opAt ops i) (yielded ops a.tmps) = true then _ else _
  rcases Zab hk hreal with ⟨hw, h1⟩ | ⟨hw, h1⟩
  · rw [if_pos hw]
    exact Zi4 hs h1 hF hd h.wr hreal fun v w' ι' s' av he hw' hv hk => hgo av s' ι' v w' hw' he hv hk
  · rw [if_neg (by rw [hw]; simp)]
    exact ⟨fun f _ => hF f, hgo (.tup []) T ι undef w h.wr (Ext.refl ι w) (.tup .nil) h1⟩
end
end Go.AM
end
section
namespace Go.AM
variable [Orc] [OrcOk]
theorem Zop {ops:Array Oper} {masks:List Nat} (hl:masks.length = ops.size) {i:Nat} (hi:i < ops.size):(i,opAt ops i,maskAt masks i) ∈ allRows ops.toList masks:=by
  unfold allRows
  refine List.mem_map.2 ⟨((opAt ops i,i),maskAt masks i),?_,rfl⟩
  refine List.mem_of_getElem? (i:=i) ?_
  rw [List.getElem?_zip_eq_some]
  refine ⟨?_,?_⟩
  · rw [List.getElem?_zipIdx]
    simp [Z7m hi]
  · unfold maskAt
    rw [List.getD_eq_getElem?_getD]
    rw [List.getElem?_eq_getElem (by omega)]
    rfl
theorem TmpsOk.of {ops:Array Oper} {masks:List Nat} (hl:masks.length = ops.size) (h:Zw9 ops (allRows ops.toList masks) = true):TmpsOk ops masks:=by
  have key:∀ i j,i < ops.size→j < ops.size→i ≠ j→∀ d,Z0t ops i = some d→Z0t ops j ≠ some d∧(d ∈ Z71 ops j→Anc masks j i ∨ Anc masks i j):=by
    intro i j hi hj hne d hd
    have h1:=List.all_eq_true.1 (List.all_eq_true.1 h _ (Zop hl hi)) _ (Zop hl hj)
    simp only [Bool.or_eq_true,beq_iff_eq,Bool.and_eq_true] at h1
    rcases h1 with h1 | ⟨h1,_⟩
    · exact absurd h1 hne
    · rw [show (opAt ops i).dst = some d from hd] at h1
      simp only [Bool.and_eq_true,bne_iff_ne,ne_eq,Bool.or_eq_true,Bool.not_eq_true'] at h1
      refine ⟨h1.1,fun hm => ?_⟩
      rcases h1.2 with (h2 | h2) | h2
      · simp at h2
        exact absurd hm h2
      · exact .inl h2
      · exact .inr h2
  refine ⟨fun i j d hi hj e e' => ?_,fun i j d hi hj hne e hm => (key i j hi hj hne d e).2 hm⟩
  by_cases hne:i = j
  · exact hne
  · exact absurd e' (key i j hi hj hne d e).1
theorem Ziu : ∀ (l : List Nat) (p q : Nat → Bool) (i : Nat), l.Nodup → i ∈ l → (∀ j ∈ l, j ≠ i → p j = q j) → p i = true → q i = false → l.countP p = l.countP q + 1
  | [], p, q, i, _, hi, _, _, _ => by cases hi
  | x :: l, p, q, i, hn, hi, h, hp, hq => by
    obtain ⟨hx, hn⟩ := List.nodup_cons.1 hn
    by_cases e : x = i
    · subst e
      rw [List.countP_cons_of_pos hp, List.countP_cons_of_neg (by simp [hq])]
      congr 1
      exact List.countP_congr fun j hj => by rw [h j (by simp [hj]) (fun e => hx (e ▸ hj))]
    · have hi : i ∈ l := by
        rcases List.mem_cons.1 hi with e' | hi
        · exact absurd e'.symm e
        · exact hi
      have ih := Ziu l p q i hn hi (fun j hj => h j (by simp [hj])) hp hq
      have hxx := h x (by simp) e
      cases hpx : p x with
      | true => rw [List.countP_cons_of_pos hpx, List.countP_cons_of_pos (by rw [← hxx]; exact hpx), ih]
      | false => rw [List.countP_cons_of_neg (by simp [hpx]), List.countP_cons_of_neg (by rw [← hxx]; simp [hpx]), ih]
section
variable {P:Program} {rec:RecT} {ops:Array Oper} {masks:List Nat} {tree:PT AVal} {fi:FI} {k:PT AVal→St→Bool} {a0:Act} {ι0:Ren} {w0:World} {F:Fence} {m n0:Nat} {Q:Exit→Act→World→Prop}
theorem Inv.final {pre:List Nat} {vals:Nat→AVal} {nm:Nat→Option Pos} {T:St} {L:Nat→Prop} {ι:Ren} {a:Act} {w:World} {pl:List PItem} {done:Nat} (h:Inv P rec ops masks tree fi k a0 ι0 w0 pre vals nm T L ι a w pl done)
    (hset:pl = [] ∨ ∃ i cs r,pl = .eff i cs :: r) (hall:∀ j,j < ops.size→L j) (h0:∀ t v,PT.get (posOf t) tree = some v→t ∈ fi.ps∧∃ u,a0.tmps[t]? = some u∧VRel ι0 v u) (hsz:fi.ntmps ≤ a0.tmps.size)
    (hdf:Z4h n0 ι0 w0 a0.defers) (hnz:n0 ≤ w0.heap.size) (hQ:∀ ι' tree' s' a' w',Ext ι0 w0 ι' w'→Here P n0 fi ι' tree' s' a' w'→k tree' s' = true→Q .normal a' w'):Q .normal a w:=by
  rcases hset with rfl | ⟨i,cs,r,rfl⟩
  · have hk:Z3u (Z3n fi.ps (pre.map (Z0t ops)) []) (pre.map vals) tree (fun tree => k tree T) = true:=h.cont
    have hloc:LocRel ι (pre.map (Z0t ops)) (pre.map vals) tree a.tmps:=by
      refine ⟨by simp,fun t d v e1 e2 => ?_,fun t v e1 e2 => ?_⟩
      · obtain ⟨j,h1,h2⟩:=Zcl pre e1
        have hv:vals j = v:=by simpa [h1] using e2
        rw [← hv]
        exact h.t1 j (hall j (h.lt j (List.mem_of_getElem? h1))) t h2
      · obtain ⟨_,u,h1,h2⟩:=h0 t v e2
        exact ⟨u,(h.t2 t fun j hj => Z7x pre e1 j (h.sub j hj)).trans h1,h2.mono h.ext.le⟩
    obtain ⟨tree',h1,h2⟩:=hloc.Zum (n:=fi.ntmps) (by rw [h.size]; exact hsz) (fun t v e => (h0 t v e).1) hk
    exact hQ ι tree' T a w h.ext ⟨h.wr,h2,h.defs ▸ hdf.ext h.ext,Nat.le_trans hnz h.ext.size⟩ h1
  · have hpl:=h.plan
    simp only [Z6s,Bool.and_eq_true] at hpl
    obtain ⟨hlt,hn,_,_⟩:=Z8f h.bits h.lt hpl.1.1.1
    exact absurd (h.sub i (hall i hlt)) hn
theorem Ztw (hs : Sound P rec) (hF : ∀ f, F.fn f) (hd : F.depth = none) (hA : AncOk ops.toList masks) (ht : TmpsOk ops masks) (hds : ∀ i, i < ops.size → ∀ d, Z0t ops i = some d → d < a0.tmps.size)
    (h0 : ∀ t v, PT.get (posOf t) tree = some v → t ∈ fi.ps ∧ ∃ u, a0.tmps[t]? = some u ∧ VRel ι0 v u) (hsz : fi.ntmps ≤ a0.tmps.size)
    (hdf : Z4h n0 ι0 w0 a0.defers) (hnz : n0 ≤ w0.heap.size) (hQ : ∀ ι' tree' s' a' w', Ext ι0 w0 ι' w' → Here P n0 fi ι' tree' s' a' w' → k tree' s' = true → Q .normal a' w') :
    ∀ (fuel : Nat) (listed : Array Bool) (a : Act) (w : World) (pre : List Nat) (vals : Nat → AVal) (nm : Nat → Option Pos) (T : St) (L : Nat → Prop) (ι : Ren) (pl : List PItem) (done : Nat),
      Inv P rec ops masks tree fi k a0 ι0 w0 pre vals nm T L ι a w pl done → (pl = [] ∨ ∃ i cs r, pl = .eff i cs :: r) → listed.size = ops.size → (∀ j, j < ops.size → (listed.getD j false = true ↔ L j)) →
      (List.range ops.size).countP (fun j => !listed.getD j false) = fuel → wpAnyIn F m P .any ops Q fuel listed a w := by
  intro fuel
  induction fuel with
  | zero =>
    intro listed a w pre vals nm T L ι pl done h hset hls hL hcnt
    have hall : ∀ j, j < ops.size → listed.getD j false = true := by
      intro j hj
      have := List.countP_eq_zero.1 hcnt j (by simpa using hj)
      simpa using this
    refine ⟨?_, h.final hset (fun j hj => (hL j hj).1 (hall j hj)) h0 hsz hdf hnz hQ⟩
    refine List.eq_nil_iff_forall_not_mem.2 fun j hj => ?_
    obtain ⟨h1, o, ho, _⟩ := mem_ready.1 hj
    have hjlt := (Array.getElem?_eq_some_iff.1 ho).1
    have h2 := hall j hjlt
    rw [Array.getD_eq_getD_getElem?] at h1 h2
    rw [Array.getElem?_eq_getElem (by omega)] at h1 h2
    simp at h1 h2
    rw [h1] at h2; cases h2
  | succ fuel ih =>
    intro listed a w pre vals nm T L ι pl done h hset hls hL hcnt
    have hget : ∀ j, j < ops.size → listed.getD j true = listed.getD j false := fun j hj => by
      rw [Array.getD_eq_getD_getElem?, Array.getD_eq_getD_getElem?, Array.getElem?_eq_getElem (by omega)]
      rfl
    refine ⟨fun hnil => ?_, fun i hi => ?_⟩
    · exfalso
      have hall : ∀ j, j < ops.size → listed.getD j false = true := by
        intro j
        induction j using Nat.strongRecOn with
        | _ j ihj =>
          intro hj
          cases hlj : listed.getD j false with
          | true => rfl
          | false =>
            exfalso
            have : j ∈ Region.ready .any ops listed := mem_ready.2 ⟨by rw [hget j hj]; exact hlj, opAt ops j, Z7m hj, fun e he hb => by
              have := hA.back j (opAt ops j) (by simpa using Z7m hj) e he hb
              exact ihj e.on this (by omega)⟩
            rw [hnil] at this
            cases this
      have : (List.range ops.size).countP (fun j => !listed.getD j false) = 0 := List.countP_eq_zero.2 fun j hj => by
        rw [hall j (by simpa using hj)]; simp
      omega
    · obtain ⟨h1, o, ho, hedges⟩ := mem_ready.1 hi
      have hilt := (Array.getElem?_eq_some_iff.1 ho).1
      have hoi : opAt ops i = o := by
        have := Z7m hilt
        rw [ho] at this
        exact (Option.some.inj this).symm
      have hLi : ¬ L i := fun e => by
        have := (hL i hilt).2 e
        rw [← hget i hilt, h1] at this
        cases this
      have hanc : ∀ j, Anc masks i j → L j := by
        intro j hj
        obtain ⟨e, he, hb, h2⟩ := hA.anc i o (by simpa using ho) j hj
        have hlt := hA.back i o (by simpa using ho) e he hb
        have hLe : L e.on := (hL e.on (by omega)).1 (hedges e he hb)
        rcases h2 with rfl | h2
        · exact hLe
        · exact h.lanc e.on hLe j h2
      have hset' : ∀ j, j < ops.size → ((listed.setIfInBounds i true).getD j false = true ↔ L j ∨ j = i) := by
        intro j hj
        by_cases e : j = i
        · subst e
          rw [Array.getD_eq_getD_getElem?, Array.getElem?_setIfInBounds_self_of_lt (by omega)]
          simp
        · rw [Array.getD_eq_getD_getElem?, Array.getElem?_setIfInBounds_ne (Ne.symm e), ← Array.getD_eq_getD_getElem?, hL j hj]
          simp [e]
      have hcnt' : (List.range ops.size).countP (fun j => !(listed.setIfInBounds i true).getD j false) = fuel := by
        have := Ziu (List.range ops.size) (fun j => !listed.getD j false) (fun j => !(listed.setIfInBounds i true).getD j false) i List.nodup_range (by simpa using hilt) (fun j hj e => by
            show (!listed.getD j false) = !(listed.setIfInBounds i true).getD j false
            rw [Array.getD_eq_getD_getElem?, Array.getD_eq_getD_getElem?, Array.getElem?_setIfInBounds_ne (Ne.symm e)]) (by rw [← hget i hilt, h1]; rfl) (by
            rw [Array.getD_eq_getD_getElem?, Array.getElem?_setIfInBounds_self_of_lt (by omega)]; rfl)
        omega
      have h0' : ∀ t v, PT.get (posOf t) tree = some v → ∃ u, a0.tmps[t]? = some u ∧ VRel ι0 v u := fun t v e => (h0 t v e).2
      by_cases hip : i ∈ pre
      · have hgo : ∀ ι' a' w', Inv P rec ops masks tree fi k a0 ι0 w0 pre vals nm T (fun j => L j ∨ j = i) ι' a' w' pl done → wpAnyIn F m P .any ops Q fuel (listed.setIfInBounds i true) a' w' := fun ι' a' w' h' =>
          ih _ a' w' pre vals nm T _ ι' pl done h' hset (by simpa using hls) hset' hcnt'
        rcases Nat.lt_or_ge (cls P ops i) 2 with hc | hc
        · exact Zw5 hs hF hd h ht (hds i hilt) h0' hip hLi hanc (Nat.le_of_lt_succ hc) hgo
        · rcases Nat.lt_or_ge 2 (cls P ops i) with hc' | hc'
          · exact absurd (h.effs i hip hc') hLi
          · exact Zw6 hF h ht (hds i hilt) h0' hip hLi hanc (Nat.le_antisymm hc' hc) hgo
      · rcases hset with rfl | ⟨i', cs, r, rfl⟩
        · have := h.plan
          simp only [Z6s] at this
          have := List.all_eq_true.1 this i (by simpa using hilt)
          exact absurd ((h.bits i).1 this) hip
        · have hpl := h.plan
          simp only [Z6s, Bool.and_eq_true] at hpl
          obtain ⟨_, hn', _, _⟩ := Z8f h.bits h.lt hpl.1.1.1
          have h2 := List.all_eq_true.1 hpl.1.1.2 i (by simpa using hilt)
          simp only [Bool.and_eq_true, Bool.or_eq_true, beq_iff_eq] at h2
          have hii : i = i' := by
            rcases h2.1.1 with (h3 | h3) | h3
            · exact absurd ((h.bits i).1 h3) hip
            · exact h3
            · exact absurd (h.sub i' (hanc i' h3)) hn'
          subst hii
          refine Zy2 hs hF hd h ht (hds i hilt) h0' hanc fun vals' T' ι' a' w' h' => ?_
          obtain ⟨pre2, vals2, nm2, T2, pl2, done2, h'', hset''⟩ := h'.settle ht
          exact ih _ a' w' pre2 vals2 nm2 T2 _ ι' pl2 done2 h'' hset'' (by simpa using hls) hset' hcnt'
theorem Ziw (hm : P.follows .mixedOrders = true) (hs : Sound P rec) : Zkq P rec := by
  intro id ops n0 fi tree s k F m ι a w h hfo hF hd hr hh
  obtain ⟨l, hl, h1⟩ := Z01.1 h
  rcases Z03.1 h1 with ⟨hdst, h2⟩ | ⟨_, h2⟩
  · have hl : Zhu P ops = some l := hl
    unfold Zhu at hl
    split at hl
    · rename_i masks hmasks
      simp only at hl
      split at hl
      · rename_i hok
        cases hl
        simp only [Bool.and_eq_true] at hok
        have hA := Zy9 hmasks
        have ht := TmpsOk.of (by rw [hA.len]; simp) hok.1
        refine wpIn_region_any hm ?_
        have h0 : ∀ t v, PT.get (posOf t) tree = some v → t ∈ fi.ps ∧ ∃ u, a.tmps[t]? = some u ∧ VRel ι v u := hh.tr.get
        have hinv : Inv P rec ops masks tree fi k a ι w [] (fun _ => .tup []) (fun _ => none) s (fun _ => False) ι a { w with drawn := w.drawn + 1 } (Zoh P ops masks (allRows ops.toList masks) ops.size 0) 0 := by
          refine ⟨hh.wr.drawn _, Ext.drawn ι w _, rfl, rfl, fun i h => h.elim, fun i h => (by cases h), fun i h => (by cases h), fun i h => h.elim, fun i h => h.elim, fun t _ => rfl, fun i h => (by cases h), fun i h => (by cases h), fun i h => (by cases h),
            fun i h => (by cases h), fun i q e => (by cases e), fun j => by simp, hok.2, h2⟩
        obtain ⟨pre2, vals2, nm2, T2, pl2, done2, h'', hset''⟩ := hinv.settle ht
        refine Ztw (n0 := n0) hs hF hd hA ht (fun i hi d e => ?_) h0 hh.tr.size hh.df hh.nz (fun ι' tree' s' a' w' he hh' hk => ⟨.normal, tree', s', ι', rfl, he, hh', hk⟩) ops.size _ a _ pre2 vals2 nm2 T2 _ ι pl2 done2 h'' hset'' (by simp) (fun j hj => ?_) ?_
        · exact Nat.lt_of_lt_of_le (Zl3 hdst (opAt ops i) (List.mem_of_getElem? (i := i) (by simpa using Z7m hi)) d e) hh.tr.size
        · rw [Array.getD_eq_getD_getElem?]
          simp [hj]
        · have : ∀ j ∈ List.range ops.size, (!(Array.replicate ops.size false).getD j false) = true := fun j hj => by
            rw [Array.getD_eq_getD_getElem?]
            have : j < ops.size := by simpa using hj
            simp [this]
          rw [List.countP_eq_length.2 this]
          simp
      · cases hl
    · cases hl
  · cases h2
end
theorem Zw0 {P:Program} (hm:P.follows .mixedOrders = true) {n:Nat} {f:FuncId} {args:List AVal} {us:Array Value} {s:St} {w:World} {ι:Ren} {K:VK} (h:run P n f args s K = true) (hw:WRel P ι s w) (hv:VRels ι args us.toList) :
    Calls P f us w (Zgd P ι w K):=by
  refine (callsIn_wide (n:=0)).1 ?_
  have:=Za8 (F:=Fence.wide) (m:=0) (Ziy (fun rec hs => Ziw hm hs) n) h (fun _ => trivial) rfl hw hv
  simpa using this
end Go.AM
end
section
namespace Go.AM
variable [Orc] [OrcOk]
noncomputable def St.obj (s:St) (b:Pos):Option AObj:=PT.get b s.heap
noncomputable def St.cells (s:St) (b:Pos):Option (List AVal):=match s.obj b with
  | some (.cells cs _) => some cs
  | _ => none
noncomputable def St.own (s:St) (b:Pos):Option (List AVal):=match s.obj b with
  | some (.cells cs false) => some cs
  | _ => none
def St.alloc (s:St) (x:AObj):St:={ heap:=PT.set s.next x s.heap,next:=s.next.succ }
def St.put (s:St) (b:Pos) (x:AObj):St:={ heap:=PT.set b x s.heap,next:=s.next }
theorem St.Z2b {s:St} {b:Pos} {cs:List AVal} (h:s.own b = some cs):s.obj b = some (.cells cs false):=by
  unfold St.own at h
  split at h
  · rename_i h'; rw [h']; cases h; rfl
  · cases h
theorem St.Z7l {s:St} {b:Pos} {cs:List AVal} (h:s.cells b = some cs):∃ ro,s.obj b = some (.cells cs ro):=by
  unfold St.cells at h
  split at h
  · rename_i ro h'; cases h; exact ⟨ro,h'⟩
  · cases h
def Z1l (x:Option AVal) (F:AVal→Prop):Prop:=match x with
  | some v => F v
  | none => False
theorem Zer (v:AVal) (F:AVal→Prop):Z1l (some v) F = F v:=rfl
def Z2y (x:Option AVal) (F:IntKind→Int→Prop):Prop:=match x with
  | some (.int k n) => F k n
  | _ => False
def Z62 (x:Option AVal) (F:Bool→Prop):Prop:=match x with
  | some (.bool b) => F b
  | _ => False
def Z6e (x:Option AVal) (F:List UInt8→Prop):Prop:=match x with
  | some (.str b) => F b
  | _ => False
def Z3h (x:Option AVal) (F:Pos→Nat→Prop):Prop:=match x with
  | some (.ptr b o) => F b o
  | _ => False
def Za6 (x:Option AVal) (F:Pos→Nat→Nat→Cap→Prop):Prop:=match x with
  | some (.slice b o n c) => F b o n c
  | _ => False
def Z74 (x:Option AVal) (F:List AVal→Prop):Prop:=match x with
  | some (.agg l) => F l
  | _ => False
def Za7 (x:Option AVal) (F:List AVal→Prop):Prop:=match x with
  | some (.tup l) => F l
  | _ => False
def Z0y {α:Type} (x:Option α) (F:α→Prop):Prop:=match x with
  | some v => F v
  | none => False
def Z18:AVal→Option Nat
  | .slice _ _ n _ => some n
  | .nilSlice => some 0
  | _ => none
@[simp] theorem slcLen_slice (b:Pos) (o n:Nat) (c:Cap):Z18 (.slice b o n c) = some n:=rfl
@[simp] theorem slcLen_nil:Z18 .nilSlice = some 0:=rfl
def Z9k (γ:RO→Option AVal):List RO→(List AVal→Prop)→Prop
  | [],F => F []
  | x :: l,F => Z1l (γ x) fun v => Z9k γ l fun r => F (v :: r)
def lay (cs:List AVal) (o:Nat) (vs:List AVal):List AVal:=cs.take o ++ vs ++ cs.drop (o + vs.length)
def Z98 (γ:RO→Option AVal):List (Nat × Nat × RO)→List AVal→(List AVal→Prop)→Prop
  | [],cs,F => F cs
  | (o,n,x) :: l,cs,F => Z1l (γ x) fun v => (∀ t,v ≠ .tup t)∧v.cells.length = n∧o + n ≤ cs.length∧Z98 γ l (lay cs o v.cells) F
def Z83 (n:Option Nat) (cs:List AVal) (o:Nat) (F:AVal→Prop):Prop:=match n with
  | none => Z0y cs[o]? F
  | some n => o + n ≤ cs.length∧F (.agg ((cs.drop o).take n))
def intP (op:BinOp) (k:IntKind) (a b:Int) (Q:AVal→Prop):Prop:=match op with
  | .add => Q (.int k (k.wrap (a + b)))
  | .sub => Q (.int k (k.wrap (a - b)))
  | .mul => Q (.int k (k.wrap (a * b)))
  | .quo => b ≠ 0∧Q (.int k (k.wrap (a.tdiv b)))
  | .rem => b ≠ 0∧Q (.int k (a.tmod b))
  | .and => Q (.int k (k.wrap (BitVec.ofInt k.bits a &&& BitVec.ofInt k.bits b).toNat))
  | .or => Q (.int k (k.wrap (BitVec.ofInt k.bits a ||| BitVec.ofInt k.bits b).toNat))
  | .xor => Q (.int k (k.wrap (BitVec.ofInt k.bits a ^^^ BitVec.ofInt k.bits b).toNat))
  | .shl => 0 ≤ b∧Q (.int k (k.wrap (a * 2 ^ min b.toNat k.bits)))
  | .shr => 0 ≤ b∧Q (.int k (a.fdiv (2 ^ min b.toNat k.bits)))
  | .eql => Q (.bool (decide (a = b)))
  | .neq => Q (.bool (!decide (a = b)))
  | .lss => Q (.bool (decide (a < b)))
  | .leq => Q (.bool (!decide (b < a)))
  | .gtr => Q (.bool (decide (b < a)))
  | .geq => Q (.bool (!decide (a < b)))
  | _ => False
def eqP (op:BinOp) (e:Bool) (Q:AVal→Prop):Prop:=match op with
  | .eql => Q (.bool e)
  | .neq => Q (.bool (!e))
  | _ => False
def binP (op:BinOp) (k:EK) (sh:Option (List SK)) (x y:AVal) (Q:AVal→Prop):Prop:=match x,y with
  | .int j a,.int i b => Z19 j = Z19 i∧intP op j a b Q
  | .bool a,.bool b => Z4n k .bool = true∧eqP op (a == b) Q
  | .str a,.str b => match op with
    | .eql => Q (.bool (a == b))
    | .neq => Q (.bool (!(a == b)))
    | _ => False
  | .nilPtr,.nilPtr => Z4n k .ptr = true∧eqP op true Q
  | .ptr _ _,.nilPtr => Z4n k .ptr = true∧eqP op false Q
  | .nilSlice,.nilSlice => Z4n k .slc = true∧eqP op true Q
  | .slice _ _ _ _,.nilSlice => Z4n k .slc = true∧eqP op false Q
  | .agg a,y => Z0y sh fun ks => Z74 (some y) fun b => a.length = ks.length∧b.length = ks.length∧Z0v ks a b (fun _ => true) = true∧eqP op (Z0v ks a b fun e => e) Q
  | _,_ => False
def Zj4 (i:Bool × List SK × AVal) (key:AVal) (es:List MapE) (F:Option (Nat × AVal)→Prop):Prop :=
  ∃ r,(Z1t i.1 i.2.1 key fun c => Z2q i.1 i.2.1 c es 0 fun x => hold (x = r)) = true∧F r
def srcP (es:Nat) (x:AVal) (s:St) (F:List AVal→Nat→Prop):Prop:=match x with
  | .str l => es = 1∧F (l.map fun c => .int .u8 (c.toNat:Int)) l.length
  | .nilSlice => F [] 0
  | .slice b off n _ => if n = 0 then F [] 0 else Z0y (s.cells b) fun cs => off + n * es ≤ cs.length∧F ((cs.drop off).take (n * es)) n
  | _ => False
def Z4m (es eb:Nat) (cs:List AVal) (need:Nat) (s:St) (Q:AVal→St→Prop):Prop:=need * eb ≤ Z0g∧Q (.slice s.next 0 need (.opn es)) (s.alloc (.cells cs false))
def appP (e:Nat × Nat) (x:AVal) (new:List AVal) (n:Nat) (s:St) (Q:AVal→St→Prop):Prop:=match x with
  | .nilSlice => if n = 0 then Q .nilSlice s else Z4m e.1 e.2 new n s Q
  | .slice b off len (.lim c) => if n = 0 then len ≤ c∧Q (.slice b off len (.lim c)) s else
    if len + n ≤ c then Z0y (s.own b) fun cs => off + len * e.1 + new.length ≤ cs.length∧Q (.slice b off (len + n) (.lim c)) (s.put b (.cells (lay cs (off + len * e.1) new) false))
    else if len = 0 then Z4m e.1 e.2 new n s Q
    else Z0y (s.cells b) fun cs => off + len * e.1 ≤ cs.length∧Z4m e.1 e.2 ((cs.drop off).take (len * e.1) ++ new) (len + n) s Q
  | .slice b off len (.opn es) => if n = 0 then Q (.slice b off len (.opn es)) s else es = e.1∧Z0y (s.own b) fun cs =>
    if len = 0 then Z4m e.1 e.2 new n (s.put b .dead) Q
    else if off + (len + n) * e.1 ≤ cs.length then off + len * e.1 + new.length ≤ cs.length∧Q (.slice b off (len + n) (.opn e.1)) (s.put b (.cells (lay cs (off + len * e.1) new) false))
    else off + len * e.1 ≤ cs.length∧Z4m e.1 e.2 ((cs.drop off).take (len * e.1) ++ new) (len + n) (s.put b .dead) Q
  | _ => False
section
variable (P:Program)
def CallR (f:FuncId) (args:List AVal) (s:St) (v:AVal) (s':St):Prop:=∃ n0,∀ n,n0 ≤ n→∀ K:VK,K v s' = true→Z6j P (exec P n) f args s K = true
def Z0c (f:FuncId) (args:List AVal) (s:St) (Q:AVal→St→Prop):Prop:=∃ v s',CallR P f args s v s'∧Q v s'
def Z3i (fv:AVal) (args:List AVal) (s:St) (Q:AVal→St→Prop):Prop:=∃ v s',(∃ n0,∀ n,n0 ≤ n→∀ K:VK,K v s' = true→Zis P (exec P n) fv args s K = true)∧Q v s'
def opP (o : MOp) (γ : RO → Option AVal) (s : St) (Q : AVal → St → Prop) : Prop := match o with
  | .move x => Z1l (γ x) fun v => Q v s
  | .pick c a b => Z62 (γ c) fun t => if t = true then Z1l (γ a) fun v => Q v s else Z1l (γ b) fun v => Q v s
  | .alloc z => Z0y z fun cs => Q (.ptr s.next 0) (s.alloc (.cells cs false))
  | .box x => Z1l (γ x) fun v => (∀ t, v ≠ .tup t) ∧ Q (.ptr s.next 0) (s.alloc (.cells v.cells false))
  | .build pl z => Z0y pl fun pl => Z0y z fun zs => Z98 γ pl zs fun cs => Q (.agg cs) s
  | .buildSlice e z len ps => Z0y e fun e => Z0y z fun zs => zs.length = e.1 ∧ len * e.1 ≤ 16777216 ∧ Z98 γ (Z8n e.1 ps) (List.replicate len zs).flatten fun cs => Q (.slice s.next 0 len (.lim len)) (s.alloc (.cells cs false))
  | .load n a => Z0y n fun n => Z3h (γ a) fun b off => Z0y (s.cells b) fun cs => Z83 n cs off fun v => Q v s
  | .store n a x => Z0y n fun n => Z1l (γ x) fun v => (∀ t, v ≠ .tup t) ∧ v.cells.length = n ∧ Z3h (γ a) fun b off => Z0y (s.own b) fun cs => off + n ≤ cs.length ∧ Q (.tup []) (s.put b (.cells (lay cs off v.cells) false))
  | .nilck x => Z3h (γ x) fun b o => Q (.ptr b o) s
  | .bin op k sh x y => Z1l (γ x) fun x => Z1l (γ y) fun y => binP op k sh x y fun v => Q v s
  | .un op x => match op with
    | .not => Z62 (γ x) fun b => Q (.bool (!b)) s
    | .neg => Z2y (γ x) fun k n => Q (.int k (k.wrap (0 - n))) s
    | _ => False
  | .conv k x => match k with
    | .int k => Z2y (γ x) fun _ n => Q (.int k (k.wrap n)) s
    | .same => Z6e (γ x) fun l => Q (.str l) s
    | _ => False
  | .func f a c => Z0y f fun f => Z9k γ a fun a => Z9k γ c fun c => Q (.fn f a c) s
  | .makeMap ok => ok = true ∧ Q (.map s.next) (s.alloc (.map [] 0))
  | .makeSlice e z l c => Z0y e fun e => Z0y z fun zs => zs.length = e.1 ∧ Z2y (γ l) fun _ l => Z2y (γ c) fun _ c => 0 ≤ l ∧ l ≤ c ∧ c.toNat * e.2 ≤ Z0g ∧ c.toNat ≤ Z0g ∧
      Q (.slice s.next 0 l.toNat (.lim c.toNat)) (s.alloc (.cells (List.replicate c.toNat zs).flatten false))
  | .fieldAddr o x => Z0y o fun fo => Z3h (γ x) fun b off => Q (.ptr b (off + fo)) s
  | .field f x => Z0y f fun f => Z74 (γ x) fun l => Z83 f.2 l f.1 fun v => Q v s
  | .indexAddr k e a x i => Z2y (γ i) fun _ i => 0 ≤ i ∧ match k with
    | .slc => Z0y e fun e => Za6 (γ x) fun b off n _ => i < n ∧ Q (.ptr b (off + i.toNat * e.1)) s
    | .arr => Z0y a fun e => Z3h (γ x) fun b off => i < e.1 ∧ Q (.ptr b (off + i.toNat * e.2)) s
    | _ => False
  | .index k e x i => Z2y (γ i) fun _ i => 0 ≤ i ∧ match k with
    | .str => Z6e (γ x) fun l => Z0y l[i.toNat]? fun c => Q (.int .u8 c.toNat) s
    | .arr => Z0y e fun e => Z74 (γ x) fun l => i < e.1 ∧ Z83 e.2.2 l (i.toNat * e.2.1) fun v => Q v s
    | _ => False
  | .lookup i ok m k => Z0y i fun info => Z1l (γ k) fun key => match γ m with
    | some (.map b) => match s.obj b with
      | some (.map es _) => Zj4 info key es fun r => match r with
        | none => if ok = true then Q (.tup [info.2.2, .bool false]) s else Q info.2.2 s
        | some x => if ok = true then Q (.tup [x.2, .bool true]) s else Q x.2 s
      | _ => False
    | _ => False
  | .mapSet i m k x => Z0y i fun info => Z1l (γ k) fun key => Z1l (γ x) fun x => match γ m with
    | some (.map b) => match s.obj b with
      | some (.map es clock) => Zj4 info key es fun r => match r with
        | none => Q (.tup []) (s.put b (.map (es ++ [{ key := key, val := x, born := clock }]) (clock + 1)))
        | some p => ∃ es', Z40 x key es p.1 (fun e => hold (e = es')) = true ∧ Q (.tup []) (s.put b (.map es' clock))
      | _ => False
    | _ => False
  | .extract x i => Za7 (γ x) fun l => Z0y l[i]? fun v => Q v s
  | .call f l => Z1l (γ f) fun fv => Z9k γ l fun args => Z3i P fv args s Q
  | .len e x => Z0y e fun e => match e.1 with
    | .str => Z6e (γ x) fun l => Q (.int .i64 l.length) s
    | .slc => Z1l (γ x) fun v => Z0y (Z18 v) fun n => Q (.int .i64 n) s
    | .arr => Z1l (γ x) fun _ => Q (.int .i64 e.2) s
    | .map => match γ x with
      | some (.map b) => match s.obj b with
        | some (.map es _) => Q (.int .i64 es.length) s
        | _ => False
      | _ => False
    | _ => False
  | .append e x y => Z0y e fun e => Z1l (γ x) fun x => Z1l (γ y) fun y => srcP e.1 y s fun new n => appP e x new n s Q
  | o => ∃ v s', (∀ (rec : RecT) (K : VK), K v s' = true → mopK P rec o γ s K = true) ∧ Q v s'
def Zc7 (g:Option (Option (RO × Bool))) (γ:RO→Option AVal) (A B:Prop):Prop:=match g with
  | none => A
  | some g => Z0y g fun g => Z1l (γ g.1) fun v => match v with
    | .bool b => if b = g.2 then A else B
    | .iface _ _ => False
    | _ => B
def Z5b:List (Option Pos)→List AVal→PT AVal→Option (PT AVal)
  | [],_,t => some t
  | _ :: _,[],_ => none
  | none :: r,_ :: l,t => Z5b r l t
  | some p :: r,v :: l,t => Z5b r l (PT.set p v t)
def Z4a (cm:List (Option Pos)):List MItem→List AVal→PT AVal→St→(PT AVal→St→Prop)→Prop
  | [],locals,tree,s,Q => Z0y (Z5b cm locals tree) fun t => Q t s
  | .run g o :: r,locals,tree,s,Q => Zc7 g (getO tree locals) (opP P o (getO tree locals) s fun v s => Z4a cm r (v :: locals) tree s Q) (Z4a cm r (.tup [] :: locals) tree s Q)
  | .chk g o u :: r,locals,tree,s,Q => Zc7 g (getO tree locals) (opP P o (getO tree locals) s fun v _ => Z0y u fun x => Z1l (getO tree locals x) fun u => v = u∧Z2l 8 v v = true∧Z4a cm r locals tree s Q) (Z4a cm r locals tree s Q)
  | .fresh :: r,locals,tree,s,Q => s.obj s.next = none∧Z4a cm r locals tree s Q
end
theorem Z1j {x:Option AVal} {F:AVal→Prop} (h:Z1l x F):∃ v,x = some v∧F v:=by cases x with
  | none => exact h.elim
  | some v => exact ⟨v,rfl,h⟩
theorem Z0k {α:Type} {x:Option α} {F:α→Prop} (h:Z0y x F):∃ v,x = some v∧F v:=by cases x with
  | none => exact h.elim
  | some v => exact ⟨v,rfl,h⟩
theorem Z5d {x:Option AVal} {F:IntKind→Int→Prop} (h:Z2y x F):∃ k n,x = some (.int k n)∧F k n:=by
  unfold Z2y at h; split at h
  · exact ⟨_,_,rfl,h⟩
  · exact h.elim
theorem Z9u {x:Option AVal} {F:Bool→Prop} (h:Z62 x F):∃ b,x = some (.bool b)∧F b:=by
  unfold Z62 at h; split at h
  · exact ⟨_,rfl,h⟩
  · exact h.elim
theorem Zb2 {x:Option AVal} {F:List UInt8→Prop} (h:Z6e x F):∃ b,x = some (.str b)∧F b:=by
  unfold Z6e at h; split at h
  · exact ⟨_,rfl,h⟩
  · exact h.elim
theorem Z5e {x:Option AVal} {F:Pos→Nat→Prop} (h:Z3h x F):∃ b o,x = some (.ptr b o)∧F b o:=by
  unfold Z3h at h; split at h
  · exact ⟨_,_,rfl,h⟩
  · exact h.elim
theorem Zmb {x:Option AVal} {F:Pos→Nat→Nat→Cap→Prop} (h:Za6 x F):∃ b o n c,x = some (.slice b o n c)∧F b o n c:=by
  unfold Za6 at h; split at h
  · exact ⟨_,_,_,_,rfl,h⟩
  · exact h.elim
theorem Zb1 {x:Option AVal} {F:List AVal→Prop} (h:Z74 x F):∃ b,x = some (.agg b)∧F b:=by
  unfold Z74 at h; split at h
  · exact ⟨_,rfl,h⟩
  · exact h.elim
theorem Zmc {x:Option AVal} {F:List AVal→Prop} (h:Za7 x F):∃ b,x = some (.tup b)∧F b:=by
  unfold Za7 at h; split at h
  · exact ⟨_,rfl,h⟩
  · exact h.elim
theorem Zba {n:Option Nat} {cs:List AVal} {o:Nat} {F:AVal→Prop} (h:Z83 n cs o F):∃ v,F v∧∀ k:AVal→Bool,k v = true→Z82 n cs o k = true:=by
  cases n with
  | none =>
    obtain ⟨v,e,h⟩:=Z0k h
    exact ⟨v,h,fun k hk => Z4u.2 ⟨v,e,hk⟩⟩
  | some n => exact ⟨_,h.2,fun k hk => Z2x.2 ⟨h.1,hk⟩⟩
theorem Zbb {γ:RO→Option AVal}:∀ {l:List RO} {F:List AVal→Prop},Z9k γ l F→∃ vs,F vs∧∀ k:List AVal→Bool,k vs = true→Zas γ l k = true
  | [],F,h => ⟨[],h,fun k hk => hk⟩
  | x :: l,F,h => by
    obtain ⟨v,e,h⟩:=Z1j h
    obtain ⟨vs,h1,h2⟩:=Zbb h
    exact ⟨v :: vs,h1,fun k hk => Z01.2 ⟨v,e,h2 (fun r => k (v :: r)) hk⟩⟩
theorem Ze6 {γ:RO→Option AVal}:∀ {l:List (Nat × Nat × RO)} {cs:List AVal} {F:List AVal→Prop},Z98 γ l cs F→∃ vs,F vs∧∀ k:List AVal→Bool,k vs = true→Z9f γ l cs k = true
  | [],cs,F,h => ⟨cs,h,fun k hk => hk⟩
  | (o,n,x) :: l,cs,F,h => by
    obtain ⟨v,e,h0,h1,h2,h3⟩:=Z1j h
    obtain ⟨vs,h4,h5⟩:=Ze6 h3
    refine ⟨vs,h4,fun k hk => ?_⟩
    show (optK (γ x) fun v => Z6l v (v.Z2f fun vs => lenK vs 0 fun m => ifK (Nat.beq m n) (Z3s vs cs o fun cs => Z9f γ l cs k) (fail 29))) = true
    refine Z01.2 ⟨v,e,Z4p.2 ⟨h0,?_⟩⟩
    rw [Z4l,Z0p]
    refine Z03.2 (.inl ⟨by simp [h1],Z43.2 ⟨by omega,h5 k hk⟩⟩)
theorem Z5f {k:IntKind} {n:Int} {s:St} {K:VK} (h:K (.int k n) s = true):AM.intV k n s K = true:=by
  unfold AM.intV
  rw [Zk9]
  exact h
theorem Z50 {b:Bool} {s:St} {K:VK} (h:K (.bool b) s = true):AM.Z1z b s K = true:=by
  cases b <;> exact h
theorem Zv0 {op:BinOp} {k:IntKind} {a b:Int} {Q:AVal→Prop} (h:intP op k a b Q) (s:St):∃ v,Q v∧∀ K:VK,K v s = true→Z6q op k a b s K = true:=by
  cases op with
  | add => exact ⟨_,h,fun K hK => Z5f (by rw [Z63]; exact hK)⟩
  | sub => exact ⟨_,h,fun K hK => Z5f (by rw [Z63]; exact hK)⟩
  | mul => exact ⟨_,h,fun K hK => Z5f (by rw [Z63]; exact hK)⟩
  | quo => exact ⟨_,h.2,fun K hK => Z03.2 (.inr ⟨by rw [Z6p]; simpa using h.1,Z5f hK⟩)⟩
  | rem => exact ⟨_,h.2,fun K hK => Z03.2 (.inr ⟨by rw [Z6p]; simpa using h.1,Z5f hK⟩)⟩
  | and => exact ⟨_,h,fun K hK => Z5f hK⟩
  | or => exact ⟨_,h,fun K hK => Z5f hK⟩
  | xor => exact ⟨_,h,fun K hK => Z5f hK⟩
  | shl => exact ⟨_,h.2,fun K hK => Z03.2 (.inr ⟨by rw [Z3z]; simpa using h.1,Z5f hK⟩)⟩
  | shr => exact ⟨_,h.2,fun K hK => Z03.2 (.inr ⟨by rw [Z3z]; simpa using h.1,Z5f hK⟩)⟩
  | eql => exact ⟨_,h,fun K hK => Z50 (by rw [Z6p]; exact hK)⟩
  | neq => exact ⟨_,h,fun K hK => Z50 (by rw [Z4e,Z6p]; exact hK)⟩
  | lss => exact ⟨_,h,fun K hK => Z50 (by rw [Z3z]; exact hK)⟩
  | leq => exact ⟨_,h,fun K hK => Z50 (by rw [Z4e,Z3z]; exact hK)⟩
  | gtr => exact ⟨_,h,fun K hK => Z50 (by rw [Z3z]; exact hK)⟩
  | geq => exact ⟨_,h,fun K hK => Z50 (by rw [Z4e,Z3z]; exact hK)⟩
  | _ => exact h.elim
theorem Z9t {op:BinOp} {e:Bool} {Q:AVal→Prop} (h:eqP op e Q) (s:St):∃ v,Q v∧∀ K:VK,K v s = true→Z3k op e s K = true:=by
  cases op with
  | eql => exact ⟨_,h,fun K hK => Z50 hK⟩
  | neq => exact ⟨_,h,fun K hK => Z50 (by rw [Z4e]; exact hK)⟩
  | _ => exact h.elim
theorem Zpf {k:SK} {a b:AVal} {K:Bool→Bool} (h:AM.Z6o k a b K = true):∃ e,∀ K':Bool→Bool,AM.Z6o k a b K' = K' e:=by
  cases k with
  | bool =>
    obtain ⟨x,rfl,h1⟩:=AVal.Z1w.1 h
    obtain ⟨y,rfl,h2⟩:=AVal.Z1w.1 h1
    exact ⟨_,fun K' => rfl⟩
  | int =>
    obtain ⟨j,x,rfl,h1⟩:=AVal.Z0u.1 h
    obtain ⟨i,y,rfl,h2⟩:=AVal.Z0u.1 h1
    rcases Z03.1 h2 with ⟨h3,_⟩ | ⟨_,h3⟩
    · refine ⟨eqI x y,fun K' => ?_⟩
      show ifK (Nat.beq (Z19 j) (Z19 i)) (K' (eqI x y)) (fail 8) = _
      rw [h3]; rfl
    · cases h3
  | str =>
    obtain ⟨x,rfl,h1⟩:=AVal.Z25.1 h
    obtain ⟨y,rfl,h2⟩:=AVal.Z25.1 h1
    exact ⟨_,fun K' => rfl⟩
theorem Zc4:∀ {ks:List SK} {a b:List AVal} {K:Bool→Bool},AM.Z0v ks a b K = true→∃ e,∀ K':Bool→Bool,AM.Z0v ks a b K' = K' e
  | [],a,b,K,h => ⟨true,fun K' => rfl⟩
  | k :: ks,[],b,K,h => by cases h
  | k :: ks,x :: a,[],K,h => by cases h
  | k :: ks,x :: a,y :: b,K,h => by
    have h:AM.Z6o k x y (fun e => ifK e (AM.Z0v ks a b K) (K false)) = true:=h
    obtain ⟨e,he⟩:=Zpf h
    rw [he] at h
    have hr:∀ K':Bool→Bool,AM.Z0v (k :: ks) (x :: a) (y :: b) K' = ifK e (AM.Z0v ks a b K') (K' false):=fun K' => he _
    cases e with
    | true =>
      obtain ⟨e',he'⟩:=Zc4 (show AM.Z0v ks a b K = true from h)
      exact ⟨e',fun K' => (hr K').trans (he' K')⟩
    | false => exact ⟨false,hr⟩
theorem Zpg {ks:List SK} {a b:List AVal} (h:AM.Z0v ks a b (fun _ => true) = true) (k:Bool→Bool) (hk:k (AM.Z0v ks a b fun e => e) = true):AM.Z0v ks a b k = true:=by
  obtain ⟨e,he⟩:=Zc4 h
  rw [he] at hk
  rw [he]; exact hk
theorem Zuz {op:BinOp} {k:EK} {sh:Option (List SK)} {x y:AVal} {Q:AVal→Prop} (h:binP op k sh x y Q) (s:St):∃ v,Q v∧∀ K:VK,K v s = true→Zsn op k sh (some x) (some y) s K = true:=by
  unfold binP at h
  split at h
  · obtain ⟨h1,h2⟩:=h
    obtain ⟨v,h3,h4⟩:=Zv0 h2 s
    refine ⟨v,h3,fun K hK => ?_⟩
    show ifK (Zbt op) _ (ifK (Nat.beq (Z19 _) (Z19 _)) _ _) = true
    cases Zbt op with
    | true => exact h4 K hK
    | false => exact (show ifK (Nat.beq (Z19 _) (Z19 _)) _ _ = true from Z03.2 (.inl ⟨by rw [h1]; exact Nat.beq_refl _,h4 K hK⟩))
  · obtain ⟨h1,h2⟩:=h
    obtain ⟨v,h3,h4⟩:=Z9t h2 s
    refine ⟨v,h3,fun K hK => Z03.2 (.inl ⟨h1,?_⟩)⟩
    rw [Z7d]
    exact h4 K hK
  · rename_i a b
    cases op with
    | eql => exact ⟨_,h,fun K hK => Z50 (by rw [Z5p]; exact hK)⟩
    | neq => exact ⟨_,h,fun K hK => Z50 (by rw [Z4e,Z5p]; exact hK)⟩
    | _ => exact h.elim
  · obtain ⟨h1,h2⟩:=h
    obtain ⟨v,h3,h4⟩:=Z9t h2 s
    refine ⟨v,h3,fun K hK => ?_⟩
    show ifK (Z4n k .ptr) _ _ = true
    exact Z03.2 (.inl ⟨h1,h4 K hK⟩)
  · obtain ⟨h1,h2⟩:=h
    obtain ⟨v,h3,h4⟩:=Z9t h2 s
    refine ⟨v,h3,fun K hK => ?_⟩
    show ifK (Z4n k .ptr) _ _ = true
    exact Z03.2 (.inl ⟨h1,h4 K hK⟩)
  · obtain ⟨h1,h2⟩:=h
    obtain ⟨v,h3,h4⟩:=Z9t h2 s
    refine ⟨v,h3,fun K hK => ?_⟩
    show ifK (Z4n k .slc) _ _ = true
    exact Z03.2 (.inl ⟨h1,h4 K hK⟩)
  · obtain ⟨h1,h2⟩:=h
    obtain ⟨v,h3,h4⟩:=Z9t h2 s
    refine ⟨v,h3,fun K hK => ?_⟩
    show ifK (Z4n k .slc) _ _ = true
    exact Z03.2 (.inl ⟨h1,h4 K hK⟩)
  · rename_i a
    obtain ⟨ks,hks,h⟩:=Z0k h
    obtain ⟨b,hb,h0,h1,h2,h3⟩:=Zb1 h
    cases hb
    obtain ⟨v,h4,h5⟩:=Z9t h3 s
    refine ⟨v,h4,fun K hK => ?_⟩
    show Zva sh op a (.agg b) s K = true
    refine Z01.2 ⟨ks,hks,AVal.Z5l.2 ⟨b,rfl,?_⟩⟩
    rw [Z0p,Z0p,Z0p]
    refine Z03.2 (.inl ⟨by simp [h0],Z03.2 (.inl ⟨by simp [h1],Zpg h2 (fun e => Z3k op e s K) (h5 K hK)⟩)⟩)
  · exact h.elim
theorem Z8i {ag:Bool} {ks:List SK} {v:AVal} {K:List AVal→Bool} (h:Z1t ag ks v K = true):∃ c,∀ K':List AVal→Bool,Z1t ag ks v K' = K' c:=by
  cases ag with
  | false => exact ⟨[v],fun K' => rfl⟩
  | true =>
    obtain ⟨l,rfl,h1⟩:=AVal.Z5l.1 (show v.aggK _ = true from h)
    rw [Z0p,Z0p] at h1
    rcases Z03.1 h1 with ⟨h2,_⟩ | ⟨_,h2⟩
    · refine ⟨l,fun K' => ?_⟩
      show lenK l 0 (fun n => lenK ks 0 fun m => ifK (Nat.beq n m) (K' l) (fail 54)) = K' l
      rw [Z0p,Z0p,h2]; rfl
    · cases h2
theorem Zj1 {ag:Bool} {ks:List SK} {key:List AVal}:∀ {es:List MapE} {i:Nat} {K:Option (Nat × AVal)→Bool},Z2q ag ks key es i K = true→∃ r,∀ K':Option (Nat × AVal)→Bool,Z2q ag ks key es i K' = K' r
  | [],i,K,h => ⟨none,fun K' => rfl⟩
  | e :: es,i,K,h => by
    have h:Z1t ag ks e.key (fun c => Z0v ks key c fun b => ifK b (K (some (i,e.val))) (Z2q ag ks key es (Nat.succ i) K)) = true:=h
    obtain ⟨c,hc⟩:=Z8i h
    rw [hc] at h
    obtain ⟨b,hb⟩:=Zc4 h
    rw [hb] at h
    have hr:∀ K':Option (Nat × AVal)→Bool,Z2q ag ks key (e :: es) i K' = ifK b (K' (some (i,e.val))) (Z2q ag ks key es (Nat.succ i) K'):=fun K' => by
      show (Z1t ag ks e.key fun c => Z0v ks key c fun b => ifK b (K' (some (i,e.val))) (Z2q ag ks key es (Nat.succ i) K')) = _
      rw [hc,hb]
    cases b with
    | true => exact ⟨some (i,e.val),hr⟩
    | false =>
      obtain ⟨r,h2⟩:=Zj1 (show Z2q ag ks key es (Nat.succ i) K = true from h)
      exact ⟨r,fun K' => (hr K').trans (h2 K')⟩
theorem Zfm {ag:Bool} {ks:List SK} {v:AVal} {es:List MapE} {K K':Option (Nat × AVal)→Bool} (h:(Z1t ag ks v fun c => Z2q ag ks c es 0 K) = true) (hK:∀ x,K x = true→K' x = true) :
    (Z1t ag ks v fun c => Z2q ag ks c es 0 K') = true:=by
  obtain ⟨c,hc⟩:=Z8i h
  rw [hc] at h ⊢
  obtain ⟨r,hr⟩:=Zj1 h
  rw [hr] at h ⊢
  exact hK r h
theorem Zg7 {v key:AVal}:∀ {es:List MapE} {i:Nat} {K K':List MapE→Bool},Z40 v key es i K = true→(∀ x,K x = true→K' x = true)→Z40 v key es i K' = true
  | [],i,K,K',h,_ => by cases h
  | e :: es,0,K,K',h,hK => hK _ h
  | e :: es,i + 1,K,K',h,hK => Zg7 (es:=es) (i:=i) (K:=fun r => K (e :: r)) (K':=fun r => K' (e :: r)) h fun x hx => hK _ hx
theorem Zcp {ag:Bool} {ks:List SK} {key:AVal} {es:List MapE} {cl:Nat} {b:Pos} {s:St} {F:Option (Nat × AVal)→Bool} (ho:s.obj b = some (.map es cl)) (h:(Z1t ag ks key fun c => Z2q ag ks c es 0 F) = true) :
    (Z1t ag ks key fun c => (AVal.map b).mapK fun b => mapK b s fun es _ => Z2q ag ks c es 0 F) = true:=by
  obtain ⟨c,hc⟩:=Z8i h
  obtain ⟨c',hc'⟩:∃ c',∀ K':List AVal→Bool,Z1t ag ks key K' = K' c':=⟨c,hc⟩
  rw [hc] at h
  rw [hc]
  exact Z4b.2 ⟨es,cl,ho,h⟩
theorem Zlf {ag:Bool} {ks:List SK} {key:AVal} {es:List MapE} {cl:Nat} {b:Pos} {s:St} {F:Pos→List MapE→Nat→Option (Nat × AVal)→Bool} (ho:s.obj b = some (.map es cl)) (h:(Z1t ag ks key fun c => Z2q ag ks c es 0 (F b es cl)) = true) :
    (Z1t ag ks key fun c => (AVal.map b).mapK fun b => mapK b s fun es clock => Z2q ag ks c es 0 (F b es clock)) = true:=by
  obtain ⟨c,hc⟩:=Z8i h
  rw [hc] at h
  rw [hc]
  exact Z4b.2 ⟨es,cl,ho,h⟩
theorem Zrt {a b:Nat} (h:¬ a = b):Nat.beq a b = false:=by
  cases e:Nat.beq a b with
  | false => rfl
  | true => exact (h (Nat.eq_of_beq_eq_true e)).elim
theorem Zv1 {es:Nat} {x:AVal} {s:St} {F:List AVal→Nat→Prop} (h:srcP es x s F):∃ l n,F l n∧∀ K:List AVal→Nat→Bool,K l n = true→srcK es x s K = true:=by
  unfold srcP at h
  split at h
  · rename_i l
    refine ⟨_,_,h.2,fun K hK => ?_⟩
    show ifK (Nat.beq es 1) (lenK l 0 fun n => Zam l fun cs => K cs n) (fail 31) = true
    refine Z03.2 (.inl ⟨by rw [h.1]; rfl,?_⟩)
    rw [Z0p,Zf5,Nat.zero_add]
    exact hK
  · exact ⟨_,_,h,fun K hK => hK⟩
  · rename_i b off n c
    split at h
    · rename_i hn
      subst hn
      exact ⟨_,_,h,fun K hK => hK⟩
    · rename_i hn
      obtain ⟨cs,hc,h1,h2⟩:=Z0k h
      obtain ⟨ro,ho⟩:=St.Z7l hc
      refine ⟨_,_,h2,fun K hK => ?_⟩
      show ifK (Nat.beq n 0) (K [] 0) (Z2f b s fun cs _ => segK cs off (Nat.mul n es) fun l => K l n) = true
      exact Z03.2 (.inr ⟨Zrt hn,Z1i.2 ⟨cs,ro,ho,Z2x.2 ⟨h1,hK⟩⟩⟩)
  · exact h.elim
noncomputable def Zbq (e:Nat × Nat) (x:AVal) (new:List AVal) (n:Nat) (s:St) (K:VK):Bool :=
  @AVal.rec (fun _ => Bool) (fun _ => Bool) (fun _ => false) (fun _ _ => false) (fun _ => false) (fun _ _ => false) false
    (fun b off len cap => natK (Nat.add len n) fun need =>
      @Cap.rec (fun _ => Bool) (fun c => ifK (Nat.beq n 0) (ifK (Nat.ble len c) (K (.slice b off len (.lim c)) s) (fail 34)) (Z5w e.1 e.2 b off len c need new s K))
        (fun es => ifK (Nat.beq n 0) (K (.slice b off len (.opn es)) s) (ifK (Nat.beq es e.1) (Z9m e.1 e.2 b off len need new s K) (fail 34))) cap)
    (ifK (Nat.beq n 0) (K .nilSlice s) (Z54 n e.2 (Z4d e.1 new n s K)))
    (fun _ => false) false (fun _ _ _ _ _ => false) (fun _ => false) false (fun _ _ _ => false) false (fun _ _ => false) (fun _ _ => false) false (fun _ _ _ _ => false) x
theorem beq_false {a b:Nat} (h:¬ a = b):Nat.beq a b = false:=by
  cases e:Nat.beq a b with
  | false => rfl
  | true => exact (h (Nat.eq_of_beq_eq_true e)).elim
theorem Zf4 {a b:Nat} (h:¬ a ≤ b):Nat.ble a b = false:=by
  cases e:Nat.ble a b with
  | false => rfl
  | true => exact (h (Nat.le_of_ble_eq_true e)).elim
theorem Zh2 {e:Nat × Nat} {b:Pos} {off len c:Nat} {new:List AVal} {n:Nat} {s:St} {K:VK}:Zbq e (.slice b off len (.lim c)) new n s K =
    ifK (Nat.beq n 0) (ifK (Nat.ble len c) (K (.slice b off len (.lim c)) s) (fail 34)) (Z5w e.1 e.2 b off len c (len + n) new s K) :=
  Z1h (n:=len + n) (K:=fun need => ifK (Nat.beq n 0) (ifK (Nat.ble len c) (K (.slice b off len (.lim c)) s) (fail 34)) (Z5w e.1 e.2 b off len c need new s K))
theorem Zh3 {e:Nat × Nat} {b:Pos} {off len es:Nat} {new:List AVal} {n:Nat} {s:St} {K:VK}:Zbq e (.slice b off len (.opn es)) new n s K =
    ifK (Nat.beq n 0) (K (.slice b off len (.opn es)) s) (ifK (Nat.beq es e.1) (Z9m e.1 e.2 b off len (len + n) new s K) (fail 34)) :=
  Z1h (n:=len + n) (K:=fun need => ifK (Nat.beq n 0) (K (.slice b off len (.opn es)) s) (ifK (Nat.beq es e.1) (Z9m e.1 e.2 b off len need new s K) (fail 34)))
theorem Z9c {es eb need:Nat} {cs:List AVal} {s:St} {Q:AVal→St→Prop} (h:Z4m es eb cs need s Q):∃ v s',Q v s'∧∀ K:VK,K v s' = true→Z54 need eb (Z4d es cs need s K) = true:=by
  refine ⟨_,_,h.2,fun K hK => Z03.2 (.inl ⟨Nat.ble_eq_true_of_le h.1,?_⟩)⟩
  unfold Z4d
  rw [Z21]
  exact hK
theorem Zuy {e:Nat × Nat} {x:AVal} {new:List AVal} {n:Nat} {s:St} {Q:AVal→St→Prop} (h:appP e x new n s Q):∃ v s',Q v s'∧∀ K:VK,K v s' = true→Zbq e x new n s K = true:=by
  unfold appP at h
  split at h
  · split at h
    · rename_i hn
      subst hn
      exact ⟨_,_,h,fun K hK => hK⟩
    · rename_i hn
      obtain ⟨v,s',h1,h2⟩:=Z9c h
      exact ⟨v,s',h1,fun K hK => Z03.2 (.inr ⟨beq_false hn,h2 K hK⟩)⟩
  · rename_i b off len c
    split at h
    · rename_i hn
      subst hn
      refine ⟨_,_,h.2,fun K hK => ?_⟩
      rw [Zh2]
      exact Z03.2 (.inl ⟨rfl,Z03.2 (.inl ⟨Nat.ble_eq_true_of_le h.1,hK⟩)⟩)
    · rename_i hn
      have hgo:∀ (v:AVal) (s':St),Q v s'→(∀ K:VK,K v s' = true→Z5w e.1 e.2 b off len c (len + n) new s K = true)→∃ v s',Q v s'∧∀ K:VK,K v s' = true→Zbq e (.slice b off len (.lim c)) new n s K = true:=by
        intro v s' h1 h2
        refine ⟨v,s',h1,fun K hK => ?_⟩
        rw [Zh2]
        exact Z03.2 (.inr ⟨beq_false hn,h2 K hK⟩)
      split at h
      · rename_i hle
        obtain ⟨cs,hc,h1,h2⟩:=Z0k h
        refine hgo _ _ h2 fun K hK => Z03.2 (.inl ⟨Nat.ble_eq_true_of_le hle,?_⟩)
        refine Z1i.2 ⟨cs,false,St.Z2b hc,?_⟩
        refine Z03.2 (.inr ⟨rfl,Z43.2 ⟨h1,?_⟩⟩)
        rw [Z28]
        exact hK
      · rename_i hle
        split at h
        · rename_i hl
          obtain ⟨v,s',h1,h2⟩:=Z9c h
          refine hgo v s' h1 fun K hK => Z03.2 (.inr ⟨Zf4 hle,?_⟩)
          have h3:=h2 K hK
          subst hl
          rw [Nat.zero_add]
          unfold Z54 at h3 ⊢
          rcases Z03.1 h3 with ⟨h4,h5⟩ | ⟨_,h5⟩
          · exact Z03.2 (.inl ⟨h4,Z03.2 (.inl ⟨rfl,h5⟩)⟩)
          · cases h5
        · rename_i hl
          obtain ⟨cs,hc,h0,h⟩:=Z0k h
          obtain ⟨ro,ho⟩:=St.Z7l hc
          obtain ⟨v,s',h1,h2⟩:=Z9c h
          refine hgo v s' h1 fun K hK => Z03.2 (.inr ⟨Zf4 hle,?_⟩)
          have h3:=h2 K hK
          unfold Z54 at h3 ⊢
          rcases Z03.1 h3 with ⟨h4,h5⟩ | ⟨_,h5⟩
          · refine Z03.2 (.inl ⟨h4,Z03.2 (.inr ⟨beq_false hl,Z1i.2 ⟨cs,ro,ho,Z2x.2 ⟨h0,?_⟩⟩⟩)⟩)
            rw [Z3e]
            exact h5
          · cases h5
  · rename_i b off len es
    split at h
    · rename_i hn
      subst hn
      refine ⟨_,_,h,fun K hK => ?_⟩
      rw [Zh3]
      exact Z03.2 (.inl ⟨rfl,hK⟩)
    · rename_i hn
      obtain ⟨rfl,h⟩:=h
      obtain ⟨cs,hc,h⟩:=Z0k h
      have hgo:∀ (v:AVal) (s':St),Q v s'→(∀ K:VK,K v s' = true→(ifK (Nat.ble 1 len) (ifK (Nat.ble (Nat.add off (Nat.mul (len + n) e.1)) cs.length)
        (Z3s new cs (Nat.add off (Nat.mul len e.1)) fun cs => putK b (.cells cs false) s fun s => K (.slice b off (len + n) (.opn e.1)) s)
        (Z54 (len + n) e.2 (segK cs off (Nat.mul len e.1) fun old => appK old new fun cs => putK b .dead s fun s => Z4d e.1 cs (len + n) s K)))
      (Z54 (len + n) e.2 (putK b .dead s fun s => Z4d e.1 new (len + n) s K))) = true)→∃ v s',Q v s'∧∀ K:VK,K v s' = true→Zbq e (.slice b off len (.opn e.1)) new n s K = true:=by
        intro v s' h1 h2
        refine ⟨v,s',h1,fun K hK => ?_⟩
        rw [Zh3]
        refine Z03.2 (.inr ⟨beq_false hn,Z03.2 (.inl ⟨Nat.beq_refl _,?_⟩)⟩)
        refine Z1i.2 ⟨cs,false,St.Z2b hc,?_⟩
        refine Z03.2 (.inr ⟨rfl,?_⟩)
        rw [Z0p,Nat.zero_add]
        exact h2 K hK
      split at h
      · rename_i hl
        obtain ⟨v,s',h1,h2⟩:=Z9c h
        refine hgo v s' h1 fun K hK => Z03.2 (.inr ⟨by rw [hl]; rfl,?_⟩)
        have h3:=h2 K hK
        subst hl
        rw [Nat.zero_add]
        unfold Z54 at h3 ⊢
        rcases Z03.1 h3 with ⟨h4,h5⟩ | ⟨_,h5⟩
        · refine Z03.2 (.inl ⟨h4,?_⟩)
          rw [Z28]
          exact h5
        · cases h5
      · rename_i hl
        split at h
        · rename_i hle
          refine hgo _ _ h.2 fun K hK => Z03.2 (.inl ⟨Nat.ble_eq_true_of_le (by omega),Z03.2 (.inl ⟨Nat.ble_eq_true_of_le hle,Z43.2 ⟨h.1,?_⟩⟩)⟩)
          rw [Z28]
          exact hK
        · rename_i hle
          obtain ⟨v,s',h1,h2⟩:=Z9c h.2
          refine hgo v s' h1 fun K hK => Z03.2 (.inl ⟨Nat.ble_eq_true_of_le (by omega),Z03.2 (.inr ⟨Zf4 hle,?_⟩)⟩)
          have h3:=h2 K hK
          unfold Z54 at h3 ⊢
          rcases Z03.1 h3 with ⟨h4,h5⟩ | ⟨_,h5⟩
          · refine Z03.2 (.inl ⟨h4,Z2x.2 ⟨h.1,?_⟩⟩)
            rw [Z3e,Z28]
            exact h5
          · cases h5
  · exact h.elim
theorem Zlo {P:Program} {o:MOp} {γ:RO→Option AVal} {s:St} {Q:AVal→St→Prop} (h:opP P o γ s Q):∃ v s',Q v s'∧∃ n0,∀ n,n0 ≤ n→∀ K:VK,K v s' = true→mopK P (exec P n) o γ s K = true:=by
  have plain:∀ v s',Q v s'→(∀ rec (K:VK),K v s' = true→mopK P rec o γ s K = true)→∃ v s',Q v s'∧∃ n0,∀ n,n0 ≤ n→∀ K:VK,K v s' = true→mopK P (exec P n) o γ s K = true :=
    fun v s' h1 h2 => ⟨v,s',h1,0,fun n _ K hK => h2 _ K hK⟩
  cases o with
  | move x =>
    obtain ⟨v,e,h⟩:=Z1j h
    exact plain v s h fun rec K hK => Z01.2 ⟨v,e,hK⟩
  | pick c a b =>
    obtain ⟨t,e,h⟩:=Z9u h
    split at h
    · rename_i ht
      subst ht
      obtain ⟨v,e1,h⟩:=Z1j h
      exact plain v s h fun rec K hK => Z01.2 ⟨_,e,AVal.Z1w.2 ⟨true,rfl,Z01.2 ⟨v,e1,hK⟩⟩⟩
    · rename_i ht
      have ht:t = false:=by simpa using ht
      subst ht
      obtain ⟨v,e1,h⟩:=Z1j h
      exact plain v s h fun rec K hK => Z01.2 ⟨_,e,AVal.Z1w.2 ⟨false,rfl,Z01.2 ⟨v,e1,hK⟩⟩⟩
  | alloc z =>
    obtain ⟨cs,e,h⟩:=Z0k h
    exact plain _ _ h fun rec K hK => Z01.2 ⟨cs,e,by unfold Z4t; rw [Z21]; exact hK⟩
  | box x =>
    obtain ⟨v,e,h0,h⟩:=Z1j h
    exact plain _ _ h fun rec K hK => Z01.2 ⟨v,e,Z4p.2 ⟨h0,by rw [Z4l]; unfold Z4t; rw [Z21]; exact hK⟩⟩
  | build pl z =>
    obtain ⟨pl',e,h⟩:=Z0k h
    obtain ⟨zs,e1,h⟩:=Z0k h
    obtain ⟨cs,h1,h2⟩:=Ze6 h
    exact plain _ _ h1 fun rec K hK => Z01.2 ⟨pl',e,Z01.2 ⟨zs,e1,h2 (fun cs => K (.agg cs) s) hK⟩⟩
  | buildSlice e z len ps =>
    obtain ⟨e',he,h⟩:=Z0k h
    obtain ⟨zs,hz,h0,h1,h⟩:=Z0k h
    obtain ⟨cs,h2,h3⟩:=Ze6 h
    refine plain _ _ h2 fun rec K hK => Z01.2 ⟨e',he,Z01.2 ⟨zs,hz,?_⟩⟩
    rw [Z0p]
    refine Z03.2 (.inl ⟨by simp [h0],Z03.2 (.inl ⟨Nat.ble_eq_true_of_le h1,?_⟩)⟩)
    rw [Za3,List.append_nil]
    exact h3 (fun cs => Z4z (.cells cs false) s fun b s => K (.slice b 0 len (.lim len)) s) (by rw [Z21]; exact hK)
  | load n a =>
    obtain ⟨n',hn,h⟩:=Z0k h
    obtain ⟨b,off,ha,h⟩:=Z5e h
    obtain ⟨cs,hc,h⟩:=Z0k h
    obtain ⟨v,h1,h2⟩:=Zba h
    obtain ⟨ro,ho⟩:=St.Z7l hc
    exact plain v s h1 fun rec K hK => Z01.2 ⟨n',hn,Z01.2 ⟨_,ha,AVal.Z29.2 ⟨b,off,rfl,Z1i.2 ⟨cs,ro,ho,h2 (fun v => K v s) hK⟩⟩⟩⟩
  | store n a x =>
    obtain ⟨n',hn,h⟩:=Z0k h
    obtain ⟨v,hv,h0,h1,h⟩:=Z1j h
    obtain ⟨b,off,ha,h⟩:=Z5e h
    obtain ⟨cs,hc,h2,h⟩:=Z0k h
    refine plain _ _ h fun rec K hK => Z01.2 ⟨n',hn,Z01.2 ⟨v,hv,Z4p.2 ⟨h0,?_⟩⟩⟩
    rw [Z4l,Z0p]
    refine Z03.2 (.inl ⟨by simp [h1],Z01.2 ⟨_,ha,AVal.Z29.2 ⟨b,off,rfl,Z1i.2 ⟨cs,false,St.Z2b hc,?_⟩⟩⟩⟩)
    refine Z03.2 (.inr ⟨rfl,Z43.2 ⟨by omega,?_⟩⟩)
    rw [Z28]
    exact hK
  | nilck x =>
    obtain ⟨b,o,e,h⟩:=Z5e h
    exact plain _ s h fun rec K hK => Z01.2 ⟨_,e,AVal.Z29.2 ⟨b,o,rfl,hK⟩⟩
  | bin op k sh x y =>
    obtain ⟨v,e,h⟩:=Z1j h
    obtain ⟨u,e1,h⟩:=Z1j h
    obtain ⟨r,h1,h2⟩:=Zuz h s
    refine plain r s h1 fun rec K hK => ?_
    show Zsn op k sh (γ x) (γ y) s K = true
    rw [e,e1]
    exact h2 K hK
  | un op x =>
    cases op with
    | not =>
      obtain ⟨b,e,h⟩:=Z9u h
      exact plain _ s h fun rec K hK => Z01.2 ⟨_,e,AVal.Z1w.2 ⟨b,rfl,Z50 (by rw [Z4e]; exact hK)⟩⟩
    | neg =>
      obtain ⟨k,n,e,h⟩:=Z5d h
      exact plain _ s h fun rec K hK => Z01.2 ⟨_,e,AVal.Z0u.2 ⟨k,n,rfl,Z5f (by rw [Z63]; exact hK)⟩⟩
    | _ => exact h.elim
  | conv k x =>
    cases k with
    | int k =>
      obtain ⟨j,n,e,h⟩:=Z5d h
      exact plain _ s h fun rec K hK => Z01.2 ⟨_,e,AVal.Z0u.2 ⟨j,n,rfl,Z5f (by rw [Z63]; exact hK)⟩⟩
    | same =>
      obtain ⟨l,e,h⟩:=Zb2 h
      exact plain _ s h fun rec K hK => Z01.2 ⟨_,e,AVal.Z25.2 ⟨l,rfl,hK⟩⟩
    | _ => exact h.elim
  | func f a c =>
    obtain ⟨f',e,h⟩:=Z0k h
    obtain ⟨as,h1,h2⟩:=Zbb h
    obtain ⟨cs,h3,h4⟩:=Zbb h1
    exact plain _ s h3 fun rec K hK => Z01.2 ⟨f',e,h2 (fun a => Zas γ c fun c => K (.fn f' a c) s) (h4 (fun c => K (.fn f' as c) s) hK)⟩
  | makeMap ok =>
    obtain ⟨h0,h⟩:=h
    exact plain _ _ h fun rec K hK => Z03.2 (.inl ⟨h0,by rw [Z21]; exact hK⟩)
  | makeSlice e z l c =>
    obtain ⟨e',he,h⟩:=Z0k h
    obtain ⟨zs,hz,h0,h⟩:=Z0k h
    obtain ⟨j,l',hl,h⟩:=Z5d h
    obtain ⟨i,c',hc,h1,h2,h3,h4,h⟩:=Z5d h
    refine plain _ _ h fun rec K hK => Z01.2 ⟨e',he,Z01.2 ⟨zs,hz,?_⟩⟩
    rw [Z0p]
    refine Z03.2 (.inl ⟨by simp [h0],Z01.2 ⟨_,hl,Z01.2 ⟨_,hc,AVal.Z0u.2 ⟨j,l',rfl,AVal.Z0u.2 ⟨i,c',rfl,Z2v.2 ⟨l'.toNat,by omega,Z2v.2 ⟨c'.toNat,by omega,?_⟩⟩⟩⟩⟩⟩⟩)
    refine Z03.2 (.inl ⟨Nat.ble_eq_true_of_le (by omega),Z03.2 (.inl ⟨Nat.ble_eq_true_of_le h3,Z03.2 (.inl ⟨Nat.ble_eq_true_of_le h4,?_⟩)⟩)⟩)
    rw [Za3,List.append_nil,Z21]
    exact hK
  | fieldAddr o x =>
    obtain ⟨fo,e,h⟩:=Z0k h
    obtain ⟨b,off,e1,h⟩:=Z5e h
    refine plain _ s h fun rec K hK => Z01.2 ⟨fo,e,Z01.2 ⟨_,e1,AVal.Z29.2 ⟨b,off,rfl,?_⟩⟩⟩
    rw [Z1h]; exact hK
  | field f x =>
    obtain ⟨f',e,h⟩:=Z0k h
    obtain ⟨l,e1,h⟩:=Zb1 h
    obtain ⟨v,h1,h2⟩:=Zba h
    exact plain v s h1 fun rec K hK => Z01.2 ⟨f',e,Z01.2 ⟨_,e1,AVal.Z5l.2 ⟨l,rfl,h2 (fun v => K v s) hK⟩⟩⟩
  | indexAddr k e a x i =>
    obtain ⟨j,n,hi,h0,h⟩:=Z5d h
    cases k with
    | slc =>
      obtain ⟨e',he,h⟩:=Z0k h
      obtain ⟨b,off,m,c,hx,h1,h⟩:=Zmb h
      refine plain _ s h fun rec K hK => Z01.2 ⟨_,hx,Z01.2 ⟨_,hi,AVal.Z0u.2 ⟨j,n,rfl,Z2v.2 ⟨n.toNat,by omega,?_⟩⟩⟩⟩
      refine Z01.2 ⟨e',he,AVal.Zag.2 ⟨b,off,m,c,rfl,Z03.2 (.inl ⟨Nat.ble_eq_true_of_le (by omega),?_⟩)⟩⟩
      rw [Z1h]; exact hK
    | arr =>
      obtain ⟨e',he,h⟩:=Z0k h
      obtain ⟨b,off,hx,h1,h⟩:=Z5e h
      refine plain _ s h fun rec K hK => Z01.2 ⟨_,hx,Z01.2 ⟨_,hi,AVal.Z0u.2 ⟨j,n,rfl,Z2v.2 ⟨n.toNat,by omega,?_⟩⟩⟩⟩
      refine Z01.2 ⟨e',he,AVal.Z29.2 ⟨b,off,rfl,Z03.2 (.inl ⟨Nat.ble_eq_true_of_le (by omega),?_⟩)⟩⟩
      rw [Z1h]; exact hK
    | _ => exact h.elim
  | index k e x i =>
    obtain ⟨j,n,hi,h0,h⟩:=Z5d h
    cases k with
    | str =>
      obtain ⟨l,hx,h⟩:=Zb2 h
      obtain ⟨c,hc,h⟩:=Z0k h
      refine plain _ s h fun rec K hK => Z01.2 ⟨_,hx,Z01.2 ⟨_,hi,AVal.Z0u.2 ⟨j,n,rfl,Z2v.2 ⟨n.toNat,by omega,?_⟩⟩⟩⟩
      refine AVal.Z25.2 ⟨l,rfl,Z4u.2 ⟨c,hc,?_⟩⟩
      rw [Z1h]; exact hK
    | arr =>
      obtain ⟨e',he,h⟩:=Z0k h
      obtain ⟨l,hx,h1,h⟩:=Zb1 h
      obtain ⟨v,h2,h3⟩:=Zba h
      refine plain _ s h2 fun rec K hK => Z01.2 ⟨_,hx,Z01.2 ⟨_,hi,AVal.Z0u.2 ⟨j,n,rfl,Z2v.2 ⟨n.toNat,by omega,?_⟩⟩⟩⟩
      exact Z01.2 ⟨e',he,AVal.Z5l.2 ⟨l,rfl,Z03.2 (.inl ⟨Nat.ble_eq_true_of_le (by omega),h3 (fun v => K v s) hK⟩)⟩⟩
    | _ => exact h.elim
  | extract x i =>
    obtain ⟨l,e,h⟩:=Zmc h
    obtain ⟨v,e1,h⟩:=Z0k h
    exact plain v s h fun rec K hK => Z01.2 ⟨_,e,AVal.Zd2.2 ⟨l,rfl,Z4u.2 ⟨v,e1,hK⟩⟩⟩
  | lookup i ok m k =>
    obtain ⟨info,hi,h⟩:=Z0k h
    obtain ⟨key,hk,h⟩:=Z1j h
    split at h
    · rename_i b hm
      split at h
      · rename_i es cl ho
        obtain ⟨r,hr,h⟩:=h
        have hdet:∀ K':Option (Nat × AVal)→Bool,K' r = true→(Z1t info.1 info.2.1 key fun c => Z2q info.1 info.2.1 c es 0 K') = true:=fun K' hK' => Zfm hr (fun x hx => (Z1x.1 hx) ▸ hK')
        cases r with
        | none =>
          cases ok with
          | true =>
            refine plain _ s h fun rec K hK => Z01.2 ⟨info,hi,Z01.2 ⟨_,hm,Z01.2 ⟨key,hk,?_⟩⟩⟩
            exact Zcp ho (hdet (fun r => @Option.rec (Nat × AVal) (fun _ => Bool) (ifK true (K (.tup [info.2.2,.bool false]) s) (K info.2.2 s)) (fun x => ifK true (K (.tup [x.2,.bool true]) s) (K x.2 s)) r) hK)
          | false =>
            refine plain _ s h fun rec K hK => Z01.2 ⟨info,hi,Z01.2 ⟨_,hm,Z01.2 ⟨key,hk,?_⟩⟩⟩
            exact Zcp ho (hdet (fun r => @Option.rec (Nat × AVal) (fun _ => Bool) (ifK false (K (.tup [info.2.2,.bool false]) s) (K info.2.2 s)) (fun x => ifK false (K (.tup [x.2,.bool true]) s) (K x.2 s)) r) hK)
        | some x =>
          cases ok with
          | true =>
            refine plain _ s h fun rec K hK => Z01.2 ⟨info,hi,Z01.2 ⟨_,hm,Z01.2 ⟨key,hk,?_⟩⟩⟩
            exact Zcp ho (hdet (fun r => @Option.rec (Nat × AVal) (fun _ => Bool) (ifK true (K (.tup [info.2.2,.bool false]) s) (K info.2.2 s)) (fun x => ifK true (K (.tup [x.2,.bool true]) s) (K x.2 s)) r) hK)
          | false =>
            refine plain _ s h fun rec K hK => Z01.2 ⟨info,hi,Z01.2 ⟨_,hm,Z01.2 ⟨key,hk,?_⟩⟩⟩
            exact Zcp ho (hdet (fun r => @Option.rec (Nat × AVal) (fun _ => Bool) (ifK false (K (.tup [info.2.2,.bool false]) s) (K info.2.2 s)) (fun x => ifK false (K (.tup [x.2,.bool true]) s) (K x.2 s)) r) hK)
      · exact h.elim
    · exact h.elim
  | mapSet i m k x =>
    obtain ⟨info,hi,h⟩:=Z0k h
    obtain ⟨key,hk,h⟩:=Z1j h
    obtain ⟨xv,hx,h⟩:=Z1j h
    split at h
    · rename_i b hm
      split at h
      · rename_i es cl ho
        obtain ⟨r,hr,h⟩:=h
        have hdet:∀ K':Option (Nat × AVal)→Bool,K' r = true→(Z1t info.1 info.2.1 key fun c => Z2q info.1 info.2.1 c es 0 K') = true:=fun K' hK' => Zfm hr (fun x hx => (Z1x.1 hx) ▸ hK')
        cases r with
        | none =>
          refine plain _ _ h fun rec K hK => Z01.2 ⟨info,hi,Z01.2 ⟨_,hm,Z01.2 ⟨key,hk,Z01.2 ⟨xv,hx,?_⟩⟩⟩⟩
          refine Zlf ho (hdet (fun r => @Option.rec (Nat × AVal) (fun _ => Bool)
            (appK es [{ key:=key,val:=xv,born:=cl }] fun es => natK (Nat.succ cl) fun c => putK b (.map es c) s fun s => K (.tup []) s)
            (fun p => Z40 xv key es p.1 fun es => putK b (.map es cl) s fun s => K (.tup []) s) r) ?_)
          show appK es [{ key:=key,val:=xv,born:=cl }] (fun es => natK (Nat.succ cl) fun c => putK b (.map es c) s fun s => K (.tup []) s) = true
          rw [Z3e,Z1h,Z28]
          exact hK
        | some p =>
          obtain ⟨es',h1,h⟩:=h
          refine plain _ _ h fun rec K hK => Z01.2 ⟨info,hi,Z01.2 ⟨_,hm,Z01.2 ⟨key,hk,Z01.2 ⟨xv,hx,?_⟩⟩⟩⟩
          refine Zlf ho (hdet (fun r => @Option.rec (Nat × AVal) (fun _ => Bool)
            (appK es [{ key:=key,val:=xv,born:=cl }] fun es => natK (Nat.succ cl) fun c => putK b (.map es c) s fun s => K (.tup []) s)
            (fun p => Z40 xv key es p.1 fun es => putK b (.map es cl) s fun s => K (.tup []) s) r) ?_)
          show Z40 xv key es p.1 (fun es => putK b (.map es cl) s fun s => K (.tup []) s) = true
          refine Zg7 h1 (fun e he => ?_)
          rw [Z1x.1 he,Z28]
          exact hK
      · exact h.elim
    · exact h.elim
  | call f l =>
    obtain ⟨fv,e,h⟩:=Z1j h
    obtain ⟨args,h1,h2⟩:=Zbb h
    obtain ⟨v,s',⟨n0,hn⟩,hq⟩:=h1
    exact ⟨v,s',hq,n0,fun n hle K hK => Z01.2 ⟨fv,e,h2 (fun args => Zis P (exec P n) fv args s K) (hn n hle K hK)⟩⟩
  | len e x =>
    obtain ⟨e',he,h⟩:=Z0k h
    obtain ⟨tk,m⟩:=e'
    cases tk with
    | str =>
      obtain ⟨l,hx,h⟩:=Zb2 h
      refine plain _ s h fun rec K hK => Z01.2 ⟨_,he,Z01.2 ⟨_,hx,AVal.Z25.2 ⟨l,rfl,?_⟩⟩⟩
      rw [Z0p,Nat.zero_add]; exact hK
    | slc =>
      obtain ⟨v,hx,h⟩:=Z1j h
      obtain ⟨n,hn,h⟩:=Z0k h
      refine plain _ s h fun rec K hK => Z01.2 ⟨_,he,Z01.2 ⟨_,hx,?_⟩⟩
      cases v <;> simp [Z18] at hn
      · subst hn; exact hK
      · subst hn; exact hK
    | arr =>
      obtain ⟨v,hx,h⟩:=Z1j h
      refine plain _ s h fun rec K hK => Z01.2 ⟨_,he,Z01.2 ⟨_,hx,?_⟩⟩
      show natK m _ = true
      rw [Z1h]; exact hK
    | map =>
      simp only at h
      split at h
      · rename_i b hm
        split at h
        · rename_i es cl ho
          refine plain _ s h fun rec K hK => Z01.2 ⟨_,he,Z01.2 ⟨_,hm,?_⟩⟩
          refine Z4b.2 ⟨es,cl,ho,?_⟩
          rw [Z0p,Nat.zero_add]; exact hK
        · exact h.elim
      · exact h.elim
    | other => exact h.elim
  | append e x y =>
    obtain ⟨e',he,h⟩:=Z0k h
    obtain ⟨xv,hx,h⟩:=Z1j h
    obtain ⟨yv,hy,h⟩:=Z1j h
    obtain ⟨new,n,h1,h2⟩:=Zv1 h
    obtain ⟨v,s',h3,h4⟩:=Zuy h1
    exact plain v s' h3 fun rec K hK => Z01.2 ⟨e',he,Z01.2 ⟨xv,hx,Z01.2 ⟨yv,hy,h2 (fun new n => Zbq e' xv new n s K) (h4 K hK)⟩⟩⟩
  | _ =>
    obtain ⟨v,s',h1,h2⟩:=h
    exact plain v s' h2 h1
end Go.AM
end
section
namespace Go.AM
variable [Orc] [OrcOk]
theorem Zhb {g : Option (Option (RO × Bool))} {γ : RO → Option AVal} {A B : Prop} (h : Zc7 g γ A B) : (A ∧ ∀ x y, Z6a g γ x y = x) ∨ (B ∧ ∀ x y, Z6a g γ x y = y) := by
  cases g with
  | none => exact .inl ⟨h, fun x y => rfl⟩
  | some g =>
    obtain ⟨g', hg, h⟩ := Z0k h
    subst hg
    obtain ⟨v, hv, h⟩ := Z1j h
    have hr : ∀ x y, Z6a (some (some g')) γ x y = @AVal.rec (fun _ => Bool) (fun _ => Bool) (fun b => ifK (Z5o b g'.2) x y) (fun _ _ => y) (fun _ => y) (fun _ _ => y) y (fun _ _ _ _ => y) y (fun _ => y) y (fun _ _ _ _ _ => y) (fun _ => y) y
        (fun _ _ _ => y) y (fun _ _ => y) (fun _ _ => y) false (fun _ _ _ _ => false) v := fun x y => by
      show (optK (γ g'.1) fun v => _) = _
      rw [hv]; rfl
    cases v with
    | bool b =>
      simp only at h
      split at h
      · rename_i hb
        refine .inl ⟨h, fun x y => (hr x y).trans ?_⟩
        show ifK (Z5o b g'.2) x y = x
        rw [Z7d, hb]; simp [ifK]
      · rename_i hb
        refine .inr ⟨h, fun x y => (hr x y).trans ?_⟩
        show ifK (Z5o b g'.2) x y = y
        rw [Z7d]
        have : (b == g'.2) = false := by simpa using hb
        rw [this]; rfl
    | iface t u => exact h.elim
    | _ => exact .inr ⟨h, hr⟩
theorem Z7b:∀ {cm:List (Option Pos)} {l:List AVal} {t t':PT AVal},Z5b cm l t = some t'→∀ k:PT AVal→Bool,k t' = true→Z3u cm l t k = true
  | [],l,t,t',h,k,hk => by cases h; exact hk
  | _ :: _,[],t,t',h,k,hk => by cases h
  | none :: r,v :: l,t,t',h,k,hk => Z7b (cm:=r) h k hk
  | some p :: r,v :: l,t,t',h,k,hk => by
    show PT.setK p v t (fun t => Z3u r l t k) = true
    rw [PT.Zbx]
    exact Z7b (cm:=r) h k hk
section
variable {P:Program}
theorem Z6x {cm : List (Option Pos)} : ∀ {l : List MItem} {locals : List AVal} {tree : PT AVal} {s : St} {Q : PT AVal → St → Prop}, Z4a P cm l locals tree s Q →
    ∃ t s', Q t s' ∧ ∃ n0, ∀ n, n0 ≤ n → ∀ K : PT AVal → St → Bool, K t s' = true → Z3v P (exec P n) cm l locals tree s K = true
  | [], locals, tree, s, Q, h => by
    obtain ⟨t, e, h⟩ := Z0k h
    exact ⟨t, s, h, 0, fun n _ K hK => Z7b e (fun t => K t s) hK⟩
  | .run g o :: r, locals, tree, s, Q, h => by
    have hr : ∀ rec K, Z3v P rec cm (.run g o :: r) locals tree s K = Z6a g (fun x => getO tree locals x) (mopK P rec o (fun x => getO tree locals x) s fun v s => Z3v P rec cm r (v :: locals) tree s K)
      (Z3v P rec cm r (.tup [] :: locals) tree s K) := fun _ _ => rfl
    rcases Zhb h with ⟨h1, h2⟩ | ⟨h1, h2⟩
    · obtain ⟨v, s1, h3, n1, h4⟩ := Zlo h1
      obtain ⟨t, s', h5, n2, h6⟩ := Z6x h3
      refine ⟨t, s', h5, max n1 n2, fun n hn K hK => ?_⟩
      rw [hr, h2]
      exact h4 n (by omega) _ (h6 n (by omega) K hK)
    · obtain ⟨t, s', h5, n2, h6⟩ := Z6x h1
      refine ⟨t, s', h5, n2, fun n hn K hK => ?_⟩
      rw [hr, h2]
      exact h6 n hn K hK
  | .chk g o u :: r, locals, tree, s, Q, h => by
    have hr : ∀ rec K, Z3v P rec cm (.chk g o u :: r) locals tree s K = Z6a g (fun x => getO tree locals x)
        (mopK P rec o (fun x => getO tree locals x) s fun v _ => optK u fun x => optK (getO tree locals x) fun u => ifK (Z2l 8 v u) (Z3v P rec cm r locals tree s K) (fail 49))
        (Z3v P rec cm r locals tree s K) := fun _ _ => rfl
    rcases Zhb h with ⟨h1, h2⟩ | ⟨h1, h2⟩
    · obtain ⟨v, s1, h3, n1, h4⟩ := Zlo h1
      obtain ⟨x, hx, h3⟩ := Z0k h3
      obtain ⟨u', hu, hvu, hev, h3⟩ := Z1j h3
      obtain ⟨t, s', h5, n2, h6⟩ := Z6x h3
      refine ⟨t, s', h5, max n1 n2, fun n hn K hK => ?_⟩
      rw [hr, h2]
      refine h4 n (by omega) _ (Z01.2 ⟨x, hx, Z01.2 ⟨u', hu, Z03.2 (.inl ⟨hvu ▸ hev, h6 n (by omega) K hK⟩)⟩⟩)
    · obtain ⟨t, s', h5, n2, h6⟩ := Z6x h1
      refine ⟨t, s', h5, n2, fun n hn K hK => ?_⟩
      rw [hr, h2]
      exact h6 n hn K hK
  | .fresh :: r, locals, tree, s, Q, ⟨h0, h⟩ => by
    obtain ⟨t, s', h5, n2, h6⟩ := Z6x h
    refine ⟨t, s', h5, n2, fun n hn K hK => ?_⟩
    show @Option.rec AObj (fun _ => Bool) (Z3v P (exec P n) cm r locals tree s K) (fun _ => fail 56) (PT.get s.next s.heap) = true
    rw [show PT.get s.next s.heap = none from h0]
    exact h6 n hn K hK
end
section
variable (P:Program)
def Runs (c:MCode) (fi:FI) (tree:PT AVal) (s:St) (e:Ex) (t:PT AVal) (s':St):Prop:=∃ n0,∀ n,n0 ≤ n→∀ K:Z75,K e t s' = true→exec P n c fi tree s K = true
def wp (c:MCode) (fi:FI) (tree:PT AVal) (s:St) (Q:Ex→PT AVal→St→Prop):Prop:=∃ e t s',Runs P c fi tree s e t s'∧Q e t s'
end
section
variable {P:Program} {fi:FI} {tree:PT AVal} {s:St} {Q:Ex→PT AVal→St→Prop}
theorem wp_mono {c:MCode} {Q':Ex→PT AVal→St→Prop} (h:wp P c fi tree s Q) (hq:∀ e t s',Q e t s'→Q' e t s'):wp P c fi tree s Q' :=
  let ⟨e,t,s',h1,h2⟩:=h
  ⟨e,t,s',h1,hq _ _ _ h2⟩
theorem Z2p {c:MCode} {e:Ex} {t:PT AVal} {s':St} (n0:Nat) (h:∀ n,n0 ≤ n→∀ K:Z75,K e t s' = true→Zmj P (exec P n) c fi tree s K = true):Runs P c fi tree s e t s':=by
  refine ⟨n0 + 1,fun n hn K hK => ?_⟩
  obtain ⟨m,rfl⟩:∃ m,n = m + 1:=⟨n - 1,by omega⟩
  rw [Zfg]
  exact h m (by omega) K hK
theorem wp_skip (h:Q .normal tree s):wp P .skip fi tree s Q:=⟨_,_,_,Z2p 0 (fun _ _ K hK => hK),h⟩
theorem wp_exit {id:Nat} (h:Q (.exit id) tree s):wp P (.exit id) fi tree s Q:=⟨_,_,_,Z2p 0 (fun _ _ K hK => hK),h⟩
theorem wp_ret (h:Q .ret tree s):wp P .ret fi tree s Q:=⟨_,_,_,Z2p 0 (fun _ _ K hK => hK),h⟩
theorem wp_region {l:List MItem} {cm:List (Option Pos)} (h:Z4a P cm l [] tree s fun t s' => Q .normal t s'):wp P (.region l cm) fi tree s Q:=by
  obtain ⟨t,s',h1,n0,h2⟩:=Z6x h
  exact ⟨.normal,t,s',Z2p n0 (fun n hn K hK => h2 n hn (fun t s => K .normal t s) hK),h1⟩
def andThen (next:PT AVal→St→Prop) (Q:Ex→PT AVal→St→Prop):Ex→PT AVal→St→Prop
  | .normal,t,s => next t s
  | .exit i,t,s => Q (.exit i) t s
  | .ret,t,s => Q .ret t s
theorem wp_seq {a b:MCode} (h:wp P a fi tree s (andThen (fun t s' => wp P b fi t s' Q) Q)):wp P (.seq a b) fi tree s Q:=by
  obtain ⟨e,t,s',⟨n1,h1⟩,h2⟩:=h
  cases e with
  | normal =>
    obtain ⟨e2,t2,s2,⟨n2,h3⟩,h4⟩:=h2
    exact ⟨e2,t2,s2,Z2p (max n1 n2) (fun n hn K hK => h1 n (by omega) _ (h3 n (by omega) K hK)),h4⟩
  | exit id => exact ⟨.exit id,t,s',Z2p n1 (fun n hn K hK => h1 n hn _ hK),h2⟩
  | ret => exact ⟨.ret,t,s',Z2p n1 (fun n hn K hK => h1 n hn _ hK),h2⟩
inductive Dep {α:Type} (a:α):Type where
  | mk
def wpX (P:Program) (c:MCode) (fi:FI) (tree:PT AVal) (s:St) (Q:Ex→PT AVal→St→Prop) (_:Dep Q):Prop:=wp P c fi tree s Q
theorem Z00 {l:List MItem} {cm:List (Option Pos)} {b:MCode} (h:Z4a P cm l [] tree s fun t s' => wpX P b fi t s' Q .mk):wp P (.seq (.region l cm) b) fi tree s Q:=wp_seq (wp_region h)
theorem wp_cond {c:RO} {a b:MCode} {v:Bool} (hv:getO tree [] c = some (.bool v)) (ha:v = true→wp P a fi tree s Q) (hb:v = false→wp P b fi tree s Q):wp P (.cond c a b) fi tree s Q:=by
  cases v with
  | true =>
    obtain ⟨e,t,s',⟨n1,h1⟩,h2⟩:=ha rfl
    exact ⟨e,t,s',Z2p n1 (fun n hn K hK => Z01.2 ⟨_,hv,AVal.Z1w.2 ⟨true,rfl,h1 n hn K hK⟩⟩),h2⟩
  | false =>
    obtain ⟨e,t,s',⟨n1,h1⟩,h2⟩:=hb rfl
    exact ⟨e,t,s',Z2p n1 (fun n hn K hK => Z01.2 ⟨_,hv,AVal.Z1w.2 ⟨false,rfl,h1 n hn K hK⟩⟩),h2⟩
theorem Z04 {c:RO} {a b:MCode} (h:Z62 (getO tree [] c) fun v => if v = true then wpX P a fi tree s Q .mk else wpX P b fi tree s Q .mk):wp P (.cond c a b) fi tree s Q:=by
  obtain ⟨v,hv,h⟩:=Z9u h
  refine wp_cond hv (fun e => ?_) (fun e => ?_)
  · rw [if_pos e] at h; exact h
  · rw [if_neg (by simp [e])] at h; exact h
def Z9v (id:Nat) (Q:Ex→PT AVal→St→Prop):Ex→PT AVal→St→Prop
  | .normal,t,s => Q .normal t s
  | .exit i,t,s => if i = id then Q .normal t s else Q (.exit i) t s
  | .ret,t,s => Q .ret t s
theorem Zmd (id i:Nat) (t:PT AVal) (s:St):Z9v id Q (.exit i) t s = if i = id then Q .normal t s else Q (.exit i) t s:=rfl
theorem wp_block {id:Nat} {c:MCode} (h:wp P c fi tree s (Z9v id Q)):wp P (.block id c) fi tree s Q:=by
  obtain ⟨e,t,s',⟨n1,h1⟩,h2⟩:=h
  cases e with
  | normal => exact ⟨.normal,t,s',Z2p n1 (fun n hn K hK => h1 n hn _ hK),h2⟩
  | ret => exact ⟨.ret,t,s',Z2p n1 (fun n hn K hK => h1 n hn _ hK),h2⟩
  | exit i =>
    rw [Zmd] at h2
    split at h2
    · rename_i hi
      exact ⟨.normal,t,s',Z2p n1 (fun n hn K hK => h1 n hn _ (Z03.2 (.inl ⟨by simp [hi],hK⟩))),h2⟩
    · rename_i hi
      exact ⟨.exit i,t,s',Z2p n1 (fun n hn K hK => h1 n hn _ (Z03.2 (.inr ⟨by cases hb:Nat.beq i id with
        | true => exact absurd (Nat.eq_of_beq_eq_true hb) hi
        | false => rfl,hK⟩))),h2⟩
theorem Zp7 {c:MCode} (h:wp P c fi tree s Q):wp P (.scope c) fi tree s Q:=by
  obtain ⟨e,t,s',⟨n1,h1⟩,h2⟩:=h
  exact ⟨e,t,s',Z2p n1 (fun n hn K hK => h1 n hn K hK),h2⟩
theorem Zp5 {c:MCode} (h:wp P c fi tree s (andThen (fun t s' => wp P (.loop c) fi t s' Q) Q)):wp P (.loop c) fi tree s Q:=by
  obtain ⟨e,t,s',⟨n1,h1⟩,h2⟩:=h
  cases e with
  | normal =>
    obtain ⟨e2,t2,s2,⟨n2,h3⟩,h4⟩:=h2
    exact ⟨e2,t2,s2,Z2p (max n1 n2) (fun n hn K hK => h1 n (by omega) _ (h3 n (by omega) K hK)),h4⟩
  | exit id => exact ⟨.exit id,t,s',Z2p n1 (fun n hn K hK => h1 n hn _ hK),h2⟩
  | ret => exact ⟨.ret,t,s',Z2p n1 (fun n hn K hK => h1 n hn _ hK),h2⟩
theorem wp_loop {c:MCode} (I:Nat→PT AVal→St→Prop):∀ (n:Nat) {tree:PT AVal} {s:St},I n tree s →
    (∀ n t s,I n t s→wp P c fi t s (andThen (fun t' s' => ∃ m,m < n∧I m t' s') Q))→wp P (.loop c) fi tree s Q:=by
  intro n
  induction n using Nat.strongRecOn with
  | _ n ih =>
    intro tree s h0 hstep
    refine Zp5 (wp_mono (hstep n tree s h0) fun e t s' h => ?_)
    cases e with
    | normal =>
      obtain ⟨m,hm,h⟩:=h
      exact ih m hm h hstep
    | exit id => exact h
    | ret => exact h
theorem Zp6 {f : RO} {ps : List Tmp} {a b : MCode} {g : Nat} {x y : List AVal} (hf : getO tree [] f = some (.fn g x y)) (hr : ∀ l0, fi.round = some l0 → ∃ L, s.obj l0 = some (.loop L))
    (h : Z0c P g (x ++ ([.yld s.next] ++ y)) (s.alloc (.loop { state := .ready, pending := none, fn := fi.fn, tm := tree, params := ps, assign := a, body := b })) fun _ s2 =>
      ∃ L, s2.obj s.next = some (.loop L) ∧ Zdj L.state = false ∧ match L.pending with
        | none => Q .normal tree (s2.put s.next (.loop { L with state := .exhausted }))
        | some (.exit id) => Q (.exit id) tree (s2.put s.next (.loop { L with state := .exhausted }))
        | some .ret => Q .ret tree (s2.put s.next (.loop { L with state := .exhausted }))
        | _ => False) : wp P (.range f ps a b) fi tree s Q := by
  obtain ⟨v, s2, ⟨n0, h1⟩, L, hL, hb, h2⟩ := h
  have key : ∀ (e : Ex), (∀ K : Z75, K e tree (s2.put s.next (.loop { L with state := .exhausted })) = true → Zjt L.pending tree (s2.put s.next (.loop { L with state := .exhausted })) K = true) →
      Runs P (.range f ps a b) fi tree s e tree (s2.put s.next (.loop { L with state := .exhausted })) := by
    intro e hp
    refine Z2p n0 fun n hn K hK => ?_
    refine Z01.2 ⟨_, hf, ?_⟩
    have hgo : (Z4z (.loop { state := .ready, pending := none, fn := fi.fn, tm := tree, params := ps, assign := a, body := b }) s fun l s =>
      (AVal.fn g x y).fnK fun f a c => appK [.yld l] c fun r => appK a r fun args => Z6j P (exec P n) f args s fun _ s => Z7z l s fun L => ifK (Zdj L.state) (fail 52)
        (putK l (.loop { L with state := .exhausted }) s fun s => Zjt L.pending tree s K)) = true := by
      rw [Z21]
      refine AVal.Zna.2 ⟨g, x, y, rfl, ?_⟩
      rw [Z3e, Z3e]
      refine h1 n hn _ (Z3b.2 ⟨L, hL, Z03.2 (.inr ⟨hb, ?_⟩)⟩)
      rw [Z28]
      exact hp K hK
    cases hro : fi.round with
    | none => exact hgo
    | some l0 =>
      obtain ⟨L0, hL0⟩ := hr l0 hro
      exact Z3b.2 ⟨L0, hL0, hgo⟩
  generalize s2.put s.next (.loop { L with state := .exhausted }) = s4 at h2 key
  cases hp : L.pending with
  | none =>
    rw [hp] at h2
    exact ⟨.normal, tree, _, key .normal (fun K hK => by rw [hp]; exact hK), h2⟩
  | some j =>
    rw [hp] at h2
    cases j with
    | exit id => exact ⟨.exit id, tree, _, key (.exit id) (fun K hK => by rw [hp]; exact hK), h2⟩
    | ret => exact ⟨.ret, tree, _, key .ret (fun K hK => by rw [hp]; exact hK), h2⟩
    | _ => exact h2.elim
end
section
variable {P:Program} {s:St} {Q:AVal→St→Prop}
def resP (P:Program) (tree:PT AVal) (s:St):List ResultVar→(List AVal→Prop)→Prop
  | [],F => F []
  | .tmp t :: r,F => Z1l (PT.get (posOf t) tree) fun v => resP P tree s r fun l => F (v :: l)
  | .cell a t :: r,F => Z0y (Z4i P t) fun n => Z3h (PT.get (posOf a) tree) fun b off => Z0y (s.cells b) fun cs => Z83 n cs off fun v => resP P tree s r fun l => F (v :: l)
def retV:List AVal→AVal
  | [v] => v
  | l => .tup l
theorem Zg5 {tree:PT AVal}:∀ {l:List ResultVar} {F:List AVal→Prop},resP P tree s l F→∃ vs,F vs∧∀ k:List AVal→Bool,k vs = true→resK P tree s l k = true
  | [],F,h => ⟨[],h,fun k hk => hk⟩
  | .tmp t :: r,F,h => by
    obtain ⟨v,hv,h⟩:=Z1j h
    obtain ⟨vs,h1,h2⟩:=Zg5 h
    exact ⟨v :: vs,h1,fun k hk => Z01.2 ⟨v,hv,h2 (fun l => k (v :: l)) hk⟩⟩
  | .cell a t :: r,F,h => by
    obtain ⟨n,hn,h⟩:=Z0k h
    obtain ⟨b,off,ha,h⟩:=Z5e h
    obtain ⟨cs,hc,h⟩:=Z0k h
    obtain ⟨v,h,h2⟩:=Zba h
    obtain ⟨ro,ho⟩:=St.Z7l hc
    obtain ⟨vs,h1,h3⟩:=Zg5 h
    refine ⟨v :: vs,h1,fun k hk => ?_⟩
    show Z6r P t (PT.get (posOf a) tree) s (fun v _ => resK P tree s r fun l => k (v :: l)) = true
    exact Z01.2 ⟨n,hn,Z01.2 ⟨_,ha,AVal.Z29.2 ⟨b,off,rfl,Z1i.2 ⟨cs,ro,ho,h2 (fun v => resK P tree s r fun l => k (v :: l)) (h3 (fun l => k (v :: l)) hk)⟩⟩⟩⟩
theorem Z08 {f:FuncId} {args:List AVal} {fi:FInfo} {tree:PT AVal} (ho:Orc.get P f args = none) (hf:funInfo P f = some fi) (hn:args.length = fi.nargs) (hle:fi.nargs ≤ fi.ntmps) (ht:Z5b (Z9n fi.ps fi.nargs 0) args .leaf = some tree)
    (h:wp P fi.code { fn:=f,ntmps:=fi.ntmps,ps:=fi.ps,round:=none } tree s fun e t s' => match e with
      | .exit _ => False
      | _ => resP P t s' fi.res fun l => Q (retV l) s'):Z0c P f args s Q:=by
  obtain ⟨e,t,s',⟨n0,h1⟩,h2⟩:=h
  have h3:(∀ x,outK e x = x)∧resP P t s' fi.res fun l => Q (retV l) s':=by
    cases e with
    | normal => exact ⟨fun _ => rfl,h2⟩
    | exit id => exact h2.elim
    | ret => exact ⟨fun _ => rfl,h2⟩
  obtain ⟨hout,h4⟩:=h3
  obtain ⟨vs,h5,h6⟩:=Zg5 h4
  refine ⟨retV vs,s',⟨n0,fun n hle' K hK => ?_⟩,h5⟩
  unfold Z6j orcK
  rw [ho]
  refine Z01.2 ⟨fi,hf,?_⟩
  rw [Z0p,Nat.zero_add]
  refine Z03.2 (.inl ⟨by simp [hn],Z03.2 (.inl ⟨Nat.ble_eq_true_of_le (by omega),?_⟩)⟩)
  refine Z7b ht _ (h1 n hle' _ ?_)
  rw [hout]
  refine h6 _ ?_
  cases vs with
  | nil => exact hK
  | cons v r => cases r <;> exact hK
theorem Zbo {f:FuncId} {args:List AVal} {v:AVal} (ho:Orc.get P f args = some v) (h:Q v s):Z0c P f args s Q:=by
  refine ⟨v,s,⟨0,fun n _ K hK => ?_⟩,h⟩
  unfold Z6j orcK
  rw [ho]
  exact hK
theorem Z02 {f:FuncId} {a c args:List AVal} (h:Z0c P f (a ++ (args ++ c)) s Q):Z3i P (.fn f a c) args s Q:=by
  obtain ⟨v,s',⟨n0,h1⟩,h2⟩:=h
  refine ⟨v,s',⟨n0,fun n hn K hK => ?_⟩,h2⟩
  show appK args c (fun r => appK a r fun args => Z6j P (exec P n) f args s K) = true
  rw [Z3e,Z3e]
  exact h1 n hn K hK
theorem Zhn {l:Pos} {args:List AVal} {L:LoopR} {fi:FInfo} {pl:List (Option Pos)} {tree:PT AVal} (hL:s.obj l = some (.loop L)) (hf:funInfo P L.fn = some fi) (hp:Z7n fi.ps fi.ntmps L.params = some pl) (hn:args.length = L.params.length)
    (ht:Z5b pl args L.tm = some tree)
    (h:wp P L.assign { fn:=L.fn,ntmps:=fi.ntmps,ps:=fi.ps,round:=some l } tree s fun e t s1 => e = .normal∧∃ L2,s1.obj l = some (.loop L2)∧isReady L2.state = true ∧
      wp P L.body { fn:=L.fn,ntmps:=fi.ntmps,ps:=fi.ps,round:=some l } t (s1.put l (.loop { L2 with state:=.busy })) fun e _ s2 => ∃ L3,s2.obj l = some (.loop L3)∧match e with
        | .normal => Q (.bool true) (s2.put l (.loop { L3 with state:=.ready,pending:=none }))
        | .exit id => Q (.bool false) (s2.put l (.loop { L3 with state:=.done,pending:=some (.exit id) }))
        | .ret => Q (.bool false) (s2.put l (.loop { L3 with state:=.done,pending:=some .ret }))):Z3i P (.yld l) args s Q:=by
  obtain ⟨e,t,s1,⟨n1,h1⟩,rfl,L2,hL2,hrd,e2,t2,s2,⟨n2,h2⟩,L3,hL3,h3⟩:=h
  have go:∀ (v:AVal) (s':St),(∀ K:VK,K v s' = true→endK l e2 s2 K = true)→∃ n0,∀ n,n0 ≤ n→∀ K:VK,K v s' = true→Zis P (exec P n) (.yld l) args s K = true:=by
    intro v s' hend
    refine ⟨max n1 n2,fun n hn' K hK => ?_⟩
    refine Z3b.2 ⟨L,hL,Z01.2 ⟨fi,hf,Z01.2 ⟨pl,hp,?_⟩⟩⟩
    rw [Z0p,Z0p,Nat.zero_add,Nat.zero_add]
    refine Z03.2 (.inl ⟨by simp [hn],Z7b ht _ (h1 n (by omega) _ ?_)⟩)
    refine Z3b.2 ⟨L2,hL2,Z03.2 (.inl ⟨hrd,?_⟩)⟩
    rw [Z28]
    exact h2 n (by omega) _ (hend K hK)
  cases e2 with
  | normal =>
    refine ⟨_,_,go _ _ (fun K hK => Z3b.2 ⟨L3,hL3,?_⟩),h3⟩
    show putK l _ s2 (fun s => K (.bool true) s) = true
    rw [Z28]; exact hK
  | exit id =>
    refine ⟨_,_,go _ _ (fun K hK => Z3b.2 ⟨L3,hL3,?_⟩),h3⟩
    show putK l _ s2 (fun s => K (.bool false) s) = true
    rw [Z28]; exact hK
  | ret =>
    refine ⟨_,_,go _ _ (fun K hK => Z3b.2 ⟨L3,hL3,?_⟩),h3⟩
    show putK l _ s2 (fun s => K (.bool false) s) = true
    rw [Z28]; exact hK
def wpCallX (P:Program) (fv:AVal) (args:List AVal) (s:St) (Q:AVal→St→Prop) (_:Dep Q):Prop:=Z3i P fv args s Q
open Classical in
theorem Zp4 (hm:P.follows .mixedOrders = true) {f:FuncId} {args:List AVal} {us:Array Value} {w:World} {ι:Ren} (h:Z0c P f args s Q) (hw:WRel P ι s w) (hv:VRels ι args us.toList) :
    Calls P f us w fun e w' => ∃ v ι' s' a,e = .returned v∧Ext ι w ι' w'∧WRel P ι' s' w'∧VRel ι' a v∧Q a s':=by
  obtain ⟨v,s',⟨n0,h1⟩,h2⟩:=h
  have:=Zw0 hm (K:=fun v' s'' => hold (v' = v∧s'' = s')) (h1 n0 (Nat.le_refl _) _ (Z1x.2 ⟨rfl,rfl⟩)) hw hv
  refine this.mono ?_
  rintro e w' ⟨u,ι',s2,a,e1,e2,e3,e4,e5⟩
  obtain ⟨rfl,rfl⟩:=Z1x.1 e5
  exact ⟨u,ι',s2,a,e1,e2,e3,e4,h2⟩
end
end Go.AM
end
