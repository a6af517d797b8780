/- Parts of the proof: Draw6, Draw7, Sym, Wp. -/
import Derived.Test.YtoipnedbpjfeiaaDoorAu02
set_option linter.all false
set_option linter.unusedSectionVars false
set_option linter.unusedSimpArgs false
set_option linter.unusedVariables false
section
namespace Go.AM
variable [Orc] [OrcOk]
theorem Zvc {a b:Cap} (h:Za0 a b = true):a = b:=by
  cases a <;> cases b <;> simp [Za0] at h <;> rw [h]
theorem Zk3 {f:AVal→AVal→Bool} (hf:∀ x y,f x y = true→x = y):∀ (a b:List AVal),a.length = b.length→((a.zip b).all fun x => f x.1 x.2) = true→a = b
  | [],[],_,_ => rfl
  | [],_ :: _,h,_ => by simp at h
  | _ :: _,[],h,_ => by simp at h
  | x :: a,y :: b,h,e => by
    simp only [List.zip_cons_cons,List.all_cons,Bool.and_eq_true] at e
    rw [hf x y e.1,Zk3 hf a b (by simpa using h) e.2]
theorem Z9h:∀ (d:Nat) (a b:AVal),Z27 d a b = true→a = b
  | 0,a,b,h => by simp [Z27] at h
  | d + 1,a,b,h => by
    cases a <;> cases b <;> simp only [Z27,Bool.and_eq_true,beq_iff_eq,Bool.false_eq_true] at h <;> first
      | rfl
      | (rw [h])
      | (rw [h.1,h.2])
      | (rw [Pos.toNat_inj h])
      | (rw [Pos.toNat_inj h.1,h.2])
      | (rw [Pos.toNat_inj h.1.1.1,h.1.1.2,h.1.2,Zvc h.2])
      | (rw [Zk3 (Z9h d) _ _ h.1 h.2])
      | (rw [h.1.1.1.1,Zk3 (Z9h d) _ _ h.1.1.1.2 h.1.2,Zk3 (Z9h d) _ _ h.1.1.2 h.2])
      | (cases h)
section
variable {P:Program} {rec:RecT} {ops:Array Oper} {masks:List Nat} {tree:PT AVal} {fi:FI} {k:PT AVal→St→Bool} {a0:Act} {ι0:Ren} {w0:World} {B:Nat→Nat} {R:Nat→Prop}
  {pre:List Nat} {vals:Nat→AVal} {nm:Nat→Option Pos} {T:St} {L:Nat→Prop} {ι:Ren} {a:Act} {w:World} {pl:List PItem} {done:Nat} {F:Fence} {m:Nat} {Q:Exit→Act→World→Prop} {i:Nat}
theorem Z6l (h:i < ops.size):ops[i]? = some (opAt ops i):=by
  unfold opAt
  simp [h]
theorem Inv.real (h:Inv P rec ops masks tree fi k a0 ι0 w0 B R pre vals nm T L ι a w pl done) (ht:TmpsOk ops masks) (h0:∀ t v,PT.get (posOf t) tree = some v→∃ u,a0.tmps[t]? = some u∧VRel ι0 v u) (hi:i < ops.size) (hL:¬ L i) (hRi:¬ R i)
    (hanc:∀ j,Anc masks i j→L j) (x:Operand):ORl ι (rho ops masks tree vals i x) (a.eval x) :=
  Ztz (R:=R) ht hi hL hRi (fun j hj => h.lt j (h.sub j hj)) hanc h.lanc (fun j hj => ⟨(h.rlt j hj).1,(h.rlt j hj).2.2.2.2⟩) h.t1 h.t2 (fun t v e => let ⟨u,h1,h2⟩:=h0 t v e; ⟨u,h1,h2.mono h.ext.le⟩) x
theorem Inv.ran (h:Inv P rec ops masks tree fi k a0 ι0 w0 B R pre vals nm T L ι a w pl done) (ht:TmpsOk ops masks) (hds:∀ d,Z0k ops i = some d→d < a0.tmps.size) (hi:i ∈ pre) (hL:¬ L i) (hanc:∀ j,Anc masks i j→L j)
    {ι':Ren} {u:Value} {w':World} (hw:WRel P ι' T w') (he:Ext ι w ι' w') (hv:VRel ι' (vals i) u) (hnames:∀ j ∈ pre,¬ L j→j ≠ i→∀ q,nm j = some q→ι' q = none) :
    Inv P rec ops masks tree fi k a0 ι0 w0 B R pre vals nm T (fun j => L j ∨ j = i) ι' (a.put (Z0k ops i) u) w' pl done:=by
  refine ⟨hw,h.ext.trans he,(put_defers a _ u).trans h.defs,(Zi9 a _ u).trans h.size,?_,h.lt,h.anc,?_,?_,?_,?_,?_,?_,?_,h.nmk,h.bits,h.plan,h.cont,?_,?_,h.rap⟩
  · rintro j (hj | rfl)
    · exact h.sub j hj
    · exact hi
  · rintro j (hj | rfl) x hx
    · exact .inl (h.lanc j hj x hx)
    · exact .inl (hanc x hx)
  · rintro j (hj | rfl) d hd
    · obtain ⟨u',h1,h2⟩:=h.t1 j hj d hd
      refine ⟨u',?_,h2.mono he.le⟩
      rw [Z5k]
      · exact h1
      · intro e
        have:=ht.one i j d (h.lt i hi) (h.lt j (h.sub j hj)) e hd
        exact hL (this ▸ hj)
    · rw [hd]
      exact ⟨u,Zi8 (by rw [h.size]; exact hds d hd),hv⟩
  · intro t hno
    rw [Z5k (hno i (.inl (.inr rfl)))]
    exact h.t2 t fun j hj => hno j (hj.imp .inl id)
  · intro j hj hc
    exact .inl (h.effs j hj hc)
  · intro j hj hLj
    exact h.prom j hj fun e => hLj (.inl e)
  · intro j hj hLj q e
    exact ⟨hnames j hj (fun e => hLj (.inl e)) (fun e => hLj (.inr e)) q e,(h.names j hj (fun e => hLj (.inl e)) q e).2⟩
  · intro j hj x hx hLj hLx
    exact h.apart j hj x hx (fun e => hLj (.inl e)) (fun e => hLx (.inl e))
  · intro j hj
    obtain ⟨h1,h2,h3,h4,h5⟩:=h.rlt j hj
    exact ⟨h1,h2,h3,h4,fun x hx => .inl (h5 x hx)⟩
  · intro j hj
    refine (h.rah j hj).ext he (fun d hd => Z5k fun e => ?_) fun _ _ => rfl
    have:=ht.one i j d (h.lt i hi) (h.rlt j hj).1 e hd
    exact (h.rlt j hj).2.1 (this ▸ hi)
theorem Zut (hs:Sound P rec) (hF:∀ f,F.fn f) (hd:F.depth = none) (h:Inv P rec ops masks tree fi k a0 ι0 w0 B R pre vals nm T L ι a w pl done) (ht:TmpsOk ops masks) (hds:∀ d,Z0k ops i = some d→d < a0.tmps.size)
    (h0:∀ t v,PT.get (posOf t) tree = some v→∃ u,a0.tmps[t]? = some u∧VRel ι0 v u) (hi:i ∈ pre) (hL:¬ L i) (hanc:∀ j,Anc masks i j→L j) (hc:cls P ops i ≤ 1) {K:Act→World→Prop}
    (hK:∀ ι' a' w',Inv P rec ops masks tree fi k a0 ι0 w0 B R pre vals nm T (fun j => L j ∨ j = i) ι' a' w' pl done→K a' w'):wpOpIn F m P ops Q i K a w:=by
  have hlt:=h.lt i hi
  have hreal:=h.real ht h0 hlt hL (fun e => (h.rlt i e).2.1 hi) hanc
  have hp:Z30 P rec ops masks tree vals i T:=by
    rcases h.prom i hi hL with ⟨_,hp⟩ | ⟨hc2,_⟩
    · exact hp
    · omega
  unfold wpOpIn
  rw [Z6l hlt]
  show if Region.wanted (opAt ops i) (yielded ops a.tmps) = true then _ else _
  have hno:∀ j ∈ pre,¬ L j→j ≠ i→∀ q,nm j = some q→ι q = none:=fun j hj hLj _ q e => (h.names j hj hLj q e).1
  rcases Za2 hp hreal with ⟨hw,h1⟩ | ⟨hw,h1⟩
  · rw [if_pos hw]
    have h2:opK P rec (opAt ops i).op (rho ops masks tree vals i) (T.known ι) (fun v s => hold (v = vals i∧s = T.known ι)) = true:=by
      rcases Nat.lt_or_ge (cls P ops i) 1 with hc0 | hc1
      · have hc0:Z0t P (opAt ops i).op = 0:=Nat.lt_one_iff.1 hc0
        rw [Z9q hc0 (T.known ι) T]
        rw [Z9q hc0 T T] at h1
        have:(fun v (_:St) => hold (v = vals i∧T = T)) = (fun v (_:St) => hold (v = vals i∧T.known ι = T.known ι)):=by
          funext v _
          simp [hold]
        rw [← this]
        exact h1
      · obtain ⟨t,x,hx⟩:=Zfn (P:=P) (o:=(opAt ops i).op) (Nat.le_antisymm hc hc1)
        rw [hx] at h1 ⊢
        refine Zp9 (K:=fun v s => hold (v = vals i∧s = T)) (K':=fun v s => hold (v = vals i∧s = T.known ι)) (show Z6s P t (rho ops masks tree vals i x) T (fun v s => hold (v = vals i∧s = T)) = true from h1) (fun b off e => ?_) (fun v hv => Z1n.2 ⟨(Z1n.1 hv).1,rfl⟩)
        have hrel:=hreal x _ e
        generalize a.eval x = gx at hrel
        cases hrel with
        | ptr hb => exact St.Z7f (by simp [hb])
    refine Zi1 hs h2 hF hd h.wr.known hreal fun v w' ι' s' av he hw' hv hk => ?_
    obtain ⟨rfl,rfl⟩:=Z1n.1 hk
    have hι:ι' = ι:=WRel.Zs0 he.le hw'
    subst hι
    exact hK _ _ _ (h.ran ht hds hi hL hanc (h.wr.unknown hw') he hv hno)
  · rw [if_neg (by rw [hw]; simp)]
    refine ⟨fun f _ => hF f,hK ι _ _ (h.ran ht hds hi hL hanc h.wr (Ext.refl ι w) ?_ hno)⟩
    rw [Z1n.1 h1]
    exact .tup .nil
theorem Zuu (hF:∀ f,F.fn f) (h:Inv P rec ops masks tree fi k a0 ι0 w0 B R pre vals nm T L ι a w pl done) (ht:TmpsOk ops masks) (hds:∀ d,Z0k ops i = some d→d < a0.tmps.size)
    (h0:∀ t v,PT.get (posOf t) tree = some v→∃ u,a0.tmps[t]? = some u∧VRel ι0 v u) (hi:i ∈ pre) (hL:¬ L i) (hanc:∀ j,Anc masks i j→L j) (hc:cls P ops i = 2) {K:Act→World→Prop}
    (hK:∀ ι' a' w',Inv P rec ops masks tree fi k a0 ι0 w0 B R pre vals nm T (fun j => L j ∨ j = i) ι' a' w' pl done→K a' w'):wpOpIn F m P ops Q i K a w:=by
  have hlt:=h.lt i hi
  have hreal:=h.real ht h0 hlt hL (fun e => (h.rlt i e).2.1 hi) hanc
  have hp:Z9c P ops masks tree vals nm i T:=by
    rcases h.prom i hi hL with ⟨hc2,_⟩ | ⟨_,hp⟩
    · omega
    · exact hp
  unfold wpOpIn
  rw [Z6l hlt]
  show if Region.wanted (opAt ops i) (yielded ops a.tmps) = true then _ else _
  rcases Za2 hp hreal with ⟨hw,h1⟩ | ⟨hw,h1⟩
  · rw [if_pos hw]
    obtain ⟨x,v,q,e1,e2,e3,e4⟩:=Z1n.1 h1
    obtain ⟨obj,u,sz,hrun,hlay⟩:=e4 ι a.eval hreal w
    have hrun:(execOp a.eval (opAt ops i)).run P w = .ok (.value u) { w with heap:=w.heap.push obj }:=hrun
    obtain ⟨hqn,hqlt⟩:=h.names i hi hL q e1
    obtain ⟨hv,hx⟩:=hlay (Ren.set ι q ⟨w.heap.size,0,sz,false⟩) q (Ren.Z63 hqn) (Ren.Z3m _ _ _)
    obtain ⟨hw',he'⟩:=h.wr.Zql e3 hqn hqlt hx
    have hnd:∀ c,(opAt ops i).op ≠ .defer c:=fun c e => by
      have:Z0t P (opAt ops i).op = 2:=hc
      rw [e] at this
      simp [Z0t] at this
    refine ⟨fun f _ => hF f,?_⟩
    rw [Oper.semAt_eq _ _ _ hnd,hrun]
    show K _ _
    refine hK _ _ _ (h.ran ht hds hi hL hanc hw' he' (e2 ▸ hv) fun j hj hLj hji q' e => ?_)
    have hne:q' ≠ q:=fun e' => h.apart j hj i hi hLj hL hji q' e (e' ▸ e1)
    rw [Ren.Zjr hne]
    exact (h.names j hj hLj q' e).1
  · rw [if_neg (by rw [hw]; simp)]
    refine ⟨fun f _ => hF f,hK ι _ _ (h.ran ht hds hi hL hanc h.wr (Ext.refl ι w) ?_ fun j hj hLj _ q e => (h.names j hj hLj q e).1)⟩
    rw [Z1n.1 h1]
    exact .tup .nil
theorem chks (ht : TmpsOk ops masks) (hlt : ∀ j ∈ pre, j < ops.size) (hanc : ∀ i ∈ pre, ∀ j, Anc masks i j → j ∈ pre) {R : List DItem} : ∀ (cs : List Nat), (∀ j ∈ cs, j ∈ pre ∧ cls P ops j ≤ 1 ∧ (Z0k ops j).isSome = true ∧ ∀ x ∈ pre, Anc masks j x ∨ ∀ d, Z0k ops x = some d → d ∉ Z5a ops j) →
    Z1r P rec fi ops (cs.map (fun j => .chk (opAt ops j)) ++ R) (pre.map (Z0k ops)) (pre.map vals) tree T k = true →
    Z1r P rec fi ops R (pre.map (Z0k ops)) (pre.map vals) tree T k = true ∧ ∀ j ∈ cs, ∀ T0, Z30 P rec ops masks tree vals j T0 → Z30 P rec ops masks tree vals j T
  | [], _, h => ⟨h, fun j hj => by cases hj⟩
  | j :: cs, hcs, h => by
    obtain ⟨hj, hc, hds, hrd⟩ := hcs j (by simp)
    have hlook := fun x hx => Zai (tree := tree) ht (vals := vals) hlt (hanc j hj) hrd x hx
    have h : Z26 ops (opAt ops j) (fun x => getO tree (pre.map vals) (Z07 (pre.map (Z0k ops)) x))
        (opK P rec (opAt ops j).op (fun x => getO tree (pre.map vals) (Z07 (pre.map (Z0k ops)) x)) T fun v _ => optK (opAt ops j).dst fun d => optK (getO tree (pre.map vals) (Z07 (pre.map (Z0k ops)) (.tmp d))) fun u =>
          ifK (Z27 8 v u) (Z1r P rec fi ops (cs.map (fun j => .chk (opAt ops j)) ++ R) (pre.map (Z0k ops)) (pre.map vals) tree T k) (fail 49))
        (Z1r P rec fi ops (cs.map (fun j => .chk (opAt ops j)) ++ R) (pre.map (Z0k ops)) (pre.map vals) tree T k) = true := h
    rw [Z91 (fun t ht => hlook (.tmp t) (fun t' e => by cases e; exact ht)), Zao (ρ' := rho ops masks tree vals j) (fun x hx => hlook x (fun t e => Z95 (e ▸ hx)))] at h
    rcases Z7q h with ⟨h1, h2⟩ | ⟨h1, h2⟩
    · obtain ⟨v, h3, h4⟩ := Zk6 hc h1
      obtain ⟨d, hd, h5⟩ := Z01.1 h3
      obtain ⟨u, hu, h6⟩ := Z01.1 h5
      rcases Z02.1 h6 with ⟨h7, h8⟩ | ⟨_, h8⟩
      · have hvu := Z9h _ _ _ h7
        subst hvu
        have huv : v = vals j := by
          simp only [Z07] at hu
          cases hi : idxOf d (pre.map (Z0k ops)) 0 with
          | none => exact absurd hd (Z7r pre hi j hj)
          | some e =>
            rw [hi] at hu
            obtain ⟨j', g1, g2⟩ := Zc8 pre hi
            have : j' = j := ht.one j' j d (hlt _ (List.mem_of_getElem? g1)) (hlt j hj) g2 hd
            subst this
            have hu : nthO (pre.map vals) e = some v := hu
            rw [Zgg] at hu
            simp [g1] at hu
            exact hu.symm
        subst huv
        obtain ⟨h9, h10⟩ := chks ht hlt hanc cs (fun x hx => hcs x (by simp [hx])) h8
        refine ⟨h9, fun x hx T0 hp => ?_⟩
        rcases List.mem_cons.1 hx with rfl | hx
        · unfold Z30
          rw [h2]
          exact h4 T (Grown.refl T) _ (Z1n.2 ⟨rfl, rfl⟩)
        · exact h10 x hx T0 hp
      · cases h8
    · obtain ⟨h9, h10⟩ := chks ht hlt hanc cs (fun x hx => hcs x (by simp [hx])) h1
      refine ⟨h9, fun x hx T0 hp => ?_⟩
      rcases List.mem_cons.1 hx with rfl | hx
      · unfold Z30 at hp ⊢
        rw [h2] at hp ⊢
        exact hp
      · exact h10 x hx T0 hp
theorem Zrx (ht : TmpsOk ops masks) (hlt : ∀ j ∈ pre, j < ops.size) {X : List DItem} : ∀ (ps : List Nat), (∀ j ∈ ps, (∀ x, Anc masks j x → x ∈ pre) ∧ ∀ x ∈ pre, Anc masks j x ∨ ∀ d, Z0k ops x = some d → d ∉ Z5a ops j) →
    Z1r P rec fi ops ((ps.map fun j => .peek (opAt ops j)) ++ X) (pre.map (Z0k ops)) (pre.map vals) tree T k = true →
    Z1r P rec fi ops X (pre.map (Z0k ops)) (pre.map vals) tree T k = true ∧ ∀ j ∈ ps, opK P rec (opAt ops j).op (rho ops masks tree vals j) T (fun _ _ => true) = true
  | [], _, h => ⟨h, fun j hj => by cases hj⟩
  | j :: ps, hps, h => by
    obtain ⟨ha, hrd⟩ := hps j (by simp)
    have hlook := fun x hx => Zai (tree := tree) ht (vals := vals) hlt ha hrd x hx
    have h : ifK (opK P rec (opAt ops j).op (fun x => getO tree (pre.map vals) (Z07 (pre.map (Z0k ops)) x)) T fun _ _ => true)
        (Z1r P rec fi ops ((ps.map fun j => .peek (opAt ops j)) ++ X) (pre.map (Z0k ops)) (pre.map vals) tree T k) (fail 57) = true := h
    rw [Zao (ρ' := rho ops masks tree vals j) (fun x hx => hlook x (fun t e => Z95 (e ▸ hx)))] at h
    rcases Z02.1 h with ⟨h1, h2⟩ | ⟨_, h2⟩
    · obtain ⟨g1, g2⟩ := Zrx ht hlt ps (fun x hx => hps x (by simp [hx])) h2
      refine ⟨g1, fun x hx => ?_⟩
      rcases List.mem_cons.1 hx with rfl | hx
      · exact h1
      · exact g2 x hx
    · cases h2
theorem Zob {j:Nat} {dn:Nat} {pr:List Nat} (hb:∀ x,dn.testBit x = true ↔ x ∈ pr) (hlt:∀ x ∈ pr,x < ops.size) (h:Zkk ops masks j dn = true):∀ x ∈ pr,Anc masks j x ∨ ∀ d,Z0k ops x = some d→d ∉ Z5a ops j:=by
  intro x hx
  have:=List.all_eq_true.1 h x (by simpa using hlt x hx)
  rw [(hb x).2 hx] at this
  simp only [Bool.not_true,Bool.false_or,Bool.or_eq_true] at this
  rcases this with h5 | h5
  · exact .inl h5
  · refine .inr fun d e => ?_
    rw [show (opAt ops x).dst = some d from e] at h5
    simpa using h5
theorem Zs5 (hF:∀ f,F.fn f) {i':Nat} {cs ps:List Nat} {r:List PItem} (h:Inv P rec ops masks tree fi k a0 ι0 w0 B R pre vals nm T L ι a w (.eff i' cs ps :: r) done) (ht:TmpsOk ops masks)
    (hds:∀ d,Z0k ops i = some d→d < a0.tmps.size) (h0:∀ t v,PT.get (posOf t) tree = some v→∃ u,a0.tmps[t]? = some u∧VRel ι0 v u) (hi:i ∈ ps) (hRi:¬ R i) (hanc:∀ j,Anc masks i j→L j ∨ R j) {K:Act→World→Prop}
    (hK:∀ B' a' w',Inv P rec ops masks tree fi k a0 ι0 w0 B' (fun j => R j ∨ j = i) pre vals nm T L ι a' w' (.eff i' cs ps :: r) done→K a' w'):wpOpIn F m P ops Q i K a w:=by
  have hpl:=h.plan
  simp only [Z47,Bool.and_eq_true] at hpl
  have hps:∀ j ∈ ps,(j < ops.size∧j ∉ pre∧(∀ x,Anc masks j x→x ∈ pre)∧∀ x ∈ pre,Anc masks j x ∨ ∀ d,Z0k ops x = some d→d ∉ Z5a ops j)∧cls P ops j = 2∧(opAt ops j).guard = none:=fun j hj => by
    have h1:=List.all_eq_true.1 hpl.1.2.2 j hj
    unfold Zo5 at h1
    simp only [Bool.and_eq_true,beq_iff_eq,Option.isNone_iff_eq_none] at h1
    exact ⟨Z5t h.bits h.lt h1.1.1,h1.1.2,h1.2⟩
  obtain ⟨⟨hlt,hn,ha,hrd⟩,hc,hg⟩:=hps i hi
  have hLi:¬ L i:=fun e => hn (h.sub i e)
  have hancL:∀ j,Anc masks i j→L j:=fun j hj => by
    rcases hanc j hj with e | e
    · exact e
    · exact absurd (ha j hj) (h.rlt j e).2.1
  have hreal:=h.real ht h0 hlt hLi hRi hancL
  have hcont:Z1r P rec fi ops ((ps.map fun j => .peek (opAt ops j)) ++ (.run (opAt ops i') :: (cs.map fun j => .chk (opAt ops j)) ++ Z1w ops r)) (pre.map (Z0k ops)) (pre.map vals) tree T k = true:=by
    have:=h.cont
    simpa [Z1w,PItem.items] using this
  have hpk:=(Zrx ht h.lt ps (fun j hj => ⟨(hps j hj).1.2.2.1,(hps j hj).1.2.2.2⟩) hcont).2 i hi
  obtain ⟨x,v,_,_,hlay⟩:=Zdj hc hpk
  obtain ⟨obj,u,sz,hrun,_⟩:=hlay ι a.eval hreal w
  have hrun:(execOp a.eval (opAt ops i)).run P w = .ok (.value u) { w with heap:=w.heap.push obj }:=hrun
  unfold wpOpIn
  rw [Z6l hlt]
  show if Region.wanted (opAt ops i) (yielded ops a.tmps) = true then _ else _
  rw [if_pos (by simp [Region.wanted,hg])]
  have hnd:∀ c,(opAt ops i).op ≠ .defer c:=fun c e => by
    have:Z0t P (opAt ops i).op = 2:=hc
    rw [e] at this
    simp [Z0t] at this
  refine ⟨fun f _ => hF f,?_⟩
  rw [Oper.semAt_eq _ _ _ hnd,hrun]
  show K _ _
  obtain ⟨hw',he⟩:=h.wr.pushed obj
  have hBne:∀ j,R j→B j < w.heap.size:=fun j hj => (h.rah j hj).bound
  have hji:∀ j,R j→j ≠ i:=fun j hj e => hRi (e ▸ hj)
  refine hK (upd B i w.heap.size) _ _ ⟨hw',h.ext.trans he,(put_defers a _ u).trans h.defs,(Zi9 a _ u).trans h.size,h.sub,h.lt,h.anc,h.lanc,?_,?_,h.effs,h.prom,h.names,h.apart,h.nmk,h.bits,h.plan,h.cont,?_,?_,?_⟩
  · intro j hj d hd
    obtain ⟨u',h1,h2⟩:=h.t1 j hj d hd
    refine ⟨u',?_,h2⟩
    rw [Z5k]
    · exact h1
    · intro e
      have:=ht.one i j d hlt (h.lt j (h.sub j hj)) e hd
      exact hLi (this ▸ hj)
  · intro t hno
    rw [Z5k (hno i (.inr (.inr rfl)))]
    exact h.t2 t fun j hj => hno j (hj.imp id .inl)
  · rintro j (hj | rfl)
    · exact h.rlt j hj
    · exact ⟨hlt,hn,hc,hg,hancL⟩
  · rintro j (hj | rfl)
    · rw [Z2d (hji j hj)]
      refine (h.rah j hj).ext he (fun d hd => Z5k fun e => ?_) fun _ _ => rfl
      exact hji j hj (ht.one i j d hlt (h.rlt j hj).1 e hd).symm
    · rw [Z39]
      refine ⟨⟨a.eval,w,obj,u,hreal,hrun,rfl,Zw3 w obj,fun d hd => ?_⟩,h.ext.size,fun b p e => ?_⟩
      · show (a.put (Z0k ops j) u).tmps[d]? = some u
        rw [hd]
        exact Zi8 (by rw [h.size]; exact hds d hd)
      · have:=h.wr.bound b p e
        omega
  · rintro j x (hj | rfl) (hx | rfl) e
    · rw [Z2d (hji j hj),Z2d (hji x hx)] at e
      exact h.rap j x hj hx e
    · rw [Z2d (hji j hj),Z39] at e
      have:=hBne j hj
      omega
    · rw [Z2d (hji x hx),Z39] at e
      have:=hBne x hx
      omega
    · rfl
theorem Zwj (hs : Sound P rec) (hF : ∀ f, F.fn f) (hd : F.depth = none) {cs ps : List Nat} {r : List PItem} (h : Inv P rec ops masks tree fi k a0 ι0 w0 B R pre vals nm T L ι a w (.eff i cs ps :: r) done) (ht : TmpsOk ops masks)
    (hds : ∀ d, Z0k ops i = some d → d < a0.tmps.size) (h0 : ∀ t v, PT.get (posOf t) tree = some v → ∃ u, a0.tmps[t]? = some u ∧ VRel ι0 v u) (hanc0 : ∀ j, Anc masks i j → L j ∨ R j) {K : Act → World → Prop}
    (hK : ∀ vals' T' ι' a' w', Inv P rec ops masks tree fi k a0 ι0 w0 B R (i :: pre) vals' nm T' (fun j => L j ∨ j = i) ι' a' w' r (done ||| (1 <<< i)) → K a' w') : wpOpIn F m P ops Q i K a w := by
  have hpl := h.plan
  simp only [Z47, Bool.and_eq_true] at hpl
  obtain ⟨⟨⟨⟨hst, hef⟩, hch⟩, hc2, hpk⟩, hr⟩ := hpl
  obtain ⟨hlt, hn, ha, hrd⟩ := Z5t h.bits h.lt hst
  have hRi : ¬ R i := fun e => by
    have : cls P ops i = 2 := (h.rlt i e).2.2.1
    simp only [bne_iff_ne, ne_eq] at hc2
    exact hc2 this
  have hanc : ∀ j, Anc masks i j → L j := fun j hj => by
    rcases hanc0 j hj with e | e
    · exact e
    · exact absurd (ha j hj) (h.rlt j e).2.1
  have hLi : ¬ L i := fun e => hn (h.sub i e)
  have hne : ∀ j ∈ pre, j ≠ i := fun j hj e => hn (e ▸ hj)
  have hreal := h.real ht h0 hlt hLi hRi hanc
  have hlook := fun x hx => Zai (tree := tree) ht (vals := vals) h.lt ha hrd x hx
  have hk : Z26 ops (opAt ops i) (fun x => getO tree (pre.map vals) (Z07 (pre.map (Z0k ops)) x))
      (opK P rec (opAt ops i).op (fun x => getO tree (pre.map vals) (Z07 (pre.map (Z0k ops)) x)) T fun v s =>
        Z1r P rec fi ops (cs.map (fun j => .chk (opAt ops j)) ++ Z1w ops r) (Z0k ops i :: pre.map (Z0k ops)) (v :: pre.map vals) tree s k)
      (Z1r P rec fi ops (cs.map (fun j => .chk (opAt ops j)) ++ Z1w ops r) (Z0k ops i :: pre.map (Z0k ops)) (.tup [] :: pre.map vals) tree T k) = true := by
    have hcont : Z1r P rec fi ops ((ps.map fun j => .peek (opAt ops j)) ++ (.run (opAt ops i) :: (cs.map fun j => .chk (opAt ops j)) ++ Z1w ops r)) (pre.map (Z0k ops)) (pre.map vals) tree T k = true := by
      have := h.cont
      simpa [Z1w, PItem.items] using this
    exact (Zrx ht h.lt ps (fun j hj => by
      have h1 := List.all_eq_true.1 hpk j hj
      unfold Zo5 at h1
      simp only [Bool.and_eq_true] at h1
      obtain ⟨_, _, g1, g2⟩ := Z5t h.bits h.lt h1.1.1
      exact ⟨g1, g2⟩) hcont).1
  rw [Z91 (fun t ht => hlook (.tmp t) (fun t' e => by cases e; exact ht)), Zao (ρ' := rho ops masks tree vals i) (fun x hx => hlook x (fun t e => Z95 (e ▸ hx)))] at hk
  have hpend : ∀ j ∈ pre, ¬ L j → cls P ops j ≤ 1 ∧ (cls P ops j = 1 → j ∈ cs) := by
    intro j hj hLj
    have h1 := List.all_eq_true.1 hef j (by simpa using h.lt j hj)
    simp only [Bool.and_eq_true, (h.bits j).2 hj, Bool.not_true, Bool.false_or, Bool.true_or, true_and] at h1
    obtain ⟨h2, h3⟩ := h1
    have hna : ¬ (maskAt masks i).testBit j = true := fun e => hLj (hanc j e)
    have hnf : (maskAt masks i).testBit j = false := by simpa using hna
    rw [hnf] at h2 h3
    simp only [Bool.or_false, bne_iff_ne, ne_eq] at h2 h3
    have hle : cls P ops j ≤ 2 := by
      rcases Nat.lt_or_ge 2 (cls P ops j) with h4 | h4
      · exact absurd (h.effs j hj h4) hLj
      · exact h4
    have h2 : ¬ cls P ops j = 2 := h2
    refine ⟨by omega, fun e => ?_⟩
    simp only [Bool.or_eq_true, bne_iff_ne, ne_eq] at h3
    rcases h3 with h3 | h3
    · exact absurd e h3
    · simpa using h3
  have hlt' : ∀ j ∈ i :: pre, j < ops.size := fun j hj => by
    rcases List.mem_cons.1 hj with rfl | hj
    · exact hlt
    · exact h.lt j hj
  have hanc' : ∀ j ∈ i :: pre, ∀ x, Anc masks j x → x ∈ i :: pre := fun j hj x hx => by
    rcases List.mem_cons.1 hj with rfl | hj
    · exact List.mem_cons_of_mem _ (ha x hx)
    · exact List.mem_cons_of_mem _ (h.anc j hj x hx)
  have hcs : ∀ j ∈ cs, j ∈ i :: pre ∧ cls P ops j ≤ 1 ∧ (Z0k ops j).isSome = true ∧ ∀ x ∈ i :: pre, Anc masks j x ∨ ∀ d, Z0k ops x = some d → d ∉ Z5a ops j := fun j hj => by
    have h1 := List.all_eq_true.1 hch j hj
    unfold chkOk at h1
    simp only [Bool.and_eq_true, beq_iff_eq] at h1
    obtain ⟨⟨⟨h2, h3⟩, h4⟩, h5⟩ := h1
    exact ⟨(Zad h.bits i j).1 h2, Nat.le_of_eq h3, h5, Zob (Zad h.bits i) hlt' h4⟩
  have hgo : ∀ (v : AVal) (T' : St) (ι' : Ren) (u : Value) (w' : World), WRel P ι' T' w' → Ext ι w ι' w' → VRel ι' v u →
      Z1r P rec fi ops (cs.map (fun j => .chk (opAt ops j)) ++ Z1w ops r) (Z0k ops i :: pre.map (Z0k ops)) (v :: pre.map vals) tree T' k = true → K (a.put (Z0k ops i) u) w' := by
    intro v T' ι' u w' hw' he hv hk
    have hk' : Z1r P rec fi ops (cs.map (fun j => .chk (opAt ops j)) ++ Z1w ops r) ((i :: pre).map (Z0k ops)) ((i :: pre).map (upd vals i v)) tree T' k = true := by
      rw [Zkg hn]
      exact hk
    obtain ⟨hk2, hchk⟩ := chks ht hlt' hanc' cs hcs hk'
    have hinv : Inv P rec ops masks tree fi k a0 ι0 w0 B R (i :: pre) (upd vals i v) nm T' (fun j => L j ∨ j = i) ι' (a.put (Z0k ops i) u) w' r (done ||| (1 <<< i)) := by
      refine ⟨hw', h.ext.trans he, (put_defers a _ u).trans h.defs, (Zi9 a _ u).trans h.size, ?_, hlt', hanc', ?_, ?_, ?_, ?_, ?_, ?_, ?_, h.nmk, Zad h.bits i, hr, hk2, ?_, ?_, h.rap⟩
      · rintro j (hj | rfl)
        · exact List.mem_cons_of_mem _ (h.sub j hj)
        · simp
      · rintro j (hj | rfl) x hx
        · exact .inl (h.lanc j hj x hx)
        · exact .inl (hanc x hx)
      · rintro j (hj | rfl) d hdj
        · obtain ⟨u', h1, h2⟩ := h.t1 j hj d hdj
          rw [Z2d (hne j (h.sub j hj))]
          refine ⟨u', ?_, h2.mono he.le⟩
          rw [Z5k]
          · exact h1
          · intro e
            exact hne j (h.sub j hj) (ht.one i j d hlt (h.lt j (h.sub j hj)) e hdj).symm
        · rw [Z39, hdj]
          exact ⟨u, Zi8 (by rw [h.size]; exact hds d hdj), hv⟩
      · intro t hno
        rw [Z5k (hno i (.inl (.inr rfl)))]
        exact h.t2 t fun j hj => hno j (hj.imp .inl id)
      · intro j hj hc
        rcases List.mem_cons.1 hj with rfl | hj
        · exact .inr rfl
        · exact .inl (h.effs j hj hc)
      · intro j hj hLj
        have hji : j ≠ i := fun e => hLj (.inr e)
        have hjp : j ∈ pre := by
          rcases List.mem_cons.1 hj with e | hj
          · exact absurd e hji
          · exact hj
        have hLj' : ¬ L j := fun e => hLj (.inl e)
        obtain ⟨hc1, hc2⟩ := hpend j hjp hLj'
        have hp : Z30 P rec ops masks tree vals j T := by
          rcases h.prom j hjp hLj' with ⟨_, hp⟩ | ⟨hc3, _⟩
          · exact hp
          · omega
        have hp' : Z30 P rec ops masks tree (upd vals i v) j T := by
          rcases Prom.congr (vals' := upd vals i v) (nm' := nm) (nm := nm) (fun x hx => by rw [Z2d (hne x (h.anc j hjp x hx))]) (by rw [Z2d hji]) rfl (.inl ⟨hc1, hp⟩ : Prom P rec ops masks tree vals nm j T) with ⟨_, hp⟩ | ⟨hc3, _⟩
          · exact hp
          · omega
        refine .inl ⟨hc1, ?_⟩
        rcases Nat.lt_or_ge (cls P ops j) 1 with h1 | h1
        · have hc0 : Z0t P (opAt ops j).op = 0 := Nat.lt_one_iff.1 h1
          unfold Z30 at hp' ⊢
          rcases Z7q hp' with ⟨g1, g2⟩ | ⟨g1, g2⟩
          · rw [g2, Z9q hc0 T' T]
            rw [Z9q hc0 T T] at g1
            have : (fun v' (_ : St) => hold (v' = upd vals i v j ∧ T = T)) = (fun v' (_ : St) => hold (v' = upd vals i v j ∧ T' = T')) := by
              funext v' _
              simp [hold]
            rw [← this]
            exact g1
          · rw [g2]; exact g1
        · exact hchk j (hc2 (Nat.le_antisymm hc1 h1)) T hp'
      · intro j hj hLj q e
        have hji : j ≠ i := fun e => hLj (.inr e)
        have hjp : j ∈ pre := by
          rcases List.mem_cons.1 hj with e | hj
          · exact absurd e hji
          · exact hj
        have := (hpend j hjp (fun e => hLj (.inl e))).1
        have := h.nmk j q e
        omega
      · intro j hj x hx hLj hLx _ q e
        have hji : j ≠ i := fun e => hLj (.inr e)
        have hjp : j ∈ pre := by
          rcases List.mem_cons.1 hj with e | hj
          · exact absurd e hji
          · exact hj
        have := (hpend j hjp (fun e => hLj (.inl e))).1
        have := h.nmk j q e
        omega
      · intro j hj
        obtain ⟨g1, g2, g3, g4, g5⟩ := h.rlt j hj
        refine ⟨g1, fun hm => ?_, g3, g4, fun x hx => .inl (g5 x hx)⟩
        rcases List.mem_cons.1 hm with e | hm
        · exact hRi (e ▸ hj)
        · exact g2 hm
      · intro j hj
        refine (h.rah j hj).ext he (fun d hdj => Z5k fun e => ?_) fun x hx => (Z2d (hne x (h.sub x ((h.rlt j hj).2.2.2.2 x hx)))).symm
        exact hRi (ht.one i j d hlt (h.rlt j hj).1 e hdj ▸ hj)
    exact hK _ _ _ _ _ hinv
  unfold wpOpIn
  rw [Z6l hlt]
  show if Region.wanted (opAt ops i) (yielded ops a.tmps) = true then _ else _
  rcases Za2 hk hreal with ⟨hw, h1⟩ | ⟨hw, h1⟩
  · rw [if_pos hw]
    exact Zi1 hs h1 hF hd h.wr hreal fun v w' ι' s' av he hw' hv hk => hgo av s' ι' v w' hw' he hv hk
  · rw [if_neg (by rw [hw]; simp)]
    exact ⟨fun f _ => hF f, hgo (.tup []) T ι undef w h.wr (Ext.refl ι w) (.tup .nil) h1⟩
end
end Go.AM
end
section
namespace Go.AM
variable [Orc] [OrcOk]
theorem Zoh {ops:Array Oper} {masks:List Nat} (hl:masks.length = ops.size) {i:Nat} (hi:i < ops.size):(i,opAt ops i,maskAt masks i) ∈ allRows ops.toList masks:=by
  unfold allRows
  refine List.mem_map.2 ⟨((opAt ops i,i),maskAt masks i),?_,rfl⟩
  refine List.mem_of_getElem? (i:=i) ?_
  rw [List.getElem?_zip_eq_some]
  refine ⟨?_,?_⟩
  · rw [List.getElem?_zipIdx]
    simp [Z6l hi]
  · unfold maskAt
    rw [List.getD_eq_getElem?_getD]
    rw [List.getElem?_eq_getElem (by omega)]
    rfl
theorem TmpsOk.of {ops:Array Oper} {masks:List Nat} (hl:masks.length = ops.size) (h:Zk0 ops (allRows ops.toList masks) = true):TmpsOk ops masks:=by
  have key:∀ i j,i < ops.size→j < ops.size→i ≠ j→∀ d,Z0k ops i = some d→Z0k ops j ≠ some d∧(d ∈ Z5a ops j→Anc masks j i ∨ Anc masks i j):=by
    intro i j hi hj hne d hd
    have h1:=List.all_eq_true.1 (List.all_eq_true.1 h _ (Zoh hl hi)) _ (Zoh hl hj)
    simp only [Bool.or_eq_true,beq_iff_eq,Bool.and_eq_true] at h1
    rcases h1 with h1 | ⟨h1,_⟩
    · exact absurd h1 hne
    · rw [show (opAt ops i).dst = some d from hd] at h1
      simp only [Bool.and_eq_true,bne_iff_ne,ne_eq,Bool.or_eq_true,Bool.not_eq_true'] at h1
      refine ⟨h1.1,fun hm => ?_⟩
      rcases h1.2 with (h2 | h2) | h2
      · simp at h2
        exact absurd hm h2
      · exact .inl h2
      · exact .inr h2
  refine ⟨fun i j d hi hj e e' => ?_,fun i j d hi hj hne e hm => (key i j hi hj hne d e).2 hm⟩
  by_cases hne:i = j
  · exact hne
  · exact absurd e' (key i j hi hj hne d e).1
theorem Zis : ∀ (l : List Nat) (p q : Nat → Bool) (i : Nat), l.Nodup → i ∈ l → (∀ j ∈ l, j ≠ i → p j = q j) → p i = true → q i = false → l.countP p = l.countP q + 1
  | [], p, q, i, _, hi, _, _, _ => by cases hi
  | x :: l, p, q, i, hn, hi, h, hp, hq => by
    obtain ⟨hx, hn⟩ := List.nodup_cons.1 hn
    by_cases e : x = i
    · subst e
      rw [List.countP_cons_of_pos hp, List.countP_cons_of_neg (by simp [hq])]
      congr 1
      exact List.countP_congr fun j hj => by rw [h j (by simp [hj]) (fun e => hx (e ▸ hj))]
    · have hi : i ∈ l := by
        rcases List.mem_cons.1 hi with e' | hi
        · exact absurd e'.symm e
        · exact hi
      have ih := Zis l p q i hn hi (fun j hj => h j (by simp [hj])) hp hq
      have hxx := h x (by simp) e
      cases hpx : p x with
      | true => rw [List.countP_cons_of_pos hpx, List.countP_cons_of_pos (by rw [← hxx]; exact hpx), ih]
      | false => rw [List.countP_cons_of_neg (by simp [hpx]), List.countP_cons_of_neg (by rw [← hxx]; simp [hpx]), ih]
section
variable {P:Program} {rec:RecT} {ops:Array Oper} {masks:List Nat} {tree:PT AVal} {fi:FI} {k:PT AVal→St→Bool} {a0:Act} {ι0:Ren} {w0:World} {B:Nat→Nat} {R:Nat→Prop} {F:Fence} {m n0:Nat} {Q:Exit→Act→World→Prop}
theorem Inv.final {pre : List Nat} {vals : Nat → AVal} {nm : Nat → Option Pos} {T : St} {L : Nat → Prop} {ι : Ren} {a : Act} {w : World} {pl : List PItem} {done : Nat} (h : Inv P rec ops masks tree fi k a0 ι0 w0 B R pre vals nm T L ι a w pl done)
    (hset : pl = [] ∨ ∃ i cs ps r, pl = .eff i cs ps :: r) (hall0 : ∀ j, j < ops.size → L j ∨ R j) (h0 : ∀ t v, PT.get (posOf t) tree = some v → t ∈ fi.ps ∧ ∃ u, a0.tmps[t]? = some u ∧ VRel ι0 v u) (hsz : fi.ntmps ≤ a0.tmps.size)
    (hdf : Z4h n0 ι0 w0 a0.defers) (hnz : n0 ≤ w0.heap.size) (hQ : ∀ ι' tree' s' a' w', Ext ι0 w0 ι' w' → Here P n0 fi ι' tree' s' a' w' → k tree' s' = true → Q .normal a' w') : Q .normal a w := by
  rcases hset with rfl | ⟨i, cs, ps, r, rfl⟩
  · have hall : ∀ j, j < ops.size → L j := fun j hj => by
      rcases hall0 j hj with e | e
      · exact e
      · have := h.plan
        simp only [Z47] at this
        have := List.all_eq_true.1 this j (by simpa using hj)
        exact absurd ((h.bits j).1 this) (h.rlt j e).2.1
    have hk : Z3q (Z3h fi.ps (pre.map (Z0k ops)) []) (pre.map vals) tree (fun tree => k tree T) = true := h.cont
    have hloc : LocRel ι (pre.map (Z0k ops)) (pre.map vals) tree a.tmps := by
      refine ⟨by simp, fun t d v e1 e2 => ?_, fun t v e1 e2 => ?_⟩
      · obtain ⟨j, h1, h2⟩ := Zc8 pre e1
        have hv : vals j = v := by simpa [h1] using e2
        rw [← hv]
        exact h.t1 j (hall j (h.lt j (List.mem_of_getElem? h1))) t h2
      · obtain ⟨_, u, h1, h2⟩ := h0 t v e2
        exact ⟨u, (h.t2 t fun j hj => Z7r pre e1 j (h.sub j (hj.elim id fun e => hall j (h.rlt j e).1))).trans h1, h2.mono h.ext.le⟩
    obtain ⟨tree', h1, h2⟩ := hloc.Zte (n := fi.ntmps) (by rw [h.size]; exact hsz) (fun t v e => (h0 t v e).1) hk
    exact hQ ι tree' T a w h.ext ⟨h.wr, h2, h.defs ▸ hdf.ext h.ext, Nat.le_trans hnz h.ext.size⟩ h1
  · have hpl := h.plan
    simp only [Z47, Bool.and_eq_true] at hpl
    obtain ⟨hlt, hn, _, _⟩ := Z5t h.bits h.lt hpl.1.1.1.1
    rcases hall0 i hlt with e | e
    · exact absurd (h.sub i e) hn
    · have h2 : cls P ops i = 2 := (h.rlt i e).2.2.1
      have h3 := hpl.1.2.1
      simp only [bne_iff_ne, ne_eq] at h3
      exact absurd h2 h3
theorem Zsi (hs : Sound P rec) (hF : ∀ f, F.fn f) (hd : F.depth = none) (hA : AncOk ops.toList masks) (ht : TmpsOk ops masks) (hds : ∀ i, i < ops.size → ∀ d, Z0k ops i = some d → d < a0.tmps.size)
    (h0 : ∀ t v, PT.get (posOf t) tree = some v → t ∈ fi.ps ∧ ∃ u, a0.tmps[t]? = some u ∧ VRel ι0 v u) (hsz : fi.ntmps ≤ a0.tmps.size)
    (hdf : Z4h n0 ι0 w0 a0.defers) (hnz : n0 ≤ w0.heap.size) (hQ : ∀ ι' tree' s' a' w', Ext ι0 w0 ι' w' → Here P n0 fi ι' tree' s' a' w' → k tree' s' = true → Q .normal a' w') :
    ∀ (fuel : Nat) (listed : Array Bool) (a : Act) (w : World) (B : Nat → Nat) (R : Nat → Prop) (pre : List Nat) (vals : Nat → AVal) (nm : Nat → Option Pos) (T : St) (L : Nat → Prop) (ι : Ren) (pl : List PItem) (done : Nat),
      Inv P rec ops masks tree fi k a0 ι0 w0 B R pre vals nm T L ι a w pl done → (pl = [] ∨ ∃ i cs ps r, pl = .eff i cs ps :: r) → listed.size = ops.size → (∀ j, j < ops.size → (listed.getD j false = true ↔ L j ∨ R j)) →
      (List.range ops.size).countP (fun j => !listed.getD j false) = fuel → wpAnyIn F m P .any ops Q fuel listed a w := by
  intro fuel
  induction fuel with
  | zero =>
    intro listed a w B R pre vals nm T L ι pl done h hset hls hL hcnt
    have hall : ∀ j, j < ops.size → listed.getD j false = true := by
      intro j hj
      have := List.countP_eq_zero.1 hcnt j (by simpa using hj)
      simpa using this
    refine ⟨?_, h.final hset (fun j hj => (hL j hj).1 (hall j hj)) h0 hsz hdf hnz hQ⟩
    refine List.eq_nil_iff_forall_not_mem.2 fun j hj => ?_
    obtain ⟨h1, o, ho, _⟩ := mem_ready.1 hj
    have hjlt := (Array.getElem?_eq_some_iff.1 ho).1
    have h2 := hall j hjlt
    rw [Array.getD_eq_getD_getElem?] at h1 h2
    rw [Array.getElem?_eq_getElem (by omega)] at h1 h2
    simp at h1 h2
    rw [h1] at h2; cases h2
  | succ fuel ih =>
    intro listed a w B R pre vals nm T L ι pl done h hset hls hL hcnt
    have hget : ∀ j, j < ops.size → listed.getD j true = listed.getD j false := fun j hj => by
      rw [Array.getD_eq_getD_getElem?, Array.getD_eq_getD_getElem?, Array.getElem?_eq_getElem (by omega)]
      rfl
    refine ⟨fun hnil => ?_, fun i hi => ?_⟩
    · exfalso
      have hall : ∀ j, j < ops.size → listed.getD j false = true := by
        intro j
        induction j using Nat.strongRecOn with
        | _ j ihj =>
          intro hj
          cases hlj : listed.getD j false with
          | true => rfl
          | false =>
            exfalso
            have : j ∈ Region.ready .any ops listed := mem_ready.2 ⟨by rw [hget j hj]; exact hlj, opAt ops j, Z6l hj, fun e he hb => by
              have := hA.back j (opAt ops j) (by simpa using Z6l hj) e he hb
              exact ihj e.on this (by omega)⟩
            rw [hnil] at this
            cases this
      have : (List.range ops.size).countP (fun j => !listed.getD j false) = 0 := List.countP_eq_zero.2 fun j hj => by
        rw [hall j (by simpa using hj)]; simp
      omega
    · obtain ⟨h1, o, ho, hedges⟩ := mem_ready.1 hi
      have hilt := (Array.getElem?_eq_some_iff.1 ho).1
      have hoi : opAt ops i = o := by
        have := Z6l hilt
        rw [ho] at this
        exact (Option.some.inj this).symm
      have hLRi : ¬ (L i ∨ R i) := fun e => by
        have := (hL i hilt).2 e
        rw [← hget i hilt, h1] at this
        cases this
      have hLi : ¬ L i := fun e => hLRi (.inl e)
      have hRi : ¬ R i := fun e => hLRi (.inr e)
      have hanc : ∀ j, Anc masks i j → L j ∨ R j := by
        intro j hj
        obtain ⟨e, he, hb, h2⟩ := hA.anc i o (by simpa using ho) j hj
        have hlt := hA.back i o (by simpa using ho) e he hb
        have hLe : L e.on ∨ R e.on := (hL e.on (by omega)).1 (hedges e he hb)
        rcases h2 with rfl | h2
        · exact hLe
        · rcases hLe with hLe | hLe
          · exact .inl (h.lanc e.on hLe j h2)
          · exact .inl ((h.rlt e.on hLe).2.2.2.2 j h2)
      have hset' : ∀ j, j < ops.size → ((listed.setIfInBounds i true).getD j false = true ↔ (L j ∨ R j) ∨ j = i) := by
        intro j hj
        by_cases e : j = i
        · subst e
          rw [Array.getD_eq_getD_getElem?, Array.getElem?_setIfInBounds_self_of_lt (by omega)]
          simp
        · rw [Array.getD_eq_getD_getElem?, Array.getElem?_setIfInBounds_ne (Ne.symm e), ← Array.getD_eq_getD_getElem?, hL j hj]
          simp [e]
      have hcnt' : (List.range ops.size).countP (fun j => !(listed.setIfInBounds i true).getD j false) = fuel := by
        have := Zis (List.range ops.size) (fun j => !listed.getD j false) (fun j => !(listed.setIfInBounds i true).getD j false) i List.nodup_range (by simpa using hilt) (fun j hj e => by
            show (!listed.getD j false) = !(listed.setIfInBounds i true).getD j false
            rw [Array.getD_eq_getD_getElem?, Array.getD_eq_getD_getElem?, Array.getElem?_setIfInBounds_ne (Ne.symm e)]) (by rw [← hget i hilt, h1]; rfl) (by
            rw [Array.getD_eq_getD_getElem?, Array.getElem?_setIfInBounds_self_of_lt (by omega)]; rfl)
        omega
      have h0' : ∀ t v, PT.get (posOf t) tree = some v → ∃ u, a0.tmps[t]? = some u ∧ VRel ι0 v u := fun t v e => (h0 t v e).2
      by_cases hip : i ∈ pre
      · have hgo : ∀ ι' a' w', Inv P rec ops masks tree fi k a0 ι0 w0 B R pre vals nm T (fun j => L j ∨ j = i) ι' a' w' pl done → wpAnyIn F m P .any ops Q fuel (listed.setIfInBounds i true) a' w' := fun ι' a' w' h' =>
          ih _ a' w' B R pre vals nm T _ ι' pl done h' hset (by simpa using hls) (fun j hj => (hset' j hj).trans or_right_comm) hcnt'
        have hanc : ∀ j, Anc masks i j → L j := fun j hj => by
          rcases hanc j hj with e | e
          · exact e
          · exact absurd (h.anc i hip j hj) (h.rlt j e).2.1
        rcases Nat.lt_or_ge (cls P ops i) 2 with hc | hc
        · exact Zut hs hF hd h ht (hds i hilt) h0' hip hLi hanc (Nat.le_of_lt_succ hc) hgo
        · rcases Nat.lt_or_ge 2 (cls P ops i) with hc' | hc'
          · exact absurd (h.effs i hip hc') hLi
          · exact Zuu hF h ht (hds i hilt) h0' hip hLi hanc (Nat.le_antisymm hc' hc) hgo
      · rcases hset with rfl | ⟨i', cs, ps, r, rfl⟩
        · have := h.plan
          simp only [Z47] at this
          have := List.all_eq_true.1 this i (by simpa using hilt)
          exact absurd ((h.bits i).1 this) hip
        · have hpl := h.plan
          simp only [Z47, Bool.and_eq_true] at hpl
          obtain ⟨_, hn', _, _⟩ := Z5t h.bits h.lt hpl.1.1.1.1
          have h2 := List.all_eq_true.1 hpl.1.1.1.2 i (by simpa using hilt)
          simp only [Bool.and_eq_true, Bool.or_eq_true, beq_iff_eq] at h2
          have hii : i = i' ∨ i ∈ ps := by
            rcases h2.1.1 with ((h3 | h3) | h3) | h3
            · exact absurd ((h.bits i).1 h3) hip
            · exact .inl h3
            · rcases hanc i' h3 with e | e
              · exact absurd (h.sub i' e) hn'
              · have h4 : cls P ops i' = 2 := (h.rlt i' e).2.2.1
                have h5 := hpl.1.2.1
                simp only [bne_iff_ne, ne_eq] at h5
                exact absurd h4 h5
            · exact .inr (by simpa using h3)
          rcases hii with rfl | hips
          · refine Zwj hs hF hd h ht (hds i hilt) h0' hanc fun vals' T' ι' a' w' h' => ?_
            obtain ⟨R2, L2, ι2, pre2, vals2, nm2, T2, pl2, done2, h'', hset'', hLR⟩ := h'.settle ht
            exact ih _ a' w' B R2 pre2 vals2 nm2 T2 L2 ι2 pl2 done2 h'' hset'' (by simpa using hls) (fun j hj => ((hset' j hj).trans or_right_comm).trans (hLR j).symm) hcnt'
          · refine Zs5 hF h ht (hds i hilt) h0' hips hRi hanc fun B' a' w' h' => ?_
            exact ih _ a' w' B' _ pre vals nm T L ι _ done h' (.inr ⟨_, _, _, _, rfl⟩) (by simpa using hls) (fun j hj => (hset' j hj).trans or_assoc) hcnt'
theorem Ziu (hm : P.follows .mixedOrders = true) (hs : Sound P rec) : Zks P rec := by
  intro id ops n0 fi tree s k F m ι a w h hfo hF hd hr hh
  obtain ⟨l, hl, h1⟩ := Z01.1 h
  rcases Z02.1 h1 with ⟨hdst, h2⟩ | ⟨_, h2⟩
  · have hl : Zho P ops = some l := hl
    unfold Zho at hl
    split at hl
    · rename_i masks hmasks
      simp only at hl
      have hl : ∃ pl, (Zk0 ops (allRows ops.toList masks) && Z47 P ops masks pl 0) = true ∧ Z1w ops pl = l := by
        split at hl
        · rename_i hok
          exact ⟨_, hok, Option.some.inj hl⟩
        · split at hl
          · rename_i hok
            exact ⟨_, hok, Option.some.inj hl⟩
          · cases hl
      obtain ⟨pl, hok, rfl⟩ := hl
      · simp only [Bool.and_eq_true] at hok
        have hA := Zwt hmasks
        have ht := TmpsOk.of (by rw [hA.len]; simp) hok.1
        refine wpIn_region_any hm ?_
        have h0 : ∀ t v, PT.get (posOf t) tree = some v → t ∈ fi.ps ∧ ∃ u, a.tmps[t]? = some u ∧ VRel ι v u := hh.tr.get
        have hinv : Inv P rec ops masks tree fi k a ι w (fun _ => 0) (fun _ => False) [] (fun _ => .tup []) (fun _ => none) s (fun _ => False) ι a { w with drawn := w.drawn + 1 } pl 0 := by
          refine ⟨hh.wr.drawn _, Ext.drawn ι w _, rfl, rfl, fun i h => h.elim, fun i h => (by cases h), fun i h => (by cases h), fun i h => h.elim, fun i h => h.elim, fun t _ => rfl, fun i h => (by cases h), fun i h => (by cases h), fun i h => (by cases h),
            fun i h => (by cases h), fun i q e => (by cases e), fun j => by simp, hok.2, h2, fun j hj => hj.elim, fun j hj => hj.elim, fun j x hj => hj.elim⟩
        obtain ⟨R2, L2, ι2, pre2, vals2, nm2, T2, pl2, done2, h'', hset'', hLR⟩ := hinv.settle ht
        refine Zsi (n0 := n0) hs hF hd hA ht (fun i hi d e => ?_) h0 hh.tr.size hh.df hh.nz (fun ι' tree' s' a' w' he hh' hk => ⟨.normal, tree', s', ι', rfl, he, hh', hk⟩) ops.size _ a _ _ R2 pre2 vals2 nm2 T2 L2 ι2 pl2 done2 h'' hset'' (by simp) (fun j hj => ?_) ?_
        · exact Nat.lt_of_lt_of_le (Zl2 hdst (opAt ops i) (List.mem_of_getElem? (i := i) (by simpa using Z6l hi)) d e) hh.tr.size
        · rw [Array.getD_eq_getD_getElem?]
          refine Iff.trans ?_ (hLR j).symm
          simp [hj]
        · have : ∀ j ∈ List.range ops.size, (!(Array.replicate ops.size false).getD j false) = true := fun j hj => by
            rw [Array.getD_eq_getD_getElem?]
            have : j < ops.size := by simpa using hj
            simp [this]
          rw [List.countP_eq_length.2 this]
          simp
    · cases hl
  · cases h2
end
theorem Zum {P:Program} (hm:P.follows .mixedOrders = true) {n:Nat} {f:FuncId} {args:List AVal} {us:Array Value} {s:St} {w:World} {ι:Ren} {K:VK} (h:run P n f args s K = true) (hw:WRel P ι s w) (hv:VRels ι args us.toList) :
    Calls P f us w (Zg3 P ι w K):=by
  refine (callsIn_wide (n:=0)).1 ?_
  have:=Z9z (F:=Fence.wide) (m:=0) (Ziw (fun rec hs => Ziu hm hs) n) h (fun _ => trivial) rfl hw hv
  simpa using this
end Go.AM
end
section
namespace Go.AM
variable [Orc] [OrcOk]
noncomputable def St.obj (s:St) (b:Pos):Option AObj:=PT.get b s.heap
noncomputable def St.cells (s:St) (b:Pos):Option (List AVal):=match s.obj b with
  | some (.cells cs _) => some cs
  | _ => none
noncomputable def St.own (s:St) (b:Pos):Option (List AVal):=match s.obj b with
  | some (.cells cs false) => some cs
  | _ => none
def St.alloc (s:St) (x:AObj):St:={ heap:=PT.set s.next x s.heap,next:=s.next.succ }
def St.put (s:St) (b:Pos) (x:AObj):St:={ heap:=PT.set b x s.heap,next:=s.next }
theorem St.Z2v {s:St} {b:Pos} {cs:List AVal} (h:s.own b = some cs):s.obj b = some (.cells cs false):=by
  unfold St.own at h
  split at h
  · rename_i h'; rw [h']; cases h; rfl
  · cases h
theorem St.Z7h {s:St} {b:Pos} {cs:List AVal} (h:s.cells b = some cs):∃ ro,s.obj b = some (.cells cs ro):=by
  unfold St.cells at h
  split at h
  · rename_i ro h'; cases h; exact ⟨ro,h'⟩
  · cases h
def Z1j (x:Option AVal) (F:AVal→Prop):Prop:=match x with
  | some v => F v
  | none => False
def Z2w (x:Option AVal) (F:IntKind→Int→Prop):Prop:=match x with
  | some (.int k n) => F k n
  | _ => False
def Z5u (x:Option AVal) (F:Bool→Prop):Prop:=match x with
  | some (.bool b) => F b
  | _ => False
def Z67 (x:Option AVal) (F:List UInt8→Prop):Prop:=match x with
  | some (.str b) => F b
  | _ => False
def Z3e (x:Option AVal) (F:Pos→Nat→Prop):Prop:=match x with
  | some (.ptr b o) => F b o
  | _ => False
def Z9w (x:Option AVal) (F:Pos→Nat→Nat→Cap→Prop):Prop:=match x with
  | some (.slice b o n c) => F b o n c
  | _ => False
def Z70 (x:Option AVal) (F:List AVal→Prop):Prop:=match x with
  | some (.agg l) => F l
  | _ => False
def Z9x (x:Option AVal) (F:List AVal→Prop):Prop:=match x with
  | some (.tup l) => F l
  | _ => False
def Z0x {α:Type} (x:Option α) (F:α→Prop):Prop:=match x with
  | some v => F v
  | none => False
def Z1b:AVal→Option Nat
  | .slice _ _ n _ => some n
  | .nilSlice => some 0
  | _ => none
@[simp] theorem slcLen_slice (b:Pos) (o n:Nat) (c:Cap):Z1b (.slice b o n c) = some n:=rfl
@[simp] theorem slcLen_nil:Z1b .nilSlice = some 0:=rfl
def Z9b (γ:RO→Option AVal):List RO→(List AVal→Prop)→Prop
  | [],F => F []
  | x :: l,F => Z1j (γ x) fun v => Z9b γ l fun r => F (v :: r)
def lay (cs:List AVal) (o:Nat) (vs:List AVal):List AVal:=cs.take o ++ vs ++ cs.drop (o + vs.length)
def Z8z (γ:RO→Option AVal):List (Nat × Nat × RO)→List AVal→(List AVal→Prop)→Prop
  | [],cs,F => F cs
  | (o,n,x) :: l,cs,F => Z1j (γ x) fun v => (∀ t,v ≠ .tup t)∧v.cells.length = n∧o + n ≤ cs.length∧Z8z γ l (lay cs o v.cells) F
def Z7y (n:Option Nat) (cs:List AVal) (o:Nat) (F:AVal→Prop):Prop:=match n with
  | none => Z0x cs[o]? F
  | some n => o + n ≤ cs.length∧F (.agg ((cs.drop o).take n))
def intP (op:BinOp) (k:IntKind) (a b:Int) (Q:AVal→Prop):Prop:=match op with
  | .add => Q (.int k (k.wrap (a + b)))
  | .sub => Q (.int k (k.wrap (a - b)))
  | .mul => Q (.int k (k.wrap (a * b)))
  | .quo => b ≠ 0∧Q (.int k (k.wrap (a.tdiv b)))
  | .rem => b ≠ 0∧Q (.int k (a.tmod b))
  | .and => Q (.int k (k.wrap (BitVec.ofInt k.bits a &&& BitVec.ofInt k.bits b).toNat))
  | .or => Q (.int k (k.wrap (BitVec.ofInt k.bits a ||| BitVec.ofInt k.bits b).toNat))
  | .xor => Q (.int k (k.wrap (BitVec.ofInt k.bits a ^^^ BitVec.ofInt k.bits b).toNat))
  | .shl => 0 ≤ b∧Q (.int k (k.wrap (a * 2 ^ min b.toNat k.bits)))
  | .shr => 0 ≤ b∧Q (.int k (a.fdiv (2 ^ min b.toNat k.bits)))
  | .eql => Q (.bool (decide (a = b)))
  | .neq => Q (.bool (!decide (a = b)))
  | .lss => Q (.bool (decide (a < b)))
  | .leq => Q (.bool (!decide (b < a)))
  | .gtr => Q (.bool (decide (b < a)))
  | .geq => Q (.bool (!decide (a < b)))
  | _ => False
def eqP (op:BinOp) (e:Bool) (Q:AVal→Prop):Prop:=match op with
  | .eql => Q (.bool e)
  | .neq => Q (.bool (!e))
  | _ => False
def binP (op:BinOp) (k:EK) (sh:Option (List SK)) (x y:AVal) (Q:AVal→Prop):Prop:=match x,y with
  | .int j a,.int i b => Z12 j = Z12 i∧intP op j a b Q
  | .bool a,.bool b => Z4m k .bool = true∧eqP op (a == b) Q
  | .str a,.str b => match op with
    | .eql => Q (.bool (a == b))
    | .neq => Q (.bool (!(a == b)))
    | _ => False
  | .nilPtr,.nilPtr => Z4m k .ptr = true∧eqP op true Q
  | .ptr _ _,.nilPtr => Z4m k .ptr = true∧eqP op false Q
  | .nilSlice,.nilSlice => Z4m k .slc = true∧eqP op true Q
  | .slice _ _ _ _,.nilSlice => Z4m k .slc = true∧eqP op false Q
  | .agg a,y => Z0x sh fun ks => Z70 (some y) fun b => a.length = ks.length∧b.length = ks.length∧Z0u ks a b (fun _ => true) = true∧eqP op (Z0u ks a b fun e => e) Q
  | _,_ => False
def Zg7 (i:Bool × List SK × AVal) (key:AVal) (es:List MapE) (F:Option (Nat × AVal)→Prop):Prop :=
  ∃ r,(Z1c i.1 i.2.1 key fun c => Z25 i.1 i.2.1 c es 0 fun x => hold (x = r)) = true∧F r
def srcP (es:Nat) (x:AVal) (s:St) (F:List AVal→Nat→Prop):Prop:=match x with
  | .str l => es = 1∧F (l.map fun c => .int .u8 (c.toNat:Int)) l.length
  | .nilSlice => F [] 0
  | .slice b off n _ => if n = 0 then F [] 0 else Z0x (s.cells b) fun cs => off + n * es ≤ cs.length∧F ((cs.drop off).take (n * es)) n
  | _ => False
def Z4a (es eb:Nat) (cs:List AVal) (need:Nat) (s:St) (Q:AVal→St→Prop):Prop:=need * eb ≤ Z0j∧Q (.slice s.next 0 need (.opn es)) (s.alloc (.cells cs false))
def appP (e:Nat × Nat) (x:AVal) (new:List AVal) (n:Nat) (s:St) (Q:AVal→St→Prop):Prop:=match x with
  | .nilSlice => if n = 0 then Q .nilSlice s else Z4a e.1 e.2 new n s Q
  | .slice b off len (.lim c) => if n = 0 then len ≤ c∧Q (.slice b off len (.lim c)) s else
    if len + n ≤ c then Z0x (s.own b) fun cs => off + len * e.1 + new.length ≤ cs.length∧Q (.slice b off (len + n) (.lim c)) (s.put b (.cells (lay cs (off + len * e.1) new) false))
    else if len = 0 then Z4a e.1 e.2 new n s Q
    else Z0x (s.cells b) fun cs => off + len * e.1 ≤ cs.length∧Z4a e.1 e.2 ((cs.drop off).take (len * e.1) ++ new) (len + n) s Q
  | .slice b off len (.opn es) => if n = 0 then Q (.slice b off len (.opn es)) s else es = e.1∧Z0x (s.own b) fun cs =>
    if len = 0 then Z4a e.1 e.2 new n (s.put b .dead) Q
    else if off + (len + n) * e.1 ≤ cs.length then off + len * e.1 + new.length ≤ cs.length∧Q (.slice b off (len + n) (.opn e.1)) (s.put b (.cells (lay cs (off + len * e.1) new) false))
    else off + len * e.1 ≤ cs.length∧Z4a e.1 e.2 ((cs.drop off).take (len * e.1) ++ new) (len + n) (s.put b .dead) Q
  | _ => False
section
variable (P:Program)
def CallR (f:FuncId) (args:List AVal) (s:St) (v:AVal) (s':St):Prop:=∃ n0,∀ n,n0 ≤ n→∀ K:VK,K v s' = true→Z6g P (exec P n) f args s K = true
def Z0f (f:FuncId) (args:List AVal) (s:St) (Q:AVal→St→Prop):Prop:=∃ v s',CallR P f args s v s'∧Q v s'
def Z4d (fv:AVal) (args:List AVal) (s:St) (Q:AVal→St→Prop):Prop:=∃ v s',(∃ n0,∀ n,n0 ≤ n→∀ K:VK,K v s' = true→Zin P (exec P n) fv args s K = true)∧Q v s'
def opP (o : MOp) (γ : RO → Option AVal) (s : St) (Q : AVal → St → Prop) : Prop := match o with
  | .move x => Z1j (γ x) fun v => Q v s
  | .pick c a b => Z5u (γ c) fun t => if t = true then Z1j (γ a) fun v => Q v s else Z1j (γ b) fun v => Q v s
  | .alloc z => Z0x z fun cs => Q (.ptr s.next 0) (s.alloc (.cells cs false))
  | .box x => Z1j (γ x) fun v => (∀ t, v ≠ .tup t) ∧ Q (.ptr s.next 0) (s.alloc (.cells v.cells false))
  | .build pl z => Z0x pl fun pl => Z0x z fun zs => Z8z γ pl zs fun cs => Q (.agg cs) s
  | .buildSlice e z len ps => Z0x e fun e => Z0x z fun zs => zs.length = e.1 ∧ len * e.1 ≤ 16777216 ∧ Z8z γ (Z8g e.1 ps) (List.replicate len zs).flatten fun cs => Q (.slice s.next 0 len (.lim len)) (s.alloc (.cells cs false))
  | .load n a => Z0x n fun n => Z3e (γ a) fun b off => Z0x (s.cells b) fun cs => Z7y n cs off fun v => Q v s
  | .store n a x => Z0x n fun n => Z1j (γ x) fun v => (∀ t, v ≠ .tup t) ∧ v.cells.length = n ∧ Z3e (γ a) fun b off => Z0x (s.own b) fun cs => off + n ≤ cs.length ∧ Q (.tup []) (s.put b (.cells (lay cs off v.cells) false))
  | .nilck x => Z3e (γ x) fun b o => Q (.ptr b o) s
  | .bin op k sh x y => Z1j (γ x) fun x => Z1j (γ y) fun y => binP op k sh x y fun v => Q v s
  | .un op x => match op with
    | .not => Z5u (γ x) fun b => Q (.bool (!b)) s
    | .neg => Z2w (γ x) fun k n => Q (.int k (k.wrap (0 - n))) s
    | _ => False
  | .conv k x => match k with
    | .int k => Z2w (γ x) fun _ n => Q (.int k (k.wrap n)) s
    | .same => Z67 (γ x) fun l => Q (.str l) s
    | _ => False
  | .func f a c => Z0x f fun f => Z9b γ a fun a => Z9b γ c fun c => Q (.fn f a c) s
  | .makeMap ok => ok = true ∧ Q (.map s.next) (s.alloc (.map [] 0))
  | .makeSlice e z l c => Z0x e fun e => Z0x z fun zs => zs.length = e.1 ∧ Z2w (γ l) fun _ l => Z2w (γ c) fun _ c => 0 ≤ l ∧ l ≤ c ∧ c.toNat * e.2 ≤ Z0j ∧ c.toNat ≤ Z0j ∧
      Q (.slice s.next 0 l.toNat (.lim c.toNat)) (s.alloc (.cells (List.replicate c.toNat zs).flatten false))
  | .fieldAddr o x => Z0x o fun fo => Z3e (γ x) fun b off => Q (.ptr b (off + fo)) s
  | .field f x => Z0x f fun f => Z70 (γ x) fun l => Z7y f.2 l f.1 fun v => Q v s
  | .indexAddr k e a x i => Z2w (γ i) fun _ i => 0 ≤ i ∧ match k with
    | .slc => Z0x e fun e => Z9w (γ x) fun b off n _ => i < n ∧ Q (.ptr b (off + i.toNat * e.1)) s
    | .arr => Z0x a fun e => Z3e (γ x) fun b off => i < e.1 ∧ Q (.ptr b (off + i.toNat * e.2)) s
    | _ => False
  | .index k e x i => Z2w (γ i) fun _ i => 0 ≤ i ∧ match k with
    | .str => Z67 (γ x) fun l => Z0x l[i.toNat]? fun c => Q (.int .u8 c.toNat) s
    | .arr => Z0x e fun e => Z70 (γ x) fun l => i < e.1 ∧ Z7y e.2.2 l (i.toNat * e.2.1) fun v => Q v s
    | _ => False
  | .lookup i ok m k => Z0x i fun info => Z1j (γ k) fun key => match γ m with
    | some (.map b) => match s.obj b with
      | some (.map es _) => Zg7 info key es fun r => match r with
        | none => if ok = true then Q (.tup [info.2.2, .bool false]) s else Q info.2.2 s
        | some x => if ok = true then Q (.tup [x.2, .bool true]) s else Q x.2 s
      | _ => False
    | _ => False
  | .mapSet i m k x => Z0x i fun info => Z1j (γ k) fun key => Z1j (γ x) fun x => match γ m with
    | some (.map b) => match s.obj b with
      | some (.map es clock) => Zg7 info key es fun r => match r with
        | none => Q (.tup []) (s.put b (.map (es ++ [{ key := key, val := x, born := clock }]) (clock + 1)))
        | some p => ∃ es', Z3x x key es p.1 (fun e => hold (e = es')) = true ∧ Q (.tup []) (s.put b (.map es' clock))
      | _ => False
    | _ => False
  | .extract x i => Z9x (γ x) fun l => Z0x l[i]? fun v => Q v s
  | .call f l => Z1j (γ f) fun fv => Z9b γ l fun args => Z4d P fv args s Q
  | .len e x => Z0x e fun e => match e.1 with
    | .str => Z67 (γ x) fun l => Q (.int .i64 l.length) s
    | .slc => Z1j (γ x) fun v => Z0x (Z1b v) fun n => Q (.int .i64 n) s
    | .arr => Z1j (γ x) fun _ => Q (.int .i64 e.2) s
    | .map => match γ x with
      | some (.map b) => match s.obj b with
        | some (.map es _) => Q (.int .i64 es.length) s
        | _ => False
      | _ => False
    | _ => False
  | .append e x y => Z0x e fun e => Z1j (γ x) fun x => Z1j (γ y) fun y => srcP e.1 y s fun new n => appP e x new n s Q
  | o => ∃ v s', (∀ (rec : RecT) (K : VK), K v s' = true → mopK P rec o γ s K = true) ∧ Q v s'
def Zbv (g:Option (Option (RO × Bool))) (γ:RO→Option AVal) (A B:Prop):Prop:=match g with
  | none => A
  | some g => Z0x g fun g => Z1j (γ g.1) fun v => match v with
    | .bool b => if b = g.2 then A else B
    | .iface _ _ => False
    | _ => B
def Z54:List (Option Pos)→List AVal→PT AVal→Option (PT AVal)
  | [],_,t => some t
  | _ :: _,[],_ => none
  | none :: r,_ :: l,t => Z54 r l t
  | some p :: r,v :: l,t => Z54 r l (PT.set p v t)
def Z3b (cm:List (Option Pos)):List MItem→List AVal→PT AVal→St→(PT AVal→St→Prop)→Prop
  | [],locals,tree,s,Q => Z0x (Z54 cm locals tree) fun t => Q t s
  | .run g o :: r,locals,tree,s,Q => Zbv g (getO tree locals) (opP P o (getO tree locals) s fun v s => Z3b cm r (v :: locals) tree s Q) (Z3b cm r (.tup [] :: locals) tree s Q)
  | .chk g o u :: r,locals,tree,s,Q => Zbv g (getO tree locals) (opP P o (getO tree locals) s fun v _ => Z0x u fun x => Z1j (getO tree locals x) fun u => v = u∧Z27 8 v v = true∧Z3b cm r locals tree s Q) (Z3b cm r locals tree s Q)
  | .fresh :: r,locals,tree,s,Q => s.obj s.next = none∧Z3b cm r locals tree s Q
  | .peek o :: r,locals,tree,s,Q => opP P o (getO tree locals) s (fun _ _ => True)∧Z3b cm r locals tree s Q
end
theorem Z1f {x:Option AVal} {F:AVal→Prop} (h:Z1j x F):∃ v,x = some v∧F v:=by cases x with
  | none => exact h.elim
  | some v => exact ⟨v,rfl,h⟩
theorem Z0l {α:Type} {x:Option α} {F:α→Prop} (h:Z0x x F):∃ v,x = some v∧F v:=by cases x with
  | none => exact h.elim
  | some v => exact ⟨v,rfl,h⟩
theorem Z56 {x:Option AVal} {F:IntKind→Int→Prop} (h:Z2w x F):∃ k n,x = some (.int k n)∧F k n:=by
  unfold Z2w at h; split at h
  · exact ⟨_,_,rfl,h⟩
  · exact h.elim
theorem Z9j {x:Option AVal} {F:Bool→Prop} (h:Z5u x F):∃ b,x = some (.bool b)∧F b:=by
  unfold Z5u at h; split at h
  · exact ⟨_,rfl,h⟩
  · exact h.elim
theorem Zav {x:Option AVal} {F:List UInt8→Prop} (h:Z67 x F):∃ b,x = some (.str b)∧F b:=by
  unfold Z67 at h; split at h
  · exact ⟨_,rfl,h⟩
  · exact h.elim
theorem Z57 {x:Option AVal} {F:Pos→Nat→Prop} (h:Z3e x F):∃ b o,x = some (.ptr b o)∧F b o:=by
  unfold Z3e at h; split at h
  · exact ⟨_,_,rfl,h⟩
  · exact h.elim
theorem Zmc {x:Option AVal} {F:Pos→Nat→Nat→Cap→Prop} (h:Z9w x F):∃ b o n c,x = some (.slice b o n c)∧F b o n c:=by
  unfold Z9w at h; split at h
  · exact ⟨_,_,_,_,rfl,h⟩
  · exact h.elim
theorem Zau {x:Option AVal} {F:List AVal→Prop} (h:Z70 x F):∃ b,x = some (.agg b)∧F b:=by
  unfold Z70 at h; split at h
  · exact ⟨_,rfl,h⟩
  · exact h.elim
theorem Zmd {x:Option AVal} {F:List AVal→Prop} (h:Z9x x F):∃ b,x = some (.tup b)∧F b:=by
  unfold Z9x at h; split at h
  · exact ⟨_,rfl,h⟩
  · exact h.elim
theorem Zb1 {n:Option Nat} {cs:List AVal} {o:Nat} {F:AVal→Prop} (h:Z7y n cs o F):∃ v,F v∧∀ k:AVal→Bool,k v = true→Z7x n cs o k = true:=by
  cases n with
  | none =>
    obtain ⟨v,e,h⟩:=Z0l h
    exact ⟨v,h,fun k hk => Z4r.2 ⟨v,e,hk⟩⟩
  | some n => exact ⟨_,h.2,fun k hk => Z2t.2 ⟨h.1,hk⟩⟩
theorem Zb2 {γ:RO→Option AVal}:∀ {l:List RO} {F:List AVal→Prop},Z9b γ l F→∃ vs,F vs∧∀ k:List AVal→Bool,k vs = true→Zal γ l k = true
  | [],F,h => ⟨[],h,fun k hk => hk⟩
  | x :: l,F,h => by
    obtain ⟨v,e,h⟩:=Z1f h
    obtain ⟨vs,h1,h2⟩:=Zb2 h
    exact ⟨v :: vs,h1,fun k hk => Z01.2 ⟨v,e,h2 (fun r => k (v :: r)) hk⟩⟩
theorem Zdv {γ:RO→Option AVal}:∀ {l:List (Nat × Nat × RO)} {cs:List AVal} {F:List AVal→Prop},Z8z γ l cs F→∃ vs,F vs∧∀ k:List AVal→Bool,k vs = true→Z94 γ l cs k = true
  | [],cs,F,h => ⟨cs,h,fun k hk => hk⟩
  | (o,n,x) :: l,cs,F,h => by
    obtain ⟨v,e,h0,h1,h2,h3⟩:=Z1f h
    obtain ⟨vs,h4,h5⟩:=Zdv h3
    refine ⟨vs,h4,fun k hk => ?_⟩
    show (optK (γ x) fun v => Z6j v (v.Z28 fun vs => lenK vs 0 fun m => ifK (Nat.beq m n) (Z3l vs cs o fun cs => Z94 γ l cs k) (fail 29))) = true
    refine Z01.2 ⟨v,e,Z4n.2 ⟨h0,?_⟩⟩
    rw [Z4l,Z0p]
    refine Z02.2 (.inl ⟨by simp [h1],Z40.2 ⟨by omega,h5 k hk⟩⟩)
theorem Z58 {k:IntKind} {n:Int} {s:St} {K:VK} (h:K (.int k n) s = true):AM.intV k n s K = true:=by
  unfold AM.intV
  rw [Zk9]
  exact h
theorem Z4x {b:Bool} {s:St} {K:VK} (h:K (.bool b) s = true):AM.Z1u b s K = true:=by
  cases b <;> exact h
theorem Ztr {op:BinOp} {k:IntKind} {a b:Int} {Q:AVal→Prop} (h:intP op k a b Q) (s:St):∃ v,Q v∧∀ K:VK,K v s = true→Z6r op k a b s K = true:=by
  cases op with
  | add => exact ⟨_,h,fun K hK => Z58 (by rw [Z5v]; exact hK)⟩
  | sub => exact ⟨_,h,fun K hK => Z58 (by rw [Z5v]; exact hK)⟩
  | mul => exact ⟨_,h,fun K hK => Z58 (by rw [Z5v]; exact hK)⟩
  | quo => exact ⟨_,h.2,fun K hK => Z02.2 (.inr ⟨by rw [Z6q]; simpa using h.1,Z58 hK⟩)⟩
  | rem => exact ⟨_,h.2,fun K hK => Z02.2 (.inr ⟨by rw [Z6q]; simpa using h.1,Z58 hK⟩)⟩
  | and => exact ⟨_,h,fun K hK => Z58 hK⟩
  | or => exact ⟨_,h,fun K hK => Z58 hK⟩
  | xor => exact ⟨_,h,fun K hK => Z58 hK⟩
  | shl => exact ⟨_,h.2,fun K hK => Z02.2 (.inr ⟨by rw [Z3v]; simpa using h.1,Z58 hK⟩)⟩
  | shr => exact ⟨_,h.2,fun K hK => Z02.2 (.inr ⟨by rw [Z3v]; simpa using h.1,Z58 hK⟩)⟩
  | eql => exact ⟨_,h,fun K hK => Z4x (by rw [Z6q]; exact hK)⟩
  | neq => exact ⟨_,h,fun K hK => Z4x (by rw [Z4b,Z6q]; exact hK)⟩
  | lss => exact ⟨_,h,fun K hK => Z4x (by rw [Z3v]; exact hK)⟩
  | leq => exact ⟨_,h,fun K hK => Z4x (by rw [Z4b,Z3v]; exact hK)⟩
  | gtr => exact ⟨_,h,fun K hK => Z4x (by rw [Z3v]; exact hK)⟩
  | geq => exact ⟨_,h,fun K hK => Z4x (by rw [Z4b,Z3v]; exact hK)⟩
  | _ => exact h.elim
theorem Z9i {op:BinOp} {e:Bool} {Q:AVal→Prop} (h:eqP op e Q) (s:St):∃ v,Q v∧∀ K:VK,K v s = true→Z3g op e s K = true:=by
  cases op with
  | eql => exact ⟨_,h,fun K hK => Z4x hK⟩
  | neq => exact ⟨_,h,fun K hK => Z4x (by rw [Z4b]; exact hK)⟩
  | _ => exact h.elim
theorem Zox {k:SK} {a b:AVal} {K:Bool→Bool} (h:AM.Z6p k a b K = true):∃ e,∀ K':Bool→Bool,AM.Z6p k a b K' = K' e:=by
  cases k with
  | bool =>
    obtain ⟨x,rfl,h1⟩:=AVal.Z1p.1 h
    obtain ⟨y,rfl,h2⟩:=AVal.Z1p.1 h1
    exact ⟨_,fun K' => rfl⟩
  | int =>
    obtain ⟨j,x,rfl,h1⟩:=AVal.Z0s.1 h
    obtain ⟨i,y,rfl,h2⟩:=AVal.Z0s.1 h1
    rcases Z02.1 h2 with ⟨h3,_⟩ | ⟨_,h3⟩
    · refine ⟨eqI x y,fun K' => ?_⟩
      show ifK (Nat.beq (Z12 j) (Z12 i)) (K' (eqI x y)) (fail 8) = _
      rw [h3]; rfl
    · cases h3
  | str =>
    obtain ⟨x,rfl,h1⟩:=AVal.Z20.1 h
    obtain ⟨y,rfl,h2⟩:=AVal.Z20.1 h1
    exact ⟨_,fun K' => rfl⟩
theorem Zbs:∀ {ks:List SK} {a b:List AVal} {K:Bool→Bool},AM.Z0u ks a b K = true→∃ e,∀ K':Bool→Bool,AM.Z0u ks a b K' = K' e
  | [],a,b,K,h => ⟨true,fun K' => rfl⟩
  | k :: ks,[],b,K,h => by cases h
  | k :: ks,x :: a,[],K,h => by cases h
  | k :: ks,x :: a,y :: b,K,h => by
    have h:AM.Z6p k x y (fun e => ifK e (AM.Z0u ks a b K) (K false)) = true:=h
    obtain ⟨e,he⟩:=Zox h
    rw [he] at h
    have hr:∀ K':Bool→Bool,AM.Z0u (k :: ks) (x :: a) (y :: b) K' = ifK e (AM.Z0u ks a b K') (K' false):=fun K' => he _
    cases e with
    | true =>
      obtain ⟨e',he'⟩:=Zbs (show AM.Z0u ks a b K = true from h)
      exact ⟨e',fun K' => (hr K').trans (he' K')⟩
    | false => exact ⟨false,hr⟩
theorem Zoy {ks:List SK} {a b:List AVal} (h:AM.Z0u ks a b (fun _ => true) = true) (k:Bool→Bool) (hk:k (AM.Z0u ks a b fun e => e) = true):AM.Z0u ks a b k = true:=by
  obtain ⟨e,he⟩:=Zbs h
  rw [he] at hk
  rw [he]; exact hk
theorem Ztq {op:BinOp} {k:EK} {sh:Option (List SK)} {x y:AVal} {Q:AVal→Prop} (h:binP op k sh x y Q) (s:St):∃ v,Q v∧∀ K:VK,K v s = true→Zrg op k sh (some x) (some y) s K = true:=by
  unfold binP at h
  split at h
  · obtain ⟨h1,h2⟩:=h
    obtain ⟨v,h3,h4⟩:=Ztr h2 s
    refine ⟨v,h3,fun K hK => ?_⟩
    show ifK (Zbh op) _ (ifK (Nat.beq (Z12 _) (Z12 _)) _ _) = true
    cases Zbh op with
    | true => exact h4 K hK
    | false => exact (show ifK (Nat.beq (Z12 _) (Z12 _)) _ _ = true from Z02.2 (.inl ⟨by rw [h1]; exact Nat.beq_refl _,h4 K hK⟩))
  · obtain ⟨h1,h2⟩:=h
    obtain ⟨v,h3,h4⟩:=Z9i h2 s
    refine ⟨v,h3,fun K hK => Z02.2 (.inl ⟨h1,?_⟩)⟩
    rw [Z79]
    exact h4 K hK
  · rename_i a b
    cases op with
    | eql => exact ⟨_,h,fun K hK => Z4x (by rw [Z5g]; exact hK)⟩
    | neq => exact ⟨_,h,fun K hK => Z4x (by rw [Z4b,Z5g]; exact hK)⟩
    | _ => exact h.elim
  · obtain ⟨h1,h2⟩:=h
    obtain ⟨v,h3,h4⟩:=Z9i h2 s
    refine ⟨v,h3,fun K hK => ?_⟩
    show ifK (Z4m k .ptr) _ _ = true
    exact Z02.2 (.inl ⟨h1,h4 K hK⟩)
  · obtain ⟨h1,h2⟩:=h
    obtain ⟨v,h3,h4⟩:=Z9i h2 s
    refine ⟨v,h3,fun K hK => ?_⟩
    show ifK (Z4m k .ptr) _ _ = true
    exact Z02.2 (.inl ⟨h1,h4 K hK⟩)
  · obtain ⟨h1,h2⟩:=h
    obtain ⟨v,h3,h4⟩:=Z9i h2 s
    refine ⟨v,h3,fun K hK => ?_⟩
    show ifK (Z4m k .slc) _ _ = true
    exact Z02.2 (.inl ⟨h1,h4 K hK⟩)
  · obtain ⟨h1,h2⟩:=h
    obtain ⟨v,h3,h4⟩:=Z9i h2 s
    refine ⟨v,h3,fun K hK => ?_⟩
    show ifK (Z4m k .slc) _ _ = true
    exact Z02.2 (.inl ⟨h1,h4 K hK⟩)
  · rename_i a
    obtain ⟨ks,hks,h⟩:=Z0l h
    obtain ⟨b,hb,h0,h1,h2,h3⟩:=Zau h
    cases hb
    obtain ⟨v,h4,h5⟩:=Z9i h3 s
    refine ⟨v,h4,fun K hK => ?_⟩
    show Zu1 sh op a (.agg b) s K = true
    refine Z01.2 ⟨ks,hks,AVal.Z5d.2 ⟨b,rfl,?_⟩⟩
    rw [Z0p,Z0p,Z0p]
    refine Z02.2 (.inl ⟨by simp [h0],Z02.2 (.inl ⟨by simp [h1],Zoy h2 (fun e => Z3g op e s K) (h5 K hK)⟩)⟩)
  · exact h.elim
theorem Z8b {ag:Bool} {ks:List SK} {v:AVal} {K:List AVal→Bool} (h:Z1c ag ks v K = true):∃ c,∀ K':List AVal→Bool,Z1c ag ks v K' = K' c:=by
  cases ag with
  | false => exact ⟨[v],fun K' => rfl⟩
  | true =>
    obtain ⟨l,rfl,h1⟩:=AVal.Z5d.1 (show v.aggK _ = true from h)
    rw [Z0p,Z0p] at h1
    rcases Z02.1 h1 with ⟨h2,_⟩ | ⟨_,h2⟩
    · refine ⟨l,fun K' => ?_⟩
      show lenK l 0 (fun n => lenK ks 0 fun m => ifK (Nat.beq n m) (K' l) (fail 54)) = K' l
      rw [Z0p,Z0p,h2]; rfl
    · cases h2
theorem Ziy {ag:Bool} {ks:List SK} {key:List AVal}:∀ {es:List MapE} {i:Nat} {K:Option (Nat × AVal)→Bool},Z25 ag ks key es i K = true→∃ r,∀ K':Option (Nat × AVal)→Bool,Z25 ag ks key es i K' = K' r
  | [],i,K,h => ⟨none,fun K' => rfl⟩
  | e :: es,i,K,h => by
    have h:Z1c ag ks e.key (fun c => Z0u ks key c fun b => ifK b (K (some (i,e.val))) (Z25 ag ks key es (Nat.succ i) K)) = true:=h
    obtain ⟨c,hc⟩:=Z8b h
    rw [hc] at h
    obtain ⟨b,hb⟩:=Zbs h
    rw [hb] at h
    have hr:∀ K':Option (Nat × AVal)→Bool,Z25 ag ks key (e :: es) i K' = ifK b (K' (some (i,e.val))) (Z25 ag ks key es (Nat.succ i) K'):=fun K' => by
      show (Z1c ag ks e.key fun c => Z0u ks key c fun b => ifK b (K' (some (i,e.val))) (Z25 ag ks key es (Nat.succ i) K')) = _
      rw [hc,hb]
    cases b with
    | true => exact ⟨some (i,e.val),hr⟩
    | false =>
      obtain ⟨r,h2⟩:=Ziy (show Z25 ag ks key es (Nat.succ i) K = true from h)
      exact ⟨r,fun K' => (hr K').trans (h2 K')⟩
theorem Zf8 {ag:Bool} {ks:List SK} {v:AVal} {es:List MapE} {K K':Option (Nat × AVal)→Bool} (h:(Z1c ag ks v fun c => Z25 ag ks c es 0 K) = true) (hK:∀ x,K x = true→K' x = true) :
    (Z1c ag ks v fun c => Z25 ag ks c es 0 K') = true:=by
  obtain ⟨c,hc⟩:=Z8b h
  rw [hc] at h ⊢
  obtain ⟨r,hr⟩:=Ziy h
  rw [hr] at h ⊢
  exact hK r h
theorem Zfy {v key:AVal}:∀ {es:List MapE} {i:Nat} {K K':List MapE→Bool},Z3x v key es i K = true→(∀ x,K x = true→K' x = true)→Z3x v key es i K' = true
  | [],i,K,K',h,_ => by cases h
  | e :: es,0,K,K',h,hK => hK _ h
  | e :: es,i + 1,K,K',h,hK => Zfy (es:=es) (i:=i) (K:=fun r => K (e :: r)) (K':=fun r => K' (e :: r)) h fun x hx => hK _ hx
theorem Zca {ag:Bool} {ks:List SK} {key:AVal} {es:List MapE} {cl:Nat} {b:Pos} {s:St} {F:Option (Nat × AVal)→Bool} (ho:s.obj b = some (.map es cl)) (h:(Z1c ag ks key fun c => Z25 ag ks c es 0 F) = true) :
    (Z1c ag ks key fun c => (AVal.map b).mapK fun b => mapK b s fun es _ => Z25 ag ks c es 0 F) = true:=by
  obtain ⟨c,hc⟩:=Z8b h
  obtain ⟨c',hc'⟩:∃ c',∀ K':List AVal→Bool,Z1c ag ks key K' = K' c':=⟨c,hc⟩
  rw [hc] at h
  rw [hc]
  exact Z46.2 ⟨es,cl,ho,h⟩
theorem Zli {ag:Bool} {ks:List SK} {key:AVal} {es:List MapE} {cl:Nat} {b:Pos} {s:St} {F:Pos→List MapE→Nat→Option (Nat × AVal)→Bool} (ho:s.obj b = some (.map es cl)) (h:(Z1c ag ks key fun c => Z25 ag ks c es 0 (F b es cl)) = true) :
    (Z1c ag ks key fun c => (AVal.map b).mapK fun b => mapK b s fun es clock => Z25 ag ks c es 0 (F b es clock)) = true:=by
  obtain ⟨c,hc⟩:=Z8b h
  rw [hc] at h
  rw [hc]
  exact Z46.2 ⟨es,cl,ho,h⟩
theorem Zqo {a b:Nat} (h:¬ a = b):Nat.beq a b = false:=by
  cases e:Nat.beq a b with
  | false => rfl
  | true => exact (h (Nat.eq_of_beq_eq_true e)).elim
theorem Zts {es:Nat} {x:AVal} {s:St} {F:List AVal→Nat→Prop} (h:srcP es x s F):∃ l n,F l n∧∀ K:List AVal→Nat→Bool,K l n = true→srcK es x s K = true:=by
  unfold srcP at h
  split at h
  · rename_i l
    refine ⟨_,_,h.2,fun K hK => ?_⟩
    show ifK (Nat.beq es 1) (lenK l 0 fun n => Zae l fun cs => K cs n) (fail 31) = true
    refine Z02.2 (.inl ⟨by rw [h.1]; rfl,?_⟩)
    rw [Z0p,Zes,Nat.zero_add]
    exact hK
  · exact ⟨_,_,h,fun K hK => hK⟩
  · rename_i b off n c
    split at h
    · rename_i hn
      subst hn
      exact ⟨_,_,h,fun K hK => hK⟩
    · rename_i hn
      obtain ⟨cs,hc,h1,h2⟩:=Z0l h
      obtain ⟨ro,ho⟩:=St.Z7h hc
      refine ⟨_,_,h2,fun K hK => ?_⟩
      show ifK (Nat.beq n 0) (K [] 0) (Z28 b s fun cs _ => segK cs off (Nat.mul n es) fun l => K l n) = true
      exact Z02.2 (.inr ⟨Zqo hn,Z1e.2 ⟨cs,ro,ho,Z2t.2 ⟨h1,hK⟩⟩⟩)
  · exact h.elim
noncomputable def Zbe (e:Nat × Nat) (x:AVal) (new:List AVal) (n:Nat) (s:St) (K:VK):Bool :=
  @AVal.rec (fun _ => Bool) (fun _ => Bool) (fun _ => false) (fun _ _ => false) (fun _ => false) (fun _ _ => false) false
    (fun b off len cap => natK (Nat.add len n) fun need =>
      @Cap.rec (fun _ => Bool) (fun c => ifK (Nat.beq n 0) (ifK (Nat.ble len c) (K (.slice b off len (.lim c)) s) (fail 34)) (Z5o e.1 e.2 b off len c need new s K))
        (fun es => ifK (Nat.beq n 0) (K (.slice b off len (.opn es)) s) (ifK (Nat.beq es e.1) (Z9d e.1 e.2 b off len need new s K) (fail 34))) cap)
    (ifK (Nat.beq n 0) (K .nilSlice s) (Z51 n e.2 (Z49 e.1 new n s K)))
    (fun _ => false) false (fun _ _ _ _ _ => false) (fun _ => false) false (fun _ _ _ => false) false (fun _ _ => false) (fun _ _ => false) false (fun _ _ _ _ => false) x
theorem beq_false {a b:Nat} (h:¬ a = b):Nat.beq a b = false:=by
  cases e:Nat.beq a b with
  | false => rfl
  | true => exact (h (Nat.eq_of_beq_eq_true e)).elim
theorem Zeq {a b:Nat} (h:¬ a ≤ b):Nat.ble a b = false:=by
  cases e:Nat.ble a b with
  | false => rfl
  | true => exact (h (Nat.le_of_ble_eq_true e)).elim
theorem Zgs {e:Nat × Nat} {b:Pos} {off len c:Nat} {new:List AVal} {n:Nat} {s:St} {K:VK}:Zbe e (.slice b off len (.lim c)) new n s K =
    ifK (Nat.beq n 0) (ifK (Nat.ble len c) (K (.slice b off len (.lim c)) s) (fail 34)) (Z5o e.1 e.2 b off len c (len + n) new s K) :=
  Z18 (n:=len + n) (K:=fun need => ifK (Nat.beq n 0) (ifK (Nat.ble len c) (K (.slice b off len (.lim c)) s) (fail 34)) (Z5o e.1 e.2 b off len c need new s K))
theorem Zgt {e:Nat × Nat} {b:Pos} {off len es:Nat} {new:List AVal} {n:Nat} {s:St} {K:VK}:Zbe e (.slice b off len (.opn es)) new n s K =
    ifK (Nat.beq n 0) (K (.slice b off len (.opn es)) s) (ifK (Nat.beq es e.1) (Z9d e.1 e.2 b off len (len + n) new s K) (fail 34)) :=
  Z18 (n:=len + n) (K:=fun need => ifK (Nat.beq n 0) (K (.slice b off len (.opn es)) s) (ifK (Nat.beq es e.1) (Z9d e.1 e.2 b off len need new s K) (fail 34)))
theorem Z92 {es eb need:Nat} {cs:List AVal} {s:St} {Q:AVal→St→Prop} (h:Z4a es eb cs need s Q):∃ v s',Q v s'∧∀ K:VK,K v s' = true→Z51 need eb (Z49 es cs need s K) = true:=by
  refine ⟨_,_,h.2,fun K hK => Z02.2 (.inl ⟨Nat.ble_eq_true_of_le h.1,?_⟩)⟩
  unfold Z49
  rw [Z1v]
  exact hK
theorem Ztp {e:Nat × Nat} {x:AVal} {new:List AVal} {n:Nat} {s:St} {Q:AVal→St→Prop} (h:appP e x new n s Q):∃ v s',Q v s'∧∀ K:VK,K v s' = true→Zbe e x new n s K = true:=by
  unfold appP at h
  split at h
  · split at h
    · rename_i hn
      subst hn
      exact ⟨_,_,h,fun K hK => hK⟩
    · rename_i hn
      obtain ⟨v,s',h1,h2⟩:=Z92 h
      exact ⟨v,s',h1,fun K hK => Z02.2 (.inr ⟨beq_false hn,h2 K hK⟩)⟩
  · rename_i b off len c
    split at h
    · rename_i hn
      subst hn
      refine ⟨_,_,h.2,fun K hK => ?_⟩
      rw [Zgs]
      exact Z02.2 (.inl ⟨rfl,Z02.2 (.inl ⟨Nat.ble_eq_true_of_le h.1,hK⟩)⟩)
    · rename_i hn
      have hgo:∀ (v:AVal) (s':St),Q v s'→(∀ K:VK,K v s' = true→Z5o e.1 e.2 b off len c (len + n) new s K = true)→∃ v s',Q v s'∧∀ K:VK,K v s' = true→Zbe e (.slice b off len (.lim c)) new n s K = true:=by
        intro v s' h1 h2
        refine ⟨v,s',h1,fun K hK => ?_⟩
        rw [Zgs]
        exact Z02.2 (.inr ⟨beq_false hn,h2 K hK⟩)
      split at h
      · rename_i hle
        obtain ⟨cs,hc,h1,h2⟩:=Z0l h
        refine hgo _ _ h2 fun K hK => Z02.2 (.inl ⟨Nat.ble_eq_true_of_le hle,?_⟩)
        refine Z1e.2 ⟨cs,false,St.Z2v hc,?_⟩
        refine Z02.2 (.inr ⟨rfl,Z40.2 ⟨h1,?_⟩⟩)
        rw [Z23]
        exact hK
      · rename_i hle
        split at h
        · rename_i hl
          obtain ⟨v,s',h1,h2⟩:=Z92 h
          refine hgo v s' h1 fun K hK => Z02.2 (.inr ⟨Zeq hle,?_⟩)
          have h3:=h2 K hK
          subst hl
          rw [Nat.zero_add]
          unfold Z51 at h3 ⊢
          rcases Z02.1 h3 with ⟨h4,h5⟩ | ⟨_,h5⟩
          · exact Z02.2 (.inl ⟨h4,Z02.2 (.inl ⟨rfl,h5⟩)⟩)
          · cases h5
        · rename_i hl
          obtain ⟨cs,hc,h0,h⟩:=Z0l h
          obtain ⟨ro,ho⟩:=St.Z7h hc
          obtain ⟨v,s',h1,h2⟩:=Z92 h
          refine hgo v s' h1 fun K hK => Z02.2 (.inr ⟨Zeq hle,?_⟩)
          have h3:=h2 K hK
          unfold Z51 at h3 ⊢
          rcases Z02.1 h3 with ⟨h4,h5⟩ | ⟨_,h5⟩
          · refine Z02.2 (.inl ⟨h4,Z02.2 (.inr ⟨beq_false hl,Z1e.2 ⟨cs,ro,ho,Z2t.2 ⟨h0,?_⟩⟩⟩)⟩)
            rw [Z3a]
            exact h5
          · cases h5
  · rename_i b off len es
    split at h
    · rename_i hn
      subst hn
      refine ⟨_,_,h,fun K hK => ?_⟩
      rw [Zgt]
      exact Z02.2 (.inl ⟨rfl,hK⟩)
    · rename_i hn
      obtain ⟨rfl,h⟩:=h
      obtain ⟨cs,hc,h⟩:=Z0l h
      have hgo:∀ (v:AVal) (s':St),Q v s'→(∀ K:VK,K v s' = true→(ifK (Nat.ble 1 len) (ifK (Nat.ble (Nat.add off (Nat.mul (len + n) e.1)) cs.length)
        (Z3l new cs (Nat.add off (Nat.mul len e.1)) fun cs => putK b (.cells cs false) s fun s => K (.slice b off (len + n) (.opn e.1)) s)
        (Z51 (len + n) e.2 (segK cs off (Nat.mul len e.1) fun old => appK old new fun cs => putK b .dead s fun s => Z49 e.1 cs (len + n) s K)))
      (Z51 (len + n) e.2 (putK b .dead s fun s => Z49 e.1 new (len + n) s K))) = true)→∃ v s',Q v s'∧∀ K:VK,K v s' = true→Zbe e (.slice b off len (.opn e.1)) new n s K = true:=by
        intro v s' h1 h2
        refine ⟨v,s',h1,fun K hK => ?_⟩
        rw [Zgt]
        refine Z02.2 (.inr ⟨beq_false hn,Z02.2 (.inl ⟨Nat.beq_refl _,?_⟩)⟩)
        refine Z1e.2 ⟨cs,false,St.Z2v hc,?_⟩
        refine Z02.2 (.inr ⟨rfl,?_⟩)
        rw [Z0p,Nat.zero_add]
        exact h2 K hK
      split at h
      · rename_i hl
        obtain ⟨v,s',h1,h2⟩:=Z92 h
        refine hgo v s' h1 fun K hK => Z02.2 (.inr ⟨by rw [hl]; rfl,?_⟩)
        have h3:=h2 K hK
        subst hl
        rw [Nat.zero_add]
        unfold Z51 at h3 ⊢
        rcases Z02.1 h3 with ⟨h4,h5⟩ | ⟨_,h5⟩
        · refine Z02.2 (.inl ⟨h4,?_⟩)
          rw [Z23]
          exact h5
        · cases h5
      · rename_i hl
        split at h
        · rename_i hle
          refine hgo _ _ h.2 fun K hK => Z02.2 (.inl ⟨Nat.ble_eq_true_of_le (by omega),Z02.2 (.inl ⟨Nat.ble_eq_true_of_le hle,Z40.2 ⟨h.1,?_⟩⟩)⟩)
          rw [Z23]
          exact hK
        · rename_i hle
          obtain ⟨v,s',h1,h2⟩:=Z92 h.2
          refine hgo v s' h1 fun K hK => Z02.2 (.inl ⟨Nat.ble_eq_true_of_le (by omega),Z02.2 (.inr ⟨Zeq hle,?_⟩)⟩)
          have h3:=h2 K hK
          unfold Z51 at h3 ⊢
          rcases Z02.1 h3 with ⟨h4,h5⟩ | ⟨_,h5⟩
          · refine Z02.2 (.inl ⟨h4,Z2t.2 ⟨h.1,?_⟩⟩)
            rw [Z3a,Z23]
            exact h5
          · cases h5
  · exact h.elim
theorem Zfp {P:Program} {o:MOp} {γ:RO→Option AVal} {s:St} {Q:AVal→St→Prop} (h:opP P o γ s Q):∃ v s',Q v s'∧∃ n0,∀ n,n0 ≤ n→∀ K:VK,K v s' = true→mopK P (exec P n) o γ s K = true:=by
  have plain:∀ v s',Q v s'→(∀ rec (K:VK),K v s' = true→mopK P rec o γ s K = true)→∃ v s',Q v s'∧∃ n0,∀ n,n0 ≤ n→∀ K:VK,K v s' = true→mopK P (exec P n) o γ s K = true :=
    fun v s' h1 h2 => ⟨v,s',h1,0,fun n _ K hK => h2 _ K hK⟩
  cases o with
  | move x =>
    obtain ⟨v,e,h⟩:=Z1f h
    exact plain v s h fun rec K hK => Z01.2 ⟨v,e,hK⟩
  | pick c a b =>
    obtain ⟨t,e,h⟩:=Z9j h
    split at h
    · rename_i ht
      subst ht
      obtain ⟨v,e1,h⟩:=Z1f h
      exact plain v s h fun rec K hK => Z01.2 ⟨_,e,AVal.Z1p.2 ⟨true,rfl,Z01.2 ⟨v,e1,hK⟩⟩⟩
    · rename_i ht
      have ht:t = false:=by simpa using ht
      subst ht
      obtain ⟨v,e1,h⟩:=Z1f h
      exact plain v s h fun rec K hK => Z01.2 ⟨_,e,AVal.Z1p.2 ⟨false,rfl,Z01.2 ⟨v,e1,hK⟩⟩⟩
  | alloc z =>
    obtain ⟨cs,e,h⟩:=Z0l h
    exact plain _ _ h fun rec K hK => Z01.2 ⟨cs,e,by unfold Z4q; rw [Z1v]; exact hK⟩
  | box x =>
    obtain ⟨v,e,h0,h⟩:=Z1f h
    exact plain _ _ h fun rec K hK => Z01.2 ⟨v,e,Z4n.2 ⟨h0,by rw [Z4l]; unfold Z4q; rw [Z1v]; exact hK⟩⟩
  | build pl z =>
    obtain ⟨pl',e,h⟩:=Z0l h
    obtain ⟨zs,e1,h⟩:=Z0l h
    obtain ⟨cs,h1,h2⟩:=Zdv h
    exact plain _ _ h1 fun rec K hK => Z01.2 ⟨pl',e,Z01.2 ⟨zs,e1,h2 (fun cs => K (.agg cs) s) hK⟩⟩
  | buildSlice e z len ps =>
    obtain ⟨e',he,h⟩:=Z0l h
    obtain ⟨zs,hz,h0,h1,h⟩:=Z0l h
    obtain ⟨cs,h2,h3⟩:=Zdv h
    refine plain _ _ h2 fun rec K hK => Z01.2 ⟨e',he,Z01.2 ⟨zs,hz,?_⟩⟩
    rw [Z0p]
    refine Z02.2 (.inl ⟨by simp [h0],Z02.2 (.inl ⟨Nat.ble_eq_true_of_le h1,?_⟩)⟩)
    rw [Z9r,List.append_nil]
    exact h3 (fun cs => Z4w (.cells cs false) s fun b s => K (.slice b 0 len (.lim len)) s) (by rw [Z1v]; exact hK)
  | load n a =>
    obtain ⟨n',hn,h⟩:=Z0l h
    obtain ⟨b,off,ha,h⟩:=Z57 h
    obtain ⟨cs,hc,h⟩:=Z0l h
    obtain ⟨v,h1,h2⟩:=Zb1 h
    obtain ⟨ro,ho⟩:=St.Z7h hc
    exact plain v s h1 fun rec K hK => Z01.2 ⟨n',hn,Z01.2 ⟨_,ha,AVal.Z24.2 ⟨b,off,rfl,Z1e.2 ⟨cs,ro,ho,h2 (fun v => K v s) hK⟩⟩⟩⟩
  | store n a x =>
    obtain ⟨n',hn,h⟩:=Z0l h
    obtain ⟨v,hv,h0,h1,h⟩:=Z1f h
    obtain ⟨b,off,ha,h⟩:=Z57 h
    obtain ⟨cs,hc,h2,h⟩:=Z0l h
    refine plain _ _ h fun rec K hK => Z01.2 ⟨n',hn,Z01.2 ⟨v,hv,Z4n.2 ⟨h0,?_⟩⟩⟩
    rw [Z4l,Z0p]
    refine Z02.2 (.inl ⟨by simp [h1],Z01.2 ⟨_,ha,AVal.Z24.2 ⟨b,off,rfl,Z1e.2 ⟨cs,false,St.Z2v hc,?_⟩⟩⟩⟩)
    refine Z02.2 (.inr ⟨rfl,Z40.2 ⟨by omega,?_⟩⟩)
    rw [Z23]
    exact hK
  | nilck x =>
    obtain ⟨b,o,e,h⟩:=Z57 h
    exact plain _ s h fun rec K hK => Z01.2 ⟨_,e,AVal.Z24.2 ⟨b,o,rfl,hK⟩⟩
  | bin op k sh x y =>
    obtain ⟨v,e,h⟩:=Z1f h
    obtain ⟨u,e1,h⟩:=Z1f h
    obtain ⟨r,h1,h2⟩:=Ztq h s
    refine plain r s h1 fun rec K hK => ?_
    show Zrg op k sh (γ x) (γ y) s K = true
    rw [e,e1]
    exact h2 K hK
  | un op x =>
    cases op with
    | not =>
      obtain ⟨b,e,h⟩:=Z9j h
      exact plain _ s h fun rec K hK => Z01.2 ⟨_,e,AVal.Z1p.2 ⟨b,rfl,Z4x (by rw [Z4b]; exact hK)⟩⟩
    | neg =>
      obtain ⟨k,n,e,h⟩:=Z56 h
      exact plain _ s h fun rec K hK => Z01.2 ⟨_,e,AVal.Z0s.2 ⟨k,n,rfl,Z58 (by rw [Z5v]; exact hK)⟩⟩
    | _ => exact h.elim
  | conv k x =>
    cases k with
    | int k =>
      obtain ⟨j,n,e,h⟩:=Z56 h
      exact plain _ s h fun rec K hK => Z01.2 ⟨_,e,AVal.Z0s.2 ⟨j,n,rfl,Z58 (by rw [Z5v]; exact hK)⟩⟩
    | same =>
      obtain ⟨l,e,h⟩:=Zav h
      exact plain _ s h fun rec K hK => Z01.2 ⟨_,e,AVal.Z20.2 ⟨l,rfl,hK⟩⟩
    | _ => exact h.elim
  | func f a c =>
    obtain ⟨f',e,h⟩:=Z0l h
    obtain ⟨as,h1,h2⟩:=Zb2 h
    obtain ⟨cs,h3,h4⟩:=Zb2 h1
    exact plain _ s h3 fun rec K hK => Z01.2 ⟨f',e,h2 (fun a => Zal γ c fun c => K (.fn f' a c) s) (h4 (fun c => K (.fn f' as c) s) hK)⟩
  | makeMap ok =>
    obtain ⟨h0,h⟩:=h
    exact plain _ _ h fun rec K hK => Z02.2 (.inl ⟨h0,by rw [Z1v]; exact hK⟩)
  | makeSlice e z l c =>
    obtain ⟨e',he,h⟩:=Z0l h
    obtain ⟨zs,hz,h0,h⟩:=Z0l h
    obtain ⟨j,l',hl,h⟩:=Z56 h
    obtain ⟨i,c',hc,h1,h2,h3,h4,h⟩:=Z56 h
    refine plain _ _ h fun rec K hK => Z01.2 ⟨e',he,Z01.2 ⟨zs,hz,?_⟩⟩
    rw [Z0p]
    refine Z02.2 (.inl ⟨by simp [h0],Z01.2 ⟨_,hl,Z01.2 ⟨_,hc,AVal.Z0s.2 ⟨j,l',rfl,AVal.Z0s.2 ⟨i,c',rfl,Z2r.2 ⟨l'.toNat,by omega,Z2r.2 ⟨c'.toNat,by omega,?_⟩⟩⟩⟩⟩⟩⟩)
    refine Z02.2 (.inl ⟨Nat.ble_eq_true_of_le (by omega),Z02.2 (.inl ⟨Nat.ble_eq_true_of_le h3,Z02.2 (.inl ⟨Nat.ble_eq_true_of_le h4,?_⟩)⟩)⟩)
    rw [Z9r,List.append_nil,Z1v]
    exact hK
  | fieldAddr o x =>
    obtain ⟨fo,e,h⟩:=Z0l h
    obtain ⟨b,off,e1,h⟩:=Z57 h
    refine plain _ s h fun rec K hK => Z01.2 ⟨fo,e,Z01.2 ⟨_,e1,AVal.Z24.2 ⟨b,off,rfl,?_⟩⟩⟩
    rw [Z18]; exact hK
  | field f x =>
    obtain ⟨f',e,h⟩:=Z0l h
    obtain ⟨l,e1,h⟩:=Zau h
    obtain ⟨v,h1,h2⟩:=Zb1 h
    exact plain v s h1 fun rec K hK => Z01.2 ⟨f',e,Z01.2 ⟨_,e1,AVal.Z5d.2 ⟨l,rfl,h2 (fun v => K v s) hK⟩⟩⟩
  | indexAddr k e a x i =>
    obtain ⟨j,n,hi,h0,h⟩:=Z56 h
    cases k with
    | slc =>
      obtain ⟨e',he,h⟩:=Z0l h
      obtain ⟨b,off,m,c,hx,h1,h⟩:=Zmc h
      refine plain _ s h fun rec K hK => Z01.2 ⟨_,hx,Z01.2 ⟨_,hi,AVal.Z0s.2 ⟨j,n,rfl,Z2r.2 ⟨n.toNat,by omega,?_⟩⟩⟩⟩
      refine Z01.2 ⟨e',he,AVal.Za5.2 ⟨b,off,m,c,rfl,Z02.2 (.inl ⟨Nat.ble_eq_true_of_le (by omega),?_⟩)⟩⟩
      rw [Z18]; exact hK
    | arr =>
      obtain ⟨e',he,h⟩:=Z0l h
      obtain ⟨b,off,hx,h1,h⟩:=Z57 h
      refine plain _ s h fun rec K hK => Z01.2 ⟨_,hx,Z01.2 ⟨_,hi,AVal.Z0s.2 ⟨j,n,rfl,Z2r.2 ⟨n.toNat,by omega,?_⟩⟩⟩⟩
      refine Z01.2 ⟨e',he,AVal.Z24.2 ⟨b,off,rfl,Z02.2 (.inl ⟨Nat.ble_eq_true_of_le (by omega),?_⟩)⟩⟩
      rw [Z18]; exact hK
    | _ => exact h.elim
  | index k e x i =>
    obtain ⟨j,n,hi,h0,h⟩:=Z56 h
    cases k with
    | str =>
      obtain ⟨l,hx,h⟩:=Zav h
      obtain ⟨c,hc,h⟩:=Z0l h
      refine plain _ s h fun rec K hK => Z01.2 ⟨_,hx,Z01.2 ⟨_,hi,AVal.Z0s.2 ⟨j,n,rfl,Z2r.2 ⟨n.toNat,by omega,?_⟩⟩⟩⟩
      refine AVal.Z20.2 ⟨l,rfl,Z4r.2 ⟨c,hc,?_⟩⟩
      rw [Z18]; exact hK
    | arr =>
      obtain ⟨e',he,h⟩:=Z0l h
      obtain ⟨l,hx,h1,h⟩:=Zau h
      obtain ⟨v,h2,h3⟩:=Zb1 h
      refine plain _ s h2 fun rec K hK => Z01.2 ⟨_,hx,Z01.2 ⟨_,hi,AVal.Z0s.2 ⟨j,n,rfl,Z2r.2 ⟨n.toNat,by omega,?_⟩⟩⟩⟩
      exact Z01.2 ⟨e',he,AVal.Z5d.2 ⟨l,rfl,Z02.2 (.inl ⟨Nat.ble_eq_true_of_le (by omega),h3 (fun v => K v s) hK⟩)⟩⟩
    | _ => exact h.elim
  | extract x i =>
    obtain ⟨l,e,h⟩:=Zmd h
    obtain ⟨v,e1,h⟩:=Z0l h
    exact plain v s h fun rec K hK => Z01.2 ⟨_,e,AVal.Zck.2 ⟨l,rfl,Z4r.2 ⟨v,e1,hK⟩⟩⟩
  | lookup i ok m k =>
    obtain ⟨info,hi,h⟩:=Z0l h
    obtain ⟨key,hk,h⟩:=Z1f h
    split at h
    · rename_i b hm
      split at h
      · rename_i es cl ho
        obtain ⟨r,hr,h⟩:=h
        have hdet:∀ K':Option (Nat × AVal)→Bool,K' r = true→(Z1c info.1 info.2.1 key fun c => Z25 info.1 info.2.1 c es 0 K') = true:=fun K' hK' => Zf8 hr (fun x hx => (Z1n.1 hx) ▸ hK')
        cases r with
        | none =>
          cases ok with
          | true =>
            refine plain _ s h fun rec K hK => Z01.2 ⟨info,hi,Z01.2 ⟨_,hm,Z01.2 ⟨key,hk,?_⟩⟩⟩
            exact Zca ho (hdet (fun r => @Option.rec (Nat × AVal) (fun _ => Bool) (ifK true (K (.tup [info.2.2,.bool false]) s) (K info.2.2 s)) (fun x => ifK true (K (.tup [x.2,.bool true]) s) (K x.2 s)) r) hK)
          | false =>
            refine plain _ s h fun rec K hK => Z01.2 ⟨info,hi,Z01.2 ⟨_,hm,Z01.2 ⟨key,hk,?_⟩⟩⟩
            exact Zca ho (hdet (fun r => @Option.rec (Nat × AVal) (fun _ => Bool) (ifK false (K (.tup [info.2.2,.bool false]) s) (K info.2.2 s)) (fun x => ifK false (K (.tup [x.2,.bool true]) s) (K x.2 s)) r) hK)
        | some x =>
          cases ok with
          | true =>
            refine plain _ s h fun rec K hK => Z01.2 ⟨info,hi,Z01.2 ⟨_,hm,Z01.2 ⟨key,hk,?_⟩⟩⟩
            exact Zca ho (hdet (fun r => @Option.rec (Nat × AVal) (fun _ => Bool) (ifK true (K (.tup [info.2.2,.bool false]) s) (K info.2.2 s)) (fun x => ifK true (K (.tup [x.2,.bool true]) s) (K x.2 s)) r) hK)
          | false =>
            refine plain _ s h fun rec K hK => Z01.2 ⟨info,hi,Z01.2 ⟨_,hm,Z01.2 ⟨key,hk,?_⟩⟩⟩
            exact Zca ho (hdet (fun r => @Option.rec (Nat × AVal) (fun _ => Bool) (ifK false (K (.tup [info.2.2,.bool false]) s) (K info.2.2 s)) (fun x => ifK false (K (.tup [x.2,.bool true]) s) (K x.2 s)) r) hK)
      · exact h.elim
    · exact h.elim
  | mapSet i m k x =>
    obtain ⟨info,hi,h⟩:=Z0l h
    obtain ⟨key,hk,h⟩:=Z1f h
    obtain ⟨xv,hx,h⟩:=Z1f h
    split at h
    · rename_i b hm
      split at h
      · rename_i es cl ho
        obtain ⟨r,hr,h⟩:=h
        have hdet:∀ K':Option (Nat × AVal)→Bool,K' r = true→(Z1c info.1 info.2.1 key fun c => Z25 info.1 info.2.1 c es 0 K') = true:=fun K' hK' => Zf8 hr (fun x hx => (Z1n.1 hx) ▸ hK')
        cases r with
        | none =>
          refine plain _ _ h fun rec K hK => Z01.2 ⟨info,hi,Z01.2 ⟨_,hm,Z01.2 ⟨key,hk,Z01.2 ⟨xv,hx,?_⟩⟩⟩⟩
          refine Zli ho (hdet (fun r => @Option.rec (Nat × AVal) (fun _ => Bool)
            (appK es [{ key:=key,val:=xv,born:=cl }] fun es => natK (Nat.succ cl) fun c => putK b (.map es c) s fun s => K (.tup []) s)
            (fun p => Z3x xv key es p.1 fun es => putK b (.map es cl) s fun s => K (.tup []) s) r) ?_)
          show appK es [{ key:=key,val:=xv,born:=cl }] (fun es => natK (Nat.succ cl) fun c => putK b (.map es c) s fun s => K (.tup []) s) = true
          rw [Z3a,Z18,Z23]
          exact hK
        | some p =>
          obtain ⟨es',h1,h⟩:=h
          refine plain _ _ h fun rec K hK => Z01.2 ⟨info,hi,Z01.2 ⟨_,hm,Z01.2 ⟨key,hk,Z01.2 ⟨xv,hx,?_⟩⟩⟩⟩
          refine Zli ho (hdet (fun r => @Option.rec (Nat × AVal) (fun _ => Bool)
            (appK es [{ key:=key,val:=xv,born:=cl }] fun es => natK (Nat.succ cl) fun c => putK b (.map es c) s fun s => K (.tup []) s)
            (fun p => Z3x xv key es p.1 fun es => putK b (.map es cl) s fun s => K (.tup []) s) r) ?_)
          show Z3x xv key es p.1 (fun es => putK b (.map es cl) s fun s => K (.tup []) s) = true
          refine Zfy h1 (fun e he => ?_)
          rw [Z1n.1 he,Z23]
          exact hK
      · exact h.elim
    · exact h.elim
  | call f l =>
    obtain ⟨fv,e,h⟩:=Z1f h
    obtain ⟨args,h1,h2⟩:=Zb2 h
    obtain ⟨v,s',⟨n0,hn⟩,hq⟩:=h1
    exact ⟨v,s',hq,n0,fun n hle K hK => Z01.2 ⟨fv,e,h2 (fun args => Zin P (exec P n) fv args s K) (hn n hle K hK)⟩⟩
  | len e x =>
    obtain ⟨e',he,h⟩:=Z0l h
    obtain ⟨tk,m⟩:=e'
    cases tk with
    | str =>
      obtain ⟨l,hx,h⟩:=Zav h
      refine plain _ s h fun rec K hK => Z01.2 ⟨_,he,Z01.2 ⟨_,hx,AVal.Z20.2 ⟨l,rfl,?_⟩⟩⟩
      rw [Z0p,Nat.zero_add]; exact hK
    | slc =>
      obtain ⟨v,hx,h⟩:=Z1f h
      obtain ⟨n,hn,h⟩:=Z0l h
      refine plain _ s h fun rec K hK => Z01.2 ⟨_,he,Z01.2 ⟨_,hx,?_⟩⟩
      cases v <;> simp [Z1b] at hn
      · subst hn; exact hK
      · subst hn; exact hK
    | arr =>
      obtain ⟨v,hx,h⟩:=Z1f h
      refine plain _ s h fun rec K hK => Z01.2 ⟨_,he,Z01.2 ⟨_,hx,?_⟩⟩
      show natK m _ = true
      rw [Z18]; exact hK
    | map =>
      simp only at h
      split at h
      · rename_i b hm
        split at h
        · rename_i es cl ho
          refine plain _ s h fun rec K hK => Z01.2 ⟨_,he,Z01.2 ⟨_,hm,?_⟩⟩
          refine Z46.2 ⟨es,cl,ho,?_⟩
          rw [Z0p,Nat.zero_add]; exact hK
        · exact h.elim
      · exact h.elim
    | other => exact h.elim
  | append e x y =>
    obtain ⟨e',he,h⟩:=Z0l h
    obtain ⟨xv,hx,h⟩:=Z1f h
    obtain ⟨yv,hy,h⟩:=Z1f h
    obtain ⟨new,n,h1,h2⟩:=Zts h
    obtain ⟨v,s',h3,h4⟩:=Ztp h1
    exact plain v s' h3 fun rec K hK => Z01.2 ⟨e',he,Z01.2 ⟨xv,hx,Z01.2 ⟨yv,hy,h2 (fun new n => Zbe e' xv new n s K) (h4 K hK)⟩⟩⟩
  | _ =>
    obtain ⟨v,s',h1,h2⟩:=h
    exact plain v s' h2 h1
end Go.AM
end
section
namespace Go.AM
variable [Orc] [OrcOk]
theorem Zh0 {g : Option (Option (RO × Bool))} {γ : RO → Option AVal} {A B : Prop} (h : Zbv g γ A B) : (A ∧ ∀ x y, Z64 g γ x y = x) ∨ (B ∧ ∀ x y, Z64 g γ x y = y) := by
  cases g with
  | none => exact .inl ⟨h, fun x y => rfl⟩
  | some g =>
    obtain ⟨g', hg, h⟩ := Z0l h
    subst hg
    obtain ⟨v, hv, h⟩ := Z1f h
    have hr : ∀ x y, Z64 (some (some g')) γ x y = @AVal.rec (fun _ => Bool) (fun _ => Bool) (fun b => ifK (Z5f b g'.2) x y) (fun _ _ => y) (fun _ => y) (fun _ _ => y) y (fun _ _ _ _ => y) y (fun _ => y) y (fun _ _ _ _ _ => y) (fun _ => y) y
        (fun _ _ _ => y) y (fun _ _ => y) (fun _ _ => y) false (fun _ _ _ _ => false) v := fun x y => by
      show (optK (γ g'.1) fun v => _) = _
      rw [hv]; rfl
    cases v with
    | bool b =>
      simp only at h
      split at h
      · rename_i hb
        refine .inl ⟨h, fun x y => (hr x y).trans ?_⟩
        show ifK (Z5f b g'.2) x y = x
        rw [Z79, hb]; simp [ifK]
      · rename_i hb
        refine .inr ⟨h, fun x y => (hr x y).trans ?_⟩
        show ifK (Z5f b g'.2) x y = y
        rw [Z79]
        have : (b == g'.2) = false := by simpa using hb
        rw [this]; rfl
    | iface t u => exact h.elim
    | _ => exact .inr ⟨h, hr⟩
theorem Z78:∀ {cm:List (Option Pos)} {l:List AVal} {t t':PT AVal},Z54 cm l t = some t'→∀ k:PT AVal→Bool,k t' = true→Z3q cm l t k = true
  | [],l,t,t',h,k,hk => by cases h; exact hk
  | _ :: _,[],t,t',h,k,hk => by cases h
  | none :: r,v :: l,t,t',h,k,hk => Z78 (cm:=r) h k hk
  | some p :: r,v :: l,t,t',h,k,hk => by
    show PT.setK p v t (fun t => Z3q r l t k) = true
    rw [PT.Zbk]
    exact Z78 (cm:=r) h k hk
section
variable {P:Program}
theorem Z5r {cm : List (Option Pos)} : ∀ {l : List MItem} {locals : List AVal} {tree : PT AVal} {s : St} {Q : PT AVal → St → Prop}, Z3b P cm l locals tree s Q →
    ∃ t s', Q t s' ∧ ∃ n0, ∀ n, n0 ≤ n → ∀ K : PT AVal → St → Bool, K t s' = true → Z33 P (exec P n) cm l locals tree s K = true
  | [], locals, tree, s, Q, h => by
    obtain ⟨t, e, h⟩ := Z0l h
    exact ⟨t, s, h, 0, fun n _ K hK => Z78 e (fun t => K t s) hK⟩
  | .run g o :: r, locals, tree, s, Q, h => by
    have hr : ∀ rec K, Z33 P rec cm (.run g o :: r) locals tree s K = Z64 g (fun x => getO tree locals x) (mopK P rec o (fun x => getO tree locals x) s fun v s => Z33 P rec cm r (v :: locals) tree s K)
      (Z33 P rec cm r (.tup [] :: locals) tree s K) := fun _ _ => rfl
    rcases Zh0 h with ⟨h1, h2⟩ | ⟨h1, h2⟩
    · obtain ⟨v, s1, h3, n1, h4⟩ := Zfp h1
      obtain ⟨t, s', h5, n2, h6⟩ := Z5r h3
      refine ⟨t, s', h5, max n1 n2, fun n hn K hK => ?_⟩
      rw [hr, h2]
      exact h4 n (by omega) _ (h6 n (by omega) K hK)
    · obtain ⟨t, s', h5, n2, h6⟩ := Z5r h1
      refine ⟨t, s', h5, n2, fun n hn K hK => ?_⟩
      rw [hr, h2]
      exact h6 n hn K hK
  | .chk g o u :: r, locals, tree, s, Q, h => by
    have hr : ∀ rec K, Z33 P rec cm (.chk g o u :: r) locals tree s K = Z64 g (fun x => getO tree locals x)
        (mopK P rec o (fun x => getO tree locals x) s fun v _ => optK u fun x => optK (getO tree locals x) fun u => ifK (Z27 8 v u) (Z33 P rec cm r locals tree s K) (fail 49))
        (Z33 P rec cm r locals tree s K) := fun _ _ => rfl
    rcases Zh0 h with ⟨h1, h2⟩ | ⟨h1, h2⟩
    · obtain ⟨v, s1, h3, n1, h4⟩ := Zfp h1
      obtain ⟨x, hx, h3⟩ := Z0l h3
      obtain ⟨u', hu, hvu, hev, h3⟩ := Z1f h3
      obtain ⟨t, s', h5, n2, h6⟩ := Z5r h3
      refine ⟨t, s', h5, max n1 n2, fun n hn K hK => ?_⟩
      rw [hr, h2]
      refine h4 n (by omega) _ (Z01.2 ⟨x, hx, Z01.2 ⟨u', hu, Z02.2 (.inl ⟨hvu ▸ hev, h6 n (by omega) K hK⟩)⟩⟩)
    · obtain ⟨t, s', h5, n2, h6⟩ := Z5r h1
      refine ⟨t, s', h5, n2, fun n hn K hK => ?_⟩
      rw [hr, h2]
      exact h6 n hn K hK
  | .fresh :: r, locals, tree, s, Q, ⟨h0, h⟩ => by
    obtain ⟨t, s', h5, n2, h6⟩ := Z5r h
    refine ⟨t, s', h5, n2, fun n hn K hK => ?_⟩
    show @Option.rec AObj (fun _ => Bool) (Z33 P (exec P n) cm r locals tree s K) (fun _ => fail 56) (PT.get s.next s.heap) = true
    rw [show PT.get s.next s.heap = none from h0]
    exact h6 n hn K hK
  | .peek o :: r, locals, tree, s, Q, ⟨h0, h⟩ => by
    obtain ⟨v, s1, _, n1, h4⟩ := Zfp h0
    obtain ⟨t, s', h5, n2, h6⟩ := Z5r h
    refine ⟨t, s', h5, max n1 n2, fun n hn K hK => ?_⟩
    show ifK (mopK P (exec P n) o (fun x => getO tree locals x) s fun _ _ => true) (Z33 P (exec P n) cm r locals tree s K) (fail 57) = true
    exact Z02.2 (.inl ⟨h4 n (by omega) _ rfl, h6 n (by omega) K hK⟩)
end
section
variable (P:Program)
def Runs (c:MCode) (fi:FI) (tree:PT AVal) (s:St) (e:Ex) (t:PT AVal) (s':St):Prop:=∃ n0,∀ n,n0 ≤ n→∀ K:Z71,K e t s' = true→exec P n c fi tree s K = true
def wp (c:MCode) (fi:FI) (tree:PT AVal) (s:St) (Q:Ex→PT AVal→St→Prop):Prop:=∃ e t s',Runs P c fi tree s e t s'∧Q e t s'
end
section
variable {P:Program} {fi:FI} {tree:PT AVal} {s:St} {Q:Ex→PT AVal→St→Prop}
theorem wp_mono {c:MCode} {Q':Ex→PT AVal→St→Prop} (h:wp P c fi tree s Q) (hq:∀ e t s',Q e t s'→Q' e t s'):wp P c fi tree s Q' :=
  let ⟨e,t,s',h1,h2⟩:=h
  ⟨e,t,s',h1,hq _ _ _ h2⟩
theorem Z2m {c:MCode} {e:Ex} {t:PT AVal} {s':St} (n0:Nat) (h:∀ n,n0 ≤ n→∀ K:Z71,K e t s' = true→Zmm P (exec P n) c fi tree s K = true):Runs P c fi tree s e t s':=by
  refine ⟨n0 + 1,fun n hn K hK => ?_⟩
  obtain ⟨m,rfl⟩:∃ m,n = m + 1:=⟨n - 1,by omega⟩
  rw [Zf5]
  exact h m (by omega) K hK
theorem wp_skip (h:Q .normal tree s):wp P .skip fi tree s Q:=⟨_,_,_,Z2m 0 (fun _ _ K hK => hK),h⟩
theorem wp_exit {id:Nat} (h:Q (.exit id) tree s):wp P (.exit id) fi tree s Q:=⟨_,_,_,Z2m 0 (fun _ _ K hK => hK),h⟩
theorem wp_ret (h:Q .ret tree s):wp P .ret fi tree s Q:=⟨_,_,_,Z2m 0 (fun _ _ K hK => hK),h⟩
theorem wp_region {l:List MItem} {cm:List (Option Pos)} (h:Z3b P cm l [] tree s fun t s' => Q .normal t s'):wp P (.region l cm) fi tree s Q:=by
  obtain ⟨t,s',h1,n0,h2⟩:=Z5r h
  exact ⟨.normal,t,s',Z2m n0 (fun n hn K hK => h2 n hn (fun t s => K .normal t s) hK),h1⟩
def andThen (next:PT AVal→St→Prop) (Q:Ex→PT AVal→St→Prop):Ex→PT AVal→St→Prop
  | .normal,t,s => next t s
  | .exit i,t,s => Q (.exit i) t s
  | .ret,t,s => Q .ret t s
theorem wp_seq {a b:MCode} (h:wp P a fi tree s (andThen (fun t s' => wp P b fi t s' Q) Q)):wp P (.seq a b) fi tree s Q:=by
  obtain ⟨e,t,s',⟨n1,h1⟩,h2⟩:=h
  cases e with
  | normal =>
    obtain ⟨e2,t2,s2,⟨n2,h3⟩,h4⟩:=h2
    exact ⟨e2,t2,s2,Z2m (max n1 n2) (fun n hn K hK => h1 n (by omega) _ (h3 n (by omega) K hK)),h4⟩
  | exit id => exact ⟨.exit id,t,s',Z2m n1 (fun n hn K hK => h1 n hn _ hK),h2⟩
  | ret => exact ⟨.ret,t,s',Z2m n1 (fun n hn K hK => h1 n hn _ hK),h2⟩
inductive Dep {α:Type} (a:α):Type where
  | mk
def wpX (P:Program) (c:MCode) (fi:FI) (tree:PT AVal) (s:St) (Q:Ex→PT AVal→St→Prop) (_:Dep Q):Prop:=wp P c fi tree s Q
theorem Z00 {l:List MItem} {cm:List (Option Pos)} {b:MCode} (h:Z3b P cm l [] tree s fun t s' => wpX P b fi t s' Q .mk):wp P (.seq (.region l cm) b) fi tree s Q:=wp_seq (wp_region h)
theorem wp_cond {c:RO} {a b:MCode} {v:Bool} (hv:getO tree [] c = some (.bool v)) (ha:v = true→wp P a fi tree s Q) (hb:v = false→wp P b fi tree s Q):wp P (.cond c a b) fi tree s Q:=by
  cases v with
  | true =>
    obtain ⟨e,t,s',⟨n1,h1⟩,h2⟩:=ha rfl
    exact ⟨e,t,s',Z2m n1 (fun n hn K hK => Z01.2 ⟨_,hv,AVal.Z1p.2 ⟨true,rfl,h1 n hn K hK⟩⟩),h2⟩
  | false =>
    obtain ⟨e,t,s',⟨n1,h1⟩,h2⟩:=hb rfl
    exact ⟨e,t,s',Z2m n1 (fun n hn K hK => Z01.2 ⟨_,hv,AVal.Z1p.2 ⟨false,rfl,h1 n hn K hK⟩⟩),h2⟩
theorem Z03 {c:RO} {a b:MCode} (h:Z5u (getO tree [] c) fun v => if v = true then wpX P a fi tree s Q .mk else wpX P b fi tree s Q .mk):wp P (.cond c a b) fi tree s Q:=by
  obtain ⟨v,hv,h⟩:=Z9j h
  refine wp_cond hv (fun e => ?_) (fun e => ?_)
  · rw [if_pos e] at h; exact h
  · rw [if_neg (by simp [e])] at h; exact h
def Z7e (id:Nat) (Q:Ex→PT AVal→St→Prop):Ex→PT AVal→St→Prop
  | .normal,t,s => Q .normal t s
  | .exit i,t,s => if i = id then Q .normal t s else Q (.exit i) t s
  | .ret,t,s => Q .ret t s
theorem Zme (id i:Nat) (t:PT AVal) (s:St):Z7e id Q (.exit i) t s = if i = id then Q .normal t s else Q (.exit i) t s:=rfl
theorem wp_block {id:Nat} {c:MCode} (h:wp P c fi tree s (Z7e id Q)):wp P (.block id c) fi tree s Q:=by
  obtain ⟨e,t,s',⟨n1,h1⟩,h2⟩:=h
  cases e with
  | normal => exact ⟨.normal,t,s',Z2m n1 (fun n hn K hK => h1 n hn _ hK),h2⟩
  | ret => exact ⟨.ret,t,s',Z2m n1 (fun n hn K hK => h1 n hn _ hK),h2⟩
  | exit i =>
    rw [Zme] at h2
    split at h2
    · rename_i hi
      exact ⟨.normal,t,s',Z2m n1 (fun n hn K hK => h1 n hn _ (Z02.2 (.inl ⟨by simp [hi],hK⟩))),h2⟩
    · rename_i hi
      exact ⟨.exit i,t,s',Z2m n1 (fun n hn K hK => h1 n hn _ (Z02.2 (.inr ⟨by cases hb:Nat.beq i id with
        | true => exact absurd (Nat.eq_of_beq_eq_true hb) hi
        | false => rfl,hK⟩))),h2⟩
theorem Zor {c:MCode} (h:wp P c fi tree s Q):wp P (.scope c) fi tree s Q:=by
  obtain ⟨e,t,s',⟨n1,h1⟩,h2⟩:=h
  exact ⟨e,t,s',Z2m n1 (fun n hn K hK => h1 n hn K hK),h2⟩
theorem Zop {c:MCode} (h:wp P c fi tree s (andThen (fun t s' => wp P (.loop c) fi t s' Q) Q)):wp P (.loop c) fi tree s Q:=by
  obtain ⟨e,t,s',⟨n1,h1⟩,h2⟩:=h
  cases e with
  | normal =>
    obtain ⟨e2,t2,s2,⟨n2,h3⟩,h4⟩:=h2
    exact ⟨e2,t2,s2,Z2m (max n1 n2) (fun n hn K hK => h1 n (by omega) _ (h3 n (by omega) K hK)),h4⟩
  | exit id => exact ⟨.exit id,t,s',Z2m n1 (fun n hn K hK => h1 n hn _ hK),h2⟩
  | ret => exact ⟨.ret,t,s',Z2m n1 (fun n hn K hK => h1 n hn _ hK),h2⟩
theorem wp_loop {c:MCode} (I:Nat→PT AVal→St→Prop):∀ (n:Nat) {tree:PT AVal} {s:St},I n tree s →
    (∀ n t s,I n t s→wp P c fi t s (andThen (fun t' s' => ∃ m,m < n∧I m t' s') Q))→wp P (.loop c) fi tree s Q:=by
  intro n
  induction n using Nat.strongRecOn with
  | _ n ih =>
    intro tree s h0 hstep
    refine Zop (wp_mono (hstep n tree s h0) fun e t s' h => ?_)
    cases e with
    | normal =>
      obtain ⟨m,hm,h⟩:=h
      exact ih m hm h hstep
    | exit id => exact h
    | ret => exact h
theorem Zoq {f : RO} {ps : List Tmp} {a b : MCode} {g : Nat} {x y : List AVal} (hf : getO tree [] f = some (.fn g x y)) (hr : ∀ l0, fi.round = some l0 → ∃ L, s.obj l0 = some (.loop L))
    (h : Z0f P g (x ++ ([.yld s.next] ++ y)) (s.alloc (.loop { state := .ready, pending := none, fn := fi.fn, tm := tree, params := ps, assign := a, body := b })) fun _ s2 =>
      ∃ L, s2.obj s.next = some (.loop L) ∧ Zd3 L.state = false ∧ match L.pending with
        | none => Q .normal tree (s2.put s.next (.loop { L with state := .exhausted }))
        | some (.exit id) => Q (.exit id) tree (s2.put s.next (.loop { L with state := .exhausted }))
        | some .ret => Q .ret tree (s2.put s.next (.loop { L with state := .exhausted }))
        | _ => False) : wp P (.range f ps a b) fi tree s Q := by
  obtain ⟨v, s2, ⟨n0, h1⟩, L, hL, hb, h2⟩ := h
  have key : ∀ (e : Ex), (∀ K : Z71, K e tree (s2.put s.next (.loop { L with state := .exhausted })) = true → Zjn L.pending tree (s2.put s.next (.loop { L with state := .exhausted })) K = true) →
      Runs P (.range f ps a b) fi tree s e tree (s2.put s.next (.loop { L with state := .exhausted })) := by
    intro e hp
    refine Z2m n0 fun n hn K hK => ?_
    refine Z01.2 ⟨_, hf, ?_⟩
    have hgo : (Z4w (.loop { state := .ready, pending := none, fn := fi.fn, tm := tree, params := ps, assign := a, body := b }) s fun l s =>
      (AVal.fn g x y).fnK fun f a c => appK [.yld l] c fun r => appK a r fun args => Z6g P (exec P n) f args s fun _ s => Z7u l s fun L => ifK (Zd3 L.state) (fail 52)
        (putK l (.loop { L with state := .exhausted }) s fun s => Zjn L.pending tree s K)) = true := by
      rw [Z1v]
      refine AVal.Znc.2 ⟨g, x, y, rfl, ?_⟩
      rw [Z3a, Z3a]
      refine h1 n hn _ (Z38.2 ⟨L, hL, Z02.2 (.inr ⟨hb, ?_⟩)⟩)
      rw [Z23]
      exact hp K hK
    cases hro : fi.round with
    | none => exact hgo
    | some l0 =>
      obtain ⟨L0, hL0⟩ := hr l0 hro
      exact Z38.2 ⟨L0, hL0, hgo⟩
  generalize s2.put s.next (.loop { L with state := .exhausted }) = s4 at h2 key
  cases hp : L.pending with
  | none =>
    rw [hp] at h2
    exact ⟨.normal, tree, _, key .normal (fun K hK => by rw [hp]; exact hK), h2⟩
  | some j =>
    rw [hp] at h2
    cases j with
    | exit id => exact ⟨.exit id, tree, _, key (.exit id) (fun K hK => by rw [hp]; exact hK), h2⟩
    | ret => exact ⟨.ret, tree, _, key .ret (fun K hK => by rw [hp]; exact hK), h2⟩
    | _ => exact h2.elim
end
section
variable {P:Program} {s:St} {Q:AVal→St→Prop}
def resP (P:Program) (tree:PT AVal) (s:St):List ResultVar→(List AVal→Prop)→Prop
  | [],F => F []
  | .tmp t :: r,F => Z1j (PT.get (posOf t) tree) fun v => resP P tree s r fun l => F (v :: l)
  | .cell a t :: r,F => Z0x (Z45 P t) fun n => Z3e (PT.get (posOf a) tree) fun b off => Z0x (s.cells b) fun cs => Z7y n cs off fun v => resP P tree s r fun l => F (v :: l)
def retV:List AVal→AVal
  | [v] => v
  | l => .tup l
theorem Zfx {tree:PT AVal}:∀ {l:List ResultVar} {F:List AVal→Prop},resP P tree s l F→∃ vs,F vs∧∀ k:List AVal→Bool,k vs = true→resK P tree s l k = true
  | [],F,h => ⟨[],h,fun k hk => hk⟩
  | .tmp t :: r,F,h => by
    obtain ⟨v,hv,h⟩:=Z1f h
    obtain ⟨vs,h1,h2⟩:=Zfx h
    exact ⟨v :: vs,h1,fun k hk => Z01.2 ⟨v,hv,h2 (fun l => k (v :: l)) hk⟩⟩
  | .cell a t :: r,F,h => by
    obtain ⟨n,hn,h⟩:=Z0l h
    obtain ⟨b,off,ha,h⟩:=Z57 h
    obtain ⟨cs,hc,h⟩:=Z0l h
    obtain ⟨v,h,h2⟩:=Zb1 h
    obtain ⟨ro,ho⟩:=St.Z7h hc
    obtain ⟨vs,h1,h3⟩:=Zfx h
    refine ⟨v :: vs,h1,fun k hk => ?_⟩
    show Z6s P t (PT.get (posOf a) tree) s (fun v _ => resK P tree s r fun l => k (v :: l)) = true
    exact Z01.2 ⟨n,hn,Z01.2 ⟨_,ha,AVal.Z24.2 ⟨b,off,rfl,Z1e.2 ⟨cs,ro,ho,h2 (fun v => resK P tree s r fun l => k (v :: l)) (h3 (fun l => k (v :: l)) hk)⟩⟩⟩⟩
theorem Z09 {f:FuncId} {args:List AVal} {fi:FInfo} {tree:PT AVal} (ho:Orc.get P f args = none) (hf:funInfo P f = some fi) (hn:args.length = fi.nargs) (hle:fi.nargs ≤ fi.ntmps) (ht:Z54 (Z9e fi.ps fi.nargs 0) args .leaf = some tree)
    (h:wp P fi.code { fn:=f,ntmps:=fi.ntmps,ps:=fi.ps,round:=none } tree s fun e t s' => match e with
      | .exit _ => False
      | _ => resP P t s' fi.res fun l => Q (retV l) s'):Z0f P f args s Q:=by
  obtain ⟨e,t,s',⟨n0,h1⟩,h2⟩:=h
  have h3:(∀ x,outK e x = x)∧resP P t s' fi.res fun l => Q (retV l) s':=by
    cases e with
    | normal => exact ⟨fun _ => rfl,h2⟩
    | exit id => exact h2.elim
    | ret => exact ⟨fun _ => rfl,h2⟩
  obtain ⟨hout,h4⟩:=h3
  obtain ⟨vs,h5,h6⟩:=Zfx h4
  refine ⟨retV vs,s',⟨n0,fun n hle' K hK => ?_⟩,h5⟩
  unfold Z6g orcK
  rw [ho]
  refine Z01.2 ⟨fi,hf,?_⟩
  rw [Z0p,Nat.zero_add]
  refine Z02.2 (.inl ⟨by simp [hn],Z02.2 (.inl ⟨Nat.ble_eq_true_of_le (by omega),?_⟩)⟩)
  refine Z78 ht _ (h1 n hle' _ ?_)
  rw [hout]
  refine h6 _ ?_
  cases vs with
  | nil => exact hK
  | cons v r => cases r <;> exact hK
theorem Zk2 {f:FuncId} {args:List AVal} {v:AVal} (ho:Orc.get P f args = some v) (h:Q v s):Z0f P f args s Q:=by
  refine ⟨v,s,⟨0,fun n _ K hK => ?_⟩,h⟩
  unfold Z6g orcK
  rw [ho]
  exact hK
theorem Z05 {f:FuncId} {a c args:List AVal} (h:Z0f P f (a ++ (args ++ c)) s Q):Z4d P (.fn f a c) args s Q:=by
  obtain ⟨v,s',⟨n0,h1⟩,h2⟩:=h
  refine ⟨v,s',⟨n0,fun n hn K hK => ?_⟩,h2⟩
  show appK args c (fun r => appK a r fun args => Z6g P (exec P n) f args s K) = true
  rw [Z3a,Z3a]
  exact h1 n hn K hK
theorem Zhh {l:Pos} {args:List AVal} {L:LoopR} {fi:FInfo} {pl:List (Option Pos)} {tree:PT AVal} (hL:s.obj l = some (.loop L)) (hf:funInfo P L.fn = some fi) (hp:Z7i fi.ps fi.ntmps L.params = some pl) (hn:args.length = L.params.length)
    (ht:Z54 pl args L.tm = some tree)
    (h:wp P L.assign { fn:=L.fn,ntmps:=fi.ntmps,ps:=fi.ps,round:=some l } tree s fun e t s1 => e = .normal∧∃ L2,s1.obj l = some (.loop L2)∧isReady L2.state = true ∧
      wp P L.body { fn:=L.fn,ntmps:=fi.ntmps,ps:=fi.ps,round:=some l } t (s1.put l (.loop { L2 with state:=.busy })) fun e _ s2 => ∃ L3,s2.obj l = some (.loop L3)∧match e with
        | .normal => Q (.bool true) (s2.put l (.loop { L3 with state:=.ready,pending:=none }))
        | .exit id => Q (.bool false) (s2.put l (.loop { L3 with state:=.done,pending:=some (.exit id) }))
        | .ret => Q (.bool false) (s2.put l (.loop { L3 with state:=.done,pending:=some .ret }))):Z4d P (.yld l) args s Q:=by
  obtain ⟨e,t,s1,⟨n1,h1⟩,rfl,L2,hL2,hrd,e2,t2,s2,⟨n2,h2⟩,L3,hL3,h3⟩:=h
  have go:∀ (v:AVal) (s':St),(∀ K:VK,K v s' = true→endK l e2 s2 K = true)→∃ n0,∀ n,n0 ≤ n→∀ K:VK,K v s' = true→Zin P (exec P n) (.yld l) args s K = true:=by
    intro v s' hend
    refine ⟨max n1 n2,fun n hn' K hK => ?_⟩
    refine Z38.2 ⟨L,hL,Z01.2 ⟨fi,hf,Z01.2 ⟨pl,hp,?_⟩⟩⟩
    rw [Z0p,Z0p,Nat.zero_add,Nat.zero_add]
    refine Z02.2 (.inl ⟨by simp [hn],Z78 ht _ (h1 n (by omega) _ ?_)⟩)
    refine Z38.2 ⟨L2,hL2,Z02.2 (.inl ⟨hrd,?_⟩)⟩
    rw [Z23]
    exact h2 n (by omega) _ (hend K hK)
  cases e2 with
  | normal =>
    refine ⟨_,_,go _ _ (fun K hK => Z38.2 ⟨L3,hL3,?_⟩),h3⟩
    show putK l _ s2 (fun s => K (.bool true) s) = true
    rw [Z23]; exact hK
  | exit id =>
    refine ⟨_,_,go _ _ (fun K hK => Z38.2 ⟨L3,hL3,?_⟩),h3⟩
    show putK l _ s2 (fun s => K (.bool false) s) = true
    rw [Z23]; exact hK
  | ret =>
    refine ⟨_,_,go _ _ (fun K hK => Z38.2 ⟨L3,hL3,?_⟩),h3⟩
    show putK l _ s2 (fun s => K (.bool false) s) = true
    rw [Z23]; exact hK
def Zzm (P:Program) (fv:AVal) (args:List AVal) (s:St) (Q:AVal→St→Prop) (_:Dep Q):Prop:=Z4d P fv args s Q
open Classical in
theorem Zoo (hm:P.follows .mixedOrders = true) {f:FuncId} {args:List AVal} {us:Array Value} {w:World} {ι:Ren} (h:Z0f P f args s Q) (hw:WRel P ι s w) (hv:VRels ι args us.toList) :
    Calls P f us w fun e w' => ∃ v ι' s' a,e = .returned v∧Ext ι w ι' w'∧WRel P ι' s' w'∧VRel ι' a v∧Q a s':=by
  obtain ⟨v,s',⟨n0,h1⟩,h2⟩:=h
  have:=Zum hm (K:=fun v' s'' => hold (v' = v∧s'' = s')) (h1 n0 (Nat.le_refl _) _ (Z1n.2 ⟨rfl,rfl⟩)) hw hv
  refine this.mono ?_
  rintro e w' ⟨u,ι',s2,a,e1,e2,e3,e4,e5⟩
  obtain ⟨rfl,rfl⟩:=Z1n.1 e5
  exact ⟨u,ι',s2,a,e1,e2,e3,e4,h2⟩
end
end Go.AM
end
