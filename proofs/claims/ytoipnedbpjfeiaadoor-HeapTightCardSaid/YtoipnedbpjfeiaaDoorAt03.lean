/- Parts of the proof: Draw6, Draw7, Sym, Wp. -/
import Derived.Test.YtoipnedbpjfeiaaDoorAt02
set_option linter.all false
set_option linter.unusedSectionVars false
set_option linter.unusedSimpArgs false
set_option linter.unusedVariables false
section
namespace Go.AM
variable [Orc] [OrcOk]
theorem Zwc {a b:Cap} (h:Zb8 a b = true):a = b:=by
  cases a <;> cases b <;> simp [Zb8] at h <;> rw [h]
theorem Zke {f:AVal→AVal→Bool} (hf:∀ x y,f x y = true→x = y):∀ (a b:List AVal),a.length = b.length→((a.zip b).all fun x => f x.1 x.2) = true→a = b
  | [],[],_,_ => rfl
  | [],_ :: _,h,_ => by simp at h
  | _ :: _,[],h,_ => by simp at h
  | x :: a,y :: b,h,e => by
    simp only [List.zip_cons_cons,List.all_cons,Bool.and_eq_true] at e
    rw [hf x y e.1,Zke hf a b (by simpa using h) e.2]
theorem Z9p:∀ (d:Nat) (a b:AVal),Z27 d a b = true→a = b
  | 0,a,b,h => by simp [Z27] at h
  | d + 1,a,b,h => by
    cases a <;> cases b <;> simp only [Z27,Bool.and_eq_true,beq_iff_eq,Bool.false_eq_true] at h <;> first
      | rfl
      | (rw [h])
      | (rw [h.1,h.2])
      | (rw [Pos.toNat_inj h])
      | (rw [Pos.toNat_inj h.1,h.2])
      | (rw [Pos.toNat_inj h.1.1.1,h.1.1.2,h.1.2,Zwc h.2])
      | (rw [Zke (Z9p d) _ _ h.1 h.2])
      | (rw [h.1.1.1.1,Zke (Z9p d) _ _ h.1.1.1.2 h.1.2,Zke (Z9p d) _ _ h.1.1.2 h.2])
      | (cases h)
section
variable {P:Program} {rec:RecT} {ops:Array Oper} {masks:List Nat} {tree:PT AVal} {fi:FI} {k:PT AVal→St→Bool} {a0:Act} {ι0:Ren} {w0:World} {B:Nat→Nat} {R:Nat→Prop}
  {pre:List Nat} {vals:Nat→AVal} {nm:Nat→Option Pos} {T:St} {L:Nat→Prop} {ι:Ren} {a:Act} {w:World} {pl:List PItem} {done:Nat} {F:Fence} {m:Nat} {Q:Exit→Act→World→Prop} {i:Nat}
theorem Z6t (h:i < ops.size):ops[i]? = some (opAt ops i):=by
  unfold opAt
  simp [h]
theorem Inv.real (h:Inv P rec ops masks tree fi k a0 ι0 w0 B R pre vals nm T L ι a w pl done) (ht:TmpsOk ops masks) (h0:∀ t v,PT.get (posOf t) tree = some v→∃ u,a0.tmps[t]? = some u∧VRel ι0 v u) (hi:i < ops.size) (hL:¬ L i) (hRi:¬ R i)
    (hanc:∀ j,Anc masks i j→L j) (x:Operand):ORl ι (rho ops masks tree vals i x) (a.eval x) :=
  Zur (R:=R) ht hi hL hRi (fun j hj => h.lt j (h.sub j hj)) hanc h.lanc (fun j hj => ⟨(h.rlt j hj).1,(h.rlt j hj).2.2.2.2⟩) h.t1 h.t2 (fun t v e => let ⟨u,h1,h2⟩:=h0 t v e; ⟨u,h1,h2.mono h.ext.le⟩) x
theorem Inv.ran (h:Inv P rec ops masks tree fi k a0 ι0 w0 B R pre vals nm T L ι a w pl done) (ht:TmpsOk ops masks) (hds:∀ d,Z0m ops i = some d→d < a0.tmps.size) (hi:i ∈ pre) (hL:¬ L i) (hanc:∀ j,Anc masks i j→L j)
    {ι':Ren} {u:Value} {w':World} (hw:WRel P ι' T w') (he:Ext ι w ι' w') (hv:VRel ι' (vals i) u) (hnames:∀ j ∈ pre,¬ L j→j ≠ i→∀ q,nm j = some q→ι' q = none) :
    Inv P rec ops masks tree fi k a0 ι0 w0 B R pre vals nm T (fun j => L j ∨ j = i) ι' (a.put (Z0m ops i) u) w' pl done:=by
  refine ⟨hw,h.ext.trans he,(put_defers a _ u).trans h.defs,(Zim a _ u).trans h.size,?_,h.lt,h.anc,?_,?_,?_,?_,?_,?_,?_,h.nmk,h.bits,h.plan,h.cont,?_,?_,h.rap⟩
  · rintro j (hj | rfl)
    · exact h.sub j hj
    · exact hi
  · rintro j (hj | rfl) x hx
    · exact .inl (h.lanc j hj x hx)
    · exact .inl (hanc x hx)
  · rintro j (hj | rfl) d hd
    · obtain ⟨u',h1,h2⟩:=h.t1 j hj d hd
      refine ⟨u',?_,h2.mono he.le⟩
      rw [Z5q]
      · exact h1
      · intro e
        have:=ht.one i j d (h.lt i hi) (h.lt j (h.sub j hj)) e hd
        exact hL (this ▸ hj)
    · rw [hd]
      exact ⟨u,Zil (by rw [h.size]; exact hds d hd),hv⟩
  · intro t hno
    rw [Z5q (hno i (.inl (.inr rfl)))]
    exact h.t2 t fun j hj => hno j (hj.imp .inl id)
  · intro j hj hc
    exact .inl (h.effs j hj hc)
  · intro j hj hLj
    exact h.prom j hj fun e => hLj (.inl e)
  · intro j hj hLj q e
    exact ⟨hnames j hj (fun e => hLj (.inl e)) (fun e => hLj (.inr e)) q e,(h.names j hj (fun e => hLj (.inl e)) q e).2⟩
  · intro j hj x hx hLj hLx
    exact h.apart j hj x hx (fun e => hLj (.inl e)) (fun e => hLx (.inl e))
  · intro j hj
    obtain ⟨h1,h2,h3,h4,h5⟩:=h.rlt j hj
    exact ⟨h1,h2,h3,h4,fun x hx => .inl (h5 x hx)⟩
  · intro j hj
    refine (h.rah j hj).ext he (fun d hd => Z5q fun e => ?_) fun _ _ => rfl
    have:=ht.one i j d (h.lt i hi) (h.rlt j hj).1 e hd
    exact (h.rlt j hj).2.1 (this ▸ hi)
theorem Zvq (hs:Sound P rec) (hF:∀ f,F.fn f) (hd:F.depth = none) (h:Inv P rec ops masks tree fi k a0 ι0 w0 B R pre vals nm T L ι a w pl done) (ht:TmpsOk ops masks) (hds:∀ d,Z0m ops i = some d→d < a0.tmps.size)
    (h0:∀ t v,PT.get (posOf t) tree = some v→∃ u,a0.tmps[t]? = some u∧VRel ι0 v u) (hi:i ∈ pre) (hL:¬ L i) (hanc:∀ j,Anc masks i j→L j) (hc:cls P ops i ≤ 1) {K:Act→World→Prop}
    (hK:∀ ι' a' w',Inv P rec ops masks tree fi k a0 ι0 w0 B R pre vals nm T (fun j => L j ∨ j = i) ι' a' w' pl done→K a' w'):wpOpIn F m P ops Q i K a w:=by
  have hlt:=h.lt i hi
  have hreal:=h.real ht h0 hlt hL (fun e => (h.rlt i e).2.1 hi) hanc
  have hp:Z35 P rec ops masks tree vals i T:=by
    rcases h.prom i hi hL with ⟨_,hp⟩ | ⟨hc2,_⟩
    · exact hp
    · omega
  unfold wpOpIn
  rw [Z6t hlt]
  show if Region.wanted (opAt ops i) (yielded ops a.tmps) = true then _ else _
  have hno:∀ j ∈ pre,¬ L j→j ≠ i→∀ q,nm j = some q→ι q = none:=fun j hj hLj _ q e => (h.names j hj hLj q e).1
  rcases Za7 hp hreal with ⟨hw,h1⟩ | ⟨hw,h1⟩
  · rw [if_pos hw]
    have h2:opK P rec (opAt ops i).op (rho ops masks tree vals i) (T.known ι) (fun v s => hold (v = vals i∧s = T.known ι)) = true:=by
      rcases Nat.lt_or_ge (cls P ops i) 1 with hc0 | hc1
      · have hc0:Z0x P (opAt ops i).op = 0:=Nat.lt_one_iff.1 hc0
        rw [Z9y hc0 (T.known ι) T]
        rw [Z9y hc0 T T] at h1
        have:(fun v (_:St) => hold (v = vals i∧T = T)) = (fun v (_:St) => hold (v = vals i∧T.known ι = T.known ι)):=by
          funext v _
          simp [hold]
        rw [← this]
        exact h1
      · obtain ⟨t,x,hx⟩:=Zg0 (P:=P) (o:=(opAt ops i).op) (Nat.le_antisymm hc hc1)
        rw [hx] at h1 ⊢
        refine Zpz (K:=fun v s => hold (v = vals i∧s = T)) (K':=fun v s => hold (v = vals i∧s = T.known ι)) (show Z6x P t (rho ops masks tree vals i x) T (fun v s => hold (v = vals i∧s = T)) = true from h1) (fun b off e => ?_) (fun v hv => Z1y.2 ⟨(Z1y.1 hv).1,rfl⟩)
        have hrel:=hreal x _ e
        generalize a.eval x = gx at hrel
        cases hrel with
        | ptr hb => exact St.Z7i (by simp [hb])
    refine Zig hs h2 hF hd h.wr.known hreal fun v w' ι' s' av he hw' hv hk => ?_
    obtain ⟨rfl,rfl⟩:=Z1y.1 hk
    have hι:ι' = ι:=WRel.Zsv he.le hw'
    subst hι
    exact hK _ _ _ (h.ran ht hds hi hL hanc (h.wr.unknown hw') he hv hno)
  · rw [if_neg (by rw [hw]; simp)]
    refine ⟨fun f _ => hF f,hK ι _ _ (h.ran ht hds hi hL hanc h.wr (Ext.refl ι w) ?_ hno)⟩
    rw [Z1y.1 h1]
    exact .tup .nil
theorem Zvr (hF:∀ f,F.fn f) (h:Inv P rec ops masks tree fi k a0 ι0 w0 B R pre vals nm T L ι a w pl done) (ht:TmpsOk ops masks) (hds:∀ d,Z0m ops i = some d→d < a0.tmps.size)
    (h0:∀ t v,PT.get (posOf t) tree = some v→∃ u,a0.tmps[t]? = some u∧VRel ι0 v u) (hi:i ∈ pre) (hL:¬ L i) (hanc:∀ j,Anc masks i j→L j) (hc:cls P ops i = 2) {K:Act→World→Prop}
    (hK:∀ ι' a' w',Inv P rec ops masks tree fi k a0 ι0 w0 B R pre vals nm T (fun j => L j ∨ j = i) ι' a' w' pl done→K a' w'):wpOpIn F m P ops Q i K a w:=by
  have hlt:=h.lt i hi
  have hreal:=h.real ht h0 hlt hL (fun e => (h.rlt i e).2.1 hi) hanc
  have hp:Z9j P ops masks tree vals nm i T:=by
    rcases h.prom i hi hL with ⟨hc2,_⟩ | ⟨_,hp⟩
    · omega
    · exact hp
  unfold wpOpIn
  rw [Z6t hlt]
  show if Region.wanted (opAt ops i) (yielded ops a.tmps) = true then _ else _
  rcases Za7 hp hreal with ⟨hw,h1⟩ | ⟨hw,h1⟩
  · rw [if_pos hw]
    obtain ⟨x,v,q,e1,e2,e3,e4⟩:=Z1y.1 h1
    obtain ⟨obj,u,sz,hrun,hlay⟩:=e4 ι a.eval hreal w
    have hrun:(execOp a.eval (opAt ops i)).run P w = .ok (.value u) { w with heap:=w.heap.push obj }:=hrun
    obtain ⟨hqn,hqlt⟩:=h.names i hi hL q e1
    obtain ⟨hv,hx⟩:=hlay (Ren.set ι q ⟨w.heap.size,0,sz,false⟩) q (Ren.Z69 hqn) (Ren.Z3t _ _ _)
    obtain ⟨hw',he'⟩:=h.wr.Zrj e3 hqn hqlt hx
    have hnd:∀ c,(opAt ops i).op ≠ .defer c:=fun c e => by
      have:Z0x P (opAt ops i).op = 2:=hc
      rw [e] at this
      simp [Z0x] at this
    refine ⟨fun f _ => hF f,?_⟩
    rw [Oper.semAt_eq _ _ _ hnd,hrun]
    show K _ _
    refine hK _ _ _ (h.ran ht hds hi hL hanc hw' he' (e2 ▸ hv) fun j hj hLj hji q' e => ?_)
    have hne:q' ≠ q:=fun e' => h.apart j hj i hi hLj hL hji q' e (e' ▸ e1)
    rw [Ren.Zk4 hne]
    exact (h.names j hj hLj q' e).1
  · rw [if_neg (by rw [hw]; simp)]
    refine ⟨fun f _ => hF f,hK ι _ _ (h.ran ht hds hi hL hanc h.wr (Ext.refl ι w) ?_ fun j hj hLj _ q e => (h.names j hj hLj q e).1)⟩
    rw [Z1y.1 h1]
    exact .tup .nil
theorem chks (ht : TmpsOk ops masks) (hlt : ∀ j ∈ pre, j < ops.size) (hanc : ∀ i ∈ pre, ∀ j, Anc masks i j → j ∈ pre) {R : List DItem} : ∀ (cs : List Nat), (∀ j ∈ cs, j ∈ pre ∧ cls P ops j ≤ 1 ∧ (Z0m ops j).isSome = true ∧ ∀ x ∈ pre, Anc masks j x ∨ ∀ d, Z0m ops x = some d → d ∉ Z5c ops j) →
    Z1z P rec fi ops (cs.map (fun j => .chk (opAt ops j)) ++ R) (pre.map (Z0m ops)) (pre.map vals) tree T k = true →
    Z1z P rec fi ops R (pre.map (Z0m ops)) (pre.map vals) tree T k = true ∧ ∀ j ∈ cs, ∀ T0, Z35 P rec ops masks tree vals j T0 → Z35 P rec ops masks tree vals j T
  | [], _, h => ⟨h, fun j hj => by cases hj⟩
  | j :: cs, hcs, h => by
    obtain ⟨hj, hc, hds, hrd⟩ := hcs j (by simp)
    have hlook := fun x hx => Zap (tree := tree) ht (vals := vals) hlt (hanc j hj) hrd x hx
    have h : Z2f ops (opAt ops j) (fun x => getO tree (pre.map vals) (Z07 (pre.map (Z0m ops)) x))
        (opK P rec (opAt ops j).op (fun x => getO tree (pre.map vals) (Z07 (pre.map (Z0m ops)) x)) T fun v _ => optK (opAt ops j).dst fun d => optK (getO tree (pre.map vals) (Z07 (pre.map (Z0m ops)) (.tmp d))) fun u =>
          ifK (Z27 8 v u) (Z1z P rec fi ops (cs.map (fun j => .chk (opAt ops j)) ++ R) (pre.map (Z0m ops)) (pre.map vals) tree T k) (fail 49))
        (Z1z P rec fi ops (cs.map (fun j => .chk (opAt ops j)) ++ R) (pre.map (Z0m ops)) (pre.map vals) tree T k) = true := h
    rw [Z98 (fun t ht => hlook (.tmp t) (fun t' e => by cases e; exact ht)), Zav (ρ' := rho ops masks tree vals j) (fun x hx => hlook x (fun t e => Z9c (e ▸ hx)))] at h
    rcases Z7s h with ⟨h1, h2⟩ | ⟨h1, h2⟩
    · obtain ⟨v, h3, h4⟩ := Zkh hc h1
      obtain ⟨d, hd, h5⟩ := Z01.1 h3
      obtain ⟨u, hu, h6⟩ := Z01.1 h5
      rcases Z03.1 h6 with ⟨h7, h8⟩ | ⟨_, h8⟩
      · have hvu := Z9p _ _ _ h7
        subst hvu
        have huv : v = vals j := by
          simp only [Z07] at hu
          cases hi : idxOf d (pre.map (Z0m ops)) 0 with
          | none => exact absurd hd (Z7t pre hi j hj)
          | some e =>
            rw [hi] at hu
            obtain ⟨j', g1, g2⟩ := Zcm pre hi
            have : j' = j := ht.one j' j d (hlt _ (List.mem_of_getElem? g1)) (hlt j hj) g2 hd
            subst this
            have hu : nthO (pre.map vals) e = some v := hu
            rw [Zgu] at hu
            simp [g1] at hu
            exact hu.symm
        subst huv
        obtain ⟨h9, h10⟩ := chks ht hlt hanc cs (fun x hx => hcs x (by simp [hx])) h8
        refine ⟨h9, fun x hx T0 hp => ?_⟩
        rcases List.mem_cons.1 hx with rfl | hx
        · unfold Z35
          rw [h2]
          exact h4 T (Grown.refl T) _ (Z1y.2 ⟨rfl, rfl⟩)
        · exact h10 x hx T0 hp
      · cases h8
    · obtain ⟨h9, h10⟩ := chks ht hlt hanc cs (fun x hx => hcs x (by simp [hx])) h1
      refine ⟨h9, fun x hx T0 hp => ?_⟩
      rcases List.mem_cons.1 hx with rfl | hx
      · unfold Z35 at hp ⊢
        rw [h2] at hp ⊢
        exact hp
      · exact h10 x hx T0 hp
theorem Zst (ht : TmpsOk ops masks) (hlt : ∀ j ∈ pre, j < ops.size) {X : List DItem} : ∀ (ps : List Nat), (∀ j ∈ ps, (∀ x, Anc masks j x → x ∈ pre) ∧ ∀ x ∈ pre, Anc masks j x ∨ ∀ d, Z0m ops x = some d → d ∉ Z5c ops j) →
    Z1z P rec fi ops ((ps.map fun j => .peek (opAt ops j)) ++ X) (pre.map (Z0m ops)) (pre.map vals) tree T k = true →
    Z1z P rec fi ops X (pre.map (Z0m ops)) (pre.map vals) tree T k = true ∧ ∀ j ∈ ps, opK P rec (opAt ops j).op (rho ops masks tree vals j) T (fun _ _ => true) = true
  | [], _, h => ⟨h, fun j hj => by cases hj⟩
  | j :: ps, hps, h => by
    obtain ⟨ha, hrd⟩ := hps j (by simp)
    have hlook := fun x hx => Zap (tree := tree) ht (vals := vals) hlt ha hrd x hx
    have h : ifK (opK P rec (opAt ops j).op (fun x => getO tree (pre.map vals) (Z07 (pre.map (Z0m ops)) x)) T fun _ _ => true)
        (Z1z P rec fi ops ((ps.map fun j => .peek (opAt ops j)) ++ X) (pre.map (Z0m ops)) (pre.map vals) tree T k) (fail 57) = true := h
    rw [Zav (ρ' := rho ops masks tree vals j) (fun x hx => hlook x (fun t e => Z9c (e ▸ hx)))] at h
    rcases Z03.1 h with ⟨h1, h2⟩ | ⟨_, h2⟩
    · obtain ⟨g1, g2⟩ := Zst ht hlt ps (fun x hx => hps x (by simp [hx])) h2
      refine ⟨g1, fun x hx => ?_⟩
      rcases List.mem_cons.1 hx with rfl | hx
      · exact h1
      · exact g2 x hx
    · cases h2
theorem Zor {j:Nat} {dn:Nat} {pr:List Nat} (hb:∀ x,dn.testBit x = true ↔ x ∈ pr) (hlt:∀ x ∈ pr,x < ops.size) (h:Zky ops masks j dn = true):∀ x ∈ pr,Anc masks j x ∨ ∀ d,Z0m ops x = some d→d ∉ Z5c ops j:=by
  intro x hx
  have:=List.all_eq_true.1 h x (by simpa using hlt x hx)
  rw [(hb x).2 hx] at this
  simp only [Bool.not_true,Bool.false_or,Bool.or_eq_true] at this
  rcases this with h5 | h5
  · exact .inl h5
  · refine .inr fun d e => ?_
    rw [show (opAt ops x).dst = some d from e] at h5
    simpa using h5
theorem Zsz (hF:∀ f,F.fn f) {i':Nat} {cs ps:List Nat} {r:List PItem} (h:Inv P rec ops masks tree fi k a0 ι0 w0 B R pre vals nm T L ι a w (.eff i' cs ps :: r) done) (ht:TmpsOk ops masks)
    (hds:∀ d,Z0m ops i = some d→d < a0.tmps.size) (h0:∀ t v,PT.get (posOf t) tree = some v→∃ u,a0.tmps[t]? = some u∧VRel ι0 v u) (hi:i ∈ ps) (hRi:¬ R i) (hanc:∀ j,Anc masks i j→L j ∨ R j) {K:Act→World→Prop}
    (hK:∀ B' a' w',Inv P rec ops masks tree fi k a0 ι0 w0 B' (fun j => R j ∨ j = i) pre vals nm T L ι a' w' (.eff i' cs ps :: r) done→K a' w'):wpOpIn F m P ops Q i K a w:=by
  have hpl:=h.plan
  simp only [Z4a,Bool.and_eq_true] at hpl
  have hps:∀ j ∈ ps,(j < ops.size∧j ∉ pre∧(∀ x,Anc masks j x→x ∈ pre)∧∀ x ∈ pre,Anc masks j x ∨ ∀ d,Z0m ops x = some d→d ∉ Z5c ops j)∧cls P ops j = 2∧(opAt ops j).guard = none:=fun j hj => by
    have h1:=List.all_eq_true.1 hpl.1.2.2 j hj
    unfold Zom at h1
    simp only [Bool.and_eq_true,beq_iff_eq,Option.isNone_iff_eq_none] at h1
    exact ⟨Z61 h.bits h.lt h1.1.1,h1.1.2,h1.2⟩
  obtain ⟨⟨hlt,hn,ha,hrd⟩,hc,hg⟩:=hps i hi
  have hLi:¬ L i:=fun e => hn (h.sub i e)
  have hancL:∀ j,Anc masks i j→L j:=fun j hj => by
    rcases hanc j hj with e | e
    · exact e
    · exact absurd (ha j hj) (h.rlt j e).2.1
  have hreal:=h.real ht h0 hlt hLi hRi hancL
  have hcont:Z1z P rec fi ops ((ps.map fun j => .peek (opAt ops j)) ++ (.run (opAt ops i') :: (cs.map fun j => .chk (opAt ops j)) ++ Z24 ops r)) (pre.map (Z0m ops)) (pre.map vals) tree T k = true:=by
    have:=h.cont
    simpa [Z24,PItem.items] using this
  have hpk:=(Zst ht h.lt ps (fun j hj => ⟨(hps j hj).1.2.2.1,(hps j hj).1.2.2.2⟩) hcont).2 i hi
  obtain ⟨x,v,_,_,hlay⟩:=Zdx hc hpk
  obtain ⟨obj,u,sz,hrun,_⟩:=hlay ι a.eval hreal w
  have hrun:(execOp a.eval (opAt ops i)).run P w = .ok (.value u) { w with heap:=w.heap.push obj }:=hrun
  unfold wpOpIn
  rw [Z6t hlt]
  show if Region.wanted (opAt ops i) (yielded ops a.tmps) = true then _ else _
  rw [if_pos (by simp [Region.wanted,hg])]
  have hnd:∀ c,(opAt ops i).op ≠ .defer c:=fun c e => by
    have:Z0x P (opAt ops i).op = 2:=hc
    rw [e] at this
    simp [Z0x] at this
  refine ⟨fun f _ => hF f,?_⟩
  rw [Oper.semAt_eq _ _ _ hnd,hrun]
  show K _ _
  obtain ⟨hw',he⟩:=h.wr.pushed obj
  have hBne:∀ j,R j→B j < w.heap.size:=fun j hj => (h.rah j hj).bound
  have hji:∀ j,R j→j ≠ i:=fun j hj e => hRi (e ▸ hj)
  refine hK (upd B i w.heap.size) _ _ ⟨hw',h.ext.trans he,(put_defers a _ u).trans h.defs,(Zim a _ u).trans h.size,h.sub,h.lt,h.anc,h.lanc,?_,?_,h.effs,h.prom,h.names,h.apart,h.nmk,h.bits,h.plan,h.cont,?_,?_,?_⟩
  · intro j hj d hd
    obtain ⟨u',h1,h2⟩:=h.t1 j hj d hd
    refine ⟨u',?_,h2⟩
    rw [Z5q]
    · exact h1
    · intro e
      have:=ht.one i j d hlt (h.lt j (h.sub j hj)) e hd
      exact hLi (this ▸ hj)
  · intro t hno
    rw [Z5q (hno i (.inr (.inr rfl)))]
    exact h.t2 t fun j hj => hno j (hj.imp id .inl)
  · rintro j (hj | rfl)
    · exact h.rlt j hj
    · exact ⟨hlt,hn,hc,hg,hancL⟩
  · rintro j (hj | rfl)
    · rw [Z2j (hji j hj)]
      refine (h.rah j hj).ext he (fun d hd => Z5q fun e => ?_) fun _ _ => rfl
      exact hji j hj (ht.one i j d hlt (h.rlt j hj).1 e hd).symm
    · rw [Z3g]
      refine ⟨⟨a.eval,w,obj,u,hreal,hrun,rfl,Zx5 w obj,fun d hd => ?_⟩,h.ext.size,fun b p e => ?_⟩
      · show (a.put (Z0m ops j) u).tmps[d]? = some u
        rw [hd]
        exact Zil (by rw [h.size]; exact hds d hd)
      · have:=h.wr.bound b p e
        omega
  · rintro j x (hj | rfl) (hx | rfl) e
    · rw [Z2j (hji j hj),Z2j (hji x hx)] at e
      exact h.rap j x hj hx e
    · rw [Z2j (hji j hj),Z3g] at e
      have:=hBne j hj
      omega
    · rw [Z2j (hji x hx),Z3g] at e
      have:=hBne x hx
      omega
    · rfl
theorem Zxi (hs : Sound P rec) (hF : ∀ f, F.fn f) (hd : F.depth = none) {cs ps : List Nat} {r : List PItem} (h : Inv P rec ops masks tree fi k a0 ι0 w0 B R pre vals nm T L ι a w (.eff i cs ps :: r) done) (ht : TmpsOk ops masks)
    (hds : ∀ d, Z0m ops i = some d → d < a0.tmps.size) (h0 : ∀ t v, PT.get (posOf t) tree = some v → ∃ u, a0.tmps[t]? = some u ∧ VRel ι0 v u) (hanc0 : ∀ j, Anc masks i j → L j ∨ R j) {K : Act → World → Prop}
    (hK : ∀ vals' T' ι' a' w', Inv P rec ops masks tree fi k a0 ι0 w0 B R (i :: pre) vals' nm T' (fun j => L j ∨ j = i) ι' a' w' r (done ||| (1 <<< i)) → K a' w') : wpOpIn F m P ops Q i K a w := by
  have hpl := h.plan
  simp only [Z4a, Bool.and_eq_true] at hpl
  obtain ⟨⟨⟨⟨hst, hef⟩, hch⟩, hc2, hpk⟩, hr⟩ := hpl
  obtain ⟨hlt, hn, ha, hrd⟩ := Z61 h.bits h.lt hst
  have hRi : ¬ R i := fun e => by
    have : cls P ops i = 2 := (h.rlt i e).2.2.1
    simp only [bne_iff_ne, ne_eq] at hc2
    exact hc2 this
  have hanc : ∀ j, Anc masks i j → L j := fun j hj => by
    rcases hanc0 j hj with e | e
    · exact e
    · exact absurd (ha j hj) (h.rlt j e).2.1
  have hLi : ¬ L i := fun e => hn (h.sub i e)
  have hne : ∀ j ∈ pre, j ≠ i := fun j hj e => hn (e ▸ hj)
  have hreal := h.real ht h0 hlt hLi hRi hanc
  have hlook := fun x hx => Zap (tree := tree) ht (vals := vals) h.lt ha hrd x hx
  have hk : Z2f ops (opAt ops i) (fun x => getO tree (pre.map vals) (Z07 (pre.map (Z0m ops)) x))
      (opK P rec (opAt ops i).op (fun x => getO tree (pre.map vals) (Z07 (pre.map (Z0m ops)) x)) T fun v s =>
        Z1z P rec fi ops (cs.map (fun j => .chk (opAt ops j)) ++ Z24 ops r) (Z0m ops i :: pre.map (Z0m ops)) (v :: pre.map vals) tree s k)
      (Z1z P rec fi ops (cs.map (fun j => .chk (opAt ops j)) ++ Z24 ops r) (Z0m ops i :: pre.map (Z0m ops)) (.tup [] :: pre.map vals) tree T k) = true := by
    have hcont : Z1z P rec fi ops ((ps.map fun j => .peek (opAt ops j)) ++ (.run (opAt ops i) :: (cs.map fun j => .chk (opAt ops j)) ++ Z24 ops r)) (pre.map (Z0m ops)) (pre.map vals) tree T k = true := by
      have := h.cont
      simpa [Z24, PItem.items] using this
    exact (Zst ht h.lt ps (fun j hj => by
      have h1 := List.all_eq_true.1 hpk j hj
      unfold Zom at h1
      simp only [Bool.and_eq_true] at h1
      obtain ⟨_, _, g1, g2⟩ := Z61 h.bits h.lt h1.1.1
      exact ⟨g1, g2⟩) hcont).1
  rw [Z98 (fun t ht => hlook (.tmp t) (fun t' e => by cases e; exact ht)), Zav (ρ' := rho ops masks tree vals i) (fun x hx => hlook x (fun t e => Z9c (e ▸ hx)))] at hk
  have hpend : ∀ j ∈ pre, ¬ L j → cls P ops j ≤ 1 ∧ (cls P ops j = 1 → j ∈ cs) := by
    intro j hj hLj
    have h1 := List.all_eq_true.1 hef j (by simpa using h.lt j hj)
    simp only [Bool.and_eq_true, (h.bits j).2 hj, Bool.not_true, Bool.false_or, Bool.true_or, true_and] at h1
    obtain ⟨h2, h3⟩ := h1
    have hna : ¬ (maskAt masks i).testBit j = true := fun e => hLj (hanc j e)
    have hnf : (maskAt masks i).testBit j = false := by simpa using hna
    rw [hnf] at h2 h3
    simp only [Bool.or_false, bne_iff_ne, ne_eq] at h2 h3
    have hle : cls P ops j ≤ 2 := by
      rcases Nat.lt_or_ge 2 (cls P ops j) with h4 | h4
      · exact absurd (h.effs j hj h4) hLj
      · exact h4
    have h2 : ¬ cls P ops j = 2 := h2
    refine ⟨by omega, fun e => ?_⟩
    simp only [Bool.or_eq_true, bne_iff_ne, ne_eq] at h3
    rcases h3 with h3 | h3
    · exact absurd e h3
    · simpa using h3
  have hlt' : ∀ j ∈ i :: pre, j < ops.size := fun j hj => by
    rcases List.mem_cons.1 hj with rfl | hj
    · exact hlt
    · exact h.lt j hj
  have hanc' : ∀ j ∈ i :: pre, ∀ x, Anc masks j x → x ∈ i :: pre := fun j hj x hx => by
    rcases List.mem_cons.1 hj with rfl | hj
    · exact List.mem_cons_of_mem _ (ha x hx)
    · exact List.mem_cons_of_mem _ (h.anc j hj x hx)
  have hcs : ∀ j ∈ cs, j ∈ i :: pre ∧ cls P ops j ≤ 1 ∧ (Z0m ops j).isSome = true ∧ ∀ x ∈ i :: pre, Anc masks j x ∨ ∀ d, Z0m ops x = some d → d ∉ Z5c ops j := fun j hj => by
    have h1 := List.all_eq_true.1 hch j hj
    unfold chkOk at h1
    simp only [Bool.and_eq_true, beq_iff_eq] at h1
    obtain ⟨⟨⟨h2, h3⟩, h4⟩, h5⟩ := h1
    exact ⟨(Zai h.bits i j).1 h2, Nat.le_of_eq h3, h5, Zor (Zai h.bits i) hlt' h4⟩
  have hgo : ∀ (v : AVal) (T' : St) (ι' : Ren) (u : Value) (w' : World), WRel P ι' T' w' → Ext ι w ι' w' → VRel ι' v u →
      Z1z P rec fi ops (cs.map (fun j => .chk (opAt ops j)) ++ Z24 ops r) (Z0m ops i :: pre.map (Z0m ops)) (v :: pre.map vals) tree T' k = true → K (a.put (Z0m ops i) u) w' := by
    intro v T' ι' u w' hw' he hv hk
    have hk' : Z1z P rec fi ops (cs.map (fun j => .chk (opAt ops j)) ++ Z24 ops r) ((i :: pre).map (Z0m ops)) ((i :: pre).map (upd vals i v)) tree T' k = true := by
      rw [Zks hn]
      exact hk
    obtain ⟨hk2, hchk⟩ := chks ht hlt' hanc' cs hcs hk'
    have hinv : Inv P rec ops masks tree fi k a0 ι0 w0 B R (i :: pre) (upd vals i v) nm T' (fun j => L j ∨ j = i) ι' (a.put (Z0m ops i) u) w' r (done ||| (1 <<< i)) := by
      refine ⟨hw', h.ext.trans he, (put_defers a _ u).trans h.defs, (Zim a _ u).trans h.size, ?_, hlt', hanc', ?_, ?_, ?_, ?_, ?_, ?_, ?_, h.nmk, Zai h.bits i, hr, hk2, ?_, ?_, h.rap⟩
      · rintro j (hj | rfl)
        · exact List.mem_cons_of_mem _ (h.sub j hj)
        · simp
      · rintro j (hj | rfl) x hx
        · exact .inl (h.lanc j hj x hx)
        · exact .inl (hanc x hx)
      · rintro j (hj | rfl) d hdj
        · obtain ⟨u', h1, h2⟩ := h.t1 j hj d hdj
          rw [Z2j (hne j (h.sub j hj))]
          refine ⟨u', ?_, h2.mono he.le⟩
          rw [Z5q]
          · exact h1
          · intro e
            exact hne j (h.sub j hj) (ht.one i j d hlt (h.lt j (h.sub j hj)) e hdj).symm
        · rw [Z3g, hdj]
          exact ⟨u, Zil (by rw [h.size]; exact hds d hdj), hv⟩
      · intro t hno
        rw [Z5q (hno i (.inl (.inr rfl)))]
        exact h.t2 t fun j hj => hno j (hj.imp .inl id)
      · intro j hj hc
        rcases List.mem_cons.1 hj with rfl | hj
        · exact .inr rfl
        · exact .inl (h.effs j hj hc)
      · intro j hj hLj
        have hji : j ≠ i := fun e => hLj (.inr e)
        have hjp : j ∈ pre := by
          rcases List.mem_cons.1 hj with e | hj
          · exact absurd e hji
          · exact hj
        have hLj' : ¬ L j := fun e => hLj (.inl e)
        obtain ⟨hc1, hc2⟩ := hpend j hjp hLj'
        have hp : Z35 P rec ops masks tree vals j T := by
          rcases h.prom j hjp hLj' with ⟨_, hp⟩ | ⟨hc3, _⟩
          · exact hp
          · omega
        have hp' : Z35 P rec ops masks tree (upd vals i v) j T := by
          rcases Prom.congr (vals' := upd vals i v) (nm' := nm) (nm := nm) (fun x hx => by rw [Z2j (hne x (h.anc j hjp x hx))]) (by rw [Z2j hji]) rfl (.inl ⟨hc1, hp⟩ : Prom P rec ops masks tree vals nm j T) with ⟨_, hp⟩ | ⟨hc3, _⟩
          · exact hp
          · omega
        refine .inl ⟨hc1, ?_⟩
        rcases Nat.lt_or_ge (cls P ops j) 1 with h1 | h1
        · have hc0 : Z0x P (opAt ops j).op = 0 := Nat.lt_one_iff.1 h1
          unfold Z35 at hp' ⊢
          rcases Z7s hp' with ⟨g1, g2⟩ | ⟨g1, g2⟩
          · rw [g2, Z9y hc0 T' T]
            rw [Z9y hc0 T T] at g1
            have : (fun v' (_ : St) => hold (v' = upd vals i v j ∧ T = T)) = (fun v' (_ : St) => hold (v' = upd vals i v j ∧ T' = T')) := by
              funext v' _
              simp [hold]
            rw [← this]
            exact g1
          · rw [g2]; exact g1
        · exact hchk j (hc2 (Nat.le_antisymm hc1 h1)) T hp'
      · intro j hj hLj q e
        have hji : j ≠ i := fun e => hLj (.inr e)
        have hjp : j ∈ pre := by
          rcases List.mem_cons.1 hj with e | hj
          · exact absurd e hji
          · exact hj
        have := (hpend j hjp (fun e => hLj (.inl e))).1
        have := h.nmk j q e
        omega
      · intro j hj x hx hLj hLx _ q e
        have hji : j ≠ i := fun e => hLj (.inr e)
        have hjp : j ∈ pre := by
          rcases List.mem_cons.1 hj with e | hj
          · exact absurd e hji
          · exact hj
        have := (hpend j hjp (fun e => hLj (.inl e))).1
        have := h.nmk j q e
        omega
      · intro j hj
        obtain ⟨g1, g2, g3, g4, g5⟩ := h.rlt j hj
        refine ⟨g1, fun hm => ?_, g3, g4, fun x hx => .inl (g5 x hx)⟩
        rcases List.mem_cons.1 hm with e | hm
        · exact hRi (e ▸ hj)
        · exact g2 hm
      · intro j hj
        refine (h.rah j hj).ext he (fun d hdj => Z5q fun e => ?_) fun x hx => (Z2j (hne x (h.sub x ((h.rlt j hj).2.2.2.2 x hx)))).symm
        exact hRi (ht.one i j d hlt (h.rlt j hj).1 e hdj ▸ hj)
    exact hK _ _ _ _ _ hinv
  unfold wpOpIn
  rw [Z6t hlt]
  show if Region.wanted (opAt ops i) (yielded ops a.tmps) = true then _ else _
  rcases Za7 hk hreal with ⟨hw, h1⟩ | ⟨hw, h1⟩
  · rw [if_pos hw]
    exact Zig hs h1 hF hd h.wr hreal fun v w' ι' s' av he hw' hv hk => hgo av s' ι' v w' hw' he hv hk
  · rw [if_neg (by rw [hw]; simp)]
    exact ⟨fun f _ => hF f, hgo (.tup []) T ι undef w h.wr (Ext.refl ι w) (.tup .nil) h1⟩
end
end Go.AM
end
section
namespace Go.AM
variable [Orc] [OrcOk]
theorem Zow {ops:Array Oper} {masks:List Nat} (hl:masks.length = ops.size) {i:Nat} (hi:i < ops.size):(i,opAt ops i,maskAt masks i) ∈ allRows ops.toList masks:=by
  unfold allRows
  refine List.mem_map.2 ⟨((opAt ops i,i),maskAt masks i),?_,rfl⟩
  refine List.mem_of_getElem? (i:=i) ?_
  rw [List.getElem?_zip_eq_some]
  refine ⟨?_,?_⟩
  · rw [List.getElem?_zipIdx]
    simp [Z6t hi]
  · unfold maskAt
    rw [List.getD_eq_getElem?_getD]
    rw [List.getElem?_eq_getElem (by omega)]
    rfl
theorem TmpsOk.of {ops:Array Oper} {masks:List Nat} (hl:masks.length = ops.size) (h:Zkc ops (allRows ops.toList masks) = true):TmpsOk ops masks:=by
  have key:∀ i j,i < ops.size→j < ops.size→i ≠ j→∀ d,Z0m ops i = some d→Z0m ops j ≠ some d∧(d ∈ Z5c ops j→Anc masks j i ∨ Anc masks i j):=by
    intro i j hi hj hne d hd
    have h1:=List.all_eq_true.1 (List.all_eq_true.1 h _ (Zow hl hi)) _ (Zow hl hj)
    simp only [Bool.or_eq_true,beq_iff_eq,Bool.and_eq_true] at h1
    rcases h1 with h1 | ⟨h1,_⟩
    · exact absurd h1 hne
    · rw [show (opAt ops i).dst = some d from hd] at h1
      simp only [Bool.and_eq_true,bne_iff_ne,ne_eq,Bool.or_eq_true,Bool.not_eq_true'] at h1
      refine ⟨h1.1,fun hm => ?_⟩
      rcases h1.2 with (h2 | h2) | h2
      · simp at h2
        exact absurd hm h2
      · exact .inl h2
      · exact .inr h2
  refine ⟨fun i j d hi hj e e' => ?_,fun i j d hi hj hne e hm => (key i j hi hj hne d e).2 hm⟩
  by_cases hne:i = j
  · exact hne
  · exact absurd e' (key i j hi hj hne d e).1
theorem Zj4 : ∀ (l : List Nat) (p q : Nat → Bool) (i : Nat), l.Nodup → i ∈ l → (∀ j ∈ l, j ≠ i → p j = q j) → p i = true → q i = false → l.countP p = l.countP q + 1
  | [], p, q, i, _, hi, _, _, _ => by cases hi
  | x :: l, p, q, i, hn, hi, h, hp, hq => by
    obtain ⟨hx, hn⟩ := List.nodup_cons.1 hn
    by_cases e : x = i
    · subst e
      rw [List.countP_cons_of_pos hp, List.countP_cons_of_neg (by simp [hq])]
      congr 1
      exact List.countP_congr fun j hj => by rw [h j (by simp [hj]) (fun e => hx (e ▸ hj))]
    · have hi : i ∈ l := by
        rcases List.mem_cons.1 hi with e' | hi
        · exact absurd e'.symm e
        · exact hi
      have ih := Zj4 l p q i hn hi (fun j hj => h j (by simp [hj])) hp hq
      have hxx := h x (by simp) e
      cases hpx : p x with
      | true => rw [List.countP_cons_of_pos hpx, List.countP_cons_of_pos (by rw [← hxx]; exact hpx), ih]
      | false => rw [List.countP_cons_of_neg (by simp [hpx]), List.countP_cons_of_neg (by rw [← hxx]; simp [hpx]), ih]
section
variable {P:Program} {rec:RecT} {ops:Array Oper} {masks:List Nat} {tree:PT AVal} {fi:FI} {k:PT AVal→St→Bool} {a0:Act} {ι0:Ren} {w0:World} {B:Nat→Nat} {R:Nat→Prop} {F:Fence} {m n0:Nat} {Q:Exit→Act→World→Prop}
theorem Inv.final {pre : List Nat} {vals : Nat → AVal} {nm : Nat → Option Pos} {T : St} {L : Nat → Prop} {ι : Ren} {a : Act} {w : World} {pl : List PItem} {done : Nat} (h : Inv P rec ops masks tree fi k a0 ι0 w0 B R pre vals nm T L ι a w pl done)
    (hset : pl = [] ∨ ∃ i cs ps r, pl = .eff i cs ps :: r) (hall0 : ∀ j, j < ops.size → L j ∨ R j) (h0 : ∀ t v, PT.get (posOf t) tree = some v → t ∈ fi.ps ∧ ∃ u, a0.tmps[t]? = some u ∧ VRel ι0 v u) (hsz : fi.ntmps ≤ a0.tmps.size)
    (hdf : Z4i n0 ι0 w0 a0.defers) (hnz : n0 ≤ w0.heap.size) (hQ : ∀ ι' tree' s' a' w', Ext ι0 w0 ι' w' → Here P n0 fi ι' tree' s' a' w' → k tree' s' = true → Q .normal a' w') : Q .normal a w := by
  rcases hset with rfl | ⟨i, cs, ps, r, rfl⟩
  · have hall : ∀ j, j < ops.size → L j := fun j hj => by
      rcases hall0 j hj with e | e
      · exact e
      · have := h.plan
        simp only [Z4a] at this
        have := List.all_eq_true.1 this j (by simpa using hj)
        exact absurd ((h.bits j).1 this) (h.rlt j e).2.1
    have hk : Z3w (Z3o fi.ps (pre.map (Z0m ops)) []) (pre.map vals) tree (fun tree => k tree T) = true := h.cont
    have hloc : LocRel ι (pre.map (Z0m ops)) (pre.map vals) tree a.tmps := by
      refine ⟨by simp, fun t d v e1 e2 => ?_, fun t v e1 e2 => ?_⟩
      · obtain ⟨j, h1, h2⟩ := Zcm pre e1
        have hv : vals j = v := by simpa [h1] using e2
        rw [← hv]
        exact h.t1 j (hall j (h.lt j (List.mem_of_getElem? h1))) t h2
      · obtain ⟨_, u, h1, h2⟩ := h0 t v e2
        exact ⟨u, (h.t2 t fun j hj => Z7t pre e1 j (h.sub j (hj.elim id fun e => hall j (h.rlt j e).1))).trans h1, h2.mono h.ext.le⟩
    obtain ⟨tree', h1, h2⟩ := hloc.Zu7 (n := fi.ntmps) (by rw [h.size]; exact hsz) (fun t v e => (h0 t v e).1) hk
    exact hQ ι tree' T a w h.ext ⟨h.wr, h2, h.defs ▸ hdf.ext h.ext, Nat.le_trans hnz h.ext.size⟩ h1
  · have hpl := h.plan
    simp only [Z4a, Bool.and_eq_true] at hpl
    obtain ⟨hlt, hn, _, _⟩ := Z61 h.bits h.lt hpl.1.1.1.1
    rcases hall0 i hlt with e | e
    · exact absurd (h.sub i e) hn
    · have h2 : cls P ops i = 2 := (h.rlt i e).2.2.1
      have h3 := hpl.1.2.1
      simp only [bne_iff_ne, ne_eq] at h3
      exact absurd h2 h3
theorem Ztd (hs : Sound P rec) (hF : ∀ f, F.fn f) (hd : F.depth = none) (hA : AncOk ops.toList masks) (ht : TmpsOk ops masks) (hds : ∀ i, i < ops.size → ∀ d, Z0m ops i = some d → d < a0.tmps.size)
    (h0 : ∀ t v, PT.get (posOf t) tree = some v → t ∈ fi.ps ∧ ∃ u, a0.tmps[t]? = some u ∧ VRel ι0 v u) (hsz : fi.ntmps ≤ a0.tmps.size)
    (hdf : Z4i n0 ι0 w0 a0.defers) (hnz : n0 ≤ w0.heap.size) (hQ : ∀ ι' tree' s' a' w', Ext ι0 w0 ι' w' → Here P n0 fi ι' tree' s' a' w' → k tree' s' = true → Q .normal a' w') :
    ∀ (fuel : Nat) (listed : Array Bool) (a : Act) (w : World) (B : Nat → Nat) (R : Nat → Prop) (pre : List Nat) (vals : Nat → AVal) (nm : Nat → Option Pos) (T : St) (L : Nat → Prop) (ι : Ren) (pl : List PItem) (done : Nat),
      Inv P rec ops masks tree fi k a0 ι0 w0 B R pre vals nm T L ι a w pl done → (pl = [] ∨ ∃ i cs ps r, pl = .eff i cs ps :: r) → listed.size = ops.size → (∀ j, j < ops.size → (listed.getD j false = true ↔ L j ∨ R j)) →
      (List.range ops.size).countP (fun j => !listed.getD j false) = fuel → wpAnyIn F m P .any ops Q fuel listed a w := by
  intro fuel
  induction fuel with
  | zero =>
    intro listed a w B R pre vals nm T L ι pl done h hset hls hL hcnt
    have hall : ∀ j, j < ops.size → listed.getD j false = true := by
      intro j hj
      have := List.countP_eq_zero.1 hcnt j (by simpa using hj)
      simpa using this
    refine ⟨?_, h.final hset (fun j hj => (hL j hj).1 (hall j hj)) h0 hsz hdf hnz hQ⟩
    refine List.eq_nil_iff_forall_not_mem.2 fun j hj => ?_
    obtain ⟨h1, o, ho, _⟩ := mem_ready.1 hj
    have hjlt := (Array.getElem?_eq_some_iff.1 ho).1
    have h2 := hall j hjlt
    rw [Array.getD_eq_getD_getElem?] at h1 h2
    rw [Array.getElem?_eq_getElem (by omega)] at h1 h2
    simp at h1 h2
    rw [h1] at h2; cases h2
  | succ fuel ih =>
    intro listed a w B R pre vals nm T L ι pl done h hset hls hL hcnt
    have hget : ∀ j, j < ops.size → listed.getD j true = listed.getD j false := fun j hj => by
      rw [Array.getD_eq_getD_getElem?, Array.getD_eq_getD_getElem?, Array.getElem?_eq_getElem (by omega)]
      rfl
    refine ⟨fun hnil => ?_, fun i hi => ?_⟩
    · exfalso
      have hall : ∀ j, j < ops.size → listed.getD j false = true := by
        intro j
        induction j using Nat.strongRecOn with
        | _ j ihj =>
          intro hj
          cases hlj : listed.getD j false with
          | true => rfl
          | false =>
            exfalso
            have : j ∈ Region.ready .any ops listed := mem_ready.2 ⟨by rw [hget j hj]; exact hlj, opAt ops j, Z6t hj, fun e he hb => by
              have := hA.back j (opAt ops j) (by simpa using Z6t hj) e he hb
              exact ihj e.on this (by omega)⟩
            rw [hnil] at this
            cases this
      have : (List.range ops.size).countP (fun j => !listed.getD j false) = 0 := List.countP_eq_zero.2 fun j hj => by
        rw [hall j (by simpa using hj)]; simp
      omega
    · obtain ⟨h1, o, ho, hedges⟩ := mem_ready.1 hi
      have hilt := (Array.getElem?_eq_some_iff.1 ho).1
      have hoi : opAt ops i = o := by
        have := Z6t hilt
        rw [ho] at this
        exact (Option.some.inj this).symm
      have hLRi : ¬ (L i ∨ R i) := fun e => by
        have := (hL i hilt).2 e
        rw [← hget i hilt, h1] at this
        cases this
      have hLi : ¬ L i := fun e => hLRi (.inl e)
      have hRi : ¬ R i := fun e => hLRi (.inr e)
      have hanc : ∀ j, Anc masks i j → L j ∨ R j := by
        intro j hj
        obtain ⟨e, he, hb, h2⟩ := hA.anc i o (by simpa using ho) j hj
        have hlt := hA.back i o (by simpa using ho) e he hb
        have hLe : L e.on ∨ R e.on := (hL e.on (by omega)).1 (hedges e he hb)
        rcases h2 with rfl | h2
        · exact hLe
        · rcases hLe with hLe | hLe
          · exact .inl (h.lanc e.on hLe j h2)
          · exact .inl ((h.rlt e.on hLe).2.2.2.2 j h2)
      have hset' : ∀ j, j < ops.size → ((listed.setIfInBounds i true).getD j false = true ↔ (L j ∨ R j) ∨ j = i) := by
        intro j hj
        by_cases e : j = i
        · subst e
          rw [Array.getD_eq_getD_getElem?, Array.getElem?_setIfInBounds_self_of_lt (by omega)]
          simp
        · rw [Array.getD_eq_getD_getElem?, Array.getElem?_setIfInBounds_ne (Ne.symm e), ← Array.getD_eq_getD_getElem?, hL j hj]
          simp [e]
      have hcnt' : (List.range ops.size).countP (fun j => !(listed.setIfInBounds i true).getD j false) = fuel := by
        have := Zj4 (List.range ops.size) (fun j => !listed.getD j false) (fun j => !(listed.setIfInBounds i true).getD j false) i List.nodup_range (by simpa using hilt) (fun j hj e => by
            show (!listed.getD j false) = !(listed.setIfInBounds i true).getD j false
            rw [Array.getD_eq_getD_getElem?, Array.getD_eq_getD_getElem?, Array.getElem?_setIfInBounds_ne (Ne.symm e)]) (by rw [← hget i hilt, h1]; rfl) (by
            rw [Array.getD_eq_getD_getElem?, Array.getElem?_setIfInBounds_self_of_lt (by omega)]; rfl)
        omega
      have h0' : ∀ t v, PT.get (posOf t) tree = some v → ∃ u, a0.tmps[t]? = some u ∧ VRel ι0 v u := fun t v e => (h0 t v e).2
      by_cases hip : i ∈ pre
      · have hgo : ∀ ι' a' w', Inv P rec ops masks tree fi k a0 ι0 w0 B R pre vals nm T (fun j => L j ∨ j = i) ι' a' w' pl done → wpAnyIn F m P .any ops Q fuel (listed.setIfInBounds i true) a' w' := fun ι' a' w' h' =>
          ih _ a' w' B R pre vals nm T _ ι' pl done h' hset (by simpa using hls) (fun j hj => (hset' j hj).trans or_right_comm) hcnt'
        have hanc : ∀ j, Anc masks i j → L j := fun j hj => by
          rcases hanc j hj with e | e
          · exact e
          · exact absurd (h.anc i hip j hj) (h.rlt j e).2.1
        rcases Nat.lt_or_ge (cls P ops i) 2 with hc | hc
        · exact Zvq hs hF hd h ht (hds i hilt) h0' hip hLi hanc (Nat.le_of_lt_succ hc) hgo
        · rcases Nat.lt_or_ge 2 (cls P ops i) with hc' | hc'
          · exact absurd (h.effs i hip hc') hLi
          · exact Zvr hF h ht (hds i hilt) h0' hip hLi hanc (Nat.le_antisymm hc' hc) hgo
      · rcases hset with rfl | ⟨i', cs, ps, r, rfl⟩
        · have := h.plan
          simp only [Z4a] at this
          have := List.all_eq_true.1 this i (by simpa using hilt)
          exact absurd ((h.bits i).1 this) hip
        · have hpl := h.plan
          simp only [Z4a, Bool.and_eq_true] at hpl
          obtain ⟨_, hn', _, _⟩ := Z61 h.bits h.lt hpl.1.1.1.1
          have h2 := List.all_eq_true.1 hpl.1.1.1.2 i (by simpa using hilt)
          simp only [Bool.and_eq_true, Bool.or_eq_true, beq_iff_eq] at h2
          have hii : i = i' ∨ i ∈ ps := by
            rcases h2.1.1 with ((h3 | h3) | h3) | h3
            · exact absurd ((h.bits i).1 h3) hip
            · exact .inl h3
            · rcases hanc i' h3 with e | e
              · exact absurd (h.sub i' e) hn'
              · have h4 : cls P ops i' = 2 := (h.rlt i' e).2.2.1
                have h5 := hpl.1.2.1
                simp only [bne_iff_ne, ne_eq] at h5
                exact absurd h4 h5
            · exact .inr (by simpa using h3)
          rcases hii with rfl | hips
          · refine Zxi hs hF hd h ht (hds i hilt) h0' hanc fun vals' T' ι' a' w' h' => ?_
            obtain ⟨R2, L2, ι2, pre2, vals2, nm2, T2, pl2, done2, h'', hset'', hLR⟩ := h'.settle ht
            exact ih _ a' w' B R2 pre2 vals2 nm2 T2 L2 ι2 pl2 done2 h'' hset'' (by simpa using hls) (fun j hj => ((hset' j hj).trans or_right_comm).trans (hLR j).symm) hcnt'
          · refine Zsz hF h ht (hds i hilt) h0' hips hRi hanc fun B' a' w' h' => ?_
            exact ih _ a' w' B' _ pre vals nm T L ι _ done h' (.inr ⟨_, _, _, _, rfl⟩) (by simpa using hls) (fun j hj => (hset' j hj).trans or_assoc) hcnt'
theorem Zj6 (hm : P.follows .mixedOrders = true) (hs : Sound P rec) : Zl7 P rec := by
  intro id ops n0 fi tree s k F m ι a w h hfo hF hd hr hh
  obtain ⟨l, hl, h1⟩ := Z01.1 h
  rcases Z03.1 h1 with ⟨hdst, h2⟩ | ⟨_, h2⟩
  · have hl : Zi3 P ops = some l := hl
    unfold Zi3 at hl
    split at hl
    · rename_i masks hmasks
      simp only at hl
      have hl : ∃ pl, (Zkc ops (allRows ops.toList masks) && Z4a P ops masks pl 0) = true ∧ Z24 ops pl = l := by
        split at hl
        · rename_i hok
          exact ⟨_, hok, Option.some.inj hl⟩
        · split at hl
          · rename_i hok
            exact ⟨_, hok, Option.some.inj hl⟩
          · cases hl
      obtain ⟨pl, hok, rfl⟩ := hl
      · simp only [Bool.and_eq_true] at hok
        have hA := Zxq hmasks
        have ht := TmpsOk.of (by rw [hA.len]; simp) hok.1
        refine wpIn_region_any hm ?_
        have h0 : ∀ t v, PT.get (posOf t) tree = some v → t ∈ fi.ps ∧ ∃ u, a.tmps[t]? = some u ∧ VRel ι v u := hh.tr.get
        have hinv : Inv P rec ops masks tree fi k a ι w (fun _ => 0) (fun _ => False) [] (fun _ => .tup []) (fun _ => none) s (fun _ => False) ι a { w with drawn := w.drawn + 1 } pl 0 := by
          refine ⟨hh.wr.drawn _, Ext.drawn ι w _, rfl, rfl, fun i h => h.elim, fun i h => (by cases h), fun i h => (by cases h), fun i h => h.elim, fun i h => h.elim, fun t _ => rfl, fun i h => (by cases h), fun i h => (by cases h), fun i h => (by cases h),
            fun i h => (by cases h), fun i q e => (by cases e), fun j => by simp, hok.2, h2, fun j hj => hj.elim, fun j hj => hj.elim, fun j x hj => hj.elim⟩
        obtain ⟨R2, L2, ι2, pre2, vals2, nm2, T2, pl2, done2, h'', hset'', hLR⟩ := hinv.settle ht
        refine Ztd (n0 := n0) hs hF hd hA ht (fun i hi d e => ?_) h0 hh.tr.size hh.df hh.nz (fun ι' tree' s' a' w' he hh' hk => ⟨.normal, tree', s', ι', rfl, he, hh', hk⟩) ops.size _ a _ _ R2 pre2 vals2 nm2 T2 L2 ι2 pl2 done2 h'' hset'' (by simp) (fun j hj => ?_) ?_
        · exact Nat.lt_of_lt_of_le (Zle hdst (opAt ops i) (List.mem_of_getElem? (i := i) (by simpa using Z6t hi)) d e) hh.tr.size
        · rw [Array.getD_eq_getD_getElem?]
          refine Iff.trans ?_ (hLR j).symm
          simp [hj]
        · have : ∀ j ∈ List.range ops.size, (!(Array.replicate ops.size false).getD j false) = true := fun j hj => by
            rw [Array.getD_eq_getD_getElem?]
            have : j < ops.size := by simpa using hj
            simp [this]
          rw [List.countP_eq_length.2 this]
          simp
    · cases hl
  · cases h2
end
theorem Zvg {P:Program} (hm:P.follows .mixedOrders = true) {n:Nat} {f:FuncId} {args:List AVal} {us:Array Value} {s:St} {w:World} {ι:Ren} {K:VK} (h:run P n f args s K = true) (hw:WRel P ι s w) (hv:VRels ι args us.toList) :
    Calls P f us w (Zgh P ι w K):=by
  refine (callsIn_wide (n:=0)).1 ?_
  have:=Za5 (F:=Fence.wide) (m:=0) (Zj8 (fun rec hs => Zj6 hm hs) n) h (fun _ => trivial) rfl hw hv
  simpa using this
end Go.AM
end
section
namespace Go.AM
variable [Orc] [OrcOk]
noncomputable def St.obj (s:St) (b:Pos):Option AObj:=PT.get b s.heap
noncomputable def St.cells (s:St) (b:Pos):Option (List AVal):=match s.obj b with
  | some (.cells cs _) => some cs
  | _ => none
noncomputable def St.own (s:St) (b:Pos):Option (List AVal):=match s.obj b with
  | some (.cells cs false) => some cs
  | _ => none
def St.alloc (s:St) (x:AObj):St:={ heap:=PT.set s.next x s.heap,next:=s.next.succ }
def St.put (s:St) (b:Pos) (x:AObj):St:={ heap:=PT.set b x s.heap,next:=s.next }
theorem St.Z2e {s:St} {b:Pos} {cs:List AVal} (h:s.own b = some cs):s.obj b = some (.cells cs false):=by
  unfold St.own at h
  split at h
  · rename_i h'; rw [h']; cases h; rfl
  · cases h
theorem St.Z7k {s:St} {b:Pos} {cs:List AVal} (h:s.cells b = some cs):∃ ro,s.obj b = some (.cells cs ro):=by
  unfold St.cells at h
  split at h
  · rename_i ro h'; cases h; exact ⟨ro,h'⟩
  · cases h
def Z1n (x:Option AVal) (F:AVal→Prop):Prop:=match x with
  | some v => F v
  | none => False
def Z30 (x:Option AVal) (F:IntKind→Int→Prop):Prop:=match x with
  | some (.int k n) => F k n
  | _ => False
def Z62 (x:Option AVal) (F:Bool→Prop):Prop:=match x with
  | some (.bool b) => F b
  | _ => False
def Z6e (x:Option AVal) (F:List UInt8→Prop):Prop:=match x with
  | some (.str b) => F b
  | _ => False
def Z3k (x:Option AVal) (F:Pos→Nat→Prop):Prop:=match x with
  | some (.ptr b o) => F b o
  | _ => False
def Za2 (x:Option AVal) (F:Pos→Nat→Nat→Cap→Prop):Prop:=match x with
  | some (.slice b o n c) => F b o n c
  | _ => False
def Z77 (x:Option AVal) (F:List AVal→Prop):Prop:=match x with
  | some (.agg l) => F l
  | _ => False
def Za3 (x:Option AVal) (F:List AVal→Prop):Prop:=match x with
  | some (.tup l) => F l
  | _ => False
def Z17 {α:Type} (x:Option α) (F:α→Prop):Prop:=match x with
  | some v => F v
  | none => False
def Z1q:AVal→Option Nat
  | .slice _ _ n _ => some n
  | .nilSlice => some 0
  | _ => none
@[simp] theorem slcLen_slice (b:Pos) (o n:Nat) (c:Cap):Z1q (.slice b o n c) = some n:=rfl
@[simp] theorem slcLen_nil:Z1q .nilSlice = some 0:=rfl
def Z9i (γ:RO→Option AVal):List RO→(List AVal→Prop)→Prop
  | [],F => F []
  | x :: l,F => Z1n (γ x) fun v => Z9i γ l fun r => F (v :: r)
def lay (cs:List AVal) (o:Nat) (vs:List AVal):List AVal:=cs.take o ++ vs ++ cs.drop (o + vs.length)
def Z93 (γ:RO→Option AVal):List (Nat × Nat × RO)→List AVal→(List AVal→Prop)→Prop
  | [],cs,F => F cs
  | (o,n,x) :: l,cs,F => Z1n (γ x) fun v => (∀ t,v ≠ .tup t)∧v.cells.length = n∧o + n ≤ cs.length∧Z93 γ l (lay cs o v.cells) F
def Z7z (n:Option Nat) (cs:List AVal) (o:Nat) (F:AVal→Prop):Prop:=match n with
  | none => Z17 cs[o]? F
  | some n => o + n ≤ cs.length∧F (.agg ((cs.drop o).take n))
def intP (op:BinOp) (k:IntKind) (a b:Int) (Q:AVal→Prop):Prop:=match op with
  | .add => Q (.int k (k.wrap (a + b)))
  | .sub => Q (.int k (k.wrap (a - b)))
  | .mul => Q (.int k (k.wrap (a * b)))
  | .quo => b ≠ 0∧Q (.int k (k.wrap (a.tdiv b)))
  | .rem => b ≠ 0∧Q (.int k (a.tmod b))
  | .and => Q (.int k (k.wrap (BitVec.ofInt k.bits a &&& BitVec.ofInt k.bits b).toNat))
  | .or => Q (.int k (k.wrap (BitVec.ofInt k.bits a ||| BitVec.ofInt k.bits b).toNat))
  | .xor => Q (.int k (k.wrap (BitVec.ofInt k.bits a ^^^ BitVec.ofInt k.bits b).toNat))
  | .shl => 0 ≤ b∧Q (.int k (k.wrap (a * 2 ^ min b.toNat k.bits)))
  | .shr => 0 ≤ b∧Q (.int k (a.fdiv (2 ^ min b.toNat k.bits)))
  | .eql => Q (.bool (decide (a = b)))
  | .neq => Q (.bool (!decide (a = b)))
  | .lss => Q (.bool (decide (a < b)))
  | .leq => Q (.bool (!decide (b < a)))
  | .gtr => Q (.bool (decide (b < a)))
  | .geq => Q (.bool (!decide (a < b)))
  | _ => False
def eqP (op:BinOp) (e:Bool) (Q:AVal→Prop):Prop:=match op with
  | .eql => Q (.bool e)
  | .neq => Q (.bool (!e))
  | _ => False
def binP (op:BinOp) (k:EK) (sh:Option (List SK)) (x y:AVal) (Q:AVal→Prop):Prop:=match x,y with
  | .int j a,.int i b => Z1b j = Z1b i∧intP op j a b Q
  | .bool a,.bool b => Z4m k .bool = true∧eqP op (a == b) Q
  | .str a,.str b => match op with
    | .eql => Q (.bool (a == b))
    | .neq => Q (.bool (!(a == b)))
    | _ => False
  | .nilPtr,.nilPtr => Z4m k .ptr = true∧eqP op true Q
  | .ptr _ _,.nilPtr => Z4m k .ptr = true∧eqP op false Q
  | .nilSlice,.nilSlice => Z4m k .slc = true∧eqP op true Q
  | .slice _ _ _ _,.nilSlice => Z4m k .slc = true∧eqP op false Q
  | .agg a,y => Z17 sh fun ks => Z77 (some y) fun b => a.length = ks.length∧b.length = ks.length∧Z10 ks a b (fun _ => true) = true∧eqP op (Z10 ks a b fun e => e) Q
  | _,_ => False
def Zjd (i:Bool × List SK × AVal) (key:AVal) (es:List MapE) (F:Option (Nat × AVal)→Prop):Prop :=
  ∃ r,(Z1r i.1 i.2.1 key fun c => Z2q i.1 i.2.1 c es 0 fun x => hold (x = r)) = true∧F r
def srcP (es:Nat) (x:AVal) (s:St) (F:List AVal→Nat→Prop):Prop:=match x with
  | .str l => es = 1∧F (l.map fun c => .int .u8 (c.toNat:Int)) l.length
  | .nilSlice => F [] 0
  | .slice b off n _ => if n = 0 then F [] 0 else Z17 (s.cells b) fun cs => off + n * es ≤ cs.length∧F ((cs.drop off).take (n * es)) n
  | _ => False
def Z5l (es eb:Nat) (cs:List AVal) (need:Nat) (s:St) (Q:AVal→St→Prop):Prop:=need * eb ≤ Z0l∧Q (.slice s.next 0 need (.opn es)) (s.alloc (.cells cs false))
def appP (e:Nat × Nat) (x:AVal) (new:List AVal) (n:Nat) (s:St) (Q:AVal→St→Prop):Prop:=match x with
  | .nilSlice => if n = 0 then Q .nilSlice s else Z5l e.1 e.2 new n s Q
  | .slice b off len (.lim c) => if n = 0 then len ≤ c∧Q (.slice b off len (.lim c)) s else
    if len + n ≤ c then Z17 (s.own b) fun cs => off + len * e.1 + new.length ≤ cs.length∧Q (.slice b off (len + n) (.lim c)) (s.put b (.cells (lay cs (off + len * e.1) new) false))
    else if len = 0 then Z5l e.1 e.2 new n s Q
    else Z17 (s.cells b) fun cs => off + len * e.1 ≤ cs.length∧Z5l e.1 e.2 ((cs.drop off).take (len * e.1) ++ new) (len + n) s Q
  | .slice b off len (.opn es) => if n = 0 then Q (.slice b off len (.opn es)) s else es = e.1∧Z17 (s.own b) fun cs =>
    if len = 0 then Z5l e.1 e.2 new n (s.put b .dead) Q
    else if off + (len + n) * e.1 ≤ cs.length then off + len * e.1 + new.length ≤ cs.length∧Q (.slice b off (len + n) (.opn e.1)) (s.put b (.cells (lay cs (off + len * e.1) new) false))
    else off + len * e.1 ≤ cs.length∧Z5l e.1 e.2 ((cs.drop off).take (len * e.1) ++ new) (len + n) (s.put b .dead) Q
  | _ => False
section
variable (P:Program)
def CallR (f:FuncId) (args:List AVal) (s:St) (v:AVal) (s':St):Prop:=∃ n0,∀ n,n0 ≤ n→∀ K:VK,K v s' = true→Z6n P (exec P n) f args s K = true
def Z0e (f:FuncId) (args:List AVal) (s:St) (Q:AVal→St→Prop):Prop:=∃ v s',CallR P f args s v s'∧Q v s'
def Z39 (fv:AVal) (args:List AVal) (s:St) (Q:AVal→St→Prop):Prop:=∃ v s',(∃ n0,∀ n,n0 ≤ n→∀ K:VK,K v s' = true→Zj2 P (exec P n) fv args s K = true)∧Q v s'
def opP (o : MOp) (γ : RO → Option AVal) (s : St) (Q : AVal → St → Prop) : Prop := match o with
  | .move x => Z1n (γ x) fun v => Q v s
  | .pick c a b => Z62 (γ c) fun t => if t = true then Z1n (γ a) fun v => Q v s else Z1n (γ b) fun v => Q v s
  | .alloc z => Z17 z fun cs => Q (.ptr s.next 0) (s.alloc (.cells cs false))
  | .box x => Z1n (γ x) fun v => (∀ t, v ≠ .tup t) ∧ Q (.ptr s.next 0) (s.alloc (.cells v.cells false))
  | .build pl z => Z17 pl fun pl => Z17 z fun zs => Z93 γ pl zs fun cs => Q (.agg cs) s
  | .buildSlice e z len ps => Z17 e fun e => Z17 z fun zs => zs.length = e.1 ∧ len * e.1 ≤ 16777216 ∧ Z93 γ (Z8i e.1 ps) (List.replicate len zs).flatten fun cs => Q (.slice s.next 0 len (.lim len)) (s.alloc (.cells cs false))
  | .load n a => Z17 n fun n => Z3k (γ a) fun b off => Z17 (s.cells b) fun cs => Z7z n cs off fun v => Q v s
  | .store n a x => Z17 n fun n => Z1n (γ x) fun v => (∀ t, v ≠ .tup t) ∧ v.cells.length = n ∧ Z3k (γ a) fun b off => Z17 (s.own b) fun cs => off + n ≤ cs.length ∧ Q (.tup []) (s.put b (.cells (lay cs off v.cells) false))
  | .nilck x => Z3k (γ x) fun b o => Q (.ptr b o) s
  | .bin op k sh x y => Z1n (γ x) fun x => Z1n (γ y) fun y => binP op k sh x y fun v => Q v s
  | .un op x => match op with
    | .not => Z62 (γ x) fun b => Q (.bool (!b)) s
    | .neg => Z30 (γ x) fun k n => Q (.int k (k.wrap (0 - n))) s
    | _ => False
  | .conv k x => match k with
    | .int k => Z30 (γ x) fun _ n => Q (.int k (k.wrap n)) s
    | .same => Z6e (γ x) fun l => Q (.str l) s
    | _ => False
  | .func f a c => Z17 f fun f => Z9i γ a fun a => Z9i γ c fun c => Q (.fn f a c) s
  | .makeMap ok => ok = true ∧ Q (.map s.next) (s.alloc (.map [] 0))
  | .makeSlice e z l c => Z17 e fun e => Z17 z fun zs => zs.length = e.1 ∧ Z30 (γ l) fun _ l => Z30 (γ c) fun _ c => 0 ≤ l ∧ l ≤ c ∧ c.toNat * e.2 ≤ Z0l ∧ c.toNat ≤ Z0l ∧
      Q (.slice s.next 0 l.toNat (.lim c.toNat)) (s.alloc (.cells (List.replicate c.toNat zs).flatten false))
  | .fieldAddr o x => Z17 o fun fo => Z3k (γ x) fun b off => Q (.ptr b (off + fo)) s
  | .field f x => Z17 f fun f => Z77 (γ x) fun l => Z7z f.2 l f.1 fun v => Q v s
  | .indexAddr k e a x i => Z30 (γ i) fun _ i => 0 ≤ i ∧ match k with
    | .slc => Z17 e fun e => Za2 (γ x) fun b off n _ => i < n ∧ Q (.ptr b (off + i.toNat * e.1)) s
    | .arr => Z17 a fun e => Z3k (γ x) fun b off => i < e.1 ∧ Q (.ptr b (off + i.toNat * e.2)) s
    | _ => False
  | .index k e x i => Z30 (γ i) fun _ i => 0 ≤ i ∧ match k with
    | .str => Z6e (γ x) fun l => Z17 l[i.toNat]? fun c => Q (.int .u8 c.toNat) s
    | .arr => Z17 e fun e => Z77 (γ x) fun l => i < e.1 ∧ Z7z e.2.2 l (i.toNat * e.2.1) fun v => Q v s
    | _ => False
  | .lookup i ok m k => Z17 i fun info => Z1n (γ k) fun key => match γ m with
    | some (.map b) => match s.obj b with
      | some (.map es _) => Zjd info key es fun r => match r with
        | none => if ok = true then Q (.tup [info.2.2, .bool false]) s else Q info.2.2 s
        | some x => if ok = true then Q (.tup [x.2, .bool true]) s else Q x.2 s
      | _ => False
    | _ => False
  | .mapSet i m k x => Z17 i fun info => Z1n (γ k) fun key => Z1n (γ x) fun x => match γ m with
    | some (.map b) => match s.obj b with
      | some (.map es clock) => Zjd info key es fun r => match r with
        | none => Q (.tup []) (s.put b (.map (es ++ [{ key := key, val := x, born := clock }]) (clock + 1)))
        | some p => ∃ es', Z41 x key es p.1 (fun e => hold (e = es')) = true ∧ Q (.tup []) (s.put b (.map es' clock))
      | _ => False
    | _ => False
  | .extract x i => Za3 (γ x) fun l => Z17 l[i]? fun v => Q v s
  | .call f l => Z1n (γ f) fun fv => Z9i γ l fun args => Z39 P fv args s Q
  | .len e x => Z17 e fun e => match e.1 with
    | .str => Z6e (γ x) fun l => Q (.int .i64 l.length) s
    | .slc => Z1n (γ x) fun v => Z17 (Z1q v) fun n => Q (.int .i64 n) s
    | .arr => Z1n (γ x) fun _ => Q (.int .i64 e.2) s
    | .map => match γ x with
      | some (.map b) => match s.obj b with
        | some (.map es _) => Q (.int .i64 es.length) s
        | _ => False
      | _ => False
    | _ => False
  | .append e x y => Z17 e fun e => Z1n (γ x) fun x => Z1n (γ y) fun y => srcP e.1 y s fun new n => appP e x new n s Q
  | o => ∃ v s', (∀ (rec : RecT) (K : VK), K v s' = true → mopK P rec o γ s K = true) ∧ Q v s'
def Zc8 (g:Option (Option (RO × Bool))) (γ:RO→Option AVal) (A B:Prop):Prop:=match g with
  | none => A
  | some g => Z17 g fun g => Z1n (γ g.1) fun v => match v with
    | .bool b => if b = g.2 then A else B
    | .iface _ _ => False
    | _ => B
def Z56:List (Option Pos)→List AVal→PT AVal→Option (PT AVal)
  | [],_,t => some t
  | _ :: _,[],_ => none
  | none :: r,_ :: l,t => Z56 r l t
  | some p :: r,v :: l,t => Z56 r l (PT.set p v t)
def Z3i (cm:List (Option Pos)):List MItem→List AVal→PT AVal→St→(PT AVal→St→Prop)→Prop
  | [],locals,tree,s,Q => Z17 (Z56 cm locals tree) fun t => Q t s
  | .run g o :: r,locals,tree,s,Q => Zc8 g (getO tree locals) (opP P o (getO tree locals) s fun v s => Z3i cm r (v :: locals) tree s Q) (Z3i cm r (.tup [] :: locals) tree s Q)
  | .chk g o u :: r,locals,tree,s,Q => Zc8 g (getO tree locals) (opP P o (getO tree locals) s fun v _ => Z17 u fun x => Z1n (getO tree locals x) fun u => v = u∧Z27 8 v v = true∧Z3i cm r locals tree s Q) (Z3i cm r locals tree s Q)
  | .fresh :: r,locals,tree,s,Q => s.obj s.next = none∧Z3i cm r locals tree s Q
  | .peek o :: r,locals,tree,s,Q => opP P o (getO tree locals) s (fun _ _ => True)∧Z3i cm r locals tree s Q
end
theorem Z1k {x:Option AVal} {F:AVal→Prop} (h:Z1n x F):∃ v,x = some v∧F v:=by cases x with
  | none => exact h.elim
  | some v => exact ⟨v,rfl,h⟩
theorem Z0n {α:Type} {x:Option α} {F:α→Prop} (h:Z17 x F):∃ v,x = some v∧F v:=by cases x with
  | none => exact h.elim
  | some v => exact ⟨v,rfl,h⟩
theorem Z58 {x:Option AVal} {F:IntKind→Int→Prop} (h:Z30 x F):∃ k n,x = some (.int k n)∧F k n:=by
  unfold Z30 at h; split at h
  · exact ⟨_,_,rfl,h⟩
  · exact h.elim
theorem Z9r {x:Option AVal} {F:Bool→Prop} (h:Z62 x F):∃ b,x = some (.bool b)∧F b:=by
  unfold Z62 at h; split at h
  · exact ⟨_,rfl,h⟩
  · exact h.elim
theorem Zb2 {x:Option AVal} {F:List UInt8→Prop} (h:Z6e x F):∃ b,x = some (.str b)∧F b:=by
  unfold Z6e at h; split at h
  · exact ⟨_,rfl,h⟩
  · exact h.elim
theorem Z59 {x:Option AVal} {F:Pos→Nat→Prop} (h:Z3k x F):∃ b o,x = some (.ptr b o)∧F b o:=by
  unfold Z3k at h; split at h
  · exact ⟨_,_,rfl,h⟩
  · exact h.elim
theorem Zmf {x:Option AVal} {F:Pos→Nat→Nat→Cap→Prop} (h:Za2 x F):∃ b o n c,x = some (.slice b o n c)∧F b o n c:=by
  unfold Za2 at h; split at h
  · exact ⟨_,_,_,_,rfl,h⟩
  · exact h.elim
theorem Zb1 {x:Option AVal} {F:List AVal→Prop} (h:Z77 x F):∃ b,x = some (.agg b)∧F b:=by
  unfold Z77 at h; split at h
  · exact ⟨_,rfl,h⟩
  · exact h.elim
theorem Zmg {x:Option AVal} {F:List AVal→Prop} (h:Za3 x F):∃ b,x = some (.tup b)∧F b:=by
  unfold Za3 at h; split at h
  · exact ⟨_,rfl,h⟩
  · exact h.elim
theorem Zba {n:Option Nat} {cs:List AVal} {o:Nat} {F:AVal→Prop} (h:Z7z n cs o F):∃ v,F v∧∀ k:AVal→Bool,k v = true→Z7y n cs o k = true:=by
  cases n with
  | none =>
    obtain ⟨v,e,h⟩:=Z0n h
    exact ⟨v,h,fun k hk => Z4t.2 ⟨v,e,hk⟩⟩
  | some n => exact ⟨_,h.2,fun k hk => Z2y.2 ⟨h.1,hk⟩⟩
theorem Zbb {γ:RO→Option AVal}:∀ {l:List RO} {F:List AVal→Prop},Z9i γ l F→∃ vs,F vs∧∀ k:List AVal→Bool,k vs = true→Zas γ l k = true
  | [],F,h => ⟨[],h,fun k hk => hk⟩
  | x :: l,F,h => by
    obtain ⟨v,e,h⟩:=Z1k h
    obtain ⟨vs,h1,h2⟩:=Zbb h
    exact ⟨v :: vs,h1,fun k hk => Z01.2 ⟨v,e,h2 (fun r => k (v :: r)) hk⟩⟩
theorem Zeb {γ:RO→Option AVal}:∀ {l:List (Nat × Nat × RO)} {cs:List AVal} {F:List AVal→Prop},Z93 γ l cs F→∃ vs,F vs∧∀ k:List AVal→Bool,k vs = true→Z9b γ l cs k = true
  | [],cs,F,h => ⟨cs,h,fun k hk => hk⟩
  | (o,n,x) :: l,cs,F,h => by
    obtain ⟨v,e,h0,h1,h2,h3⟩:=Z1k h
    obtain ⟨vs,h4,h5⟩:=Zeb h3
    refine ⟨vs,h4,fun k hk => ?_⟩
    show (optK (γ x) fun v => Z6r v (v.Z2h fun vs => lenK vs 0 fun m => ifK (Nat.beq m n) (Z3s vs cs o fun cs => Z9b γ l cs k) (fail 29))) = true
    refine Z01.2 ⟨v,e,Z4n.2 ⟨h0,?_⟩⟩
    rw [Z4l,Z0s]
    refine Z03.2 (.inl ⟨by simp [h1],Z44.2 ⟨by omega,h5 k hk⟩⟩)
theorem Z5a {k:IntKind} {n:Int} {s:St} {K:VK} (h:K (.int k n) s = true):AM.intV k n s K = true:=by
  unfold AM.intV
  rw [Zkm]
  exact h
theorem Z4x {b:Bool} {s:St} {K:VK} (h:K (.bool b) s = true):AM.Z21 b s K = true:=by
  cases b <;> exact h
theorem Zul {op:BinOp} {k:IntKind} {a b:Int} {Q:AVal→Prop} (h:intP op k a b Q) (s:St):∃ v,Q v∧∀ K:VK,K v s = true→Z6w op k a b s K = true:=by
  cases op with
  | add => exact ⟨_,h,fun K hK => Z5a (by rw [Z63]; exact hK)⟩
  | sub => exact ⟨_,h,fun K hK => Z5a (by rw [Z63]; exact hK)⟩
  | mul => exact ⟨_,h,fun K hK => Z5a (by rw [Z63]; exact hK)⟩
  | quo => exact ⟨_,h.2,fun K hK => Z03.2 (.inr ⟨by rw [Z6v]; simpa using h.1,Z5a hK⟩)⟩
  | rem => exact ⟨_,h.2,fun K hK => Z03.2 (.inr ⟨by rw [Z6v]; simpa using h.1,Z5a hK⟩)⟩
  | and => exact ⟨_,h,fun K hK => Z5a hK⟩
  | or => exact ⟨_,h,fun K hK => Z5a hK⟩
  | xor => exact ⟨_,h,fun K hK => Z5a hK⟩
  | shl => exact ⟨_,h.2,fun K hK => Z03.2 (.inr ⟨by rw [Z40]; simpa using h.1,Z5a hK⟩)⟩
  | shr => exact ⟨_,h.2,fun K hK => Z03.2 (.inr ⟨by rw [Z40]; simpa using h.1,Z5a hK⟩)⟩
  | eql => exact ⟨_,h,fun K hK => Z4x (by rw [Z6v]; exact hK)⟩
  | neq => exact ⟨_,h,fun K hK => Z4x (by rw [Z4d,Z6v]; exact hK)⟩
  | lss => exact ⟨_,h,fun K hK => Z4x (by rw [Z40]; exact hK)⟩
  | leq => exact ⟨_,h,fun K hK => Z4x (by rw [Z4d,Z40]; exact hK)⟩
  | gtr => exact ⟨_,h,fun K hK => Z4x (by rw [Z40]; exact hK)⟩
  | geq => exact ⟨_,h,fun K hK => Z4x (by rw [Z4d,Z40]; exact hK)⟩
  | _ => exact h.elim
theorem Z9q {op:BinOp} {e:Bool} {Q:AVal→Prop} (h:eqP op e Q) (s:St):∃ v,Q v∧∀ K:VK,K v s = true→Z3m op e s K = true:=by
  cases op with
  | eql => exact ⟨_,h,fun K hK => Z4x hK⟩
  | neq => exact ⟨_,h,fun K hK => Z4x (by rw [Z4d]; exact hK)⟩
  | _ => exact h.elim
theorem Zpj {k:SK} {a b:AVal} {K:Bool→Bool} (h:AM.Z6u k a b K = true):∃ e,∀ K':Bool→Bool,AM.Z6u k a b K' = K' e:=by
  cases k with
  | bool =>
    obtain ⟨x,rfl,h1⟩:=AVal.Z1u.1 h
    obtain ⟨y,rfl,h2⟩:=AVal.Z1u.1 h1
    exact ⟨_,fun K' => rfl⟩
  | int =>
    obtain ⟨j,x,rfl,h1⟩:=AVal.Z0w.1 h
    obtain ⟨i,y,rfl,h2⟩:=AVal.Z0w.1 h1
    rcases Z03.1 h2 with ⟨h3,_⟩ | ⟨_,h3⟩
    · refine ⟨eqI x y,fun K' => ?_⟩
      show ifK (Nat.beq (Z1b j) (Z1b i)) (K' (eqI x y)) (fail 8) = _
      rw [h3]; rfl
    · cases h3
  | str =>
    obtain ⟨x,rfl,h1⟩:=AVal.Z28.1 h
    obtain ⟨y,rfl,h2⟩:=AVal.Z28.1 h1
    exact ⟨_,fun K' => rfl⟩
theorem Zc5:∀ {ks:List SK} {a b:List AVal} {K:Bool→Bool},AM.Z10 ks a b K = true→∃ e,∀ K':Bool→Bool,AM.Z10 ks a b K' = K' e
  | [],a,b,K,h => ⟨true,fun K' => rfl⟩
  | k :: ks,[],b,K,h => by cases h
  | k :: ks,x :: a,[],K,h => by cases h
  | k :: ks,x :: a,y :: b,K,h => by
    have h:AM.Z6u k x y (fun e => ifK e (AM.Z10 ks a b K) (K false)) = true:=h
    obtain ⟨e,he⟩:=Zpj h
    rw [he] at h
    have hr:∀ K':Bool→Bool,AM.Z10 (k :: ks) (x :: a) (y :: b) K' = ifK e (AM.Z10 ks a b K') (K' false):=fun K' => he _
    cases e with
    | true =>
      obtain ⟨e',he'⟩:=Zc5 (show AM.Z10 ks a b K = true from h)
      exact ⟨e',fun K' => (hr K').trans (he' K')⟩
    | false => exact ⟨false,hr⟩
theorem Zpk {ks:List SK} {a b:List AVal} (h:AM.Z10 ks a b (fun _ => true) = true) (k:Bool→Bool) (hk:k (AM.Z10 ks a b fun e => e) = true):AM.Z10 ks a b k = true:=by
  obtain ⟨e,he⟩:=Zc5 h
  rw [he] at hk
  rw [he]; exact hk
theorem Zuk {op:BinOp} {k:EK} {sh:Option (List SK)} {x y:AVal} {Q:AVal→Prop} (h:binP op k sh x y Q) (s:St):∃ v,Q v∧∀ K:VK,K v s = true→Zsf op k sh (some x) (some y) s K = true:=by
  unfold binP at h
  split at h
  · obtain ⟨h1,h2⟩:=h
    obtain ⟨v,h3,h4⟩:=Zul h2 s
    refine ⟨v,h3,fun K hK => ?_⟩
    show ifK (Zbt op) _ (ifK (Nat.beq (Z1b _) (Z1b _)) _ _) = true
    cases Zbt op with
    | true => exact h4 K hK
    | false => exact (show ifK (Nat.beq (Z1b _) (Z1b _)) _ _ = true from Z03.2 (.inl ⟨by rw [h1]; exact Nat.beq_refl _,h4 K hK⟩))
  · obtain ⟨h1,h2⟩:=h
    obtain ⟨v,h3,h4⟩:=Z9q h2 s
    refine ⟨v,h3,fun K hK => Z03.2 (.inl ⟨h1,?_⟩)⟩
    rw [Z7g]
    exact h4 K hK
  · rename_i a b
    cases op with
    | eql => exact ⟨_,h,fun K hK => Z4x (by rw [Z5j]; exact hK)⟩
    | neq => exact ⟨_,h,fun K hK => Z4x (by rw [Z4d,Z5j]; exact hK)⟩
    | _ => exact h.elim
  · obtain ⟨h1,h2⟩:=h
    obtain ⟨v,h3,h4⟩:=Z9q h2 s
    refine ⟨v,h3,fun K hK => ?_⟩
    show ifK (Z4m k .ptr) _ _ = true
    exact Z03.2 (.inl ⟨h1,h4 K hK⟩)
  · obtain ⟨h1,h2⟩:=h
    obtain ⟨v,h3,h4⟩:=Z9q h2 s
    refine ⟨v,h3,fun K hK => ?_⟩
    show ifK (Z4m k .ptr) _ _ = true
    exact Z03.2 (.inl ⟨h1,h4 K hK⟩)
  · obtain ⟨h1,h2⟩:=h
    obtain ⟨v,h3,h4⟩:=Z9q h2 s
    refine ⟨v,h3,fun K hK => ?_⟩
    show ifK (Z4m k .slc) _ _ = true
    exact Z03.2 (.inl ⟨h1,h4 K hK⟩)
  · obtain ⟨h1,h2⟩:=h
    obtain ⟨v,h3,h4⟩:=Z9q h2 s
    refine ⟨v,h3,fun K hK => ?_⟩
    show ifK (Z4m k .slc) _ _ = true
    exact Z03.2 (.inl ⟨h1,h4 K hK⟩)
  · rename_i a
    obtain ⟨ks,hks,h⟩:=Z0n h
    obtain ⟨b,hb,h0,h1,h2,h3⟩:=Zb1 h
    cases hb
    obtain ⟨v,h4,h5⟩:=Z9q h3 s
    refine ⟨v,h4,fun K hK => ?_⟩
    show Zut sh op a (.agg b) s K = true
    refine Z01.2 ⟨ks,hks,AVal.Z5f.2 ⟨b,rfl,?_⟩⟩
    rw [Z0s,Z0s,Z0s]
    refine Z03.2 (.inl ⟨by simp [h0],Z03.2 (.inl ⟨by simp [h1],Zpk h2 (fun e => Z3m op e s K) (h5 K hK)⟩)⟩)
  · exact h.elim
theorem Z8e {ag:Bool} {ks:List SK} {v:AVal} {K:List AVal→Bool} (h:Z1r ag ks v K = true):∃ c,∀ K':List AVal→Bool,Z1r ag ks v K' = K' c:=by
  cases ag with
  | false => exact ⟨[v],fun K' => rfl⟩
  | true =>
    obtain ⟨l,rfl,h1⟩:=AVal.Z5f.1 (show v.aggK _ = true from h)
    rw [Z0s,Z0s] at h1
    rcases Z03.1 h1 with ⟨h2,_⟩ | ⟨_,h2⟩
    · refine ⟨l,fun K' => ?_⟩
      show lenK l 0 (fun n => lenK ks 0 fun m => ifK (Nat.beq n m) (K' l) (fail 54)) = K' l
      rw [Z0s,Z0s,h2]; rfl
    · cases h2
theorem Zja {ag:Bool} {ks:List SK} {key:List AVal}:∀ {es:List MapE} {i:Nat} {K:Option (Nat × AVal)→Bool},Z2q ag ks key es i K = true→∃ r,∀ K':Option (Nat × AVal)→Bool,Z2q ag ks key es i K' = K' r
  | [],i,K,h => ⟨none,fun K' => rfl⟩
  | e :: es,i,K,h => by
    have h:Z1r ag ks e.key (fun c => Z10 ks key c fun b => ifK b (K (some (i,e.val))) (Z2q ag ks key es (Nat.succ i) K)) = true:=h
    obtain ⟨c,hc⟩:=Z8e h
    rw [hc] at h
    obtain ⟨b,hb⟩:=Zc5 h
    rw [hb] at h
    have hr:∀ K':Option (Nat × AVal)→Bool,Z2q ag ks key (e :: es) i K' = ifK b (K' (some (i,e.val))) (Z2q ag ks key es (Nat.succ i) K'):=fun K' => by
      show (Z1r ag ks e.key fun c => Z10 ks key c fun b => ifK b (K' (some (i,e.val))) (Z2q ag ks key es (Nat.succ i) K')) = _
      rw [hc,hb]
    cases b with
    | true => exact ⟨some (i,e.val),hr⟩
    | false =>
      obtain ⟨r,h2⟩:=Zja (show Z2q ag ks key es (Nat.succ i) K = true from h)
      exact ⟨r,fun K' => (hr K').trans (h2 K')⟩
theorem Zfn {ag:Bool} {ks:List SK} {v:AVal} {es:List MapE} {K K':Option (Nat × AVal)→Bool} (h:(Z1r ag ks v fun c => Z2q ag ks c es 0 K) = true) (hK:∀ x,K x = true→K' x = true) :
    (Z1r ag ks v fun c => Z2q ag ks c es 0 K') = true:=by
  obtain ⟨c,hc⟩:=Z8e h
  rw [hc] at h ⊢
  obtain ⟨r,hr⟩:=Zja h
  rw [hr] at h ⊢
  exact hK r h
theorem Zgc {v key:AVal}:∀ {es:List MapE} {i:Nat} {K K':List MapE→Bool},Z41 v key es i K = true→(∀ x,K x = true→K' x = true)→Z41 v key es i K' = true
  | [],i,K,K',h,_ => by cases h
  | e :: es,0,K,K',h,hK => hK _ h
  | e :: es,i + 1,K,K',h,hK => Zgc (es:=es) (i:=i) (K:=fun r => K (e :: r)) (K':=fun r => K' (e :: r)) h fun x hx => hK _ hx
theorem Zcp {ag:Bool} {ks:List SK} {key:AVal} {es:List MapE} {cl:Nat} {b:Pos} {s:St} {F:Option (Nat × AVal)→Bool} (ho:s.obj b = some (.map es cl)) (h:(Z1r ag ks key fun c => Z2q ag ks c es 0 F) = true) :
    (Z1r ag ks key fun c => (AVal.map b).mapK fun b => mapK b s fun es _ => Z2q ag ks c es 0 F) = true:=by
  obtain ⟨c,hc⟩:=Z8e h
  obtain ⟨c',hc'⟩:∃ c',∀ K':List AVal→Bool,Z1r ag ks key K' = K' c':=⟨c,hc⟩
  rw [hc] at h
  rw [hc]
  exact Z49.2 ⟨es,cl,ho,h⟩
theorem Zlp {ag:Bool} {ks:List SK} {key:AVal} {es:List MapE} {cl:Nat} {b:Pos} {s:St} {F:Pos→List MapE→Nat→Option (Nat × AVal)→Bool} (ho:s.obj b = some (.map es cl)) (h:(Z1r ag ks key fun c => Z2q ag ks c es 0 (F b es cl)) = true) :
    (Z1r ag ks key fun c => (AVal.map b).mapK fun b => mapK b s fun es clock => Z2q ag ks c es 0 (F b es clock)) = true:=by
  obtain ⟨c,hc⟩:=Z8e h
  rw [hc] at h
  rw [hc]
  exact Z49.2 ⟨es,cl,ho,h⟩
theorem Zrm {a b:Nat} (h:¬ a = b):Nat.beq a b = false:=by
  cases e:Nat.beq a b with
  | false => rfl
  | true => exact (h (Nat.eq_of_beq_eq_true e)).elim
theorem Zum {es:Nat} {x:AVal} {s:St} {F:List AVal→Nat→Prop} (h:srcP es x s F):∃ l n,F l n∧∀ K:List AVal→Nat→Bool,K l n = true→srcK es x s K = true:=by
  unfold srcP at h
  split at h
  · rename_i l
    refine ⟨_,_,h.2,fun K hK => ?_⟩
    show ifK (Nat.beq es 1) (lenK l 0 fun n => Zaj l fun cs => K cs n) (fail 31) = true
    refine Z03.2 (.inl ⟨by rw [h.1]; rfl,?_⟩)
    rw [Z0s,Zf9,Nat.zero_add]
    exact hK
  · exact ⟨_,_,h,fun K hK => hK⟩
  · rename_i b off n c
    split at h
    · rename_i hn
      subst hn
      exact ⟨_,_,h,fun K hK => hK⟩
    · rename_i hn
      obtain ⟨cs,hc,h1,h2⟩:=Z0n h
      obtain ⟨ro,ho⟩:=St.Z7k hc
      refine ⟨_,_,h2,fun K hK => ?_⟩
      show ifK (Nat.beq n 0) (K [] 0) (Z2h b s fun cs _ => segK cs off (Nat.mul n es) fun l => K l n) = true
      exact Z03.2 (.inr ⟨Zrm hn,Z1j.2 ⟨cs,ro,ho,Z2y.2 ⟨h1,hK⟩⟩⟩)
  · exact h.elim
noncomputable def Zbq (e:Nat × Nat) (x:AVal) (new:List AVal) (n:Nat) (s:St) (K:VK):Bool :=
  @AVal.rec (fun _ => Bool) (fun _ => Bool) (fun _ => false) (fun _ _ => false) (fun _ => false) (fun _ _ => false) false
    (fun b off len cap => natK (Nat.add len n) fun need =>
      @Cap.rec (fun _ => Bool) (fun c => ifK (Nat.beq n 0) (ifK (Nat.ble len c) (K (.slice b off len (.lim c)) s) (fail 34)) (Z5w e.1 e.2 b off len c need new s K))
        (fun es => ifK (Nat.beq n 0) (K (.slice b off len (.opn es)) s) (ifK (Nat.beq es e.1) (Z9k e.1 e.2 b off len need new s K) (fail 34))) cap)
    (ifK (Nat.beq n 0) (K .nilSlice s) (Z51 n e.2 (Z4c e.1 new n s K)))
    (fun _ => false) false (fun _ _ _ _ _ => false) (fun _ => false) false (fun _ _ _ => false) false (fun _ _ => false) (fun _ _ => false) false (fun _ _ _ _ => false) x
theorem beq_false {a b:Nat} (h:¬ a = b):Nat.beq a b = false:=by
  cases e:Nat.beq a b with
  | false => rfl
  | true => exact (h (Nat.eq_of_beq_eq_true e)).elim
theorem Zf8 {a b:Nat} (h:¬ a ≤ b):Nat.ble a b = false:=by
  cases e:Nat.ble a b with
  | false => rfl
  | true => exact (h (Nat.le_of_ble_eq_true e)).elim
theorem Zh7 {e:Nat × Nat} {b:Pos} {off len c:Nat} {new:List AVal} {n:Nat} {s:St} {K:VK}:Zbq e (.slice b off len (.lim c)) new n s K =
    ifK (Nat.beq n 0) (ifK (Nat.ble len c) (K (.slice b off len (.lim c)) s) (fail 34)) (Z5w e.1 e.2 b off len c (len + n) new s K) :=
  Z1f (n:=len + n) (K:=fun need => ifK (Nat.beq n 0) (ifK (Nat.ble len c) (K (.slice b off len (.lim c)) s) (fail 34)) (Z5w e.1 e.2 b off len c need new s K))
theorem Zh8 {e:Nat × Nat} {b:Pos} {off len es:Nat} {new:List AVal} {n:Nat} {s:St} {K:VK}:Zbq e (.slice b off len (.opn es)) new n s K =
    ifK (Nat.beq n 0) (K (.slice b off len (.opn es)) s) (ifK (Nat.beq es e.1) (Z9k e.1 e.2 b off len (len + n) new s K) (fail 34)) :=
  Z1f (n:=len + n) (K:=fun need => ifK (Nat.beq n 0) (K (.slice b off len (.opn es)) s) (ifK (Nat.beq es e.1) (Z9k e.1 e.2 b off len need new s K) (fail 34)))
theorem Z99 {es eb need:Nat} {cs:List AVal} {s:St} {Q:AVal→St→Prop} (h:Z5l es eb cs need s Q):∃ v s',Q v s'∧∀ K:VK,K v s' = true→Z51 need eb (Z4c es cs need s K) = true:=by
  refine ⟨_,_,h.2,fun K hK => Z03.2 (.inl ⟨Nat.ble_eq_true_of_le h.1,?_⟩)⟩
  unfold Z4c
  rw [Z22]
  exact hK
theorem Zuj {e:Nat × Nat} {x:AVal} {new:List AVal} {n:Nat} {s:St} {Q:AVal→St→Prop} (h:appP e x new n s Q):∃ v s',Q v s'∧∀ K:VK,K v s' = true→Zbq e x new n s K = true:=by
  unfold appP at h
  split at h
  · split at h
    · rename_i hn
      subst hn
      exact ⟨_,_,h,fun K hK => hK⟩
    · rename_i hn
      obtain ⟨v,s',h1,h2⟩:=Z99 h
      exact ⟨v,s',h1,fun K hK => Z03.2 (.inr ⟨beq_false hn,h2 K hK⟩)⟩
  · rename_i b off len c
    split at h
    · rename_i hn
      subst hn
      refine ⟨_,_,h.2,fun K hK => ?_⟩
      rw [Zh7]
      exact Z03.2 (.inl ⟨rfl,Z03.2 (.inl ⟨Nat.ble_eq_true_of_le h.1,hK⟩)⟩)
    · rename_i hn
      have hgo:∀ (v:AVal) (s':St),Q v s'→(∀ K:VK,K v s' = true→Z5w e.1 e.2 b off len c (len + n) new s K = true)→∃ v s',Q v s'∧∀ K:VK,K v s' = true→Zbq e (.slice b off len (.lim c)) new n s K = true:=by
        intro v s' h1 h2
        refine ⟨v,s',h1,fun K hK => ?_⟩
        rw [Zh7]
        exact Z03.2 (.inr ⟨beq_false hn,h2 K hK⟩)
      split at h
      · rename_i hle
        obtain ⟨cs,hc,h1,h2⟩:=Z0n h
        refine hgo _ _ h2 fun K hK => Z03.2 (.inl ⟨Nat.ble_eq_true_of_le hle,?_⟩)
        refine Z1j.2 ⟨cs,false,St.Z2e hc,?_⟩
        refine Z03.2 (.inr ⟨rfl,Z44.2 ⟨h1,?_⟩⟩)
        rw [Z2b]
        exact hK
      · rename_i hle
        split at h
        · rename_i hl
          obtain ⟨v,s',h1,h2⟩:=Z99 h
          refine hgo v s' h1 fun K hK => Z03.2 (.inr ⟨Zf8 hle,?_⟩)
          have h3:=h2 K hK
          subst hl
          rw [Nat.zero_add]
          unfold Z51 at h3 ⊢
          rcases Z03.1 h3 with ⟨h4,h5⟩ | ⟨_,h5⟩
          · exact Z03.2 (.inl ⟨h4,Z03.2 (.inl ⟨rfl,h5⟩)⟩)
          · cases h5
        · rename_i hl
          obtain ⟨cs,hc,h0,h⟩:=Z0n h
          obtain ⟨ro,ho⟩:=St.Z7k hc
          obtain ⟨v,s',h1,h2⟩:=Z99 h
          refine hgo v s' h1 fun K hK => Z03.2 (.inr ⟨Zf8 hle,?_⟩)
          have h3:=h2 K hK
          unfold Z51 at h3 ⊢
          rcases Z03.1 h3 with ⟨h4,h5⟩ | ⟨_,h5⟩
          · refine Z03.2 (.inl ⟨h4,Z03.2 (.inr ⟨beq_false hl,Z1j.2 ⟨cs,ro,ho,Z2y.2 ⟨h0,?_⟩⟩⟩)⟩)
            rw [Z3h]
            exact h5
          · cases h5
  · rename_i b off len es
    split at h
    · rename_i hn
      subst hn
      refine ⟨_,_,h,fun K hK => ?_⟩
      rw [Zh8]
      exact Z03.2 (.inl ⟨rfl,hK⟩)
    · rename_i hn
      obtain ⟨rfl,h⟩:=h
      obtain ⟨cs,hc,h⟩:=Z0n h
      have hgo:∀ (v:AVal) (s':St),Q v s'→(∀ K:VK,K v s' = true→(ifK (Nat.ble 1 len) (ifK (Nat.ble (Nat.add off (Nat.mul (len + n) e.1)) cs.length)
        (Z3s new cs (Nat.add off (Nat.mul len e.1)) fun cs => putK b (.cells cs false) s fun s => K (.slice b off (len + n) (.opn e.1)) s)
        (Z51 (len + n) e.2 (segK cs off (Nat.mul len e.1) fun old => appK old new fun cs => putK b .dead s fun s => Z4c e.1 cs (len + n) s K)))
      (Z51 (len + n) e.2 (putK b .dead s fun s => Z4c e.1 new (len + n) s K))) = true)→∃ v s',Q v s'∧∀ K:VK,K v s' = true→Zbq e (.slice b off len (.opn e.1)) new n s K = true:=by
        intro v s' h1 h2
        refine ⟨v,s',h1,fun K hK => ?_⟩
        rw [Zh8]
        refine Z03.2 (.inr ⟨beq_false hn,Z03.2 (.inl ⟨Nat.beq_refl _,?_⟩)⟩)
        refine Z1j.2 ⟨cs,false,St.Z2e hc,?_⟩
        refine Z03.2 (.inr ⟨rfl,?_⟩)
        rw [Z0s,Nat.zero_add]
        exact h2 K hK
      split at h
      · rename_i hl
        obtain ⟨v,s',h1,h2⟩:=Z99 h
        refine hgo v s' h1 fun K hK => Z03.2 (.inr ⟨by rw [hl]; rfl,?_⟩)
        have h3:=h2 K hK
        subst hl
        rw [Nat.zero_add]
        unfold Z51 at h3 ⊢
        rcases Z03.1 h3 with ⟨h4,h5⟩ | ⟨_,h5⟩
        · refine Z03.2 (.inl ⟨h4,?_⟩)
          rw [Z2b]
          exact h5
        · cases h5
      · rename_i hl
        split at h
        · rename_i hle
          refine hgo _ _ h.2 fun K hK => Z03.2 (.inl ⟨Nat.ble_eq_true_of_le (by omega),Z03.2 (.inl ⟨Nat.ble_eq_true_of_le hle,Z44.2 ⟨h.1,?_⟩⟩)⟩)
          rw [Z2b]
          exact hK
        · rename_i hle
          obtain ⟨v,s',h1,h2⟩:=Z99 h.2
          refine hgo v s' h1 fun K hK => Z03.2 (.inl ⟨Nat.ble_eq_true_of_le (by omega),Z03.2 (.inr ⟨Zf8 hle,?_⟩)⟩)
          have h3:=h2 K hK
          unfold Z51 at h3 ⊢
          rcases Z03.1 h3 with ⟨h4,h5⟩ | ⟨_,h5⟩
          · refine Z03.2 (.inl ⟨h4,Z2y.2 ⟨h.1,?_⟩⟩)
            rw [Z3h,Z2b]
            exact h5
          · cases h5
  · exact h.elim
theorem Zg2 {P:Program} {o:MOp} {γ:RO→Option AVal} {s:St} {Q:AVal→St→Prop} (h:opP P o γ s Q):∃ v s',Q v s'∧∃ n0,∀ n,n0 ≤ n→∀ K:VK,K v s' = true→mopK P (exec P n) o γ s K = true:=by
  have plain:∀ v s',Q v s'→(∀ rec (K:VK),K v s' = true→mopK P rec o γ s K = true)→∃ v s',Q v s'∧∃ n0,∀ n,n0 ≤ n→∀ K:VK,K v s' = true→mopK P (exec P n) o γ s K = true :=
    fun v s' h1 h2 => ⟨v,s',h1,0,fun n _ K hK => h2 _ K hK⟩
  cases o with
  | move x =>
    obtain ⟨v,e,h⟩:=Z1k h
    exact plain v s h fun rec K hK => Z01.2 ⟨v,e,hK⟩
  | pick c a b =>
    obtain ⟨t,e,h⟩:=Z9r h
    split at h
    · rename_i ht
      subst ht
      obtain ⟨v,e1,h⟩:=Z1k h
      exact plain v s h fun rec K hK => Z01.2 ⟨_,e,AVal.Z1u.2 ⟨true,rfl,Z01.2 ⟨v,e1,hK⟩⟩⟩
    · rename_i ht
      have ht:t = false:=by simpa using ht
      subst ht
      obtain ⟨v,e1,h⟩:=Z1k h
      exact plain v s h fun rec K hK => Z01.2 ⟨_,e,AVal.Z1u.2 ⟨false,rfl,Z01.2 ⟨v,e1,hK⟩⟩⟩
  | alloc z =>
    obtain ⟨cs,e,h⟩:=Z0n h
    exact plain _ _ h fun rec K hK => Z01.2 ⟨cs,e,by unfold Z4s; rw [Z22]; exact hK⟩
  | box x =>
    obtain ⟨v,e,h0,h⟩:=Z1k h
    exact plain _ _ h fun rec K hK => Z01.2 ⟨v,e,Z4n.2 ⟨h0,by rw [Z4l]; unfold Z4s; rw [Z22]; exact hK⟩⟩
  | build pl z =>
    obtain ⟨pl',e,h⟩:=Z0n h
    obtain ⟨zs,e1,h⟩:=Z0n h
    obtain ⟨cs,h1,h2⟩:=Zeb h
    exact plain _ _ h1 fun rec K hK => Z01.2 ⟨pl',e,Z01.2 ⟨zs,e1,h2 (fun cs => K (.agg cs) s) hK⟩⟩
  | buildSlice e z len ps =>
    obtain ⟨e',he,h⟩:=Z0n h
    obtain ⟨zs,hz,h0,h1,h⟩:=Z0n h
    obtain ⟨cs,h2,h3⟩:=Zeb h
    refine plain _ _ h2 fun rec K hK => Z01.2 ⟨e',he,Z01.2 ⟨zs,hz,?_⟩⟩
    rw [Z0s]
    refine Z03.2 (.inl ⟨by simp [h0],Z03.2 (.inl ⟨Nat.ble_eq_true_of_le h1,?_⟩)⟩)
    rw [Z9z,List.append_nil]
    exact h3 (fun cs => Z4w (.cells cs false) s fun b s => K (.slice b 0 len (.lim len)) s) (by rw [Z22]; exact hK)
  | load n a =>
    obtain ⟨n',hn,h⟩:=Z0n h
    obtain ⟨b,off,ha,h⟩:=Z59 h
    obtain ⟨cs,hc,h⟩:=Z0n h
    obtain ⟨v,h1,h2⟩:=Zba h
    obtain ⟨ro,ho⟩:=St.Z7k hc
    exact plain v s h1 fun rec K hK => Z01.2 ⟨n',hn,Z01.2 ⟨_,ha,AVal.Z2d.2 ⟨b,off,rfl,Z1j.2 ⟨cs,ro,ho,h2 (fun v => K v s) hK⟩⟩⟩⟩
  | store n a x =>
    obtain ⟨n',hn,h⟩:=Z0n h
    obtain ⟨v,hv,h0,h1,h⟩:=Z1k h
    obtain ⟨b,off,ha,h⟩:=Z59 h
    obtain ⟨cs,hc,h2,h⟩:=Z0n h
    refine plain _ _ h fun rec K hK => Z01.2 ⟨n',hn,Z01.2 ⟨v,hv,Z4n.2 ⟨h0,?_⟩⟩⟩
    rw [Z4l,Z0s]
    refine Z03.2 (.inl ⟨by simp [h1],Z01.2 ⟨_,ha,AVal.Z2d.2 ⟨b,off,rfl,Z1j.2 ⟨cs,false,St.Z2e hc,?_⟩⟩⟩⟩)
    refine Z03.2 (.inr ⟨rfl,Z44.2 ⟨by omega,?_⟩⟩)
    rw [Z2b]
    exact hK
  | nilck x =>
    obtain ⟨b,o,e,h⟩:=Z59 h
    exact plain _ s h fun rec K hK => Z01.2 ⟨_,e,AVal.Z2d.2 ⟨b,o,rfl,hK⟩⟩
  | bin op k sh x y =>
    obtain ⟨v,e,h⟩:=Z1k h
    obtain ⟨u,e1,h⟩:=Z1k h
    obtain ⟨r,h1,h2⟩:=Zuk h s
    refine plain r s h1 fun rec K hK => ?_
    show Zsf op k sh (γ x) (γ y) s K = true
    rw [e,e1]
    exact h2 K hK
  | un op x =>
    cases op with
    | not =>
      obtain ⟨b,e,h⟩:=Z9r h
      exact plain _ s h fun rec K hK => Z01.2 ⟨_,e,AVal.Z1u.2 ⟨b,rfl,Z4x (by rw [Z4d]; exact hK)⟩⟩
    | neg =>
      obtain ⟨k,n,e,h⟩:=Z58 h
      exact plain _ s h fun rec K hK => Z01.2 ⟨_,e,AVal.Z0w.2 ⟨k,n,rfl,Z5a (by rw [Z63]; exact hK)⟩⟩
    | _ => exact h.elim
  | conv k x =>
    cases k with
    | int k =>
      obtain ⟨j,n,e,h⟩:=Z58 h
      exact plain _ s h fun rec K hK => Z01.2 ⟨_,e,AVal.Z0w.2 ⟨j,n,rfl,Z5a (by rw [Z63]; exact hK)⟩⟩
    | same =>
      obtain ⟨l,e,h⟩:=Zb2 h
      exact plain _ s h fun rec K hK => Z01.2 ⟨_,e,AVal.Z28.2 ⟨l,rfl,hK⟩⟩
    | _ => exact h.elim
  | func f a c =>
    obtain ⟨f',e,h⟩:=Z0n h
    obtain ⟨as,h1,h2⟩:=Zbb h
    obtain ⟨cs,h3,h4⟩:=Zbb h1
    exact plain _ s h3 fun rec K hK => Z01.2 ⟨f',e,h2 (fun a => Zas γ c fun c => K (.fn f' a c) s) (h4 (fun c => K (.fn f' as c) s) hK)⟩
  | makeMap ok =>
    obtain ⟨h0,h⟩:=h
    exact plain _ _ h fun rec K hK => Z03.2 (.inl ⟨h0,by rw [Z22]; exact hK⟩)
  | makeSlice e z l c =>
    obtain ⟨e',he,h⟩:=Z0n h
    obtain ⟨zs,hz,h0,h⟩:=Z0n h
    obtain ⟨j,l',hl,h⟩:=Z58 h
    obtain ⟨i,c',hc,h1,h2,h3,h4,h⟩:=Z58 h
    refine plain _ _ h fun rec K hK => Z01.2 ⟨e',he,Z01.2 ⟨zs,hz,?_⟩⟩
    rw [Z0s]
    refine Z03.2 (.inl ⟨by simp [h0],Z01.2 ⟨_,hl,Z01.2 ⟨_,hc,AVal.Z0w.2 ⟨j,l',rfl,AVal.Z0w.2 ⟨i,c',rfl,Z2w.2 ⟨l'.toNat,by omega,Z2w.2 ⟨c'.toNat,by omega,?_⟩⟩⟩⟩⟩⟩⟩)
    refine Z03.2 (.inl ⟨Nat.ble_eq_true_of_le (by omega),Z03.2 (.inl ⟨Nat.ble_eq_true_of_le h3,Z03.2 (.inl ⟨Nat.ble_eq_true_of_le h4,?_⟩)⟩)⟩)
    rw [Z9z,List.append_nil,Z22]
    exact hK
  | fieldAddr o x =>
    obtain ⟨fo,e,h⟩:=Z0n h
    obtain ⟨b,off,e1,h⟩:=Z59 h
    refine plain _ s h fun rec K hK => Z01.2 ⟨fo,e,Z01.2 ⟨_,e1,AVal.Z2d.2 ⟨b,off,rfl,?_⟩⟩⟩
    rw [Z1f]; exact hK
  | field f x =>
    obtain ⟨f',e,h⟩:=Z0n h
    obtain ⟨l,e1,h⟩:=Zb1 h
    obtain ⟨v,h1,h2⟩:=Zba h
    exact plain v s h1 fun rec K hK => Z01.2 ⟨f',e,Z01.2 ⟨_,e1,AVal.Z5f.2 ⟨l,rfl,h2 (fun v => K v s) hK⟩⟩⟩
  | indexAddr k e a x i =>
    obtain ⟨j,n,hi,h0,h⟩:=Z58 h
    cases k with
    | slc =>
      obtain ⟨e',he,h⟩:=Z0n h
      obtain ⟨b,off,m,c,hx,h1,h⟩:=Zmf h
      refine plain _ s h fun rec K hK => Z01.2 ⟨_,hx,Z01.2 ⟨_,hi,AVal.Z0w.2 ⟨j,n,rfl,Z2w.2 ⟨n.toNat,by omega,?_⟩⟩⟩⟩
      refine Z01.2 ⟨e',he,AVal.Zaa.2 ⟨b,off,m,c,rfl,Z03.2 (.inl ⟨Nat.ble_eq_true_of_le (by omega),?_⟩)⟩⟩
      rw [Z1f]; exact hK
    | arr =>
      obtain ⟨e',he,h⟩:=Z0n h
      obtain ⟨b,off,hx,h1,h⟩:=Z59 h
      refine plain _ s h fun rec K hK => Z01.2 ⟨_,hx,Z01.2 ⟨_,hi,AVal.Z0w.2 ⟨j,n,rfl,Z2w.2 ⟨n.toNat,by omega,?_⟩⟩⟩⟩
      refine Z01.2 ⟨e',he,AVal.Z2d.2 ⟨b,off,rfl,Z03.2 (.inl ⟨Nat.ble_eq_true_of_le (by omega),?_⟩)⟩⟩
      rw [Z1f]; exact hK
    | _ => exact h.elim
  | index k e x i =>
    obtain ⟨j,n,hi,h0,h⟩:=Z58 h
    cases k with
    | str =>
      obtain ⟨l,hx,h⟩:=Zb2 h
      obtain ⟨c,hc,h⟩:=Z0n h
      refine plain _ s h fun rec K hK => Z01.2 ⟨_,hx,Z01.2 ⟨_,hi,AVal.Z0w.2 ⟨j,n,rfl,Z2w.2 ⟨n.toNat,by omega,?_⟩⟩⟩⟩
      refine AVal.Z28.2 ⟨l,rfl,Z4t.2 ⟨c,hc,?_⟩⟩
      rw [Z1f]; exact hK
    | arr =>
      obtain ⟨e',he,h⟩:=Z0n h
      obtain ⟨l,hx,h1,h⟩:=Zb1 h
      obtain ⟨v,h2,h3⟩:=Zba h
      refine plain _ s h2 fun rec K hK => Z01.2 ⟨_,hx,Z01.2 ⟨_,hi,AVal.Z0w.2 ⟨j,n,rfl,Z2w.2 ⟨n.toNat,by omega,?_⟩⟩⟩⟩
      exact Z01.2 ⟨e',he,AVal.Z5f.2 ⟨l,rfl,Z03.2 (.inl ⟨Nat.ble_eq_true_of_le (by omega),h3 (fun v => K v s) hK⟩)⟩⟩
    | _ => exact h.elim
  | extract x i =>
    obtain ⟨l,e,h⟩:=Zmg h
    obtain ⟨v,e1,h⟩:=Z0n h
    exact plain v s h fun rec K hK => Z01.2 ⟨_,e,AVal.Zcz.2 ⟨l,rfl,Z4t.2 ⟨v,e1,hK⟩⟩⟩
  | lookup i ok m k =>
    obtain ⟨info,hi,h⟩:=Z0n h
    obtain ⟨key,hk,h⟩:=Z1k h
    split at h
    · rename_i b hm
      split at h
      · rename_i es cl ho
        obtain ⟨r,hr,h⟩:=h
        have hdet:∀ K':Option (Nat × AVal)→Bool,K' r = true→(Z1r info.1 info.2.1 key fun c => Z2q info.1 info.2.1 c es 0 K') = true:=fun K' hK' => Zfn hr (fun x hx => (Z1y.1 hx) ▸ hK')
        cases r with
        | none =>
          cases ok with
          | true =>
            refine plain _ s h fun rec K hK => Z01.2 ⟨info,hi,Z01.2 ⟨_,hm,Z01.2 ⟨key,hk,?_⟩⟩⟩
            exact Zcp ho (hdet (fun r => @Option.rec (Nat × AVal) (fun _ => Bool) (ifK true (K (.tup [info.2.2,.bool false]) s) (K info.2.2 s)) (fun x => ifK true (K (.tup [x.2,.bool true]) s) (K x.2 s)) r) hK)
          | false =>
            refine plain _ s h fun rec K hK => Z01.2 ⟨info,hi,Z01.2 ⟨_,hm,Z01.2 ⟨key,hk,?_⟩⟩⟩
            exact Zcp ho (hdet (fun r => @Option.rec (Nat × AVal) (fun _ => Bool) (ifK false (K (.tup [info.2.2,.bool false]) s) (K info.2.2 s)) (fun x => ifK false (K (.tup [x.2,.bool true]) s) (K x.2 s)) r) hK)
        | some x =>
          cases ok with
          | true =>
            refine plain _ s h fun rec K hK => Z01.2 ⟨info,hi,Z01.2 ⟨_,hm,Z01.2 ⟨key,hk,?_⟩⟩⟩
            exact Zcp ho (hdet (fun r => @Option.rec (Nat × AVal) (fun _ => Bool) (ifK true (K (.tup [info.2.2,.bool false]) s) (K info.2.2 s)) (fun x => ifK true (K (.tup [x.2,.bool true]) s) (K x.2 s)) r) hK)
          | false =>
            refine plain _ s h fun rec K hK => Z01.2 ⟨info,hi,Z01.2 ⟨_,hm,Z01.2 ⟨key,hk,?_⟩⟩⟩
            exact Zcp ho (hdet (fun r => @Option.rec (Nat × AVal) (fun _ => Bool) (ifK false (K (.tup [info.2.2,.bool false]) s) (K info.2.2 s)) (fun x => ifK false (K (.tup [x.2,.bool true]) s) (K x.2 s)) r) hK)
      · exact h.elim
    · exact h.elim
  | mapSet i m k x =>
    obtain ⟨info,hi,h⟩:=Z0n h
    obtain ⟨key,hk,h⟩:=Z1k h
    obtain ⟨xv,hx,h⟩:=Z1k h
    split at h
    · rename_i b hm
      split at h
      · rename_i es cl ho
        obtain ⟨r,hr,h⟩:=h
        have hdet:∀ K':Option (Nat × AVal)→Bool,K' r = true→(Z1r info.1 info.2.1 key fun c => Z2q info.1 info.2.1 c es 0 K') = true:=fun K' hK' => Zfn hr (fun x hx => (Z1y.1 hx) ▸ hK')
        cases r with
        | none =>
          refine plain _ _ h fun rec K hK => Z01.2 ⟨info,hi,Z01.2 ⟨_,hm,Z01.2 ⟨key,hk,Z01.2 ⟨xv,hx,?_⟩⟩⟩⟩
          refine Zlp ho (hdet (fun r => @Option.rec (Nat × AVal) (fun _ => Bool)
            (appK es [{ key:=key,val:=xv,born:=cl }] fun es => natK (Nat.succ cl) fun c => putK b (.map es c) s fun s => K (.tup []) s)
            (fun p => Z41 xv key es p.1 fun es => putK b (.map es cl) s fun s => K (.tup []) s) r) ?_)
          show appK es [{ key:=key,val:=xv,born:=cl }] (fun es => natK (Nat.succ cl) fun c => putK b (.map es c) s fun s => K (.tup []) s) = true
          rw [Z3h,Z1f,Z2b]
          exact hK
        | some p =>
          obtain ⟨es',h1,h⟩:=h
          refine plain _ _ h fun rec K hK => Z01.2 ⟨info,hi,Z01.2 ⟨_,hm,Z01.2 ⟨key,hk,Z01.2 ⟨xv,hx,?_⟩⟩⟩⟩
          refine Zlp ho (hdet (fun r => @Option.rec (Nat × AVal) (fun _ => Bool)
            (appK es [{ key:=key,val:=xv,born:=cl }] fun es => natK (Nat.succ cl) fun c => putK b (.map es c) s fun s => K (.tup []) s)
            (fun p => Z41 xv key es p.1 fun es => putK b (.map es cl) s fun s => K (.tup []) s) r) ?_)
          show Z41 xv key es p.1 (fun es => putK b (.map es cl) s fun s => K (.tup []) s) = true
          refine Zgc h1 (fun e he => ?_)
          rw [Z1y.1 he,Z2b]
          exact hK
      · exact h.elim
    · exact h.elim
  | call f l =>
    obtain ⟨fv,e,h⟩:=Z1k h
    obtain ⟨args,h1,h2⟩:=Zbb h
    obtain ⟨v,s',⟨n0,hn⟩,hq⟩:=h1
    exact ⟨v,s',hq,n0,fun n hle K hK => Z01.2 ⟨fv,e,h2 (fun args => Zj2 P (exec P n) fv args s K) (hn n hle K hK)⟩⟩
  | len e x =>
    obtain ⟨e',he,h⟩:=Z0n h
    obtain ⟨tk,m⟩:=e'
    cases tk with
    | str =>
      obtain ⟨l,hx,h⟩:=Zb2 h
      refine plain _ s h fun rec K hK => Z01.2 ⟨_,he,Z01.2 ⟨_,hx,AVal.Z28.2 ⟨l,rfl,?_⟩⟩⟩
      rw [Z0s,Nat.zero_add]; exact hK
    | slc =>
      obtain ⟨v,hx,h⟩:=Z1k h
      obtain ⟨n,hn,h⟩:=Z0n h
      refine plain _ s h fun rec K hK => Z01.2 ⟨_,he,Z01.2 ⟨_,hx,?_⟩⟩
      cases v <;> simp [Z1q] at hn
      · subst hn; exact hK
      · subst hn; exact hK
    | arr =>
      obtain ⟨v,hx,h⟩:=Z1k h
      refine plain _ s h fun rec K hK => Z01.2 ⟨_,he,Z01.2 ⟨_,hx,?_⟩⟩
      show natK m _ = true
      rw [Z1f]; exact hK
    | map =>
      simp only at h
      split at h
      · rename_i b hm
        split at h
        · rename_i es cl ho
          refine plain _ s h fun rec K hK => Z01.2 ⟨_,he,Z01.2 ⟨_,hm,?_⟩⟩
          refine Z49.2 ⟨es,cl,ho,?_⟩
          rw [Z0s,Nat.zero_add]; exact hK
        · exact h.elim
      · exact h.elim
    | other => exact h.elim
  | append e x y =>
    obtain ⟨e',he,h⟩:=Z0n h
    obtain ⟨xv,hx,h⟩:=Z1k h
    obtain ⟨yv,hy,h⟩:=Z1k h
    obtain ⟨new,n,h1,h2⟩:=Zum h
    obtain ⟨v,s',h3,h4⟩:=Zuj h1
    exact plain v s' h3 fun rec K hK => Z01.2 ⟨e',he,Z01.2 ⟨xv,hx,Z01.2 ⟨yv,hy,h2 (fun new n => Zbq e' xv new n s K) (h4 K hK)⟩⟩⟩
  | _ =>
    obtain ⟨v,s',h1,h2⟩:=h
    exact plain v s' h2 h1
end Go.AM
end
section
namespace Go.AM
variable [Orc] [OrcOk]
theorem Zhg {g : Option (Option (RO × Bool))} {γ : RO → Option AVal} {A B : Prop} (h : Zc8 g γ A B) : (A ∧ ∀ x y, Z6a g γ x y = x) ∨ (B ∧ ∀ x y, Z6a g γ x y = y) := by
  cases g with
  | none => exact .inl ⟨h, fun x y => rfl⟩
  | some g =>
    obtain ⟨g', hg, h⟩ := Z0n h
    subst hg
    obtain ⟨v, hv, h⟩ := Z1k h
    have hr : ∀ x y, Z6a (some (some g')) γ x y = @AVal.rec (fun _ => Bool) (fun _ => Bool) (fun b => ifK (Z5i b g'.2) x y) (fun _ _ => y) (fun _ => y) (fun _ _ => y) y (fun _ _ _ _ => y) y (fun _ => y) y (fun _ _ _ _ _ => y) (fun _ => y) y
        (fun _ _ _ => y) y (fun _ _ => y) (fun _ _ => y) false (fun _ _ _ _ => false) v := fun x y => by
      show (optK (γ g'.1) fun v => _) = _
      rw [hv]; rfl
    cases v with
    | bool b =>
      simp only at h
      split at h
      · rename_i hb
        refine .inl ⟨h, fun x y => (hr x y).trans ?_⟩
        show ifK (Z5i b g'.2) x y = x
        rw [Z7g, hb]; simp [ifK]
      · rename_i hb
        refine .inr ⟨h, fun x y => (hr x y).trans ?_⟩
        show ifK (Z5i b g'.2) x y = y
        rw [Z7g]
        have : (b == g'.2) = false := by simpa using hb
        rw [this]; rfl
    | iface t u => exact h.elim
    | _ => exact .inr ⟨h, hr⟩
theorem Z7e:∀ {cm:List (Option Pos)} {l:List AVal} {t t':PT AVal},Z56 cm l t = some t'→∀ k:PT AVal→Bool,k t' = true→Z3w cm l t k = true
  | [],l,t,t',h,k,hk => by cases h; exact hk
  | _ :: _,[],t,t',h,k,hk => by cases h
  | none :: r,v :: l,t,t',h,k,hk => Z7e (cm:=r) h k hk
  | some p :: r,v :: l,t,t',h,k,hk => by
    show PT.setK p v t (fun t => Z3w r l t k) = true
    rw [PT.Zbx]
    exact Z7e (cm:=r) h k hk
section
variable {P:Program}
theorem Z60 {cm : List (Option Pos)} : ∀ {l : List MItem} {locals : List AVal} {tree : PT AVal} {s : St} {Q : PT AVal → St → Prop}, Z3i P cm l locals tree s Q →
    ∃ t s', Q t s' ∧ ∃ n0, ∀ n, n0 ≤ n → ∀ K : PT AVal → St → Bool, K t s' = true → Z38 P (exec P n) cm l locals tree s K = true
  | [], locals, tree, s, Q, h => by
    obtain ⟨t, e, h⟩ := Z0n h
    exact ⟨t, s, h, 0, fun n _ K hK => Z7e e (fun t => K t s) hK⟩
  | .run g o :: r, locals, tree, s, Q, h => by
    have hr : ∀ rec K, Z38 P rec cm (.run g o :: r) locals tree s K = Z6a g (fun x => getO tree locals x) (mopK P rec o (fun x => getO tree locals x) s fun v s => Z38 P rec cm r (v :: locals) tree s K)
      (Z38 P rec cm r (.tup [] :: locals) tree s K) := fun _ _ => rfl
    rcases Zhg h with ⟨h1, h2⟩ | ⟨h1, h2⟩
    · obtain ⟨v, s1, h3, n1, h4⟩ := Zg2 h1
      obtain ⟨t, s', h5, n2, h6⟩ := Z60 h3
      refine ⟨t, s', h5, max n1 n2, fun n hn K hK => ?_⟩
      rw [hr, h2]
      exact h4 n (by omega) _ (h6 n (by omega) K hK)
    · obtain ⟨t, s', h5, n2, h6⟩ := Z60 h1
      refine ⟨t, s', h5, n2, fun n hn K hK => ?_⟩
      rw [hr, h2]
      exact h6 n hn K hK
  | .chk g o u :: r, locals, tree, s, Q, h => by
    have hr : ∀ rec K, Z38 P rec cm (.chk g o u :: r) locals tree s K = Z6a g (fun x => getO tree locals x)
        (mopK P rec o (fun x => getO tree locals x) s fun v _ => optK u fun x => optK (getO tree locals x) fun u => ifK (Z27 8 v u) (Z38 P rec cm r locals tree s K) (fail 49))
        (Z38 P rec cm r locals tree s K) := fun _ _ => rfl
    rcases Zhg h with ⟨h1, h2⟩ | ⟨h1, h2⟩
    · obtain ⟨v, s1, h3, n1, h4⟩ := Zg2 h1
      obtain ⟨x, hx, h3⟩ := Z0n h3
      obtain ⟨u', hu, hvu, hev, h3⟩ := Z1k h3
      obtain ⟨t, s', h5, n2, h6⟩ := Z60 h3
      refine ⟨t, s', h5, max n1 n2, fun n hn K hK => ?_⟩
      rw [hr, h2]
      refine h4 n (by omega) _ (Z01.2 ⟨x, hx, Z01.2 ⟨u', hu, Z03.2 (.inl ⟨hvu ▸ hev, h6 n (by omega) K hK⟩)⟩⟩)
    · obtain ⟨t, s', h5, n2, h6⟩ := Z60 h1
      refine ⟨t, s', h5, n2, fun n hn K hK => ?_⟩
      rw [hr, h2]
      exact h6 n hn K hK
  | .fresh :: r, locals, tree, s, Q, ⟨h0, h⟩ => by
    obtain ⟨t, s', h5, n2, h6⟩ := Z60 h
    refine ⟨t, s', h5, n2, fun n hn K hK => ?_⟩
    show @Option.rec AObj (fun _ => Bool) (Z38 P (exec P n) cm r locals tree s K) (fun _ => fail 56) (PT.get s.next s.heap) = true
    rw [show PT.get s.next s.heap = none from h0]
    exact h6 n hn K hK
  | .peek o :: r, locals, tree, s, Q, ⟨h0, h⟩ => by
    obtain ⟨v, s1, _, n1, h4⟩ := Zg2 h0
    obtain ⟨t, s', h5, n2, h6⟩ := Z60 h
    refine ⟨t, s', h5, max n1 n2, fun n hn K hK => ?_⟩
    show ifK (mopK P (exec P n) o (fun x => getO tree locals x) s fun _ _ => true) (Z38 P (exec P n) cm r locals tree s K) (fail 57) = true
    exact Z03.2 (.inl ⟨h4 n (by omega) _ rfl, h6 n (by omega) K hK⟩)
end
section
variable (P:Program)
def Runs (c:MCode) (fi:FI) (tree:PT AVal) (s:St) (e:Ex) (t:PT AVal) (s':St):Prop:=∃ n0,∀ n,n0 ≤ n→∀ K:Z78,K e t s' = true→exec P n c fi tree s K = true
def wp (c:MCode) (fi:FI) (tree:PT AVal) (s:St) (Q:Ex→PT AVal→St→Prop):Prop:=∃ e t s',Runs P c fi tree s e t s'∧Q e t s'
end
section
variable {P:Program} {fi:FI} {tree:PT AVal} {s:St} {Q:Ex→PT AVal→St→Prop}
theorem wp_mono {c:MCode} {Q':Ex→PT AVal→St→Prop} (h:wp P c fi tree s Q) (hq:∀ e t s',Q e t s'→Q' e t s'):wp P c fi tree s Q' :=
  let ⟨e,t,s',h1,h2⟩:=h
  ⟨e,t,s',h1,hq _ _ _ h2⟩
theorem Z2p {c:MCode} {e:Ex} {t:PT AVal} {s':St} (n0:Nat) (h:∀ n,n0 ≤ n→∀ K:Z78,K e t s' = true→Zmp P (exec P n) c fi tree s K = true):Runs P c fi tree s e t s':=by
  refine ⟨n0 + 1,fun n hn K hK => ?_⟩
  obtain ⟨m,rfl⟩:∃ m,n = m + 1:=⟨n - 1,by omega⟩
  rw [Zfl]
  exact h m (by omega) K hK
theorem wp_skip (h:Q .normal tree s):wp P .skip fi tree s Q:=⟨_,_,_,Z2p 0 (fun _ _ K hK => hK),h⟩
theorem wp_exit {id:Nat} (h:Q (.exit id) tree s):wp P (.exit id) fi tree s Q:=⟨_,_,_,Z2p 0 (fun _ _ K hK => hK),h⟩
theorem wp_ret (h:Q .ret tree s):wp P .ret fi tree s Q:=⟨_,_,_,Z2p 0 (fun _ _ K hK => hK),h⟩
theorem wp_region {l:List MItem} {cm:List (Option Pos)} (h:Z3i P cm l [] tree s fun t s' => Q .normal t s'):wp P (.region l cm) fi tree s Q:=by
  obtain ⟨t,s',h1,n0,h2⟩:=Z60 h
  exact ⟨.normal,t,s',Z2p n0 (fun n hn K hK => h2 n hn (fun t s => K .normal t s) hK),h1⟩
def andThen (next:PT AVal→St→Prop) (Q:Ex→PT AVal→St→Prop):Ex→PT AVal→St→Prop
  | .normal,t,s => next t s
  | .exit i,t,s => Q (.exit i) t s
  | .ret,t,s => Q .ret t s
theorem wp_seq {a b:MCode} (h:wp P a fi tree s (andThen (fun t s' => wp P b fi t s' Q) Q)):wp P (.seq a b) fi tree s Q:=by
  obtain ⟨e,t,s',⟨n1,h1⟩,h2⟩:=h
  cases e with
  | normal =>
    obtain ⟨e2,t2,s2,⟨n2,h3⟩,h4⟩:=h2
    exact ⟨e2,t2,s2,Z2p (max n1 n2) (fun n hn K hK => h1 n (by omega) _ (h3 n (by omega) K hK)),h4⟩
  | exit id => exact ⟨.exit id,t,s',Z2p n1 (fun n hn K hK => h1 n hn _ hK),h2⟩
  | ret => exact ⟨.ret,t,s',Z2p n1 (fun n hn K hK => h1 n hn _ hK),h2⟩
inductive Dep {α:Type} (a:α):Type where
  | mk
def wpX (P:Program) (c:MCode) (fi:FI) (tree:PT AVal) (s:St) (Q:Ex→PT AVal→St→Prop) (_:Dep Q):Prop:=wp P c fi tree s Q
theorem Z00 {l:List MItem} {cm:List (Option Pos)} {b:MCode} (h:Z3i P cm l [] tree s fun t s' => wpX P b fi t s' Q .mk):wp P (.seq (.region l cm) b) fi tree s Q:=wp_seq (wp_region h)
theorem wp_cond {c:RO} {a b:MCode} {v:Bool} (hv:getO tree [] c = some (.bool v)) (ha:v = true→wp P a fi tree s Q) (hb:v = false→wp P b fi tree s Q):wp P (.cond c a b) fi tree s Q:=by
  cases v with
  | true =>
    obtain ⟨e,t,s',⟨n1,h1⟩,h2⟩:=ha rfl
    exact ⟨e,t,s',Z2p n1 (fun n hn K hK => Z01.2 ⟨_,hv,AVal.Z1u.2 ⟨true,rfl,h1 n hn K hK⟩⟩),h2⟩
  | false =>
    obtain ⟨e,t,s',⟨n1,h1⟩,h2⟩:=hb rfl
    exact ⟨e,t,s',Z2p n1 (fun n hn K hK => Z01.2 ⟨_,hv,AVal.Z1u.2 ⟨false,rfl,h1 n hn K hK⟩⟩),h2⟩
theorem Z04 {c:RO} {a b:MCode} (h:Z62 (getO tree [] c) fun v => if v = true then wpX P a fi tree s Q .mk else wpX P b fi tree s Q .mk):wp P (.cond c a b) fi tree s Q:=by
  obtain ⟨v,hv,h⟩:=Z9r h
  refine wp_cond hv (fun e => ?_) (fun e => ?_)
  · rw [if_pos e] at h; exact h
  · rw [if_neg (by simp [e])] at h; exact h
def Zc9 (id:Nat) (Q:Ex→PT AVal→St→Prop):Ex→PT AVal→St→Prop
  | .normal,t,s => Q .normal t s
  | .exit i,t,s => if i = id then Q .normal t s else Q (.exit i) t s
  | .ret,t,s => Q .ret t s
theorem Zmh (id i:Nat) (t:PT AVal) (s:St):Zc9 id Q (.exit i) t s = if i = id then Q .normal t s else Q (.exit i) t s:=rfl
theorem wp_block {id:Nat} {c:MCode} (h:wp P c fi tree s (Zc9 id Q)):wp P (.block id c) fi tree s Q:=by
  obtain ⟨e,t,s',⟨n1,h1⟩,h2⟩:=h
  cases e with
  | normal => exact ⟨.normal,t,s',Z2p n1 (fun n hn K hK => h1 n hn _ hK),h2⟩
  | ret => exact ⟨.ret,t,s',Z2p n1 (fun n hn K hK => h1 n hn _ hK),h2⟩
  | exit i =>
    rw [Zmh] at h2
    split at h2
    · rename_i hi
      exact ⟨.normal,t,s',Z2p n1 (fun n hn K hK => h1 n hn _ (Z03.2 (.inl ⟨by simp [hi],hK⟩))),h2⟩
    · rename_i hi
      exact ⟨.exit i,t,s',Z2p n1 (fun n hn K hK => h1 n hn _ (Z03.2 (.inr ⟨by cases hb:Nat.beq i id with
        | true => exact absurd (Nat.eq_of_beq_eq_true hb) hi
        | false => rfl,hK⟩))),h2⟩
theorem Zpb {c:MCode} (h:wp P c fi tree s Q):wp P (.scope c) fi tree s Q:=by
  obtain ⟨e,t,s',⟨n1,h1⟩,h2⟩:=h
  exact ⟨e,t,s',Z2p n1 (fun n hn K hK => h1 n hn K hK),h2⟩
theorem Zpa {c:MCode} (h:wp P c fi tree s (andThen (fun t s' => wp P (.loop c) fi t s' Q) Q)):wp P (.loop c) fi tree s Q:=by
  obtain ⟨e,t,s',⟨n1,h1⟩,h2⟩:=h
  cases e with
  | normal =>
    obtain ⟨e2,t2,s2,⟨n2,h3⟩,h4⟩:=h2
    exact ⟨e2,t2,s2,Z2p (max n1 n2) (fun n hn K hK => h1 n (by omega) _ (h3 n (by omega) K hK)),h4⟩
  | exit id => exact ⟨.exit id,t,s',Z2p n1 (fun n hn K hK => h1 n hn _ hK),h2⟩
  | ret => exact ⟨.ret,t,s',Z2p n1 (fun n hn K hK => h1 n hn _ hK),h2⟩
theorem wp_loop {c:MCode} (I:Nat→PT AVal→St→Prop):∀ (n:Nat) {tree:PT AVal} {s:St},I n tree s →
    (∀ n t s,I n t s→wp P c fi t s (andThen (fun t' s' => ∃ m,m < n∧I m t' s') Q))→wp P (.loop c) fi tree s Q:=by
  intro n
  induction n using Nat.strongRecOn with
  | _ n ih =>
    intro tree s h0 hstep
    refine Zpa (wp_mono (hstep n tree s h0) fun e t s' h => ?_)
    cases e with
    | normal =>
      obtain ⟨m,hm,h⟩:=h
      exact ih m hm h hstep
    | exit id => exact h
    | ret => exact h
theorem Zix {f : RO} {ps : List Tmp} {a b : MCode} {g : Nat} {x y : List AVal} (hf : getO tree [] f = some (.fn g x y)) (hr : ∀ l0, fi.round = some l0 → ∃ L, s.obj l0 = some (.loop L))
    (h : Z0e P g (x ++ ([.yld s.next] ++ y)) (s.alloc (.loop { state := .ready, pending := none, fn := fi.fn, tm := tree, params := ps, assign := a, body := b })) fun _ s2 =>
      ∃ L, s2.obj s.next = some (.loop L) ∧ Zdh L.state = false ∧ match L.pending with
        | none => Q .normal tree (s2.put s.next (.loop { L with state := .exhausted }))
        | some (.exit id) => Q (.exit id) tree (s2.put s.next (.loop { L with state := .exhausted }))
        | some .ret => Q .ret tree (s2.put s.next (.loop { L with state := .exhausted }))
        | _ => False) : wp P (.range f ps a b) fi tree s Q := by
  obtain ⟨v, s2, ⟨n0, h1⟩, L, hL, hb, h2⟩ := h
  have key : ∀ (e : Ex), (∀ K : Z78, K e tree (s2.put s.next (.loop { L with state := .exhausted })) = true → Zjz L.pending tree (s2.put s.next (.loop { L with state := .exhausted })) K = true) →
      Runs P (.range f ps a b) fi tree s e tree (s2.put s.next (.loop { L with state := .exhausted })) := by
    intro e hp
    refine Z2p n0 fun n hn K hK => ?_
    refine Z01.2 ⟨_, hf, ?_⟩
    have hgo : (Z4w (.loop { state := .ready, pending := none, fn := fi.fn, tm := tree, params := ps, assign := a, body := b }) s fun l s =>
      (AVal.fn g x y).fnK fun f a c => appK [.yld l] c fun r => appK a r fun args => Z6n P (exec P n) f args s fun _ s => Z7v l s fun L => ifK (Zdh L.state) (fail 52)
        (putK l (.loop { L with state := .exhausted }) s fun s => Zjz L.pending tree s K)) = true := by
      rw [Z22]
      refine AVal.Znd.2 ⟨g, x, y, rfl, ?_⟩
      rw [Z3h, Z3h]
      refine h1 n hn _ (Z3e.2 ⟨L, hL, Z03.2 (.inr ⟨hb, ?_⟩)⟩)
      rw [Z2b]
      exact hp K hK
    cases hro : fi.round with
    | none => exact hgo
    | some l0 =>
      obtain ⟨L0, hL0⟩ := hr l0 hro
      exact Z3e.2 ⟨L0, hL0, hgo⟩
  generalize s2.put s.next (.loop { L with state := .exhausted }) = s4 at h2 key
  cases hp : L.pending with
  | none =>
    rw [hp] at h2
    exact ⟨.normal, tree, _, key .normal (fun K hK => by rw [hp]; exact hK), h2⟩
  | some j =>
    rw [hp] at h2
    cases j with
    | exit id => exact ⟨.exit id, tree, _, key (.exit id) (fun K hK => by rw [hp]; exact hK), h2⟩
    | ret => exact ⟨.ret, tree, _, key .ret (fun K hK => by rw [hp]; exact hK), h2⟩
    | _ => exact h2.elim
end
section
variable {P:Program} {s:St} {Q:AVal→St→Prop}
def resP (P:Program) (tree:PT AVal) (s:St):List ResultVar→(List AVal→Prop)→Prop
  | [],F => F []
  | .tmp t :: r,F => Z1n (PT.get (posOf t) tree) fun v => resP P tree s r fun l => F (v :: l)
  | .cell a t :: r,F => Z17 (Z3q P t) fun n => Z3k (PT.get (posOf a) tree) fun b off => Z17 (s.cells b) fun cs => Z7z n cs off fun v => resP P tree s r fun l => F (v :: l)
def retV:List AVal→AVal
  | [v] => v
  | l => .tup l
theorem Zga {tree:PT AVal}:∀ {l:List ResultVar} {F:List AVal→Prop},resP P tree s l F→∃ vs,F vs∧∀ k:List AVal→Bool,k vs = true→resK P tree s l k = true
  | [],F,h => ⟨[],h,fun k hk => hk⟩
  | .tmp t :: r,F,h => by
    obtain ⟨v,hv,h⟩:=Z1k h
    obtain ⟨vs,h1,h2⟩:=Zga h
    exact ⟨v :: vs,h1,fun k hk => Z01.2 ⟨v,hv,h2 (fun l => k (v :: l)) hk⟩⟩
  | .cell a t :: r,F,h => by
    obtain ⟨n,hn,h⟩:=Z0n h
    obtain ⟨b,off,ha,h⟩:=Z59 h
    obtain ⟨cs,hc,h⟩:=Z0n h
    obtain ⟨v,h,h2⟩:=Zba h
    obtain ⟨ro,ho⟩:=St.Z7k hc
    obtain ⟨vs,h1,h3⟩:=Zga h
    refine ⟨v :: vs,h1,fun k hk => ?_⟩
    show Z6x P t (PT.get (posOf a) tree) s (fun v _ => resK P tree s r fun l => k (v :: l)) = true
    exact Z01.2 ⟨n,hn,Z01.2 ⟨_,ha,AVal.Z2d.2 ⟨b,off,rfl,Z1j.2 ⟨cs,ro,ho,h2 (fun v => resK P tree s r fun l => k (v :: l)) (h3 (fun l => k (v :: l)) hk)⟩⟩⟩⟩
theorem Z08 {f:FuncId} {args:List AVal} {fi:FInfo} {tree:PT AVal} (ho:Orc.get P f args = none) (hf:funInfo P f = some fi) (hn:args.length = fi.nargs) (hle:fi.nargs ≤ fi.ntmps) (ht:Z56 (Z9l fi.ps fi.nargs 0) args .leaf = some tree)
    (h:wp P fi.code { fn:=f,ntmps:=fi.ntmps,ps:=fi.ps,round:=none } tree s fun e t s' => match e with
      | .exit _ => False
      | _ => resP P t s' fi.res fun l => Q (retV l) s'):Z0e P f args s Q:=by
  obtain ⟨e,t,s',⟨n0,h1⟩,h2⟩:=h
  have h3:(∀ x,outK e x = x)∧resP P t s' fi.res fun l => Q (retV l) s':=by
    cases e with
    | normal => exact ⟨fun _ => rfl,h2⟩
    | exit id => exact h2.elim
    | ret => exact ⟨fun _ => rfl,h2⟩
  obtain ⟨hout,h4⟩:=h3
  obtain ⟨vs,h5,h6⟩:=Zga h4
  refine ⟨retV vs,s',⟨n0,fun n hle' K hK => ?_⟩,h5⟩
  unfold Z6n orcK
  rw [ho]
  refine Z01.2 ⟨fi,hf,?_⟩
  rw [Z0s,Nat.zero_add]
  refine Z03.2 (.inl ⟨by simp [hn],Z03.2 (.inl ⟨Nat.ble_eq_true_of_le (by omega),?_⟩)⟩)
  refine Z7e ht _ (h1 n hle' _ ?_)
  rw [hout]
  refine h6 _ ?_
  cases vs with
  | nil => exact hK
  | cons v r => cases r <;> exact hK
theorem Zev {f:FuncId} {args:List AVal} {v:AVal} (ho:Orc.get P f args = some v) (h:Q v s):Z0e P f args s Q:=by
  refine ⟨v,s,⟨0,fun n _ K hK => ?_⟩,h⟩
  unfold Z6n orcK
  rw [ho]
  exact hK
theorem Z02 {f:FuncId} {a c args:List AVal} (h:Z0e P f (a ++ (args ++ c)) s Q):Z39 P (.fn f a c) args s Q:=by
  obtain ⟨v,s',⟨n0,h1⟩,h2⟩:=h
  refine ⟨v,s',⟨n0,fun n hn K hK => ?_⟩,h2⟩
  show appK args c (fun r => appK a r fun args => Z6n P (exec P n) f args s K) = true
  rw [Z3h,Z3h]
  exact h1 n hn K hK
theorem Zda {l:Pos} {args:List AVal} {L:LoopR} {fi:FInfo} {pl:List (Option Pos)} {tree:PT AVal} (hL:s.obj l = some (.loop L)) (hf:funInfo P L.fn = some fi) (hp:Z6l fi.ps fi.ntmps L.params = some pl) (hn:args.length = L.params.length)
    (ht:Z56 pl args L.tm = some tree)
    (h:wp P L.assign { fn:=L.fn,ntmps:=fi.ntmps,ps:=fi.ps,round:=some l } tree s fun e t s1 => e = .normal∧∃ L2,s1.obj l = some (.loop L2)∧isReady L2.state = true ∧
      wp P L.body { fn:=L.fn,ntmps:=fi.ntmps,ps:=fi.ps,round:=some l } t (s1.put l (.loop { L2 with state:=.busy })) fun e _ s2 => ∃ L3,s2.obj l = some (.loop L3)∧match e with
        | .normal => Q (.bool true) (s2.put l (.loop { L3 with state:=.ready,pending:=none }))
        | .exit id => Q (.bool false) (s2.put l (.loop { L3 with state:=.done,pending:=some (.exit id) }))
        | .ret => Q (.bool false) (s2.put l (.loop { L3 with state:=.done,pending:=some .ret }))):Z39 P (.yld l) args s Q:=by
  obtain ⟨e,t,s1,⟨n1,h1⟩,rfl,L2,hL2,hrd,e2,t2,s2,⟨n2,h2⟩,L3,hL3,h3⟩:=h
  have go:∀ (v:AVal) (s':St),(∀ K:VK,K v s' = true→endK l e2 s2 K = true)→∃ n0,∀ n,n0 ≤ n→∀ K:VK,K v s' = true→Zj2 P (exec P n) (.yld l) args s K = true:=by
    intro v s' hend
    refine ⟨max n1 n2,fun n hn' K hK => ?_⟩
    refine Z3e.2 ⟨L,hL,Z01.2 ⟨fi,hf,Z01.2 ⟨pl,hp,?_⟩⟩⟩
    rw [Z0s,Z0s,Nat.zero_add,Nat.zero_add]
    refine Z03.2 (.inl ⟨by simp [hn],Z7e ht _ (h1 n (by omega) _ ?_)⟩)
    refine Z3e.2 ⟨L2,hL2,Z03.2 (.inl ⟨hrd,?_⟩)⟩
    rw [Z2b]
    exact h2 n (by omega) _ (hend K hK)
  cases e2 with
  | normal =>
    refine ⟨_,_,go _ _ (fun K hK => Z3e.2 ⟨L3,hL3,?_⟩),h3⟩
    show putK l _ s2 (fun s => K (.bool true) s) = true
    rw [Z2b]; exact hK
  | exit id =>
    refine ⟨_,_,go _ _ (fun K hK => Z3e.2 ⟨L3,hL3,?_⟩),h3⟩
    show putK l _ s2 (fun s => K (.bool false) s) = true
    rw [Z2b]; exact hK
  | ret =>
    refine ⟨_,_,go _ _ (fun K hK => Z3e.2 ⟨L3,hL3,?_⟩),h3⟩
    show putK l _ s2 (fun s => K (.bool false) s) = true
    rw [Z2b]; exact hK
def wpCallX (P:Program) (fv:AVal) (args:List AVal) (s:St) (Q:AVal→St→Prop) (_:Dep Q):Prop:=Z39 P fv args s Q
open Classical in
theorem Zp9 (hm:P.follows .mixedOrders = true) {f:FuncId} {args:List AVal} {us:Array Value} {w:World} {ι:Ren} (h:Z0e P f args s Q) (hw:WRel P ι s w) (hv:VRels ι args us.toList) :
    Calls P f us w fun e w' => ∃ v ι' s' a,e = .returned v∧Ext ι w ι' w'∧WRel P ι' s' w'∧VRel ι' a v∧Q a s':=by
  obtain ⟨v,s',⟨n0,h1⟩,h2⟩:=h
  have:=Zvg hm (K:=fun v' s'' => hold (v' = v∧s'' = s')) (h1 n0 (Nat.le_refl _) _ (Z1y.2 ⟨rfl,rfl⟩)) hw hv
  refine this.mono ?_
  rintro e w' ⟨u,ι',s2,a,e1,e2,e3,e4,e5⟩
  obtain ⟨rfl,rfl⟩:=Z1y.1 e5
  exact ⟨u,ι',s2,a,e1,e2,e3,e4,h2⟩
end
end Go.AM
end
