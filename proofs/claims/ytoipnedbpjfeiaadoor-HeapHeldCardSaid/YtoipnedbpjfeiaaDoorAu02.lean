/- Parts of the proof: Ops9, Exec1, Exec2, Exec3, Exec4, Exec5, Exec6, Exec7, Exec8, Exec9, Draw1, Draw2, Draw3, Draw4, Draw5. -/
import Derived.RangeFuncLeaves
import Derived.Scope
import Derived.RangeFuncRecord
import Derived.TacticsIn
import Derived.OrdersIn
import Derived.Test.YtoipnedbpjfeiaaDoorAu01
set_option linter.all false
set_option linter.unusedSectionVars false
set_option linter.unusedSimpArgs false
set_option linter.unusedVariables false
section
namespace Go.AM
variable [Orc]
section
variable {P:Program} {ι:Ren} {s:St} {w:World} {K:VK}
theorem OORl.map {ρ:Operand→Option AVal} {ρc:Operand→Value} (hρ:∀ x,ORl ι (ρ x) (ρc x)) (x:Option Operand):OORl ι (x.map ρ) (x.map ρc):=by
  cases x with
  | none => simp [OORl]
  | some x => simpa [OORl] using hρ x
def noFn:Op→Bool
  | .call c => match c.callee with
    | .value _ => false
    | _ => true
  | _ => true
theorem Zka (b:Builtin) (ts:Array TypeId) (ty:TypeId) (cs:Array Bool) (args:Array Value):invoke (.builtin b ts ty cs) args = builtin b ts ty cs args:=rfl
theorem two {α β:Type} {l:Array α} {x y:α} (h:l.toList = [x,y]) (f:α→β):l.map f = #[f x,f y]:=by
  have:l = #[x,y]:=by rw [← Array.toArray_toList (xs:=l),h]
  subst this; simp
theorem one {α β:Type} {l:Array α} {x:α} (h:l.toList = [x]) (f:α→β):l.map f = #[f x]:=by
  have:l = #[x]:=by rw [← Array.toArray_toList (xs:=l),h]
  subst this; simp
theorem Zvz {rec:RecT} {o:Oper} {ρ:Operand→Option AVal} {ρc:Operand→Value} (hn:noFn o.op = true) (h:opK P rec o.op ρ s K = true) (hw:WRel P ι s w) (hρ:∀ x,ORl ι (ρ x) (ρc x)) :
    Fine P ι w K ((execOp ρc o).run P w):=by
  unfold execOp
  generalize o.op = op at hn h
  cases op with
  | move x => exact (show Z1i P ι w K ((Sem.run P (pure (ρc x)) w)) from Zhb h hw (hρ x)).fine
  | assign x => exact (show Z1i P ι w K ((Sem.run P (pure (ρc x)) w)) from Zhb h hw (hρ x)).fine
  | pick c a b =>
    have:=(Zpb h hw (hρ c) (hρ a) (hρ b)).fine
    simpa using this
  | alloc t => exact (Znr h hw).fine
  | box t x => exact (Zro h hw (hρ x)).fine
  | build t ps => exact (Znt h hw (fun x _ => hρ x.2)).fine
  | buildSlice t n ps => exact (Zgo h hw (fun x _ => hρ x.2)).fine
  | insert t m k x => exact Zej h hw (hρ m) (hρ k) (hρ x)
  | load t a => exact (Zp8 h hw (hρ a)).fine
  | store t a x => exact Zo1 h hw (hρ a) (hρ x)
  | nilCheck x =>
    obtain ⟨b,off,a,hx,hr,hk⟩:=Zru h (hρ x)
    simp only [hx,Sem.run_pure]
    exact ⟨_,w,ι,s,a,.inl rfl,Ext.refl ι w,hw,hx ▸ hr,hk⟩
  | binOp op t x y e => exact (Zrm h hw (hρ x) (hρ y)).fine
  | unOp op t x => exact (Zua h hw (hρ x)).fine
  | convert a b x => exact (Zkh h hw (hρ x)).fine
  | makeFunc f a c =>
    obtain ⟨g,hg,h1⟩:=Z01.1 h
    obtain ⟨as,ha,h2⟩:=Z82 (ρc:=ρc) a.toList _ h1 (fun x _ => hρ x)
    obtain ⟨cs,hc,h3⟩:=Z82 (ρc:=ρc) c.toList _ h2 (fun x _ => hρ x)
    cases f with
    | func f =>
      cases hg
      refine (show Z1i P ι w K _ from ?_).fine
      exact .same hw (.fn (by simpa using ha) (by simpa using hc)) h3
    | _ => cases hg
  | makeMap t r =>
    rcases Z02.1 h with ⟨hr,h1⟩ | ⟨_,h1⟩
    · rcases Z02.1 h1 with ⟨_,h2⟩ | ⟨_,h2⟩
      · cases r with
        | some r => cases hr
        | none => exact (Zkj h2 hw).fine
      · cases h2
    · cases h1
  | makeSlice t l c => exact (Zi2 h hw (hρ l) (hρ c)).fine
  | slice t x lo hi mx => exact (Zo0 h hw (hρ x) (OORl.map hρ lo) (OORl.map hρ hi) (OORl.map hρ mx)).fine
  | fieldAddr t x f => exact (Zhz h hw (hρ x)).fine
  | field t x f => exact (Znv h hw (hρ x)).fine
  | indexAddr t x i => exact (Zi0 h hw (hρ x) (hρ i)).fine
  | index t x i => exact (Znw h hw (hρ x) (hρ i)).fine
  | lookup t m i ok => exact (Zmj h hw (hρ m) (hρ i)).fine
  | mapUpdate t m k x => exact Zej h hw (hρ m) (hρ k) (hρ x)
  | extract x i => exact (Zki h hw (hρ x)).fine
  | call c =>
    obtain ⟨callee,args,ats⟩:=c
    cases callee with
    | value f => cases hn
    | invoke r n => cases h
    | builtin b =>
      have hred:∃ bs,(Sem.run P (do let d ← resolve ρc ⟨.builtin b,args,ats⟩ o.type; invoke d.target d.args) w) = (builtin b ats o.type bs (args.map ρc)).run P w:=by
        have hr:∃ bs,resolve ρc ⟨.builtin b,args,ats⟩ o.type = pure ⟨.builtin b ats o.type bs,args.map ρc⟩:=⟨_,rfl⟩
        obtain ⟨bs,hr⟩:=hr
        exact ⟨bs,by rw [hr]; simp only [Sem.run_bind,Sem.run_pure,Result.andThen_ok,Zka]⟩
      obtain ⟨bs,hred⟩:=hred
      have goal:Fine P ι w K ((builtin b ats o.type bs (args.map ρc)).run P w)→Fine P ι w K (Sem.run P (do let d ← resolve ρc ⟨.builtin b,args,ats⟩ o.type; invoke d.target d.args) w):=fun h => hred.symm ▸ h
      refine goal ?_
      have h:Z3u P rec ⟨.builtin b,args,ats⟩ ρ s K = true:=h
      cases b with
      | append =>
        simp only [Z3u] at h
        split at h
        · rename_i x y hl
          rw [two hl]
          exact (Zmi h hw (hρ x) (hρ y)).fine
        · cases h
      | len =>
        simp only [Z3u] at h
        split at h
        · rename_i x hl
          rw [one hl]
          exact (Zrp h hw (hρ x)).fine
        · cases h
      | copy =>
        simp only [Z3u] at h
        split at h
        · rename_i x y hl
          rw [two hl]
          exact (Zp7 h hw (hρ x) (hρ y)).fine
        · cases h
      | min =>
        obtain ⟨l,hl,h1⟩:=Z82 (ρc:=ρc) args.toList _ h (fun x _ => hρ x)
        exact (Zrs h1 hw (by simpa using hl)).fine
      | max =>
        obtain ⟨l,hl,h1⟩:=Z82 (ρc:=ρc) args.toList _ h (fun x _ => hρ x)
        exact (Zrr h1 hw (by simpa using hl)).fine
      | clear =>
        simp only [Z3u] at h
        split at h
        · rename_i x hl
          rw [one hl]
          exact (Znu h hw (hρ x)).fine
        · cases h
      | _ => cases h
  | _ => cases h
end
end Go.AM
end
section
namespace Go.AM
theorem Z4p (t:Tmp):∀ (l:List (Option Tmp)) (i:Nat),idxOf t l i = (idxOf t l 0).map (· + i)
  | [],i => rfl
  | x :: r,i => by
    unfold idxOf
    split
    · simp
    · rw [Z4p t r (i + 1),Z4p t r 1]
      cases idxOf t r 0 <;> simp; omega
theorem Zgg:∀ (l:List AVal) (i:Nat),nthO l i = l[i]?
  | [],i => by cases i <;> rfl
  | x :: l,0 => rfl
  | x :: l,i + 1 => (Zgg l i).trans (by simp)
structure LocRel (ι:Ren) (prev:List (Option Tmp)) (locals:List AVal) (tree:PT AVal) (tmps:Array Value):Prop where
  len:prev.length = locals.length
  loc:∀ t d v,idxOf t prev 0 = some d→locals[d]? = some v→∃ u,tmps[t]? = some u∧VRel ι v u
  old:∀ t v,idxOf t prev 0 = none→PT.get (posOf t) tree = some v→∃ u,tmps[t]? = some u∧VRel ι v u
theorem LocRel.mono {ι ι':Ren} {prev:List (Option Tmp)} {locals:List AVal} {tree:PT AVal} {tmps:Array Value} (hl:Ren.le ι ι') (h:LocRel ι prev locals tree tmps):LocRel ι' prev locals tree tmps :=
  ⟨h.len,fun t d v e1 e2 => let ⟨u,h1,h2⟩:=h.loc t d v e1 e2; ⟨u,h1,h2.mono hl⟩,fun t v e1 e2 => let ⟨u,h1,h2⟩:=h.old t v e1 e2; ⟨u,h1,h2.mono hl⟩⟩
theorem LocRel.start {ι:Ren} {n:Nat} {ps:List Tmp} {tree:PT AVal} {tmps:Array Value} (h:TRel ι n ps tree tmps):LocRel ι [] [] tree tmps :=
  ⟨rfl,fun t d v e1 e2 => by simp at e2,fun t v _ e => (h.get t v e).2⟩
theorem LocRel.push {ι:Ren} {prev:List (Option Tmp)} {locals:List AVal} {tree:PT AVal} {a:Act} {v:AVal} {u:Value} (h:LocRel ι prev locals tree a.tmps) (dst:Option Tmp) (hd:∀ d,dst = some d→d < a.tmps.size) (hv:VRel ι v u) :
    LocRel ι (dst :: prev) (v :: locals) tree (a.put dst u).tmps:=by
  refine ⟨by simp [h.len],fun t d v' e1 e2 => ?_,fun t v' e1 e2 => ?_⟩
  · unfold idxOf at e1
    split at e1
    · rename_i hdt
      cases e1
      subst hdt
      simp at e2; subst e2
      exact ⟨u,by simp [Act.put,hd t rfl],hv⟩
    · rename_i hdt
      rw [Z4p] at e1
      cases hi:idxOf t prev 0 with
      | none => rw [hi] at e1; cases e1
      | some k =>
        rw [hi] at e1; cases e1
        have e2:locals[k]? = some v':=by simpa using e2
        obtain ⟨u',h1,h2⟩:=h.loc t k v' hi e2
        refine ⟨u',?_,h2⟩
        cases dst with
        | none => exact h1
        | some d => rw [← h1]; exact Array.getElem?_setIfInBounds_ne (fun e => hdt (by rw [e]))
  · unfold idxOf at e1
    split at e1
    · cases e1
    · rename_i hdt
      rw [Z4p] at e1
      cases hi:idxOf t prev 0 with
      | some k => rw [hi] at e1; cases e1
      | none =>
        obtain ⟨u',h1,h2⟩:=h.old t v' hi e2
        refine ⟨u',?_,h2⟩
        cases dst with
        | none => exact h1
        | some d => rw [← h1]; exact Array.getElem?_setIfInBounds_ne (fun e => hdt (by rw [e]))
theorem Zg9 {ι:Ren} {prev:List (Option Tmp)} {locals:List AVal} {tree:PT AVal} {a:Act} (h:LocRel ι prev locals tree a.tmps) (x:Operand):ORl ι (getO tree locals (Z07 prev x)) (a.eval x):=by
  intro v hv
  cases x with
  | tmp t =>
    unfold Z07 at hv
    cases hi:idxOf t prev 0 with
    | some d =>
      simp only [hi] at hv
      have hv:nthO locals d = some v:=hv
      rw [Zgg] at hv
      obtain ⟨u,h1,h2⟩:=h.loc t d v hi hv
      simpa [Act.eval,Array.getD_eq_getD_getElem?,h1] using h2
    | none =>
      simp only [hi] at hv
      have hv:PT.get (posOf t) tree = some v:=hv
      obtain ⟨u,h1,h2⟩:=h.old t v hi hv
      simpa [Act.eval,Array.getD_eq_getD_getElem?,h1] using h2
  | const c =>
    unfold Z07 at hv
    cases hc:conv c with
    | none => simp only [hc] at hv; cases hv
    | some b =>
      simp only [hc] at hv
      have hv:some b = some v:=hv
      cases hv
      exact Zhl hc
  | global g => cases hv
  | func f =>
    have hv:some (AVal.fn f [] []) = some v:=hv
    cases hv
    exact .fn .nil .nil
theorem Zse {ops:Array Oper} {a:Act} {j:Nat} {d:Tmp} (h:(ops[j]?).bind (·.dst) = some d):yielded ops a.tmps j = (match a.eval (.tmp d) with | .bool b => some b | _ => none):=by
  unfold yielded
  rw [h]
  simp only [Option.bind_some,Act.eval,Array.getD_eq_getD_getElem?]
  cases a.tmps[d]? with
  | none => rfl
  | some v => cases v <;> rfl
theorem Za2 {ι:Ren} {all:Array Oper} {o:Oper} {ρ:Operand→Option AVal} {x y:Bool} {a:Act} (h:Z26 all o ρ x y = true) (hρ:∀ x,ORl ι (ρ x) (a.eval x)) :
    (Region.wanted o (yielded all a.tmps) = true∧x = true) ∨ (Region.wanted o (yielded all a.tmps) = false∧y = true):=by
  unfold Z26 at h
  cases hg:o.guard with
  | none =>
    rw [hg] at h
    exact .inl ⟨by simp [Region.wanted,hg],h⟩
  | some g =>
    rw [hg] at h
    obtain ⟨j,want⟩:=g
    obtain ⟨g2,hg2,h1⟩:=Z01.1 h
    unfold Z4z at hg2
    simp only [hg] at hg2
    split at hg2
    · rename_i d hd
      cases hg2
      obtain ⟨v,hv,h2⟩:=Z01.1 h1
      have hr:=hρ _ v hv
      have hy:=Zse (a:=a) hd
      simp only [Region.wanted,hg,hy]
      cases v with
      | bool b =>
        rcases Z02.1 h2 with ⟨hb,h3⟩ | ⟨hb,h3⟩
        · generalize a.eval (.tmp d) = u at hr
          cases hr
          left; refine ⟨?_,h3⟩
          cases b <;> cases want <;> first | rfl | cases hb
        · generalize a.eval (.tmp d) = u at hr
          cases hr
          right; refine ⟨?_,h3⟩
          cases b <;> cases want <;> first | rfl | cases hb
      | _ =>
        generalize a.eval (.tmp d) = u at hr
        first
        | (cases hr <;> exact .inr ⟨rfl,h2⟩)
        | (cases h2)
    · cases hg2
theorem Zb0 {ps:List Tmp}:∀ (prev:List (Option Tmp)) (locals:List AVal) (seen:List Tmp) (tree:PT AVal) (k:PT AVal→Bool),Z3q (Z3h ps prev seen) locals tree k = true →
    ∃ tree',k tree' = true∧∀ t v,PT.get (posOf t) tree' = some v→(t ∈ ps∧t ∉ seen∧∃ d,idxOf t prev 0 = some d∧locals[d]? = some v) ∨ (PT.get (posOf t) tree = some v∧(idxOf t prev 0 = none ∨ t ∈ seen ∨ t ∉ ps))
  | [],locals,seen,tree,k,h => ⟨tree,h,fun t v e => .inr ⟨e,.inl rfl⟩⟩
  | none :: r,locals,seen,tree,k,h => by
    cases locals with
    | nil => cases h
    | cons u locals =>
      obtain ⟨tree',h1,h2⟩:=Zb0 r locals seen tree k h
      refine ⟨tree',h1,fun t v e => ?_⟩
      have hi:idxOf t (none :: r) 0 = (idxOf t r 0).map (· + 1):=by rw [← Z4p]; rfl
      rcases h2 t v e with ⟨e1,e2,d,e3,e4⟩ | ⟨e1,e2⟩
      · exact .inl ⟨e1,e2,d + 1,by rw [hi,e3]; rfl,by simpa using e4⟩
      · refine .inr ⟨e1,?_⟩
        rcases e2 with e2 | e2 | e2
        · exact .inl (by rw [hi,e2]; rfl)
        · exact .inr (.inl e2)
        · exact .inr (.inr e2)
  | some x :: r,locals,seen,tree,k,h => by
    cases locals with
    | nil => unfold Z3h at h; split at h <;> cases h
    | cons u locals =>
      have hi:∀ t,t ≠ x→idxOf t (some x :: r) 0 = (idxOf t r 0).map (· + 1):=by
        intro t ht
        rw [← Z4p]
        show (if some x = some t then some 0 else idxOf t r (0 + 1)) = _
        rw [if_neg (by simpa using Ne.symm ht)]
      have h0:idxOf x (some x :: r) 0 = some 0:=by simp [idxOf]
      unfold Z3h at h
      by_cases hc:(ps.contains x && !seen.contains x) = true
      · rw [if_pos hc] at h
        simp only [Bool.and_eq_true,List.contains_iff_mem,Bool.not_eq_true',List.contains_eq_mem,decide_eq_true_eq,decide_eq_false_iff_not] at hc
        have h:PT.setK (posOf x) u tree (fun t => Z3q (Z3h ps r (x :: seen)) locals t k) = true:=h
        rw [PT.Zbk] at h
        obtain ⟨tree',h1,h2⟩:=Zb0 r locals (x :: seen) _ k h
        refine ⟨tree',h1,fun t v e => ?_⟩
        rcases h2 t v e with ⟨e1,e2,d,e3,e4⟩ | ⟨e1,e2⟩
        · have hne:t ≠ x:=fun e => e2 (by simp [e])
          exact .inl ⟨e1,fun h => e2 (by simp [h]),d + 1,by rw [hi t hne,e3]; rfl,by simpa using e4⟩
        · by_cases hne:t = x
          · subst hne
            rw [PT.Z1h] at e1
            cases e1
            exact .inl ⟨hc.1,hc.2,0,h0,by simp⟩
          · rw [PT.Z0w _ _ _ _ (fun e => hne (Zap e))] at e1
            refine .inr ⟨e1,?_⟩
            rcases e2 with e2 | e2 | e2
            · exact .inl (by rw [hi t hne,e2]; rfl)
            · simp [hne] at e2
              exact .inr (.inl e2)
            · exact .inr (.inr e2)
      · rw [if_neg hc] at h
        obtain ⟨tree',h1,h2⟩:=Zb0 r locals (x :: seen) tree k h
        refine ⟨tree',h1,fun t v e => ?_⟩
        rcases h2 t v e with ⟨e1,e2,d,e3,e4⟩ | ⟨e1,e2⟩
        · have hne:t ≠ x:=fun e => e2 (by simp [e])
          exact .inl ⟨e1,fun h => e2 (by simp [h]),d + 1,by rw [hi t hne,e3]; rfl,by simpa using e4⟩
        · refine .inr ⟨e1,?_⟩
          by_cases hne:t = x
          · subst hne
            by_cases hs:t ∈ seen
            · exact .inr (.inl hs)
            · refine .inr (.inr fun hp => hc ?_)
              simp [hp,hs]
          · rcases e2 with e2 | e2 | e2
            · exact .inl (by rw [hi t hne,e2]; rfl)
            · simp [hne] at e2
              exact .inr (.inl e2)
            · exact .inr (.inr e2)
theorem LocRel.Zte {ι:Ren} {n:Nat} {ps:List Tmp} {prev:List (Option Tmp)} {locals:List AVal} {tree:PT AVal} {tmps:Array Value} {k:PT AVal→Bool} (h:LocRel ι prev locals tree tmps) (hn:n ≤ tmps.size)
    (hp:∀ t v,PT.get (posOf t) tree = some v→t ∈ ps) (hk:Z3q (Z3h ps prev []) locals tree k = true):∃ tree',k tree' = true∧TRel ι n ps tree' tmps:=by
  obtain ⟨tree',h1,h2⟩:=Zb0 prev locals [] tree k hk
  refine ⟨tree',h1,hn,fun t v e => ?_⟩
  rcases h2 t v e with ⟨e1,_,d,e3,e4⟩ | ⟨e1,e2⟩
  · exact ⟨e1,h.loc t d v e3 e4⟩
  · have:=hp t v e1
    rcases e2 with e2 | e2 | e2
    · exact ⟨this,h.old t v e2 e1⟩
    · cases e2
    · exact absurd this e2
end Go.AM
end
section
namespace Go.AM
section
variable {F:Fence} {n:Nat} {P:Program} {Q:Exit→Act→World→Prop} {a:Act} {w:World} {b:Frame} {k:List Item} {cs:List Frame}
theorem Z6z {c:Code}:step P (lone (b.atR a (.code (.scope c) :: k)) cs w) = .next (lone (b.atR a (.code c :: .inScope c :: k)) cs w) :=
  step_lone_go (by simp [stepG,stepG.exec,Frame.atR])
theorem Zmk {c:Code}:step P (lone (b.atR a (.inScope c :: k)) cs w) = .next (lone (b.atR a k) cs w) :=
  step_lone_go (by simp [stepG,stepG.exec,Frame.atR])
theorem Zsd {c : Code} (h : c.wpIn F n P (Exit.noGoto Q) a w) : (Code.scope c).wpIn F n P Q a w := by
  intro b k cs hro hb hr
  have h0 : (lone (b.atR a (.code (.scope c) :: k)) cs w).fenced P F := fenced_calm hb hr rfl
  obtain ⟨e, a₁, w₁, hq, harr⟩ := h b (.inScope c :: k) cs hro hb hr
  cases e with
  | normal => exact ⟨.normal, a₁, w₁, hq, .head h0 Z6z (StepsIn.trans harr (.one (fenced_calm hb hr rfl) Zmk))⟩
  | exit id =>
    have hx : exitTo id (.inScope c :: k) = exitTo id k := by simp [exitTo]
    exact ⟨.exit id, a₁, w₁, hq, fun k' hk => .head h0 Z6z (harr.1 k' (by rw [hx]; exact hk)),
        fun hr' hk => let ⟨k₁, h1, h2⟩ := harr.2 hr' (by rw [hx]; exact hk); ⟨k₁, h1, .head h0 Z6z h2⟩⟩
  | goto l => exact hq.elim
  | ret => exact ⟨_, a₁, w₁, hq, .of_steps (.one h0 Z6z) harr⟩
  | panic ch => exact ⟨_, a₁, w₁, hq, .of_steps (.one h0 Z6z) harr⟩
  | outgrown => exact ⟨_, a₁, w₁, hq, .of_steps (.one h0 Z6z) harr⟩
end
def Z4h (n0:Nat) (ι:Ren) (w:World) (ds:List Deferred):Prop :=
  ∃ rs:List Nat,ds = rs.map (fun r => { target:=.collected r,args:=#[] })∧rs.Nodup∧∀ r ∈ rs,w.heap[r]? = some (.deferred (some []))∧n0 ≤ r∧∀ b p,ι b = some p→p.ro = false→p.blk ≠ r
theorem Z4h.nil (n0:Nat) (ι:Ren) (w:World):Z4h n0 ι w []:=⟨[],rfl,List.nodup_nil,by simp⟩
theorem Zcb {w:World} {r:Nat} {o:Obj} (h:w.heap[r]? = some o):r < w.heap.size:=(Array.getElem?_eq_some_iff.1 h).1
theorem Z4h.ext {n0:Nat} {ι ι':Ren} {w w':World} {ds:List Deferred} (h:Z4h n0 ι w ds) (he:Ext ι w ι' w'):Z4h n0 ι' w' ds:=by
  obtain ⟨rs,h1,h2,h3⟩:=h
  refine ⟨rs,h1,h2,fun r hr => ?_⟩
  obtain ⟨h4,h6,h5⟩:=h3 r hr
  have hlt:=Zcb h4
  refine ⟨by rw [he.keep r hlt h5]; exact h4,h6,fun b p e hro hb => ?_⟩
  rcases he.new b p e with e' | e' | ⟨_,b0,p0,e0,hr0,hb0⟩
  · exact h5 b p e' hro hb
  · omega
  · exact h5 b0 p0 e0 hr0 (hb0.trans hb)
end Go.AM
end
section
namespace Go.AM
section
variable {P:Program} {ι:Ren} {s:St} {w:World} {K:VK}
theorem Zpa {t:TypeId} {x:Option AVal} {v:Value} (h:Z6s P t x s K = true) (hw:WRel P ι s w) (hx:ORl ι x v) :
    ∃ b o u a,v = .pointer (some ⟨b,o,none⟩)∧(loadVar t ⟨b,o,none⟩).run P w = .ok u w∧VRel ι a u∧K a s = true:=by
  obtain ⟨n,hn,h⟩:=Z01.1 h
  obtain ⟨a,ha,h⟩:=Z01.1 h
  obtain ⟨b,off,rfl,h⟩:=AVal.Z24.1 h
  obtain ⟨cs,ro,hc,h⟩:=Z1e.1 h
  have hr:=hx _ ha
  cases hr with
  | ptr hb =>
    obtain ⟨u,a',hu,hru,hk⟩:=Zfc hn hb hc hw h
    exact ⟨_,_,u,a',rfl,hu,hru,hk⟩
def Zfm (tmps:Array Value):ResultVar→Sem Value
  | .tmp t => pure (tmps.getD t undef)
  | .cell a t => do loadVar t (← asAddr (tmps.getD a undef))
theorem Zkm {n:Nat} {ps:List Tmp} {tree:PT AVal} {tmps:Array Value} (hw:WRel P ι s w) (ht:TRel ι n ps tree tmps):∀ (l:List ResultVar) (k:List AVal→Bool),resK P tree s l k = true →
    ∃ vs us,k vs = true∧VRels ι vs us∧(l.mapM (Zfm tmps)).run P w = .ok us w
  | [],k,h => ⟨[],[],h,.nil,by simp⟩
  | .tmp t :: l,k,h => by
    obtain ⟨v,hv,h1⟩:=Z01.1 h
    obtain ⟨vs,us,h2,h3,h4⟩:=Zkm hw ht l _ h1
    obtain ⟨_,u,hu,hr⟩:=ht.get t v hv
    refine ⟨v :: vs,u :: us,h2,.cons hr h3,?_⟩
    simp only [List.mapM_cons,Zfm,Sem.run_bind,Sem.run_pure,Result.andThen_ok,h4]
    simp [Array.getD_eq_getD_getElem?,hu]
  | .cell a t :: l,k,h => by
    have h:Z6s P t (PT.get (posOf a) tree) s (fun v _ => resK P tree s l fun r => k (v :: r)) = true:=h
    obtain ⟨b,o,u,v,e1,e2,e3,h1⟩:=Zpa (v:=tmps.getD a undef) h hw (fun v hv => by
      obtain ⟨_,u,hu,hr⟩:=ht.get a v hv
      simpa [Array.getD_eq_getD_getElem?,hu] using hr)
    obtain ⟨vs,us,h2,h3,h4⟩:=Zkm hw ht l _ h1
    refine ⟨v :: vs,u :: us,h2,.cons e3 h3,?_⟩
    simp only [List.mapM_cons,Zfm,Sem.run_bind,e1,asAddr,Sem.run_pure,Result.andThen_ok,e2,h4]
theorem Zzd {n:Nat} {ps:List Tmp} {tree:PT AVal} {tmps:Array Value} {fn:Func} (hw:WRel P ι s w) (ht:TRel ι n ps tree tmps) (h:resK P tree s fn.results.toList (fun l => retK l s K) = true) :
    ∃ a v,(results fn tmps).run P w = .ok v w∧VRel ι a v∧K a s = true:=by
  obtain ⟨vs,us,h2,h3,h4⟩:=Zkm hw ht _ _ h
  have hm:(fn.results.mapM (Zfm tmps)).run P w = .ok us.toArray w:=by
    rw [Array.mapM_eq_mapM_toList]
    simp [h4]
  have hres:(results fn tmps).run P w = .ok (if h:us.toArray.size = 1 then us.toArray[0] else .tuple us.toArray) w:=by
    have:results fn tmps = (do let vs ← fn.results.mapM (Zfm tmps); pure (if h:vs.size = 1 then vs[0] else .tuple vs)):=by
      unfold results
      congr 1
    rw [this]
    simp only [Sem.run_bind,hm,Result.andThen_ok,Sem.run_pure]
  rw [hres]
  cases h3 with
  | nil => exact ⟨_,_,rfl,.tup .nil,h2⟩
  | cons hx hr =>
    cases hr with
    | nil => exact ⟨_,_,rfl,hx,h2⟩
    | cons hy hr =>
      refine ⟨_,_,rfl,?_,h2⟩
      rw [dif_neg (by simp)]
      exact .tup (.cons hx (.cons hy hr))
end
end Go.AM
end
section
namespace Go.AM
variable [Orc]
structure Here (P:Program) (n0:Nat) (fi:FI) (ι:Ren) (tree:PT AVal) (s:St) (a:Act) (w:World):Prop where
  wr:WRel P ι s w
  tr:TRel ι fi.ntmps fi.ps tree a.tmps
  df:Z4h n0 ι w a.defers
  nz:n0 ≤ w.heap.size
def RRel (ι:Ren):Option Pos→Option Nat→Prop
  | none,none => True
  | some q,some l => ∃ p,ι q = some p∧p.blk = l
  | _,_ => False
theorem RRel.mono {ι ι':Ren} (hl:Ren.le ι ι'):∀ {x:Option Pos} {y:Option Nat},RRel ι x y→RRel ι' x y
  | none,none,_ => trivial
  | some _,some _,⟨p,h1,h2⟩ => ⟨p,hl _ _ h1,h2⟩
def exOf:Ex→Exit
  | .normal => .normal
  | .exit id => .exit id
  | .ret => .ret
def Post (P:Program) (n0:Nat) (fi:FI) (ι:Ren) (w:World) (K:Z71):Exit→Act→World→Prop :=
  fun e a' w' => ∃ ex tree' s' ι',exOf ex = e∧Ext ι w ι' w'∧Here P n0 fi ι' tree' s' a' w'∧K ex tree' s' = true
def FOk (P:Program) (fi:FI):Prop:=∃ info,funInfo P fi.fn = some info∧info.ntmps = fi.ntmps∧info.ps = fi.ps
def Sound (P:Program) (rec:RecT):Prop:=∀ c n0 fi tree s K F m ι a w,rec (compile P fi.ps fi.ntmps c) fi tree s K = true→FOk P fi→(∀ f,F.fn f)→F.depth = none→RRel ι fi.round F.round→Here P n0 fi ι tree s a w →
  c.wpIn F m P (Post P n0 fi ι w K) a w
class OrcOk:Prop where
  info:∀ (P:Program) (f:FuncId) (args:List AVal) (v:AVal),Orc.get P f args = some v→∃ fi,funInfo P f = some fi
  ok:∀ (P:Program) (f:FuncId) (args:List AVal) (v:AVal),Orc.get P f args = some v→∀ (ι:Ren) (us:List Value),VRels ι args us→∀ (F:Fence) (n:Nat) (w:World),(∀ f,F.fn f)→F.depth = none →
    CallsIn F n P f us.toArray w fun e w' => ∃ u,e = .returned u∧VRel (fun _ => none) v u∧Ext (fun _ => none) w (fun _ => none) w'
def Zg3 (P:Program) (ι:Ren) (w:World) (K:VK):Ending→World→Prop :=
  fun e w' => ∃ v ι' s' a,e = .returned v∧Ext ι w ι' w'∧WRel P ι' s' w'∧VRel ι' a v∧K a s' = true
theorem Zmz {F:Fence} {n:Nat} {P:Program} {f:FuncId} {args:Array Value} {w:World} {R:Ending→World→Prop} (h:CallsIn { F with round:=none } n P f args w R):CallsIn F n P f args w R:=h
theorem Zfa {F:Fence} {n:Nat} {P:Program} {fn:Func} {tmps:Array Value} {R:Ending→World→Prop}:∀ (rs:List Nat) (w:World),rs.Nodup→(∀ r ∈ rs,w.heap[r]? = some (.deferred (some []))) →
    (∀ w',w'.heap.size = w.heap.size→(∀ i,i ∉ rs→w'.heap[i]? = w.heap[i]?)→w'.os = w.os→w'.output = w.output→∃ v,(results fn tmps).run P w' = .ok v w'∧R (.returned v) w') →
    LeavesInM F n P fn tmps R (rs.map fun r => { target:=.collected r,args:=#[] }) .returning w
  | [],w,_,_,h => by
    obtain ⟨v,h1,h2⟩:=h w rfl (fun _ _ => rfl) rfl rfl
    exact ⟨v,h1,h2⟩
  | r :: rs,w,hn,hr,h => by
    have h0:=hr r (by simp)
    have hlt:=Zcb h0
    have hn':=List.nodup_cons.1 hn
    refine ⟨by simp,.inl ⟨r,{ w with heap:=w.heap.setIfInBounds r (.deferred none) },rfl,?_,?_⟩⟩
    · have hg:(getObj r).run P w = .ok (.deferred (some [])) w:=by simp [getObj,Sem.run,h0]
      simp only [Instr.takeDeferred,Sem.run_bind,hg,Result.andThen_ok,Zeb (P:=P) (o:=.deferred none) h0 (by intro c t f e; cases e),Sem.run_pure]
    · refine Zfa rs _ hn'.2 (fun x hx => ?_) (fun w' e1 e2 e3 e4 => ?_)
      · have hne:r ≠ x:=fun e => hn'.1 (e ▸ hx)
        simp [Array.getElem?_setIfInBounds_ne hne,hr x (by simp [hx])]
      · refine h w' (by simpa using e1) (fun i hi => ?_) e3 e4
        have hi1:r ≠ i:=fun e => hi (by simp [e])
        rw [e2 i (fun h => hi (by simp [h]))]
        simp [Array.getElem?_setIfInBounds_ne hi1]
end Go.AM
end
section
namespace Go.AM
variable [Orc]
theorem Zdl {ps:List Tmp}:∀ (n i:Nat) (args:List AVal) (tree:PT AVal) (k:PT AVal→Bool),Z3q (Z9e ps n i) args tree k = true →
    ∃ tree',k tree' = true∧∀ t v,PT.get (posOf t) tree' = some v→PT.get (posOf t) tree = some v ∨ (t ∈ ps∧i ≤ t∧args[t - i]? = some v)
  | 0,i,args,tree,k,h => ⟨tree,h,fun t v e => .inl e⟩
  | n + 1,i,args,tree,k,h => by
    cases args with
    | nil => unfold Z9e at h; split at h <;> cases h
    | cons u args =>
      unfold Z9e at h
      by_cases hc:ps.contains i = true
      · rw [if_pos hc] at h
        have h:PT.setK (posOf i) u tree (fun t => Z3q (Z9e ps n (i + 1)) args t k) = true:=h
        rw [PT.Zbk] at h
        obtain ⟨tree',h1,h2⟩:=Zdl n (i + 1) args _ k h
        refine ⟨tree',h1,fun t v e => ?_⟩
        rcases h2 t v e with e1 | ⟨e1,e2,e3⟩
        · by_cases hne:t = i
          · subst hne
            rw [PT.Z1h] at e1
            cases e1
            exact .inr ⟨by simpa using hc,Nat.le_refl _,by simp⟩
          · rw [PT.Z0w _ _ _ _ (fun e => hne (Zap e))] at e1
            exact .inl e1
        · refine .inr ⟨e1,by omega,?_⟩
          rw [show t - i = (t - (i + 1)) + 1 by omega]
          simpa using e3
      · rw [if_neg hc] at h
        obtain ⟨tree',h1,h2⟩:=Zdl n (i + 1) args tree k h
        refine ⟨tree',h1,fun t v e => ?_⟩
        rcases h2 t v e with e1 | ⟨e1,e2,e3⟩
        · exact .inl e1
        · refine .inr ⟨e1,by omega,?_⟩
          rw [show t - i = (t - (i + 1)) + 1 by omega]
          simpa using e3
theorem Zbu {P : Program} {f : FuncId} {fi : FInfo} (h : funInfo P f = some fi) : ∃ fn c, P.funcs[f]? = some fn ∧ fn.body = some c ∧ fn.name ≠ "runtime.NumGoroutine" ∧ fi.ntmps = fn.ntmps ∧ fi.res = fn.results.toList ∧ fi.code = compile P fi.ps fi.ntmps c := by
  unfold funInfo at h
  split at h
  · rename_i fn hfn
    split at h
    · rename_i c hb
      split at h
      · cases h
      · rename_i hn
        cases h
        exact ⟨fn,c,hfn,hb,hn,rfl,rfl,rfl⟩
    · cases h
  · cases h
theorem WRel.shut {P:Program} {ι:Ren} {s:St} {w w':World} {rs:List Nat} (h:WRel P ι s w) (hd:∀ r ∈ rs,w.heap[r]? = some (.deferred (some []))) (hs:w'.heap.size = w.heap.size) (hk:∀ i,i ∉ rs→w'.heap[i]? = w.heap[i]?):WRel P ι s w':=by
  refine ⟨fun b p e => ?_,h.apart,h.fresh,fun b p e => hs ▸ h.bound b p e⟩
  obtain ⟨o,ho,hr⟩:=h.objs b p e
  refine ⟨o,ho,ORel.mono (w:=w) (Ren.le_refl ι) (fun hl => ?_) hr⟩
  by_cases hm:p.blk ∈ rs
  · have h1:=hd _ hm
    cases hr with
    | cells h2 => rw [h1] at h2; cases h2
    | map h2 => rw [h1] at h2; cases h2
    | loop h2 => rw [h1] at h2; cases h2
    | dead => cases hl
  · exact hk _ hm
end Go.AM
end
section
namespace Go.AM
variable [Orc] [OrcOk]
theorem WRel.stands {P:Program} {ι:Ren} {s:St} {w w':World} (h:WRel P ι s w) (he:Ext (fun _ => none) w (fun _ => none) w'):WRel P ι s w'∧Ext ι w ι w':=by
  have hk:∀ i,i < w.heap.size→w'.heap[i]? = w.heap[i]?:=fun i hi => he.keep i hi (fun b p e => by cases e)
  refine ⟨⟨fun b p e => ?_,h.apart,h.fresh,fun b p e => Nat.lt_of_lt_of_le (h.bound b p e) he.size⟩,⟨Ren.le_refl ι,he.size,fun _ _ e => .inl e,fun i hi _ => hk i hi,he.os,he.out⟩⟩
  obtain ⟨x,hx,hr⟩:=h.objs b p e
  exact ⟨x,hx,ORel.mono (w:=w) (Ren.le_refl ι) (fun _ => hk _ (h.bound b p e)) hr⟩
theorem Zlq {P:Program} {f:FuncId} {args:List AVal} {s:St} {K:VK} {x:Bool} (h:orcK P f args s K x = true):(Orc.get P f args = none∧x = true) ∨ ∃ v,Orc.get P f args = some v∧K v s = true:=by
  unfold orcK at h
  cases hg:Orc.get P f args with
  | none => rw [hg] at h; exact .inl ⟨rfl,h⟩
  | some v => rw [hg] at h; exact .inr ⟨v,rfl,h⟩
theorem Zim {P:Program} {rec:RecT} {f:FuncId} {args:List AVal} {s:St} {K:VK} (h:Z6g P rec f args s K = true):∃ fi,funInfo P f = some fi:=by
  rcases Zlq h with ⟨_,h⟩ | ⟨v0,hg,_⟩
  · obtain ⟨fi,hfi,_⟩:=Z01.1 h
    exact ⟨fi,hfi⟩
  · exact OrcOk.info P f args v0 hg
theorem Z9z {P:Program} {rec:RecT} (hs:Sound P rec) {F:Fence} {m:Nat} {f:FuncId} {args:List AVal} {us:List Value} {s:St} {w:World} {ι:Ren} {K:VK} (h:Z6g P rec f args s K = true) (hF:∀ f,F.fn f)
    (hd:F.depth = none) (hw:WRel P ι s w) (hv:VRels ι args us):CallsIn F m P f us.toArray w (Zg3 P ι w K):=by
  rcases Zlq h with ⟨_,h⟩ | ⟨v0,hg,hk0⟩
  rotate_left
  · refine CallsIn.mono (OrcOk.ok P f args v0 hg ι us hv F m w hF hd) ?_
    rintro e w' ⟨u,rfl,hr,he⟩
    obtain ⟨hw',he'⟩:=hw.stands he
    exact ⟨u,ι,s,v0,rfl,he',hw',hr.mono (fun b p e => by cases e),hk0⟩
  obtain ⟨fi,hfi,h1⟩:=Z01.1 h
  rw [Z0p,Nat.zero_add] at h1
  obtain ⟨fn,c,hf,hb,_,hnt,hres,hcode⟩:=Zbu hfi
  rcases Z02.1 h1 with ⟨hn,h2⟩ | ⟨_,h2⟩
  · rcases Z02.1 h2 with ⟨hle,h3⟩ | ⟨_,h3⟩
    · have hle:args.length ≤ fi.ntmps:=Nat.le_of_ble_eq_true hle
      obtain ⟨tree,h4,h5⟩:=Zdl _ _ _ _ _ h3
      have hl:=hv.length
      refine Zmz (callsIn_of_wp_marks hf hb (hF f) ?_ rfl)
      rw [hcode] at h4
      refine wpIn_mono (hs c w.heap.size { fn:=f,ntmps:=fi.ntmps,ps:=fi.ps,round:=none } _ _ _ { F with round:=none } m ι _ w h4 ⟨fi,hfi,rfl,rfl⟩ hF hd trivial ⟨hw,⟨?_,fun t v e => ?_⟩,Z4h.nil _ _ _,Nat.le_refl _⟩) ?_
      · simp only [Array.size_append,Array.size_replicate,List.size_toArray]
        rw [hnt]; omega
      · rcases h5 t v e with e1 | ⟨e1,_,e3⟩
        · rw [PT.Z7b] at e1; cases e1
        · obtain ⟨u,hu,hr⟩:=hv.get (by simpa using e3)
          refine ⟨e1,u,?_,hr⟩
          have hlt:t < us.length:=(List.getElem?_eq_some_iff.1 hu).1
          rw [Array.getElem?_append_left (by simpa using hlt)]
          simpa using hu
      · rintro e a' w' ⟨ex,tree',s',ι',rfl,he,hh,hk⟩
        have hend:LeavesInM { F with round:=none } m P fn a'.tmps (Zg3 P ι w K) a'.defers .returning w':=by
          have hk':resK P tree' s' fi.res (fun l => retK l s' K) = true:=by cases ex <;> first | exact hk | cases hk
          obtain ⟨rs,hrs,hnd,hr⟩:=hh.df
          rw [hrs]
          refine Zfa rs w' hnd (fun r h => (hr r h).1) (fun w'' e1 e2 e3 e4 => ?_)
          have hw2:=hh.wr.shut (fun r h => (hr r h).1) e1 e2
          obtain ⟨av,v,e5,e6,e7⟩:=Zzd hw2 hh.tr (hres ▸ hk')
          refine ⟨v,e5,v,ι',s',av,rfl,⟨he.le,by rw [e1]; exact he.size,he.new,fun i hi hno => ?_,e3.trans he.os,e4.trans he.out⟩,hw2,e6,e7⟩
          rw [e2 i (fun hm => by have:=(hr i hm).2.1; omega)]
          exact he.keep i hi hno
        cases ex with
        | normal => exact hend
        | ret => exact hend
        | exit id => cases hk
    · cases h3
  · cases h2
end Go.AM
end
section
namespace Go.AM
variable [Orc] [OrcOk]
theorem Zzb {P:Program} {F:Fence} {m:Nat} {o:Oper} {a:Act} {w:World} {ι:Ren} {K:VK} {next:Act→World→Prop} {Q:Exit→Act→World→Prop} (hF:∀ f,F.fn f) (hnd:∀ c,o.op ≠ .defer c)
    (h:Fine P ι w K ((execOp a.eval o).run P w))
    (hn:∀ v w' ι' s' av,Ext ι w ι' w'→WRel P ι' s' w'→VRel ι' av v→K av s' = true→next (a.put o.dst v) w'):o.wpIn F m P a w next Q:=by
  refine ⟨fun f _ => hF f,?_⟩
  rw [Oper.semAt_eq _ _ _ hnd]
  obtain ⟨v,w',ι',s',av,e,h1,h2,h3,h4⟩:=h
  rcases e with e | ⟨e,rfl⟩
  · rw [e]; exact hn v w' ι' s' av h1 h2 h3 h4
  · rw [e]; exact hn undef w' ι' s' av h1 h2 h3 h4
theorem Zcz {P : Program} {w : World} {f : FuncId} {fn : Func} {c : Code} {args : Array Value} (hf : P.funcs[f]? = some fn) (hb : fn.body = some c) (hn : fn.name ≠ "runtime.NumGoroutine") :
    (callFunc f args).run P w = .ok (.enter f args) w:=by
  simp [callFunc,hf,hb,hn]
theorem FOk.of {P:Program} {f:FuncId} {fi:FInfo} (h:funInfo P f = some fi) (r:Option Pos):FOk P { fn:=f,ntmps:=fi.ntmps,ps:=fi.ps,round:=r }:=⟨fi,h,rfl,rfl⟩
theorem Zfu {ι:Ren} {ps:List Tmp} {n:Nat}:∀ (params:List Tmp) (pl:List (Option Pos)) (args:List AVal) (us:List Value) (tree:PT AVal) (tmps:Array Value) (k:PT AVal→Bool),
    Z7i ps n params = some pl→VRels ι args us→args.length = params.length→TRel ι n ps tree tmps→Z3q pl args tree k = true →
    ∃ tree',k tree' = true∧TRel ι n ps tree' ((params.zip us).foldl (fun tmps (x:Tmp × Value) => tmps.setIfInBounds x.1 x.2) tmps)
  | [],pl,args,us,tree,tmps,k,hp,hv,hl,ht,h => by
    cases hp
    cases args with
    | nil => cases hv; exact ⟨tree,h,ht⟩
    | cons x r => simp at hl
  | t :: params,pl,args,us,tree,tmps,k,hp,hv,hl,ht,h => by
    cases hv with
    | nil => simp at hl
    | @cons x u args us hx hv =>
      unfold Z7i at hp
      split at hp
      · rename_i hlt
        split at hp
        · rename_i l hpl
          cases hp
          have hlen:args.length = params.length:=by simpa using hl
          have hsz:=ht.size
          by_cases hc:ps.contains t = true
          · rw [if_pos hc] at h
            have h:PT.setK (posOf t) x tree (fun t => Z3q l args t k) = true:=h
            rw [PT.Zbk] at h
            refine Zfu params l args us _ _ k hpl hv hlen ⟨by simpa using hsz,fun t' v e => ?_⟩ h
            by_cases hne:t' = t
            · subst hne
              rw [PT.Z1h] at e
              cases e
              exact ⟨by simpa using hc,u,by rw [Array.getElem?_setIfInBounds_self_of_lt (Nat.lt_of_lt_of_le hlt hsz)],hx⟩
            · rw [PT.Z0w _ _ _ _ (fun e => hne (Zap e))] at e
              obtain ⟨e1,v',e2,e3⟩:=ht.get t' v e
              exact ⟨e1,v',by rw [Array.getElem?_setIfInBounds_ne (Ne.symm hne)]; exact e2,e3⟩
          · rw [if_neg hc] at h
            have h:Z3q l args tree k = true:=h
            refine Zfu params l args us _ _ k hpl hv hlen ⟨by simpa using hsz,fun t' v e => ?_⟩ h
            obtain ⟨e1,v',e2,e3⟩:=ht.get t' v e
            have hne:t' ≠ t:=fun e => hc (by simpa [e] using e1)
            exact ⟨e1,v',by rw [Array.getElem?_setIfInBounds_ne (Ne.symm hne)]; exact e2,e3⟩
        · cases hp
      · cases hp
theorem Ext.put {P:Program} {ι:Ren} {s:St} {w:World} (hw:WRel P ι s w) {b:Pos} {p:Place} {l:LoopR} {L:Loop} {l':LoopR} {L':Loop} (e:ι b = some p) (hy:PT.get b s.heap = some (.loop l))
    (hL:w.heap[p.blk]? = some (.loop L)) (hr:p.ro = false) (h:LRel P ι l' L') :
    WRel P ι { heap:=PT.set b (.loop l') s.heap,next:=s.next } (w.putObj p.blk (.loop L'))∧Ext ι w ι (w.putObj p.blk (.loop L')):=by
  refine hw.update (.loop l') e hy rfl hr (by simp) (fun i hi => World.putObj_heap_other hi) rfl rfl ?_
  exact .loop (World.putObj_heap_same (Zcb hL)) h hr
theorem WRel.loop {P:Program} {ι:Ren} {s:St} {w:World} (hw:WRel P ι s w) {b:Pos} {p:Place} {l:LoopR} (e:ι b = some p) (h:PT.get b s.heap = some (.loop l)):∃ L,w.heap[p.blk]? = some (.loop L)∧LRel P ι l L∧p.ro = false:=by
  obtain ⟨o,ho,hr⟩:=hw.objs b p e
  rw [h] at ho
  cases ho
  cases hr with
  | loop h1 h2 h3 => exact ⟨_,h1,h2,h3⟩
theorem Zot {P:Program} {rec:RecT} (hs:Sound P rec) {F:Fence} {m:Nat} {q:Pos} {p:Place} {args:List AVal} {us:List Value} {s:St} {w:World} {ι:Ren} {K:VK} (h:Zos P rec q args s K = true) (hF:∀ f,F.fn f)
    (hd:F.depth = none) (hw:WRel P ι s w) (hq:ι q = some p) (hv:VRels ι args us) :
    ∃ L,w.heap[p.blk]? = some (.loop L)∧us.length = L.params.size∧RoundIn F m P p.blk L.fn ((L.params.zip us.toArray).foldl (fun tmps (x:Tmp × Value) => tmps.setIfInBounds x.1 x.2) L.tmps) L.assign L.body w (Zg3 P ι w K):=by
  obtain ⟨l,hl,h1⟩:=Z38.1 h
  obtain ⟨fi,hfi,h2⟩:=Z01.1 h1
  obtain ⟨pl,hpl,h3⟩:=Z01.1 h2
  rw [Z0p,Z0p,Nat.zero_add,Nat.zero_add] at h3
  rcases Z02.1 h3 with ⟨hn,h4⟩ | ⟨_,h4⟩
  · obtain ⟨L,hL,hr,hro⟩:=hw.loop hq hl
    have hn:args.length = l.params.length:=Nat.eq_of_beq_eq_true hn
    obtain ⟨fi',hfi',ht,hasg,hbody⟩:=hr.tm
    rw [hfi] at hfi'; cases hfi'
    refine ⟨L,hL,?_,?_⟩
    · rw [← hv.length,hn,hr.params]; simp
    · obtain ⟨tree,h5,ht'⟩:=Zfu l.params pl args us _ _ _ hpl hv hn ht h4
      have hfold:(L.params.zip us.toArray).foldl (fun tmps (x:Tmp × Value) => tmps.setIfInBounds x.1 x.2) L.tmps = (l.params.zip us).foldl (fun tmps (x:Tmp × Value) => tmps.setIfInBounds x.1 x.2) L.tmps:=by
        rw [hr.params]
        simp
      rw [hfold]
      rw [hasg] at h5
      refine roundIn_of_wpIn (hF _) ?_
      refine wpIn_mono (hs L.assign w.heap.size { fn:=l.fn,ntmps:=fi.ntmps,ps:=fi.ps,round:=some q } _ _ _ (F.inRound p.blk) m ι _ w h5 (FOk.of hfi _) hF hd ⟨p,hq,rfl⟩ ⟨hw,ht',Z4h.nil _ _ _,Nat.le_refl _⟩) ?_
      rintro e a' w' ⟨ex,tree',s',ι',rfl,he,hh,hk⟩
      cases ex with
      | normal =>
        obtain ⟨l2,hl2,h6⟩:=Z38.1 (show Z7u q s' _ = true from hk)
        rcases Z02.1 h6 with ⟨hrd,h7⟩ | ⟨_,h7⟩
        · have hq':=he.le _ _ hq
          obtain ⟨L2,hL2,hr2,hro2⟩:=hh.wr.loop hq' hl2
          have hst:L2.state = .ready:=by
            rw [hr2.state]
            revert hrd
            cases l2.state <;> simp [isReady]
          refine ⟨_,run_beginRound hL2 hst,?_⟩
          rw [Z23,hbody] at h7
          have hr3:LRel P ι' { l2 with state:=.busy } { L2 with state:=.busy }:=⟨rfl,hr2.pending,hr2.params,hr2.tm⟩
          obtain ⟨hw3,he3⟩:=Ext.put hh.wr hq' hl2 hL2 hro hr3
          refine wpIn_mono (hs L.body w.heap.size { fn:=l.fn,ntmps:=fi.ntmps,ps:=fi.ps,round:=some q } _ _ _ (F.inRound p.blk) m ι' _ _ h7 (FOk.of hfi _) hF hd ⟨p,hq',rfl⟩ ⟨hw3,hh.tr,hh.df.ext he3,Nat.le_trans hh.nz he3.size⟩) ?_
          rintro e a'' w'' ⟨ex,tree'',s'',ι'',rfl,he'',hh'',hk''⟩
          have hq'':=he''.le _ _ hq'
          obtain ⟨l3,hl3,h8⟩:=Z38.1 (show Z7u q s'' _ = true from hk'')
          obtain ⟨L3,hL3,hr3',_⟩:=hh''.wr.loop hq'' hl3
          have hext:=(he.trans he3).trans he''
          cases ex with
          | normal =>
            have h8:putK q (.loop { l3 with state:=.ready,pending:=none }) s'' (fun s => K (.bool true) s) = true:=h8
            rw [Z23] at h8
            have hr4:LRel P ι'' { l3 with state:=.ready,pending:=none } { L3 with state:=.ready,pending:=none }:=⟨rfl,rfl,hr3'.params,hr3'.tm⟩
            obtain ⟨hw4,he4⟩:=Ext.put hh''.wr hq'' hl3 hL3 hro hr4
            exact ⟨_,_,run_endRound none hL3,_,ι'',_,_,rfl,hext.trans he4,hw4,.bool true,h8⟩
          | exit id =>
            have h8:putK q (.loop { l3 with state:=.done,pending:=some (.exit id) }) s'' (fun s => K (.bool false) s) = true:=h8
            rw [Z23] at h8
            have hr4:LRel P ι'' { l3 with state:=.done,pending:=some (.exit id) } { L3 with state:=.done,pending:=some (.exit id) }:=⟨rfl,rfl,hr3'.params,hr3'.tm⟩
            obtain ⟨hw4,he4⟩:=Ext.put hh''.wr hq'' hl3 hL3 hro hr4
            exact ⟨_,_,run_endRound _ hL3,_,ι'',_,_,rfl,hext.trans he4,hw4,.bool false,h8⟩
          | ret =>
            have h8:putK q (.loop { l3 with state:=.done,pending:=some .ret }) s'' (fun s => K (.bool false) s) = true:=h8
            rw [Z23] at h8
            have hr4:LRel P ι'' { l3 with state:=.done,pending:=some .ret } { L3 with state:=.done,pending:=some .ret }:=⟨rfl,rfl,hr3'.params,hr3'.tm⟩
            obtain ⟨hw4,he4⟩:=Ext.put hh''.wr hq'' hl3 hL3 hro hr4
            exact ⟨_,_,run_endRound _ hL3,_,ι'',_,_,rfl,hext.trans he4,hw4,.bool false,h8⟩
        · cases h7
      | exit id => cases hk
      | ret => cases hk
  · cases h4
end Go.AM
end
section
namespace Go.AM
variable [Orc] [OrcOk]
theorem AVal.Zyq {v:AVal} {K:Nat→List AVal→List AVal→Bool} (h:v.fnK K = true):∃ f a c,v = .fn f a c∧K f a c = true:=AVal.Znc.1 h
theorem WRel.other {P:Program} {ι:Ren} {s:St} {w:World} (h:WRel P ι s w) (o:Obj):WRel P ι s (w.alloc o)∧Ext ι w ι (w.alloc o):=by
  have hold:∀ i,i < w.heap.size→(w.alloc o).heap[i]? = w.heap[i]?:=fun i hi => Z7j hi
  have hsz:(w.alloc o).heap.size = w.heap.size + 1:=by simp
  refine ⟨⟨fun b p e => ?_,h.apart,h.fresh,fun b p e => by have:=h.bound b p e; omega⟩,⟨Ren.le_refl ι,by omega,fun _ _ e => .inl e,fun i hi _ => hold i hi,rfl,rfl⟩⟩
  obtain ⟨x,hx,hr⟩:=h.objs b p e
  exact ⟨x,hx,ORel.mono (w:=w) (Ren.le_refl ι) (fun _ => hold _ (h.bound b p e)) hr⟩
theorem Zjq {P:Program} {w:World} {ρ:Operand→Value} {c:Call} {ty:TypeId} {g:Operand} {f:FuncId} {x y:Array Value} (hc:c.callee = .value g) (hg:ρ g = .func (.func f) x y) :
    (resolve ρ c ty).run P w = .ok { target:=.fn (.func f) y,args:=x ++ c.args.map ρ } w:=by
  unfold resolve
  simp [hc,hg,Deferred.ofValue]
theorem Z4h.more {P:Program} {ι:Ren} {s:St} {n0:Nat} {w w':World} {ds:List Deferred} {ι':Ren} (h:Z4h n0 ι w ds) (he:Ext ι w ι' w') (hn:n0 ≤ w.heap.size) (hw:w'.heap[w.heap.size]? = some (.deferred (some [])))
    (hι:∀ b p,ι' b = some p→p.ro = false→p.blk ≠ w.heap.size):Z4h n0 ι' w' ({ target:=.collected w.heap.size,args:=#[] } :: ds):=by
  obtain ⟨rs,h1,h2,h3⟩:=h
  have hrs:∀ r ∈ rs,r < w.heap.size:=fun r hr => Zcb (h3 r hr).1
  have h4:∀ r ∈ rs,w'.heap[r]? = some (.deferred (some []))∧n0 ≤ r∧∀ b p,ι' b = some p→p.ro = false→p.blk ≠ r:=by
    intro r hr
    obtain ⟨h4,h6,h5⟩:=h3 r hr
    refine ⟨by rw [he.keep r (hrs r hr) h5]; exact h4,h6,fun b p e hro hb => ?_⟩
    rcases he.new b p e with e' | e' | ⟨_,b0,p0,e0,hr0,hb0⟩
    · exact h5 b p e' hro hb
    · have:=hrs r hr; omega
    · exact h5 b0 p0 e0 hr0 (hb0.trans hb)
  refine ⟨w.heap.size :: rs,by rw [h1]; rfl,List.nodup_cons.2 ⟨fun hm => Nat.lt_irrefl _ (hrs _ hm),h2⟩,fun r hr => ?_⟩
  rcases List.mem_cons.1 hr with rfl | hr
  · exact ⟨hw,hn,hι⟩
  · exact h4 r hr
theorem Zo9 {P : Program} {rec : RecT} (hs : Sound P rec) {n0 : Nat} {fi : FI} {g : Operand} {params : Array Tmp} {c d : Code} {tree : PT AVal} {s : St} {K : Z71} {F : Fence} {m : Nat} {ι : Ren} {a : Act} {w : World}
    (h : Zui P rec fi (Z07 [] g) params.toList (compile P fi.ps fi.ntmps c) (compile P fi.ps fi.ntmps d) tree s K = true) (hfo : FOk P fi) (hF : ∀ f, F.fn f) (hd : F.depth = none) (hr : RRel ι fi.round F.round) (hh : Here P n0 fi ι tree s a w) :
    (Code.rangeFunc g params c d).wpIn F m P (Post P n0 fi ι w K) a w := by
  obtain ⟨fv, hfv, h1⟩ := Z01.1 h
  have hrel := Zg9 (LocRel.start hh.tr) g fv hfv
  have h2 : (∀ l0, fi.round = some l0 → ∃ r, PT.get l0 s.heap = some (.loop r)) ∧ (Z4w (.loop { state := .ready, pending := none, fn := fi.fn, tm := tree, params := params.toList, assign := compile P fi.ps fi.ntmps c, body := compile P fi.ps fi.ntmps d }) s fun l s =>
      fv.fnK fun f a c => appK [.yld l] c fun r => appK a r fun args => Z6g P rec f args s fun _ s => Z7u l s fun L => ifK (Zd3 L.state) (fail 52)
        (putK l (.loop { L with state := .exhausted }) s fun s => Zjn L.pending tree s K)) = true := by
    cases hro : fi.round with
    | none => rw [hro] at h1; exact ⟨fun l0 e => (by cases e), h1⟩
    | some l0 =>
      rw [hro] at h1
      obtain ⟨r, hl, h2⟩ := Z38.1 (show Z7u l0 s _ = true from h1)
      exact ⟨fun l1 e => by cases e; exact ⟨r, hl⟩, h2⟩
  obtain ⟨hround, h3⟩ := h2
  rw [Z1v] at h3
  obtain ⟨f, x, y, rfl, h4⟩ := AVal.Zyq h3
  rw [Z3a, Z3a] at h4
  obtain ⟨info, hinfo, hnt, hps⟩ := hfo
  generalize hgv : a.eval g = gv at hrel
  cases hrel with
  | @fn _ _ _ x' y' hx hy =>
    refine wpIn_rangeFunc fun fn _ => ?_
    have hlay : ∃ (w0 w1 : World) (mark : List Deferred) (df : Nat),
        (Instr.enterLoop fn a.tmps params c d F.round).run P w = .ok (w0.heap.size, mark) w1 ∧
        w1 = w0.alloc (.loop { state := .ready, pending := none, fn, tmps := a.tmps, params, assign := c, body := d, defers := df }) ∧ WRel P ι s w0 ∧ Ext ι w ι w0 ∧
        (∀ ι', Ext ι w ι' w1 → (∀ b p, ι' b = some p → ι b = some p ∨ p.blk = w0.heap.size) → Z4h n0 ι' w1 (mark ++ a.defers)) := by
      cases hFr : F.round with
      | none =>
        obtain ⟨hw0, he0⟩ := hh.wr.other (.deferred (some []))
        have hsz : (w.alloc (.deferred (some []))).heap.size = w.heap.size + 1 := by simp
        refine ⟨w.alloc (.deferred (some [])), _, [{ target := .collected w.heap.size, args := #[] }], w.heap.size, ?_, rfl, hw0, he0, fun ι' he hι => ?_⟩
        · rw [run_enterLoop_outer, hsz]
        · refine Z4h.more (P := P) (s := s) hh.df he hh.nz ?_ ?_
          · exact (Z7j (by rw [hsz]; omega)).trans (World.alloc_heap_new w _)
          · intro b p e hro
            rcases hι b p e with e | e
            · have := hh.wr.bound b p e; omega
            · rw [e, hsz]; omega
      | some l1 =>
        cases hfr : fi.round with
        | none => rw [hFr, hfr] at hr; exact hr.elim
        | some l0 =>
          rw [hFr, hfr] at hr
          obtain ⟨p0, hp0, rfl⟩ := hr
          obtain ⟨r0, hr0⟩ := hround l0 hfr
          obtain ⟨L0, hL0, _, _⟩ := hh.wr.loop hp0 hr0
          refine ⟨w, _, [], L0.defers, ?_, rfl, hh.wr, Ext.refl ι w, fun ι' he _ => ?_⟩
          · unfold Instr.enterLoop
            simp only [Sem.run_bind, run_getLoop hL0, Result.andThen, Sem.run_pure, run_newObj_alloc]
          · exact hh.df.ext he
    obtain ⟨w0, w1, mark, df, hen, hw1, hw0, he0, hdf⟩ := hlay
    have hlr : ∀ ι', Ren.le ι ι' → LRel P ι' { state := .ready, pending := none, fn := fi.fn, tm := tree, params := params.toList, assign := compile P fi.ps fi.ntmps c, body := compile P fi.ps fi.ntmps d }
        { state := .ready, pending := none, fn, tmps := a.tmps, params, assign := c, body := d, defers := df } := fun ι' hle =>
      ⟨rfl, rfl, by simp, info, hinfo, by rw [hnt, hps]; exact hh.tr.mono hle, by rw [hnt, hps], by rw [hnt, hps]⟩
    obtain ⟨hw2, he2⟩ := hw0.alloc (.loop { state := .ready, pending := none, fn := fi.fn, tm := tree, params := params.toList, assign := compile P fi.ps fi.ntmps c, body := compile P fi.ps fi.ntmps d })
      (.loop { state := .ready, pending := none, fn, tmps := a.tmps, params, assign := c, body := d, defers := df }) ⟨w0.heap.size, 0, 0, false⟩ rfl rfl
      (.loop (World.alloc_heap_new w0 _) (hlr _ (Ren.Z63 hw0.Z6c)) rfl)
    have hdir : w1 = { w0 with heap := w0.heap.push (.loop { state := .ready, pending := none, fn, tmps := a.tmps, params, assign := c, body := d, defers := df }) } := hw1
    rw [← hdir] at hw2 he2
    have hle := he2.le
    have he := he0.trans he2
    have hdf1 := hdf _ he (fun b p e => by
      rcases Ren.Z1d e with ⟨_, rfl⟩ | ⟨_, e⟩
      · exact .inr rfl
      · exact .inl e)
    have hl : Ren.set ι s.next ⟨w0.heap.size, 0, 0, false⟩ s.next = some ⟨w0.heap.size, 0, 0, false⟩ := Ren.Z3m _ _ _
    have hargs : VRels (Ren.set ι s.next ⟨w0.heap.size, 0, 0, false⟩) (x ++ ([.yld s.next] ++ y)) ((x' ++ #[Value.func (.yield w0.heap.size) #[] #[]]) ++ y').toList := by
      simp only [Array.toList_append, List.append_assoc]
      exact VRels.append (hx.mono hle) (VRels.append (.cons (.yld hl) .nil) (hy.mono hle))
    have hcall := Z9z hs (F := F) (m := m - 1) h4 hF hd hw2 hargs
    obtain ⟨fi2, hfi2⟩ := Zim h4
    obtain ⟨fn2, _, hf2, hb2, hnm2, _⟩ := Zbu hfi2
    refine ⟨_, mark, w1, { target := .fn (.func f) y', args := x' ++ #[Value.func (.yield w0.heap.size) #[] #[]] }, w1, f, _, w1, hen, ?_, fun f' _ => hF f', Zcz hf2 hb2 hnm2, by simp [hd], CallsIn.mono hcall ?_⟩
    · rw [Zjq (f := f) (x := x') (y := y') rfl hgv]
      simp [Act.eval]
    · rintro e w3 ⟨v, ι3, s3, av, rfl, he3, hw3, hv3, hk3⟩
      have hl3 := he3.le _ _ hl
      obtain ⟨l3, hl3', h5⟩ := Z38.1 (show Z7u s.next s3 _ = true from hk3)
      obtain ⟨L3, hL3, hr3, hro3⟩ := hw3.loop hl3 hl3'
      rcases Z02.1 h5 with ⟨_, h6⟩ | ⟨hbz, h6⟩
      · cases h6
      · have hst : L3.state ≠ .busy := by
          rw [hr3.state]
          revert hbz
          cases l3.state <;> simp [Zd3]
        rw [Z23] at h6
        have hr4 : LRel P ι3 { l3 with state := .exhausted } { L3 with state := .exhausted } := ⟨rfl, hr3.pending, hr3.params, hr3.tm⟩
        obtain ⟨hw4, he4⟩ := Ext.put hw3 hl3 hl3' hL3 hro3 hr4
        have hext := (he.trans he3).trans he4
        refine ⟨L3.pending, _, run_endLoop hL3 hst, ?_⟩
        have hhere : Here P n0 fi ι3 tree { heap := PT.set s.next (.loop { l3 with state := .exhausted }) s3.heap, next := s3.next } { a with defers := mark ++ a.defers } (w3.putObj w0.heap.size (.loop { L3 with state := .exhausted })) :=
          ⟨hw4, hh.tr.mono hext.le, hdf1.ext (he3.trans he4), Nat.le_trans hh.nz hext.size⟩
        generalize (World.putObj w3 w0.heap.size (Obj.loop { L3 with state := .exhausted })) = w4 at hext hhere ⊢
        rw [hr3.pending]
        generalize ({ heap := PT.set s.next (.loop { l3 with state := .exhausted }) s3.heap, next := s3.next } : St) = s4 at h6 hhere
        have h6 : Zjn l3.pending tree s4 K = true := h6
        cases hpe : l3.pending with
        | none =>
          rw [hpe] at h6
          exact ⟨.normal, _, _, _, rfl, hext, hhere, h6⟩
        | some j =>
          rw [hpe] at h6
          cases j with
          | exit id => exact wpIn_exit ⟨.exit id, _, _, _, rfl, hext, hhere, h6⟩
          | ret => exact wpIn_ret ⟨.ret, _, _, _, rfl, hext, hhere, h6⟩
          | _ => cases h6
theorem Zi1 {P:Program} {rec:RecT} (hs:Sound P rec) {F:Fence} {m:Nat} {o:Oper} {a:Act} {w:World} {ι:Ren} {s:St} {K:VK} {ρ:Operand→Option AVal} {next:Act→World→Prop} {Q:Exit→Act→World→Prop}
    (h:opK P rec o.op ρ s K = true) (hF:∀ f,F.fn f) (hd:F.depth = none) (hw:WRel P ι s w) (hρ:∀ x,ORl ι (ρ x) (a.eval x))
    (hn:∀ v w' ι' s' av,Ext ι w ι' w'→WRel P ι' s' w'→VRel ι' av v→K av s' = true→next (a.put o.dst v) w'):o.wpIn F m P a w next Q:=by
  have hnd:∀ c,o.op ≠ .defer c:=by
    intro c e
    rw [e] at h
    cases h
  by_cases hnf:noFn o.op = true
  · exact Zzb hF hnd (Zvz hnf h hw hρ) hn
  · refine ⟨fun f _ => hF f,?_⟩
    rw [Oper.semAt_eq _ _ _ hnd]
    have hc:∃ g args ats,o.op = .call ⟨.value g,args,ats⟩:=by
      generalize o.op = op at hnf
      cases op with
      | call c =>
        obtain ⟨callee,args,ats⟩:=c
        cases callee with
        | value g => exact ⟨g,args,ats,rfl⟩
        | _ => exact absurd rfl hnf
      | _ => exact absurd rfl hnf
    obtain ⟨g,args,ats,hop⟩:=hc
    rw [hop] at h
    have h:Z3u P rec ⟨.value g,args,ats⟩ ρ s K = true:=h
    obtain ⟨fv,hfv,h1⟩:=Z01.1 (show optK (ρ g) _ = true from h)
    obtain ⟨as,hu,h2⟩:=Z82 (ρc:=a.eval) args.toList _ h1 (fun x _ => hρ x)
    have hgr:=hρ g fv hfv
    have hex:∀ w,(execOp a.eval o).run P w = Sem.run P (do let d ← resolve a.eval ⟨.value g,args,ats⟩ o.type; invoke d.target d.args) w:=by
      intro w
      unfold execOp
      rw [hop]
    rw [hex]
    generalize hgv:a.eval g = gv at hgr
    cases hgr with
    | @fn f x y x' y' hx hy =>
      have h2:appK as y (fun r => appK x r fun args => Z6g P rec f args s K) = true:=h2
      rw [Z3a,Z3a] at h2
      obtain ⟨fi2,hfi2⟩:=Zim h2
      obtain ⟨fn2,_,hf2,hb2,hnm2,_⟩:=Zbu hfi2
      have hv:VRels ι (x ++ (as ++ y)) ((x' ++ args.map a.eval) ++ y').toList:=by
        simp only [Array.toList_append,Array.toList_map,List.append_assoc]
        exact VRels.append hx (VRels.append hu hy)
      have hcall:=Z9z hs (F:=F) (m:=m - 1) h2 hF hd hw hv
      simp only [Sem.run_bind,Zjq (c:=⟨.value g,args,ats⟩) (f:=f) (x:=x') (y:=y') rfl hgv,Result.andThen_ok,invoke]
      rw [Zcz hf2 hb2 hnm2]
      rw [Oper.uponIn_enter]
      refine ⟨by simp [hd],CallsIn.mono hcall ?_⟩
      rintro e w' ⟨v,ι',s',av,rfl,he,hw',hv',hk⟩
      exact hn v w' ι' s' av he hw' hv' hk
    | @yld l p hl =>
      have h2:Zos P rec l as s K = true:=h2
      obtain ⟨L,hL,hlen,hround⟩:=Zot hs (F:=F) (m:=m - 1) h2 hF hd hw hl hu
      have hres:(resolve a.eval ⟨.value g,args,ats⟩ o.type).run P w = .ok { target:=.fn (.yield p.blk) #[],args:=args.map a.eval } w:=by
        unfold resolve
        simp [hgv,Deferred.ofValue]
      simp only [Sem.run_bind,hres,Result.andThen_ok,invoke]
      rw [run_yield hL (by simpa using hlen)]
      rw [Oper.uponIn_round]
      have harr:(args.toList.map a.eval).toArray = args.map a.eval:=by
        rw [← Array.toList_map,Array.toArray_toList]
      rw [harr] at hround
      refine ⟨by simp [hd],RoundIn.mono hround ?_⟩
      rintro e w' ⟨v,ι',s',av,rfl,he,hw',hv',hk⟩
      exact hn v w' ι' s' av he hw' hv' hk
    | _ => cases h2
end Go.AM
end
section
namespace Go.AM
variable [Orc] [OrcOk]
theorem Post.of_ext {P:Program} {n0:Nat} {fi:FI} {ι ι':Ren} {w w':World} {K:Z71} (he:Ext ι w ι' w') {e:Exit} {a'':Act} {w'':World} (h:Post P n0 fi ι' w' K e a'' w''):Post P n0 fi ι w K e a'' w'' :=
  let ⟨ex,t,s,ι2,h1,h2,h3,h4⟩:=h
  ⟨ex,t,s,ι2,h1,he.trans h2,h3,h4⟩
section
variable {P:Program} {rec:RecT} {F:Fence} {m n0:Nat} {fi:FI} {all:Array Oper}
theorem Zcp (hs : Sound P rec) (hF : ∀ f, F.fn f) (hd : F.depth = none) {Q : Exit → Act → World → Prop} {k : PT AVal → St → Bool} :
    ∀ (l : List Oper) (prev : List (Option Tmp)) (locals : List AVal) (tree : PT AVal) (s : St) (ι : Ren) (a : Act) (w : World), Z1r P rec fi all (l.map .run) prev locals tree s k = true →
      WRel P ι s w → LocRel ι prev locals tree a.tmps → fi.ntmps ≤ a.tmps.size → Z4h n0 ι w a.defers → n0 ≤ w.heap.size → (∀ t v, PT.get (posOf t) tree = some v → t ∈ fi.ps) → (∀ o ∈ l, ∀ d, o.dst = some d → d < fi.ntmps) →
      (∀ a' w' ι' tree' s', Ext ι w ι' w' → Here P n0 fi ι' tree' s' a' w' → k tree' s' = true → Q .normal a' w') → wpListIn F m P all Q l a w
  | [], prev, locals, tree, s, ι, a, w, h, hw, hl, hsz, hdf, hnz, hps, hds, hq => by
    obtain ⟨tree', h1, h2⟩ := hl.Zte hsz hps (show Z3q (Z3h fi.ps prev []) locals tree (fun tree => k tree s) = true from h)
    exact hq a w ι tree' s (Ext.refl ι w) ⟨hw, h2, hdf, hnz⟩ h1
  | o :: l, prev, locals, tree, s, ι, a, w, h, hw, hl, hsz, hdf, hnz, hps, hds, hq => by
    have hdo : ∀ d, o.dst = some d → d < a.tmps.size := fun d e => Nat.lt_of_lt_of_le (hds o (by simp) d e) hsz
    have hsz' : ∀ v, fi.ntmps ≤ (a.put o.dst v).tmps.size := fun v => by
      unfold Act.put
      split <;> simpa using hsz
    have hdf' : ∀ v, (a.put o.dst v).defers = a.defers := fun v => by
      unfold Act.put
      split <;> rfl
    have h : Z26 all o (fun x => getO tree locals (Z07 prev x))
        (opK P rec o.op (fun x => getO tree locals (Z07 prev x)) s fun v s => Z1r P rec fi all (l.map .run) (o.dst :: prev) (v :: locals) tree s k)
        (Z1r P rec fi all (l.map .run) (o.dst :: prev) (.tup [] :: locals) tree s k) = true := h
    rcases Za2 h (Zg9 hl) with ⟨hwt, h1⟩ | ⟨hwt, h1⟩
    · have goal : o.wpIn F m P a w (wpListIn F m P all Q l) Q := by
        refine Zi1 hs h1 hF hd hw (Zg9 hl) fun v w' ι' s' av he hw' hv hk => ?_
        refine Zcp hs hF hd l _ _ tree s' ι' _ w' hk hw' ((hl.mono he.le).push o.dst hdo hv) (hsz' v) (by rw [hdf']; exact hdf.ext he) (Nat.le_trans hnz he.size) hps (fun o ho => hds o (by simp [ho])) ?_
        exact fun a'' w'' ι'' tree'' s'' he'' hh hk => hq a'' w'' ι'' tree'' s'' (he.trans he'') hh hk
      unfold wpListIn
      rw [hwt]
      exact goal
    · have goal : (∀ f, o.about P w a.eval = some f → F.fn f) ∧ wpListIn F m P all Q l (a.put o.dst undef) w := by
        refine ⟨fun f _ => hF f, ?_⟩
        exact Zcp hs hF hd l _ _ tree s ι _ w h1 hw (hl.push o.dst hdo (.tup .nil)) (hsz' _) (by rw [hdf']; exact hdf) hnz hps (fun o ho => hds o (by simp [ho])) hq
      unfold wpListIn
      rw [hwt]
      exact goal
theorem Zl2 {n:Nat} {ops:Array Oper} (h:Zf0 n ops = true):∀ o ∈ ops.toList,∀ d,o.dst = some d→d < n:=by
  intro o ho d e
  have:=List.all_eq_true.1 h o ho
  rw [e] at this
  simpa using this
def Zks (P:Program) (rec:RecT):Prop:=∀ id ops n0 fi tree s k F m ι a w,Zgk P rec fi ops true tree s k = true→FOk P fi→(∀ f,F.fn f)→F.depth = none→RRel ι fi.round F.round→Here P n0 fi ι tree s a w →
  (Code.region id ops true).wpIn F m P (Post P n0 fi ι w (fun e t s => @Ex.rec (fun _ => Bool) (k t s) (fun _ => false) false e)) a w
theorem Zoc (hs : Sound P rec) (hF : ∀ f, F.fn f) (hd : F.depth = none) {id : Nat} {ops : Array Oper} {tree : PT AVal} {s : St} {ι : Ren} {a : Act} {w : World} {K : Z71}
    (h : Zgk P rec fi ops false tree s (fun tree s => K .normal tree s) = true) (hh : Here P n0 fi ι tree s a w) : (Code.region id ops false).wpIn F m P (Post P n0 fi ι w K) a w := by
  obtain ⟨l, hl, h1⟩ := Z01.1 h
  rcases Z02.1 h1 with ⟨hds, h2⟩ | ⟨_, h2⟩
  · have hl : l = ops.toList.map .run := by
      unfold Zga at hl
      simpa using hl.symm
    subst hl
    refine wpIn_region_list ?_
    refine Zcp hs hF hd ops.toList [] [] tree s ι a w h2 hh.wr (LocRel.start hh.tr) hh.tr.size hh.df hh.nz (fun t v e => (hh.tr.get t v e).1) (Zl2 hds) ?_
    exact fun a' w' ι' tree' s' he hh' hk => ⟨.normal, tree', s', ι', rfl, he, hh', hk⟩
  · cases h2
end
theorem Znk {p:Nat→Prop} (h:∃ j,p j):∃ j,p j∧∀ i,p i→j ≤ i:=by
  obtain ⟨j,hj⟩:=h
  induction j using Nat.strongRecOn with
  | _ j ih =>
    by_cases hx:∃ i,i < j∧p i
    · obtain ⟨i,hi,hp⟩:=hx
      exact ih i hi hp
    · exact ⟨j,hj,fun i hp => Nat.le_of_not_lt fun hi => hx ⟨i,hi,hp⟩⟩
open Classical in
noncomputable def least (p:Nat→Prop):Nat:=if h:∃ j,p j then Classical.choose (Znk h) else 0
theorem Zjd {p:Nat→Prop} (h:∃ j,p j):p (least p)∧∀ i,p i→least p ≤ i:=by
  unfold least
  rw [dif_pos h]
  exact Classical.choose_spec (Znk h)
theorem Zf5 {P:Program} {n:Nat}:exec P (n + 1) = Zmm P (exec P n):=rfl
theorem Ziw {P:Program} (hdraw:∀ rec,Sound P rec→Zks P rec):∀ n,Sound P (exec P n):=by
  intro n
  induction n using Nat.strongRecOn with
  | _ n ih =>
  cases n with
  | zero => intro c n0 fi tree s K F m ι a w h; cases h
  | succ n =>
    have hs:Sound P (exec P n):=ih n (Nat.lt_succ_self n)
    intro c n0 fi tree s K F m ι a w h hfo hF hd hr hh
    rw [Zf5] at h
    cases c with
    | skip => exact wpIn_skip ⟨.normal,tree,s,ι,rfl,Ext.refl ι w,hh,h⟩
    | label l => exact wpIn_label ⟨.normal,tree,s,ι,rfl,Ext.refl ι w,hh,h⟩
    | exit id => exact wpIn_exit ⟨.exit id,tree,s,ι,rfl,Ext.refl ι w,hh,h⟩
    | ret => exact wpIn_ret ⟨.ret,tree,s,ι,rfl,Ext.refl ι w,hh,h⟩
    | region id ops draw =>
      have h:=Zuj h
      cases draw with
      | false => exact Zoc hs hF hd h hh
      | true =>
        refine wpIn_mono (hdraw _ hs id ops n0 fi tree s _ F m ι a w h hfo hF hd hr hh) ?_
        rintro e a' w' ⟨ex,t,s',ι',e1,e2,e3,e4⟩
        cases ex with
        | normal => exact ⟨.normal,t,s',ι',e1,e2,e3,e4⟩
        | exit id => cases e4
        | ret => cases e4
    | seq x y =>
      refine wpIn_seq (wpIn_mono (hs x n0 fi tree s _ F m ι a w h hfo hF hd hr hh) ?_)
      rintro e a' w' ⟨ex,t,s',ι',rfl,he,hh',hk⟩
      cases ex with
      | normal => exact wpIn_mono (hs y n0 fi t s' K F m ι' a' w' hk hfo hF hd (hr.mono he.le) hh') fun e a w => Post.of_ext he
      | exit id => exact ⟨.exit id,t,s',ι',rfl,he,hh',hk⟩
      | ret => exact ⟨.ret,t,s',ι',rfl,he,hh',hk⟩
    | cond g x y =>
      obtain ⟨v,hv,h1⟩:=Z01.1 h
      obtain ⟨t,rfl,h2⟩:=AVal.Z1p.1 h1
      have hg:=Zg9 (LocRel.start hh.tr) g _ hv
      generalize hgv:a.eval g = gv at hg
      cases hg
      refine wpIn_cond hgv ?_
      rcases Z02.1 h2 with ⟨rfl,h3⟩ | ⟨rfl,h3⟩
      · exact hs x n0 fi tree s K F m ι a w h3 hfo hF hd hr hh
      · exact hs y n0 fi tree s K F m ι a w h3 hfo hF hd hr hh
    | block id x =>
      refine wpIn_block (wpIn_mono (hs x n0 fi tree s _ F m ι a w h hfo hF hd hr hh) ?_)
      rintro e a' w' ⟨ex,t,s',ι',rfl,he,hh',hk⟩
      cases ex with
      | normal => exact ⟨.normal,t,s',ι',rfl,he,hh',hk⟩
      | ret => exact ⟨.ret,t,s',ι',rfl,he,hh',hk⟩
      | exit i =>
        show if i = id then _ else _
        rcases Z02.1 (show ifK (Nat.beq i id) _ _ = true from hk) with ⟨e,h3⟩ | ⟨e,h3⟩
        · rw [if_pos (Nat.eq_of_beq_eq_true e)]
          exact ⟨.normal,t,s',ι',rfl,he,hh',h3⟩
        · rw [if_neg (Nat.ne_of_beq_eq_false e)]
          exact ⟨.exit i,t,s',ι',rfl,he,hh',h3⟩
    | scope x =>
      refine Zsd (wpIn_mono (hs x n0 fi tree s _ F m ι a w h hfo hF hd hr hh) ?_)
      rintro e a' w' ⟨ex,t,s',ι',rfl,he,hh',hk⟩
      cases ex with
      | normal => exact ⟨.normal,t,s',ι',rfl,he,hh',hk⟩
      | exit id => exact ⟨.exit id,t,s',ι',rfl,he,hh',hk⟩
      | ret => exact ⟨.ret,t,s',ι',rfl,he,hh',hk⟩
    | rangeFunc g ps x y => exact Zo9 hs h hfo hF hd hr hh
    | loop x =>
      let p:Act→World→Nat→Prop:=fun a' w' j => j ≤ n + 1∧∃ t s' ι',Ext ι w ι' w'∧Here P n0 fi ι' t s' a' w'∧exec P j (.loop (compile P fi.ps fi.ntmps x)) fi t s' K = true
      refine wpIn_loop (fun a' w' => ∃ j,p a' w' j) (fun a' w' => least (p a' w')) ⟨n + 1,Nat.le_refl _,tree,s,ι,Ext.refl ι w,hh,h⟩ fun a' w' hI => ?_
      obtain ⟨⟨hj,t,s',ι',he,hh',hk⟩,hmin⟩:=Zjd hI
      generalize hle:least (p a' w') = j at hj hk hmin
      cases j with
      | zero => cases hk
      | succ j =>
        rw [Zf5] at hk
        refine wpIn_mono (ih j (by omega) x n0 fi t s' _ F m ι' a' w' hk hfo hF hd (hr.mono he.le) hh') ?_
        rintro e a'' w'' ⟨ex,t2,s2,ι2,rfl,he2,hh2,hk2⟩
        cases ex with
        | normal =>
          have hp:p a'' w'' j:=⟨by omega,t2,s2,ι2,he.trans he2,hh2,hk2⟩
          refine ⟨⟨j,hp⟩,?_⟩
          have:=(Zjd ⟨j,hp⟩).2 j hp
          exact Nat.lt_succ_of_le this
        | exit id => exact ⟨.exit id,t2,s2,ι2,rfl,he.trans he2,hh2,hk2⟩
        | ret => exact ⟨.ret,t2,s2,ι2,rfl,he.trans he2,hh2,hk2⟩
    | _ => cases h
end Go.AM
end
section
namespace Go.AM
variable [Orc]
section
variable {P:Program} {rec:RecT} {ι:Ren} {s:St} {K:VK}
theorem Z9q {o:Op} {ρ:Operand→Option AVal} (hc:Z0t P o = 0) (s s':St) (K:VK):opK P rec o ρ s K = opK P rec o ρ s' (fun v _ => K v s):=by
  cases o with
  | move x => rfl
  | assign x => rfl
  | pick c a b => rfl
  | build t ps => rfl
  | nilCheck x => rfl
  | binOp op t x y e =>
    show Ze3 P op t (ρ x) (ρ y) s K = Ze3 P op t (ρ x) (ρ y) s' (fun v _ => K v s)
    rfl
  | unOp op t x => rfl
  | makeFunc f a c => rfl
  | slice t x lo hi mx => rfl
  | fieldAddr t x f => rfl
  | field t x f => rfl
  | indexAddr t x i => rfl
  | index t x i => rfl
  | extract x i => rfl
  | convert a b x =>
    show Z8t P a b (ρ x) s K = Z8t P a b (ρ x) s' (fun v _ => K v s)
    unfold Z8t
    have hc:(match Z5p P a b with | .int _ => 0 | .same => 0 | _ => 3) = 0:=hc
    generalize Z5p P a b = ck at hc
    cases ck with
    | int k => rfl
    | same => rfl
    | _ => simp at hc
  | call c =>
    obtain ⟨callee,args,ats⟩:=c
    cases callee with
    | value f => simp [Z0t] at hc
    | invoke r n => simp [Z0t] at hc
    | builtin b =>
      cases b with
      | len =>
        show (match args.toList with | [x] => Za3 P ats (ρ x) s K | _ => fail 46) = (match args.toList with | [x] => Za3 P ats (ρ x) s' (fun v _ => K v s) | _ => fail 46)
        split
        · unfold Za3
          have hc:(match Z59 P ats with | some (.map,_) => 3 | some _ => 0 | none => 3) = 0:=hc
          cases hl:Z59 P ats with
          | none => rfl
          | some e =>
            rw [hl] at hc
            obtain ⟨tk,n⟩:=e
            cases tk with
            | map => simp at hc
            | _ => rfl
        · rfl
      | min => rfl
      | max => rfl
      | _ => simp [Z0t] at hc
  | _ => simp [Z0t] at hc
theorem Zfv {n:Option Nat} {cs:List AVal} {off:Nat} {k:AVal→Bool} (h:Z7x n cs off k = true):∃ v,k v = true∧∀ k':AVal→Bool,k' v = true→Z7x n cs off k' = true:=by
  cases n with
  | none =>
    obtain ⟨v,hv,hk⟩:=Z4r.1 (show nthK cs off k = true from h)
    exact ⟨v,hk,fun k' hk' => Z4r.2 ⟨v,hv,hk'⟩⟩
  | some n =>
    obtain ⟨hle,hk⟩:=Z2t.1 (show segK cs off n (fun l => k (.agg l)) = true from h)
    exact ⟨_,hk,fun k' hk' => Z2t.2 ⟨hle,hk'⟩⟩
def Grown (s s':St):Prop:=∀ b x,PT.get b s.heap = some x→PT.get b s'.heap = some x
theorem Grown.refl (s:St):Grown s s:=fun _ _ h => h
theorem Zrq {t:TypeId} {x:Option AVal} (h:Z6s P t x s K = true):∃ v,K v s = true∧∀ s',Grown s s'→∀ K':VK,K' v s' = true→Z6s P t x s' K' = true:=by
  obtain ⟨n,hn,h1⟩:=Z01.1 h
  obtain ⟨a,ha,h2⟩:=Z01.1 h1
  obtain ⟨b,off,rfl,h3⟩:=AVal.Z24.1 h2
  obtain ⟨cs,ro,hc,h4⟩:=Z1e.1 h3
  obtain ⟨v,hv,hd⟩:=Zfv h4
  refine ⟨v,hv,fun s' hg K' hk => Z01.2 ⟨n,hn,Z01.2 ⟨_,ha,AVal.Z24.2 ⟨b,off,rfl,Z1e.2 ⟨cs,ro,hg _ _ hc,hd _ hk⟩⟩⟩⟩⟩
theorem Zfn {o:Op} (h:Z0t P o = 1):∃ t a,o = .load t a:=by
  cases o with
  | load t a => exact ⟨t,a,rfl⟩
  | convert a b x =>
    have hc:(match Z5p P a b with | .int _ => 0 | .same => 0 | _ => 3) = 1:=h
    split at hc <;> simp at hc
  | call c =>
    obtain ⟨callee,args,ats⟩:=c
    cases callee with
    | value f => simp [Z0t] at h
    | invoke r n => simp [Z0t] at h
    | builtin b =>
      cases b with
      | len =>
        have hc:(match Z59 P ats with | some (.map,_) => 3 | some _ => 0 | none => 3) = 1:=h
        split at hc <;> simp at hc
      | _ => simp [Z0t] at h
  | _ => simp [Z0t] at h
def Lays (P:Program) (ι:Ren) (x:AObj) (v:Pos→AVal) (r:World→Result Next):Prop :=
  ∀ w,∃ obj u sz,r w = .ok (.value u) { w with heap:=w.heap.push obj }∧∀ (ι':Ren) (q:Pos),Ren.le ι ι'→ι' q = some ⟨w.heap.size,0,sz,false⟩ →
    VRel ι' (v q) u∧ORel P ι' { w with heap:=w.heap.push obj } ⟨w.heap.size,0,sz,false⟩ x
theorem Zb4 {l:List AVal} {v:Pos→AVal} {r:World→Result Next} (hs:∀ x ∈ l,x.scalar = true)
    (h:∀ w,∃ (c:Array Value) (t:TypeId) (u:Value),VRels ι l c.toList∧r w = .ok (.value u) { w with heap:=w.heap.push (.cells c t) }∧∀ (ι':Ren) (q:Pos),ι' q = some ⟨w.heap.size,0,c.size,false⟩→VRel ι' (v q) u) :
    Lays P ι (.cells l false) v r:=by
  intro w
  obtain ⟨c,t,u,hc,hr,hv⟩:=h w
  refine ⟨_,u,c.size,hr,fun ι' q hle hq => ⟨hv ι' q hq,?_⟩⟩
  have hl:=hc.length
  exact ORel.cells (p:=⟨w.heap.size,0,c.size,false⟩) (c:=c) (t:=t) (fr:=(0,0)) (by simp) rfl (by simp [hl]) (hc.Zk7.mono hle) hs (fun _ i _ => by simp)
theorem Zf6 {ρ:Operand→Option AVal}:∀ (pl:List (Nat × Nat × Operand)) (cs:List AVal) (k:List AVal→Bool),Z3t ρ pl cs k = true→∃ cs',k cs' = true∧∀ k':List AVal→Bool,k' cs' = true→Z3t ρ pl cs k' = true
  | [],cs,k,h => ⟨cs,h,fun k' h' => h'⟩
  | p :: pl,cs,k,h => by
    have h:(optK (ρ p.2.2) fun v => Z6j v (v.Z28 fun vs => lenK vs 0 fun m => ifK (Nat.beq m p.2.1) (Z3l vs cs p.1 fun cs => Z3t ρ pl cs k) (fail 29))) = true:=h
    obtain ⟨v,hv,h⟩:=Z01.1 h
    obtain ⟨ht,h⟩:=Z4n.1 h
    rw [Z4l,Z0p] at h
    rcases Z02.1 h with ⟨hm,h⟩ | ⟨_,h⟩
    · obtain ⟨hle,h⟩:=Z40.1 h
      obtain ⟨cs',h1,h2⟩:=Zf6 pl _ k h
      refine ⟨cs',h1,fun k' hk' => ?_⟩
      show (optK (ρ p.2.2) fun v => Z6j v (v.Z28 fun vs => lenK vs 0 fun m => ifK (Nat.beq m p.2.1) (Z3l vs cs p.1 fun cs => Z3t ρ pl cs k') (fail 29))) = true
      refine Z01.2 ⟨v,hv,Z4n.2 ⟨ht,?_⟩⟩
      rw [Z4l,Z0p]
      exact Z02.2 (.inl ⟨hm,Z40.2 ⟨hle,h2 k' hk'⟩⟩)
    · cases h
theorem Zdj {o : Oper} {ρ : Operand → Option AVal} (hc : Z0t P o.op = 2) (h : opK P rec o.op ρ s K = true) :
    ∃ x v, x.live = true ∧ K (v s.next) { heap := PT.set s.next x s.heap, next := s.next.succ } = true ∧
      ∀ ι ρc, (∀ x, ORl ι (ρ x) (ρc x)) → Lays P ι x v (fun w => (execOp ρc o).run P w) := by
  unfold execOp
  generalize o.op = op at hc h
  cases op with
  | alloc t =>
    obtain ⟨cs, hcs, h1⟩ := Z01.1 (show optK (zeroCells P t) (fun cs => Z4q cs s K) = true from h)
    unfold Z4q at h1
    rw [Z1v] at h1
    refine ⟨.cells cs false, fun q => .ptr q 0, rfl, h1, fun ι ρc _ => ?_⟩
    obtain ⟨a, ha, rfl⟩ := Z84 hcs
    refine Zb4 (Z6u ha) fun w => ?_
    obtain ⟨v, hv, hr⟩ := Zcj (ι := ι) (w := w) ha
    refine ⟨v.cells, t, _, hr.cells, ?_, fun ι' q hq => .ptr (p := ⟨w.heap.size, 0, v.cells.size, false⟩) (off := 0) hq⟩
    simp only [Instr.alloc, newVar, newRow, Sem.run_bind, hv, Result.andThen_ok, run_newObj, Sem.run_pure]
  | box t x =>
    obtain ⟨a, ha, h1⟩ := Z01.1 (show optK (ρ x) _ = true from h)
    obtain ⟨ht, h2⟩ := Z4n.1 h1
    rw [Z4l] at h2
    unfold Z4q at h2
    rw [Z1v] at h2
    refine ⟨.cells a.cells false, fun q => .ptr q 0, rfl, h2, fun ι ρc hρ => ?_⟩
    have hr := hρ x a ha
    refine Zb4 (hr.Z8x ht) fun w => ?_
    refine ⟨(ρc x).cells, t, _, hr.cells, ?_, fun ι' q hq => .ptr (p := ⟨w.heap.size, 0, (ρc x).cells.size, false⟩) (off := 0) hq⟩
    simp only [Instr.box, newVar, newRow, Sem.run_bind, run_newObj, Result.andThen_ok, Sem.run_pure]
  | makeMap t r =>
    rcases Z02.1 (show ifK r.isNone _ _ = true from h) with ⟨hr, h1⟩ | ⟨_, h1⟩
    · rcases Z02.1 h1 with ⟨_, h2⟩ | ⟨_, h2⟩
      · cases r with
        | some r => cases hr
        | none =>
          rw [Z1v] at h2
          refine ⟨.map [] 0, fun q => .map q, rfl, h2, fun ι ρc hρ w => ?_⟩
          refine ⟨.map #[] 0, .map (some w.heap.size), 0, ?_, fun ι' q _ hq => ⟨VRel.map (p := ⟨w.heap.size, 0, 0, false⟩) hq, .map (es' := #[]) (by simp) rfl (fun i e h => by simp at h) rfl⟩⟩
          simp [Instr.makeMap]
      · cases h2
    · cases h1
  | makeSlice t l c =>
    have h : Zcq P t (ρ l) (ρ c) s K = true := h
    obtain ⟨e, he, h⟩ := Z01.1 h
    obtain ⟨zs, hzs, h⟩ := Z01.1 h
    obtain ⟨el, inf, hd, hel, rfl⟩ := Z48 he
    rw [Z99 hd] at hzs
    simp only [Option.bind_some] at hzs
    rw [Z0p] at h
    rcases Z02.1 h with ⟨hzn, h⟩ | ⟨_, h⟩
    · have hzn : zs.length = inf.size := by simpa using Nat.eq_of_beq_eq_true hzn
      obtain ⟨a, ha, h⟩ := Z01.1 h
      obtain ⟨b, hb, h⟩ := Z01.1 h
      obtain ⟨j, n, rfl, h5⟩ := AVal.Z0s.1 h
      obtain ⟨k, m, rfl, h6⟩ := AVal.Z0s.1 h5
      obtain ⟨n', rfl, h7⟩ := Z2r.1 h6
      obtain ⟨m', rfl, h8⟩ := Z2r.1 h7
      clear h h5 h6 h7
      rcases Z02.1 h8 with ⟨h1, h9⟩ | ⟨_, h9⟩
      · rcases Z02.1 h9 with ⟨h2, h10⟩ | ⟨_, h10⟩
        · rcases Z02.1 h10 with ⟨h3, h11⟩ | ⟨_, h11⟩
          · rw [Z9r, Z1v, List.append_nil] at h11
            refine ⟨.cells (List.replicate m' zs).flatten false, fun q => .slice q 0 n' (.lim m'), rfl, h11, fun ι ρc hρ => ?_⟩
            have h1 : n' ≤ m' := Nat.le_of_ble_eq_true h1
            have h2 : m' * inf.bytes ≤ 1099511627776 := Nat.le_of_ble_eq_true h2
            have h3 : m' ≤ 1099511627776 := Nat.le_of_ble_eq_true h3
            have hra := hρ l _ ha
            have hrb := hρ c _ hb
            generalize hvl : ρc l = vl at hra
            generalize hvc : ρc c = vc at hrb
            cases hra; cases hrb
            have hsc : ∀ x ∈ zs, x.scalar = true := by
              obtain ⟨a, ha, rfl⟩ := Z84 hzs
              exact Z6u ha
            refine Zb4 (Z89 hsc m') fun w => ?_
            obtain ⟨v, hv, hvz, _⟩ := Z4g (ι := ι) (w := w) hzs
            have hm2 : ((inf.bytes * (m' : Int)) : Int) = ((m' * inf.bytes : Nat) : Int) := by rw [Int.natCast_mul, Int.mul_comm]
            have hbig : ¬ ((m' : Int) < 0 ∨ (inf.bytes : Int) * (m' : Int) > 2 ^ 48) := by rw [hm2]; omega
            have hcells : ∃ cs : Array Value, VRels ι (List.replicate m' zs).flatten cs.toList ∧
                ((do let zero ← if m' * inf.size = 0 then pure #[] else do pure (← zeroValue el).cells
                     let a ← newRow el ((Array.range (m' * inf.size)).map (zero[· % zero.size]!))
                     pure (Value.slice (some a) n' m')) : Sem Value).run P w = .ok (.slice (some ⟨w.heap.size, 0, none⟩) n' m') { w with heap := w.heap.push (.cells cs el) } := by
              by_cases h0 : m' * inf.size = 0
              · refine ⟨#[], ?_, ?_⟩
                · have : (List.replicate m' zs).flatten = [] := by
                    apply List.eq_nil_of_length_eq_zero
                    simp [hzn, h0]
                  rw [this]; exact .nil
                · have hr0 : Array.range 0 = #[] := by simp [Array.range]
                  simp [h0, newRow, hr0]
              · refine ⟨(Array.range (m' * inf.size)).map (v.cells[· % v.cells.size]!), by rw [← hzn]; exact hvz.rep m', ?_⟩
                simp [h0, newRow, hv]
            obtain ⟨cs, hcs, hrun⟩ := hcells
            refine ⟨cs, el, .slice (some ⟨w.heap.size, 0, none⟩) n' m', hcs, ?_, fun ι' q hq => VRel.slice (p := ⟨w.heap.size, 0, cs.size, false⟩) (off := 0) hq⟩
            have hc1 : ((decide ((m' : Int) < 0) || decide ((inf.bytes : Int) * (m' : Int) > 2 ^ 48)) || decide ((n' : Int) < 0) || decide ((n' : Int) > (m' : Int))) = false := by
              simp only [Bool.or_eq_false_iff, decide_eq_false_iff_not]
              refine ⟨⟨⟨?_, ?_⟩, ?_⟩, ?_⟩ <;> omega
            simp only [hvl, hvc, Instr.makeSlice, asInt, asIntOf, Sem.run_bind, Z04 hd, Result.andThen_ok, Sem.run_pure, Z5b hel, Zef h3, Zef (Nat.le_trans h1 h3), hc1,
              Bool.false_eq_true, if_false, run_askRoom, Z0y (Z2l hel), Int.toNat_natCast]
            have := congrArg (fun r => r.andThen fun v w => Result.ok (Next.value v) w) hrun
            simpa using this
          · cases h11
        · cases h10
      · cases h9
    · cases h
  | buildSlice t len parts =>
    have h : Z50 P t len parts ρ s K = true := h
    obtain ⟨e, he, h⟩ := Z01.1 h
    obtain ⟨zs, hzs, h⟩ := Z01.1 h
    obtain ⟨el, inf, hd, hel, rfl⟩ := Z48 he
    rw [Z99 hd] at hzs
    simp only [Option.bind_some] at hzs
    rw [Z0p] at h
    rcases Z02.1 h with ⟨hzn, h⟩ | ⟨_, h⟩
    · have hzn : zs.length = inf.size := by simpa using Nat.eq_of_beq_eq_true hzn
      rcases Z02.1 h with ⟨hsm, h⟩ | ⟨_, h⟩
      · have hsm : len * inf.size ≤ 16777216 := Nat.le_of_ble_eq_true hsm
        rw [Z9r, List.append_nil] at h
        obtain ⟨cs, hcs, hdet⟩ := Zf6 _ _ _ h
        rw [Z1v] at hcs
        refine ⟨.cells cs false, fun q => .slice q 0 len (.lim len), rfl, hcs, fun ι ρc hρ => ?_⟩
        have hsc : ∀ x ∈ zs, x.scalar = true := by
          obtain ⟨a, ha, rfl⟩ := Z84 hzs
          exact Z6u ha
        obtain ⟨h3, h4⟩ := Zb9 (es := inf.size) parts.toList
        have hall : ∀ w : World, ∃ (c : Array Value), VRels ι cs c.toList ∧ (∀ x ∈ cs, x.scalar = true) ∧ Sem.run P (do pure (Next.value (← Instr.buildSlice t len (parts.map fun (i, x) => (i, ρc x))))) w =
            .ok (.value (.slice (some ⟨w.heap.size, 0, none⟩) len len)) { w with heap := w.heap.push (.cells c el) } := by
          intro w
          obtain ⟨v, hv, hvz, _⟩ := Z4g (ι := ι) (w := w) hzs
          have hmap : (parts.map fun (i, x) => (i, ρc x)).toList = parts.toList.map fun x => (x.1, ρc x.2) := by simp
          have hzero : ∃ z : Array Value, ((len * inf.size = 0 ∧ z = #[]) ∨ (¬ len * inf.size = 0 ∧ z = v.cells)) ∧
              VRels ι (List.replicate len zs).flatten ((Array.range (len * inf.size)).map (z[· % z.size]!)).toList := by
            by_cases h0 : len * inf.size = 0
            · refine ⟨#[], .inl ⟨h0, rfl⟩, ?_⟩
              have : (List.replicate len zs).flatten = [] := by
                apply List.eq_nil_of_length_eq_zero
                simp [hzn, h0]
              rw [this, h0]
              have hr0 : Array.range 0 = #[] := by simp [Array.range]
              rw [hr0]
              simpa using VRels.nil (ι := ι)
            · exact ⟨v.cells, .inr ⟨h0, rfl⟩, by rw [← hzn]; exact hvz.rep len⟩
          obtain ⟨z, hz1, hz2⟩ := hzero
          obtain ⟨cs', c, f1, f2, f3, f4⟩ := Zbt (place := fun i => some (i * inf.size, inf.size)) (ρc := ρc) parts.toList _ _ _ (fun c => @decide (c = cs) (Classical.propDecidable _)) (fun x _ => hρ x.2) h3 (fun j x hx => ⟨_, _, h4 j x hx, rfl⟩) hz2 (Z89 hsc len) (hdet _ (by simp))
          have f4 : cs' = cs := by simpa using f4
          subst f4
          refine ⟨c, f2, f3, ?_⟩
          have hn : ¬ len * inf.size > 2 ^ 24 := by omega
          simp only [Instr.buildSlice, Sem.run_bind, Z04 hd, Result.andThen_ok, Z0y (Z2l hel), hn, if_false, hmap]
          rcases hz1 with ⟨h0, rfl⟩ | ⟨h0, rfl⟩
          · simp only [h0, if_true, Sem.run_bind, Sem.run_pure, Result.andThen_ok] at f1 ⊢
            rw [f1]
            simp [newRow]
          · simp only [h0, if_false, Sem.run_bind, hv, Sem.run_pure, Result.andThen_ok]
            rw [f1]
            simp [newRow]
        intro w
        obtain ⟨_, _, hs, _⟩ := hall w
        exact Zb4 hs (fun w => by
          obtain ⟨c, h1, _, h2⟩ := hall w
          exact ⟨c, el, _, h1, h2, fun ι' q hq => VRel.slice (p := ⟨w.heap.size, 0, c.size, false⟩) (off := 0) hq⟩) w
      · cases h
    · cases h
  | convert a b x =>
    have hc : (match Z5p P a b with | .int _ => 0 | .same => 0 | _ => 3) = 2 := hc
    split at hc <;> simp at hc
  | call c =>
    obtain ⟨callee, args, ats⟩ := c
    cases callee with
    | value f => simp [Z0t] at hc
    | invoke r n => simp [Z0t] at hc
    | builtin b =>
      cases b with
      | len =>
        have hc : (match Z59 P ats with | some (.map, _) => 3 | some _ => 0 | none => 3) = 2 := hc
        split at hc <;> simp at hc
      | _ => simp [Z0t] at hc
  | _ => simp [Z0t] at hc
end
end Go.AM
end
section
namespace Go.AM
variable [Orc]
theorem Za8 {ρ ρ':Operand→Option AVal}:∀ (l:List Operand) (k:List AVal→Bool),(∀ x ∈ l,ρ x = ρ' x)→Z4c ρ l k = Z4c ρ' l k
  | [],k,_ => rfl
  | x :: l,k,h => by
    show (optK (ρ x) fun v => Z4c ρ l fun r => k (v :: r)) = optK (ρ' x) fun v => Z4c ρ' l fun r => k (v :: r)
    rw [h x (by simp)]
    congr 1
    funext v
    exact Za8 l _ (fun y hy => h y (by simp [hy]))
theorem Zcm {ρ ρ':Operand→Option AVal}:∀ (pl:List (Nat × Nat × Operand)) (cs:List AVal) (k:List AVal→Bool),(∀ x ∈ pl,ρ x.2.2 = ρ' x.2.2)→Z3t ρ pl cs k = Z3t ρ' pl cs k
  | [],cs,k,_ => rfl
  | p :: pl,cs,k,h => by
    show (optK (ρ p.2.2) fun v => Z6j v (v.Z28 fun vs => lenK vs 0 fun m => ifK (Nat.beq m p.2.1) (Z3l vs cs p.1 fun cs => Z3t ρ pl cs k) (fail 29))) =
      (optK (ρ' p.2.2) fun v => Z6j v (v.Z28 fun vs => lenK vs 0 fun m => ifK (Nat.beq m p.2.1) (Z3l vs cs p.1 fun cs => Z3t ρ' pl cs k) (fail 29)))
    rw [h p (by simp)]
    have:(fun cs => Z3t ρ pl cs k) = (fun cs => Z3t ρ' pl cs k):=funext fun cs => Zcm pl cs k (fun y hy => h y (by simp [hy]))
    rw [this]
theorem Zcr {es:Nat}:∀ (ps:List (Nat × Operand)) (x:Nat × Nat × Operand),x ∈ Z4v es ps→∃ y ∈ ps,y.2 = x.2.2
  | [],x,h => by cases h
  | (i,y) :: ps,x,h => by
    rcases List.mem_cons.1 (show x ∈ (i * es,es,y) :: Z4v es ps from h) with rfl | h
    · exact ⟨(i,y),by simp,rfl⟩
    · obtain ⟨z,hz,e⟩:=Zcr ps x h
      exact ⟨z,by simp [hz],e⟩
theorem Zhd {P:Program} {fs:Array Field}:∀ (ps:List (Nat × Operand)) (pl:List (Nat × Nat × Operand)),Zbj P fs ps = some pl→∀ x ∈ pl,∃ y ∈ ps,y.2 = x.2.2
  | [],pl,h,x,hx => by cases h; cases hx
  | (i,y) :: ps,pl,h,x,hx => by
    unfold Zbj at h
    split at h
    · split at h
      · rename_i n l hn hl
        cases h
        rcases List.mem_cons.1 hx with rfl | hx
        · exact ⟨(i,y),by simp,rfl⟩
        · obtain ⟨z,hz,e⟩:=Zhd ps l hl x hx
          exact ⟨z,by simp [hz],e⟩
      · cases h
    · cases h
theorem Zma {P:Program} {t:TypeId} {parts:Array (Nat × Operand)} {pl:List (Nat × Nat × Operand)} (h:Z69 P t parts = some pl):∀ x ∈ pl,∃ y ∈ parts.toList,y.2 = x.2.2:=by
  unfold Z69 at h
  split at h
  · split at h
    · exact Zhd _ _ h
    · cases h
  · split at h
    · cases h; exact Zcr _
    · cases h
  · cases h
theorem Ze5 {α:Type} {x:Option α} {k k':α→Bool} (h:∀ v,x = some v→k v = k' v):optK x k = optK x k':=by
  cases x with
  | none => rfl
  | some v => exact h v rfl
section
variable {P:Program} {rec:RecT} {s:St} {K:VK} {ρ ρ':Operand→Option AVal}
theorem Zao {o:Op} (h:∀ x ∈ o.operands,ρ x = ρ' x):opK P rec o ρ s K = opK P rec o ρ' s K:=by
  have hparts:∀ ps:Array (Nat × Operand),(∀ x ∈ (ps.toList.map (·.2)).toArray,ρ x = ρ' x)→∀ y ∈ ps.toList,ρ y.2 = ρ' y.2:=fun ps h y hy => h y.2 (by simp; exact ⟨y.1,by simpa using hy⟩)
  cases o with
  | move x => simp only [opK,h x (by simp [Op.operands])]
  | assign x => simp only [opK,h x (by simp [Op.operands])]
  | pick c a b => simp only [opK,h c (by simp [Op.operands]),h a (by simp [Op.operands]),h b (by simp [Op.operands])]
  | alloc t => rfl
  | box t x => simp only [opK,h x (by simp [Op.operands])]
  | build t ps =>
    have hp:=hparts ps (by simpa [Op.operands] using h)
    show Zd7 P t ps ρ s K = Zd7 P t ps ρ' s K
    unfold Zd7
    refine Ze5 fun pl hpl => Ze5 fun zs _ => Zcm _ _ _ fun x hx => ?_
    obtain ⟨y,hy,e⟩:=Zma hpl x hx
    exact e ▸ hp y hy
  | buildSlice t n ps =>
    have hp:=hparts ps (by simpa [Op.operands] using h)
    show Z50 P t n ps ρ s K = Z50 P t n ps ρ' s K
    have hf:∀ (es:Nat) (cs:List AVal) (k:List AVal→Bool),Z3t ρ (Z4v es ps.toList) cs k = Z3t ρ' (Z4v es ps.toList) cs k:=fun es cs k => Zcm _ _ _ fun x hx => by
      obtain ⟨y,hy,e⟩:=Zcr _ x hx
      exact e ▸ hp y hy
    unfold Z50
    simp only [hf]
  | insert t m k x => simp only [opK,h m (by simp [Op.operands]),h k (by simp [Op.operands]),h x (by simp [Op.operands])]
  | load t a => simp only [opK,h a (by simp [Op.operands])]
  | store t a x => simp only [opK,h a (by simp [Op.operands]),h x (by simp [Op.operands])]
  | nilCheck x => simp only [opK,h x (by simp [Op.operands])]
  | binOp op t x y e => simp only [opK,h x (by simp [Op.operands]),h y (by simp [Op.operands])]
  | unOp op t x => simp only [opK,h x (by simp [Op.operands])]
  | convert a b x => simp only [opK,h x (by simp [Op.operands])]
  | makeFunc f a c =>
    have ha:∀ k,Z4c ρ a.toList k = Z4c ρ' a.toList k:=fun k => Za8 _ _ fun x hx => h x (by simp [Op.operands]; exact .inl (by simpa using hx))
    have hc:∀ k,Z4c ρ c.toList k = Z4c ρ' c.toList k:=fun k => Za8 _ _ fun x hx => h x (by simp [Op.operands]; exact .inr (by simpa using hx))
    simp only [opK,ha,hc]
  | makeMap t r => rfl
  | makeSlice t l c => simp only [opK,h l (by simp [Op.operands]),h c (by simp [Op.operands])]
  | slice t x lo hi mx =>
    have h1:lo.map ρ = lo.map ρ':=by cases lo with
      | none => rfl
      | some y => simp [h y (by simp [Op.operands])]
    have h2:hi.map ρ = hi.map ρ':=by cases hi with
      | none => rfl
      | some y => simp [h y (by simp [Op.operands])]
    have h3:mx.map ρ = mx.map ρ':=by cases mx with
      | none => rfl
      | some y => simp [h y (by simp [Op.operands])]
    simp only [opK,h x (by simp [Op.operands]),h1,h2,h3]
  | fieldAddr t x f => simp only [opK,h x (by simp [Op.operands])]
  | field t x f => simp only [opK,h x (by simp [Op.operands])]
  | indexAddr t x i => simp only [opK,h x (by simp [Op.operands]),h i (by simp [Op.operands])]
  | index t x i => simp only [opK,h x (by simp [Op.operands]),h i (by simp [Op.operands])]
  | lookup t m i ok => simp only [opK,h m (by simp [Op.operands]),h i (by simp [Op.operands])]
  | mapUpdate t m k x => simp only [opK,h m (by simp [Op.operands]),h k (by simp [Op.operands]),h x (by simp [Op.operands])]
  | extract x i => simp only [opK,h x (by simp [Op.operands])]
  | call c =>
    have hargs:∀ x ∈ c.args.toList,ρ x = ρ' x:=fun x hx => h x (by simp [Op.operands,Call.operands]; exact .inr (by simpa using hx))
    have hv:∀ k,Z4c ρ c.args.toList k = Z4c ρ' c.args.toList k:=fun k => Za8 _ _ hargs
    show Z3u P rec c ρ s K = Z3u P rec c ρ' s K
    obtain ⟨callee,args,ats⟩:=c
    cases callee with
    | value f =>
      have hf:ρ f = ρ' f:=h f (by simp [Op.operands,Call.operands])
      unfold Z3u
      simp only [hf,hv]
    | invoke r n => rfl
    | builtin b =>
      unfold Z3u
      have h1:∀ x,args.toList = [x]→ρ x = ρ' x:=fun x e => hargs x (by simp [e])
      have h2:∀ x y,args.toList = [x,y]→ρ x = ρ' x∧ρ y = ρ' y:=fun x y e => ⟨hargs x (by simp [e]),hargs y (by simp [e])⟩
      cases b with
      | append =>
        simp only
        split
        · rename_i x y e; rw [(h2 x y e).1,(h2 x y e).2]
        · rfl
      | len =>
        simp only
        split
        · rename_i x e; rw [h1 x e]
        · rfl
      | copy =>
        simp only
        split
        · rename_i x y e; rw [(h2 x y e).1,(h2 x y e).2]
        · rfl
      | min => simp only [hv]
      | max => simp only [hv]
      | clear =>
        simp only
        split
        · rename_i x e; rw [h1 x e]
        · rfl
      | _ => rfl
  | _ => rfl
theorem Z91 {all:Array Oper} {o:Oper} {x y:Bool} (h:∀ t ∈ Z6d all o,ρ (.tmp t) = ρ' (.tmp t)):Z26 all o ρ x y = Z26 all o ρ' x y:=by
  unfold Z26
  cases hg:o.guard with
  | none => rfl
  | some g =>
    show optK (Z4z all o) _ = optK (Z4z all o) _
    refine Ze5 fun g' hg' => ?_
    rw [h g'.1 (by unfold Z6d; rw [hg']; simp)]
end
theorem Zem:∀ (masks:List Nat) (l:List Edge),l.foldl (fun acc e => match acc with
    | none => none
    | some m => if Region.binds .any e then (match masks[e.on]? with | some a => some (m ||| a ||| (1 <<< e.on)) | none => none) else some m) (none:Option Nat) = none
  | _,[] => rfl
  | masks,_ :: l => Zem masks l
theorem Zdk (masks:List Nat):∀ (l:List Edge) (m0 m:Nat),l.foldl (fun acc e => match acc with
    | none => none
    | some m => if Region.binds .any e then (match masks[e.on]? with | some a => some (m ||| a ||| (1 <<< e.on)) | none => none) else some m) (some m0) = some m →
    (∀ e ∈ l,Region.binds .any e = true→e.on < masks.length) ∧
    ∀ j,m.testBit j = true→m0.testBit j = true ∨ ∃ e ∈ l,Region.binds .any e = true∧(j = e.on ∨ (maskAt masks e.on).testBit j = true)
  | [],m0,m,h => by
    cases h
    exact ⟨by simp,fun j h => .inl h⟩
  | e :: l,m0,m,h => by
    rw [List.foldl_cons] at h
    by_cases hb:Region.binds .any e = true
    · simp only [hb,if_true] at h
      cases ha:masks[e.on]? with
      | none =>
        rw [ha] at h
        rw [Zem] at h
        cases h
      | some a =>
        rw [ha] at h
        obtain ⟨h1,h2⟩:=Zdk masks l _ m h
        have hlt:e.on < masks.length:=(List.getElem?_eq_some_iff.1 ha).1
        refine ⟨fun e' he' hb' => ?_,fun j hj => ?_⟩
        · rcases List.mem_cons.1 he' with rfl | he'
          · exact hlt
          · exact h1 e' he' hb'
        · rcases h2 j hj with h3 | ⟨e',he',h4⟩
          · simp only [Nat.testBit_or,Bool.or_eq_true] at h3
            rcases h3 with (h3 | h3) | h3
            · exact .inl h3
            · exact .inr ⟨e,by simp,hb,.inr (by unfold maskAt; rw [List.getD_eq_getElem?_getD,ha]; exact h3)⟩
            · refine .inr ⟨e,by simp,hb,.inl ?_⟩
              rw [Nat.one_shiftLeft,Nat.testBit_two_pow] at h3
              exact (of_decide_eq_true h3).symm
          · exact .inr ⟨e',by simp [he'],h4⟩
    · have hb:Region.binds .any e = false:=by simpa using hb
      simp only [hb] at h
      obtain ⟨h1,h2⟩:=Zdk masks l _ m h
      refine ⟨fun e' he' hb' => ?_,fun j hj => ?_⟩
      · rcases List.mem_cons.1 he' with rfl | he'
        · rw [hb] at hb'; cases hb'
        · exact h1 e' he' hb'
      · rcases h2 j hj with h3 | ⟨e',he',h4⟩
        · exact .inl h3
        · exact .inr ⟨e',by simp [he'],h4⟩
structure AncOk (l:List Oper) (masks:List Nat):Prop where
  len:masks.length = l.length
  back:∀ (i:Nat) (o:Oper),l[i]? = some o→∀ e ∈ o.after,Region.binds .any e = true→e.on < i
  anc:∀ (i:Nat) (o:Oper),l[i]? = some o→∀ j,(maskAt masks i).testBit j = true→∃ e ∈ o.after,Region.binds .any e = true∧(j = e.on ∨ (maskAt masks e.on).testBit j = true)
theorem Zax {a b:List Nat} {i:Nat} (h:i < a.length):maskAt (a ++ b) i = maskAt a i:=by
  unfold maskAt
  rw [List.getD_eq_getElem?_getD,List.getD_eq_getElem?_getD,List.getElem?_append_left h]
theorem Zpq:∀ (r pre:List Oper) (acc masks:List Nat),AncOk pre acc→ancs r acc = some masks→AncOk (pre ++ r) masks
  | [],pre,acc,masks,h,e => by
    cases e
    simpa using h
  | o :: r,pre,acc,masks,h,e => by
    unfold ancs at e
    split at e
    · rename_i m hm
      have:=Zpq r (pre ++ [o]) (acc ++ [m]) masks ?_ e
      · simpa using this
      · unfold ancOf at hm
        obtain ⟨h1,h2⟩:=Zdk acc o.after.toList 0 m hm
        refine ⟨by simp [h.len],fun i o' ho e' he' hb => ?_,fun i o' ho j hj => ?_⟩
        · by_cases hi:i < pre.length
          · rw [List.getElem?_append_left hi] at ho
            exact h.back i o' ho e' he' hb
          · rw [List.getElem?_append_right (by omega)] at ho
            have hi':i = pre.length:=by
              have:=(List.getElem?_eq_some_iff.1 ho).1
              simp at this; omega
            subst hi'
            simp at ho
            subst ho
            have:=h1 e' (by simpa using he') hb
            rw [← h.len]; exact this
        · by_cases hi:i < pre.length
          · rw [List.getElem?_append_left hi] at ho
            rw [Zax (by rw [h.len]; exact hi)] at hj
            obtain ⟨e',he',hb,h3⟩:=h.anc i o' ho j hj
            refine ⟨e',he',hb,?_⟩
            have:=h.back i o' ho e' he' hb
            rw [Zax (by rw [h.len]; omega)]
            exact h3
          · rw [List.getElem?_append_right (by omega)] at ho
            have hi':i = pre.length:=by
              have:=(List.getElem?_eq_some_iff.1 ho).1
              simp at this; omega
            subst hi'
            simp at ho
            subst ho
            have hm':maskAt (acc ++ [m]) pre.length = m:=by
              unfold maskAt
              rw [List.getD_eq_getElem?_getD,List.getElem?_append_right (by rw [h.len]; exact Nat.le_refl _)]
              simp [h.len]
            rw [hm'] at hj
            rcases h2 j hj with h3 | ⟨e',he',hb,h3⟩
            · simp at h3
            · have:=h1 e' he' hb
              exact ⟨e',by simpa using he',hb,by rw [Zax this]; exact h3⟩
    · cases e
theorem Zwt {ops:Array Oper} {masks:List Nat} (h:ancs ops.toList [] = some masks):AncOk ops.toList masks:=by
  have:=Zpq ops.toList [] [] masks ⟨rfl,fun i o h => by simp at h,fun i o h => by simp at h⟩ h
  simpa using this
end Go.AM
end
section
namespace Go.AM
variable [Orc]
def Det {α:Type} (f:(α→Bool)→Bool):Prop:=∀ K,f K = true→∃ v,K v = true∧∀ K':α→Bool,K' v = true→f K' = true
theorem Det.ret {α:Type} (v:α):Det fun K => K v:=fun K h => ⟨v,h,fun _ h => h⟩
theorem Det.no {α:Type}:Det (α:=α) fun _ => false:=fun K h => by cases h
theorem Det.opt {α β:Type} {x:Option β} {g:β→(α→Bool)→Bool} (h:∀ v,Det (g v)):Det fun K => optK x fun v => g v K:=by
  intro K hk
  obtain ⟨v,rfl,h1⟩:=Z01.1 hk
  obtain ⟨a,h2,h3⟩:=h v K h1
  exact ⟨a,h2,fun K' h' => Z01.2 ⟨v,rfl,h3 K' h'⟩⟩
theorem Det.ite {α:Type} {b:Bool} {g g':(α→Bool)→Bool} (h:Det g) (h':Det g'):Det fun K => ifK b (g K) (g' K):=by
  intro K hk
  cases b with
  | true => exact h K hk
  | false => exact h' K hk
theorem Det.bind {α β:Type} {f:(β→Bool)→Bool} {g:β→(α→Bool)→Bool} (hf:Det f) (hg:∀ v,Det (g v)):Det fun K => f fun v => g v K:=by
  intro K hk
  obtain ⟨b,h1,h2⟩:=hf _ hk
  obtain ⟨a,h3,h4⟩:=hg b K h1
  exact ⟨a,h3,fun K' h' => h2 _ (h4 K' h')⟩
theorem Det.nat (n:Nat):Det fun K => natK n K:=by
  simp only [Z18]; exact Det.ret n
theorem Det.int (n:Int):Det fun K => AM.intK n K:=by
  simp only [Zk9]; exact Det.ret n
theorem Det.idx (n:Int):Det fun K => idxK n K:=by
  intro K hk
  obtain ⟨m,e,h⟩:=Z2r.1 hk
  exact ⟨m,h,fun K' h' => Z2r.2 ⟨m,e,h'⟩⟩
theorem Det.len {α:Type} (l:List α) (n:Nat):Det fun K => lenK l n K:=by
  simp only [Z0p]; exact Det.ret _
theorem Det.app {α:Type} (l m:List α):Det fun K => appK l m K:=by
  simp only [Z3a]; exact Det.ret _
theorem Det.nth {α:Type} (l:List α) (i:Nat):Det fun K => nthK l i K:=by
  intro K hk
  obtain ⟨a,e,h⟩:=Z4r.1 hk
  exact ⟨a,h,fun K' h' => Z4r.2 ⟨a,e,h'⟩⟩
theorem Det.seg {α:Type} (l:List α) (i n:Nat):Det fun K => segK l i n K:=by
  intro K hk
  obtain ⟨e,h⟩:=Z2t.1 hk
  exact ⟨_,h,fun K' h' => Z2t.2 ⟨e,h'⟩⟩
theorem Det.part (n:Option Nat) (cs:List AVal) (off:Nat):Det fun K => Z7x n cs off K:=fun _ h => Zfv h
theorem Det.bool (v:AVal):Det fun K => v.Z72 K:=by
  intro K hk
  obtain ⟨b,rfl,h⟩:=AVal.Z1p.1 hk
  exact ⟨b,h,fun K' h' => h'⟩
theorem Det.Z7m (v:AVal):Det fun (K:IntKind × Int→Bool) => v.intK fun k n => K (k,n):=by
  intro K hk
  obtain ⟨k,n,rfl,h⟩:=AVal.Z0s.1 hk
  exact ⟨(k,n),h,fun K' h' => h'⟩
theorem Det.Zqg {α:Type} {v:AVal} {g:Int→(α→Bool)→Bool} (h:∀ n,Det (g n)):Det fun K => v.intK fun _ n => g n K :=
  Det.bind (g:=fun p K => g p.2 K) (Det.Z7m v) fun p => h p.2
theorem Det.str (v:AVal):Det fun K => v.strK K:=by
  intro K hk
  obtain ⟨b,rfl,h⟩:=AVal.Z20.1 hk
  exact ⟨b,h,fun K' h' => h'⟩
theorem Det.agg (v:AVal):Det fun K => v.aggK K:=by
  intro K hk
  obtain ⟨b,rfl,h⟩:=AVal.Z5d.1 hk
  exact ⟨b,h,fun K' h' => h'⟩
theorem Det.tup (v:AVal):Det fun K => v.tupK K:=by
  intro K hk
  obtain ⟨b,rfl,h⟩:=AVal.Zck.1 hk
  exact ⟨b,h,fun K' h' => h'⟩
theorem Det.ptr (v:AVal):Det fun (K:Pos × Nat→Bool) => v.ptrK fun b o => K (b,o):=by
  intro K hk
  obtain ⟨b,o,rfl,h⟩:=AVal.Z24.1 hk
  exact ⟨(b,o),h,fun K' h' => h'⟩
theorem Det.slc (v:AVal):Det fun (K:Pos × Nat × Nat × Cap→Bool) => v.Zaq fun b o n c => K (b,o,n,c):=by
  intro K hk
  obtain ⟨b,o,n,c,rfl,h⟩:=AVal.Za5.1 hk
  exact ⟨(b,o,n,c),h,fun K' h' => h'⟩
theorem Det.vals (ρ:Operand→Option AVal):∀ l,Det fun K => Z4c ρ l K
  | [] => Det.ret []
  | x :: l => by
    show Det fun K => optK (ρ x) fun v => Z4c ρ l fun r => K (v :: r)
    exact Det.opt fun v => Det.bind (Det.vals ρ l) fun r => Det.ret (v :: r)
theorem Det.fill (ρ:Operand→Option AVal) (pl:List (Nat × Nat × Operand)) (cs:List AVal):Det fun K => Z3t ρ pl cs K:=fun K h => Zf6 pl cs K h
theorem Det.mnmx (mx:Bool):∀ (l:List AVal) (v:AVal),Det fun K => Z6i mx l v K
  | [],v => by
    show Det fun (K:AVal→Bool) => v.intK fun k n => K (AVal.int k n)
    exact Det.bind (g:=fun p K => K (AVal.int p.1 p.2)) (Det.Z7m v) fun p => Det.ret _
  | y :: l,x => by
    show Det fun K => x.intK fun k a => y.intK fun _ b => ifK mx (ifK (ltI a b) (Z6i mx l (.int k b) K) (Z6i mx l (.int k a) K)) (ifK (ltI b a) (Z6i mx l (.int k b) K) (Z6i mx l (.int k a) K))
    exact Det.bind (g:=fun p K => y.intK fun _ b => ifK mx (ifK (ltI p.2 b) (Z6i mx l (.int p.1 b) K) (Z6i mx l (.int p.1 p.2) K)) (ifK (ltI b p.2) (Z6i mx l (.int p.1 b) K) (Z6i mx l (.int p.1 p.2) K)))
      (Det.Z7m x) fun p => Det.bind (g:=fun q K => ifK mx (ifK (ltI p.2 q.2) (Z6i mx l (.int p.1 q.2) K) (Z6i mx l (.int p.1 p.2) K)) (ifK (ltI q.2 p.2) (Z6i mx l (.int p.1 q.2) K) (Z6i mx l (.int p.1 p.2) K)))
        (Det.Z7m y) fun q => Det.ite (Det.ite (Det.mnmx mx l _) (Det.mnmx mx l _)) (Det.ite (Det.mnmx mx l _) (Det.mnmx mx l _))
theorem Det.Z6p (k:SK) (a b:AVal):Det fun K => AM.Z6p k a b K:=by
  cases k with
  | bool =>
    show Det fun K => a.Z72 fun x => b.Z72 fun y => K (Z5f x y)
    exact Det.bind (Det.bool a) fun x => Det.bind (Det.bool b) fun y => Det.ret _
  | int =>
    show Det fun K => a.intK fun j x => b.intK fun k y => ifK (Nat.beq (Z12 j) (Z12 k)) (K (eqI x y)) (fail 8)
    exact Det.bind (g:=fun p K => b.intK fun k y => ifK (Nat.beq (Z12 p.1) (Z12 k)) (K (eqI p.2 y)) (fail 8)) (Det.Z7m a) fun p =>
      Det.bind (g:=fun q K => ifK (Nat.beq (Z12 p.1) (Z12 q.1)) (K (eqI p.2 q.2)) (fail 8)) (Det.Z7m b) fun q => Det.ite (Det.ret _) Det.no
  | str =>
    show Det fun K => a.strK fun x => b.strK fun y => K (Z7o x y)
    exact Det.bind (Det.str a) fun x => Det.bind (Det.str b) fun y => Det.ret _
theorem Det.Z0u:∀ (ks:List SK) (x y:List AVal),Det fun K => AM.Z0u ks x y K
  | [],x,y => Det.ret true
  | k :: ks,[],y => Det.no
  | k :: ks,a :: x,[] => Det.no
  | k :: ks,a :: x,b :: y => by
    show Det fun K => AM.Z6p k a b fun e => ifK e (AM.Z0u ks x y K) (K false)
    exact Det.bind (Det.Z6p k a b) fun e => Det.ite (Det.Z0u ks x y) (Det.ret false)
theorem Det.bound (x:Option (Option AVal)) (d:Nat):Det fun K => Z2x x d K:=by
  cases x with
  | none => exact Det.ret d
  | some v =>
    show Det fun K => optK v fun v => v.intK fun _ n => idxK n K
    exact Det.opt fun v => Det.bind (g:=fun p K => idxK p.2 K) (Det.Z7m v) fun p => Det.idx _
theorem Det.le3 {α:Type} {a b c:Nat} {g:(α→Bool)→Bool} (h:Det g):Det fun K => le3K a b c (g K):=Det.ite (Det.ite h Det.no) Det.no
section
variable {P:Program} {rec:RecT} {s:St}
theorem Det.Z1u (b:Bool):Det fun (K:AVal→Bool) => AM.Z1u b s fun v _ => K v:=by
  cases b <;> exact Det.ret _
theorem Det.intV (k:IntKind) (n:Int):Det fun (K:AVal→Bool) => AM.intV k n s fun v _ => K v:=Det.bind (Det.int n) fun n => Det.ret _
theorem Det.Z3g (op:BinOp) (e:Bool):Det fun (K:AVal→Bool) => AM.Z3g op e s fun v _ => K v:=by
  cases op <;> first | exact Det.no | exact Det.Z1u (s:=s) _
theorem Det.Z6r (op:BinOp) (k:IntKind) (a b:Int):Det fun (K:AVal→Bool) => AM.Z6r op k a b s fun v _ => K v:=by
  cases op <;> first | exact Det.intV (s:=s) _ _ | exact Det.Z1u (s:=s) _ | exact Det.ite Det.no (Det.intV (s:=s) _ _)
theorem Det.Zdf (op:BinOp) (a b:List UInt8):Det fun (K:AVal→Bool) => AM.Zdf op a b s fun v _ => K v:=by
  cases op <;> first | exact Det.no | exact Det.Z1u (s:=s) _ | exact Det.bind (Det.len a 0) fun n => Det.bind (Det.len b 0) fun m => Det.ite (Det.bind (Det.app a b) fun l => Det.ret _) Det.no
theorem Det.Z3p (a b:Bool):Det fun K => AM.Z3p a b K:=Det.ite (Det.ret _) (Det.ite (Det.ret _) Det.no)
theorem Det.Z52 {α:Type} (v:AVal) {p s m f:Bool→(α→Bool)→Bool} (h1:∀ b,Det (p b)) (h2:∀ b,Det (s b)) (h3:∀ b,Det (m b)) (h4:∀ b,Det (f b)) :
    Det fun K => AM.Z52 v (fun b => p b K) (fun b => s b K) (fun b => m b K) (fun b => f b K):=by
  cases v <;> first | exact Det.no | exact h1 _ | exact h2 _ | exact h3 _ | exact h4 _
theorem Det.Z61 (op:BinOp) (t:TypeId) (x y:AVal):Det fun (K:AVal→Bool) => AM.Z61 P op t x y s fun v _ => K v:=by
  refine Det.Z52 x (fun a => Det.ite (Det.Z52 y (fun b => Det.bind (Det.Z3p a b) fun e => Det.Z3g (s:=s) op e) (fun _ => Det.no) (fun _ => Det.no) (fun _ => Det.no)) Det.no)
    (fun a => Det.ite (Det.Z52 y (fun _ => Det.no) (fun b => Det.bind (Det.Z3p a b) fun e => Det.Z3g (s:=s) op e) (fun _ => Det.no) (fun _ => Det.no)) Det.no)
    (fun a => Det.ite (Det.Z52 y (fun _ => Det.no) (fun _ => Det.no) (fun b => Det.bind (Det.Z3p a b) fun e => Det.Z3g (s:=s) op e) (fun _ => Det.no)) Det.no)
    (fun a => Det.ite (Det.Z52 y (fun _ => Det.no) (fun _ => Det.no) (fun _ => Det.no) (fun b => Det.bind (Det.Z3p a b) fun e => Det.Z3g (s:=s) op e)) Det.no)
theorem Det.Zml (op:BinOp) (t:TypeId) (x:List AVal) (y:AVal):Det fun (K:AVal→Bool) => AM.Zml P op t x y s fun v _ => K v :=
  Det.opt fun ks => Det.bind (Det.agg y) fun y => Det.bind (Det.len ks 0) fun n => Det.bind (Det.len x 0) fun a => Det.bind (Det.len y 0) fun b => Det.ite (Det.ite (Det.bind (Det.Z0u ks x y) fun e => Det.Z3g (s:=s) op e) Det.no) Det.no
theorem Det.Ze3 (op:BinOp) (t:TypeId) (x y:Option AVal):Det fun (K:AVal→Bool) => AM.Ze3 P op t x y s fun v _ => K v:=by
  refine Det.opt fun x => Det.opt fun y => ?_
  cases x with
  | bool a => exact Det.bind (Det.bool y) fun b => Det.ite (Det.Z3g (s:=s) _ _) Det.no
  | int k a =>
    exact Det.bind (g:=fun p (K:AVal→Bool) => ifK (Zbh op) (AM.Z6r op k a p.2 s fun v _ => K v) (ifK (Nat.beq (Z12 k) (Z12 p.1)) (AM.Z6r op k a p.2 s fun v _ => K v) (fail 13))) (Det.Z7m y) fun p =>
      Det.ite (Det.Z6r (s:=s) _ _ _ _) (Det.ite (Det.Z6r (s:=s) _ _ _ _) Det.no)
  | str a => exact Det.bind (Det.str y) fun b => Det.Zdf (s:=s) _ _ _
  | agg l => exact Det.Zml (P:=P) (s:=s) _ _ _ _
  | yld l => exact Det.no
  | iface t v => exact Det.no
  | nilIface => exact Det.no
  | tup l => exact Det.no
  | _ => exact Det.Z61 (P:=P) (s:=s) _ _ _ _
theorem Det.cut (es:Nat) (b:Pos) (off len:Nat) (cap:Cap) (lo hi mx:Option (Option AVal)):Det fun (K:AVal→Bool) => AM.cutK es b off len cap lo hi mx s fun v _ => K v:=by
  refine Det.bind (Det.bound lo 0) fun l => Det.bind (Det.bound hi len) fun h => ?_
  cases cap with
  | lim c =>
    exact Det.bind (Det.bound mx c) fun m => Det.ite (Det.le3 (Det.ite (Det.ret _) (Det.bind (Det.nat _) fun o => Det.bind (Det.nat _) fun n => Det.bind (Det.nat _) fun c => Det.ret _))) Det.no
  | opn e =>
    refine Det.ite ?_ Det.no
    cases mx with
    | none => exact Det.le3 (Det.bind (Det.nat _) fun o => Det.bind (Det.nat _) fun n => Det.ret _)
    | some x => exact Det.no
theorem Det.Z9m {α:Type} (hi mx:Option (Option AVal)) {g:(α→Bool)→Bool} (h:Det g):Det fun K => AM.Z9m hi mx (g K):=by
  cases mx with
  | none => exact h
  | some m => cases hi with
    | none => exact Det.no
    | some _ => exact h
theorem Det.Zbi (t:TypeId) (x:Option AVal) (lo hi mx:Option (Option AVal)):Det fun (K:AVal→Bool) => AM.Zbi P t x lo hi mx s fun v _ => K v:=by
  refine Det.opt fun x => ?_
  unfold AM.Z9m
  refine Det.Z9m hi mx ?_
  cases Z4j P t with
  | str =>
    refine Det.bind (Det.str x) fun l => Det.bind (Det.len l 0) fun n => Det.bind (Det.bound lo 0) fun a => Det.bind (Det.bound hi n) fun b => ?_
    cases mx with
    | none => exact Det.le3 (Det.bind (Det.seg _ _ _) fun l => Det.ret _)
    | some m => exact Det.no
  | slc =>
    refine Det.opt fun e => ?_
    cases x with
    | slice b off n c => exact Det.cut (s:=s) _ _ _ _ _ _ _ _
    | nilSlice => exact Det.bind (Det.bound lo 0) fun l => Det.bind (Det.bound hi 0) fun h => Det.bind (Det.bound mx 0) fun m => Det.ite (Det.ite (Det.ite (Det.ret _) Det.no) Det.no) Det.no
    | _ => exact Det.no
  | arr =>
    refine Det.opt fun e => ?_
    exact Det.bind (g:=fun p (K:AVal→Bool) => AM.cutK e.2 p.1 p.2 e.1 (.lim e.1) lo hi mx s fun v _ => K v) (Det.ptr x) fun p => Det.cut (s:=s) _ _ _ _ _ _ _ _
  | _ => exact Det.no
theorem Det.Z87 (t:TypeId) (x i:Option AVal):Det fun (K:AVal→Bool) => AM.Z87 P t x i s fun v _ => K v:=by
  refine Det.opt fun x => Det.opt fun i => ?_
  refine Det.Zqg fun p => Det.bind (Det.idx _) fun i => ?_
  cases Z4j P t with
  | slc =>
    refine Det.opt fun e => ?_
    exact Det.bind (g:=fun q (K:AVal→Bool) => ifK (Nat.ble (Nat.succ i) q.2.2.1) (natK (Nat.add q.2.1 (Nat.mul i e.1)) fun o => K (.ptr q.1 o)) (fail 16)) (Det.slc x) fun q => Det.ite (Det.bind (Det.nat _) fun o => Det.ret _) Det.no
  | arr =>
    refine Det.opt fun e => ?_
    exact Det.bind (g:=fun q (K:AVal→Bool) => ifK (Nat.ble (Nat.succ i) e.1) (natK (Nat.add q.2 (Nat.mul i e.2)) fun o => K (.ptr q.1 o)) (fail 17)) (Det.ptr x) fun q => Det.ite (Det.bind (Det.nat _) fun o => Det.ret _) Det.no
  | _ => exact Det.no
theorem Det.Zd8 (t:TypeId) (x i:Option AVal):Det fun (K:AVal→Bool) => AM.Zd8 P t x i s fun v _ => K v:=by
  refine Det.opt fun x => Det.opt fun i => ?_
  refine Det.Zqg fun p => Det.bind (Det.idx _) fun i => ?_
  cases Z4j P t with
  | str => exact Det.bind (Det.str x) fun l => Det.bind (Det.nth l i) fun c => Det.bind (Det.nat _) fun n => Det.ret _
  | arr => exact Det.opt fun e => Det.bind (Det.agg x) fun l => Det.ite (Det.bind (Det.part _ _ _) fun v => Det.ret _) Det.no
  | _ => exact Det.no
theorem Det.Z88 (mx:Bool) (l:List AVal):Det fun (K:AVal→Bool) => AM.Z88 mx l s fun v _ => K v:=by
  cases l with
  | nil => exact Det.no
  | cons x r => exact Det.mnmx mx r x
theorem Det.Za3 (ts:Array TypeId) (x:Option AVal) (hm:∀ e,Z59 P ts = some e→(match e.1 with | .map => false | _ => true) = true):Det fun (K:AVal→Bool) => AM.Za3 P ts x s fun v _ => K v:=by
  unfold AM.Za3
  cases hl:Z59 P ts with
  | none => exact Det.no
  | some e =>
    have:=hm e hl
    obtain ⟨tk,n⟩:=e
    refine Det.bind (f:=fun K => optK x K) (Det.opt (x:=x) (g:=fun v K => K v) fun v => Det.ret v) fun v => ?_
    cases tk with
    | str => exact Det.bind (Det.str v) fun l => Det.bind (Det.len l 0) fun n => Det.ret _
    | slc => cases v <;> first | exact Det.no | exact Det.ret _
    | arr => exact Det.bind (Det.nat _) fun n => Det.ret _
    | map => simp at this
    | other => exact Det.no
theorem Zz9 {o:Op} {ρ:Operand→Option AVal} (hc:Z0t P o = 0):Det fun (K:AVal→Bool) => opK P rec o ρ s fun v _ => K v:=by
  cases o with
  | move x => exact Det.opt fun v => Det.ret v
  | assign x => exact Det.opt fun v => Det.ret v
  | pick c a b => exact Det.opt fun c => Det.bind (Det.bool c) fun t => Det.ite (Det.opt fun v => Det.ret v) (Det.opt fun v => Det.ret v)
  | build t ps => exact Det.opt fun pl => Det.opt fun zs => Det.bind (Det.fill ρ pl zs) fun cs => Det.ret _
  | nilCheck x => exact Det.opt fun v => Det.bind (g:=fun p (K:AVal→Bool) => K (.ptr p.1 p.2)) (Det.ptr v) fun p => Det.ret _
  | binOp op t x y e => exact Det.Ze3 (P:=P) (s:=s) op t (ρ x) (ρ y)
  | unOp op t x =>
    refine Det.opt fun x => ?_
    cases op with
    | neg => exact Det.bind (g:=fun p (K:AVal→Bool) => AM.intV p.1 (Z83 p.1 (Int.sub 0 p.2)) s fun v _ => K v) (Det.Z7m x) fun p => Det.intV (s:=s) _ _
    | xor => exact Det.bind (g:=fun p (K:AVal→Bool) => AM.intV p.1 (p.1.wrap (BitVec.ofInt p.1.bits (if p.1.signed then -1 else p.1.max) ^^^ BitVec.ofInt p.1.bits p.2).toNat) s fun v _ => K v) (Det.Z7m x) fun p => Det.intV (s:=s) _ _
    | not => exact Det.bind (Det.bool x) fun b => Det.Z1u (s:=s) _
    | plus => exact Det.no
  | makeFunc f a c => exact Det.opt fun f => Det.bind (Det.vals ρ _) fun a => Det.bind (Det.vals ρ _) fun c => Det.ret _
  | slice t x lo hi mx => exact Det.Zbi (P:=P) (s:=s) t (ρ x) _ _ _
  | fieldAddr t x f => exact Det.opt fun fo => Det.opt fun x => Det.bind (g:=fun p (K:AVal→Bool) => natK (Nat.add p.2 fo) fun o => K (.ptr p.1 o)) (Det.ptr x) fun p => Det.bind (Det.nat _) fun o => Det.ret _
  | field t x f => exact Det.opt fun f => Det.opt fun x => Det.bind (Det.agg x) fun l => Det.bind (Det.part _ _ _) fun v => Det.ret _
  | indexAddr t x i => exact Det.Z87 (P:=P) (s:=s) t (ρ x) (ρ i)
  | index t x i => exact Det.Zd8 (P:=P) (s:=s) t (ρ x) (ρ i)
  | extract x i => exact Det.opt fun x => Det.bind (Det.tup x) fun l => Det.bind (Det.nth l i) fun v => Det.ret _
  | convert a b x =>
    show Det fun (K:AVal→Bool) => AM.Z8t P a b (ρ x) s fun v _ => K v
    refine Det.opt fun x => ?_
    have hc:(match Z5p P a b with | .int _ => 0 | .same => 0 | _ => 3) = 0:=hc
    generalize Z5p P a b = ck at hc
    cases ck with
    | int k => exact Det.bind (g:=fun p (K:AVal→Bool) => AM.intV k (Z83 k p.2) s fun v _ => K v) (Det.Z7m x) fun p => Det.intV (s:=s) _ _
    | same => exact Det.bind (Det.str x) fun l => Det.ret _
    | _ => simp at hc
  | call c =>
    obtain ⟨callee,args,ats⟩:=c
    cases callee with
    | value f => simp [Z0t] at hc
    | invoke r n => simp [Z0t] at hc
    | builtin b =>
      cases b with
      | len =>
        have hc:(match Z59 P ats with | some (.map,_) => 3 | some _ => 0 | none => 3) = 0:=hc
        show Det fun (K:AVal→Bool) => (match args.toList with | [x] => AM.Za3 P ats (ρ x) s fun v _ => K v | _ => fail 46)
        split
        · refine Det.Za3 (P:=P) (s:=s) _ _ fun e he => ?_
          rw [he] at hc
          obtain ⟨tk,n⟩:=e
          cases tk <;> first | rfl | simp at hc
        · exact Det.no
      | min => exact Det.bind (Det.vals ρ _) fun l => Det.Z88 (s:=s) false l
      | max => exact Det.bind (Det.vals ρ _) fun l => Det.Z88 (s:=s) true l
      | _ => simp [Z0t] at hc
  | _ => simp [Z0t] at hc
end
end Go.AM
end
section
namespace Go.AM
variable [Orc]
def PT.restrict {α:Type}:(Pos→Bool)→PT α→PT α
  | _,.leaf => .leaf
  | f,.node l v r => .node (PT.restrict (fun p => f (.o p)) l) (if f .h then v else none) (PT.restrict (fun p => f (.i p)) r)
theorem PT.Z90 {α:Type}:∀ (k:Pos) (f:Pos→Bool) (t:PT α),PT.get k (PT.restrict f t) = if f k then PT.get k t else none
  | .h,f,.leaf => by cases hf:f .h <;> rfl
  | .o k,f,.leaf => by cases hf:f (.o k) <;> rfl
  | .i k,f,.leaf => by cases hf:f (.i k) <;> rfl
  | .h,f,.node l v r => rfl
  | .o k,f,.node l v r => PT.Z90 k (fun p => f (.o p)) l
  | .i k,f,.node l v r => PT.Z90 k (fun p => f (.i p)) r
noncomputable def St.known (ι:Ren) (s:St):St:={ heap:=PT.restrict (fun b => (ι b).isSome) s.heap,next:=s.next }
theorem St.Z7f {ι:Ren} {s:St} {b:Pos} (h:(ι b).isSome = true):PT.get b (s.known ι).heap = PT.get b s.heap:=by
  unfold St.known
  simp [PT.Z90,h]
theorem St.Zra {ι:Ren} {s:St} {b:Pos} {x:AObj} (h:PT.get b (s.known ι).heap = some x):(ι b).isSome = true:=by
  unfold St.known at h
  rw [PT.Z90] at h
  cases hb:(ι b).isSome with
  | true => rfl
  | false => rw [hb] at h; cases h
theorem WRel.known {P:Program} {ι:Ren} {s:St} {w:World} (h:WRel P ι s w):WRel P ι (s.known ι) w:=by
  refine ⟨fun b p e => ?_,fun b b' p p' o o' e e' g g' => ?_,h.fresh,h.bound⟩
  · obtain ⟨o,ho,hr⟩:=h.objs b p e
    exact ⟨o,by rw [St.Z7f (by simp [e])]; exact ho,hr⟩
  · rw [St.Z7f (by simp [e])] at g
    rw [St.Z7f (by simp [e'])] at g'
    exact h.apart b b' p p' o o' e e' g g'
theorem WRel.Zs0 {P:Program} {ι ι':Ren} {s:St} {w':World} (hle:Ren.le ι ι') (h:WRel P ι' (s.known ι) w'):ι' = ι:=by
  funext b
  cases e:ι' b with
  | none =>
    cases e':ι b with
    | none => rfl
    | some p => rw [hle b p e'] at e; cases e
  | some p =>
    obtain ⟨o,ho,_⟩:=h.objs b p e
    have:=St.Zra ho
    cases e':ι b with
    | none => rw [e'] at this; cases this
    | some q => rw [hle b q e'] at e; exact e.symm
theorem WRel.unknown {P:Program} {ι:Ren} {s:St} {w w':World} (hw:WRel P ι s w) (h:WRel P ι (s.known ι) w'):WRel P ι s w':=by
  refine ⟨fun b p e => ?_,fun b b' p p' o o' e e' g g' => ?_,hw.fresh,h.bound⟩
  · obtain ⟨o,ho,hr⟩:=h.objs b p e
    exact ⟨o,by rw [← St.Z7f (ι:=ι) (s:=s) (b:=b) (by simp [e])]; exact ho,hr⟩
  · rw [← St.Z7f (ι:=ι) (s:=s) (b:=b) (by simp [e])] at g
    rw [← St.Z7f (ι:=ι) (s:=s) (b:=b') (by simp [e'])] at g'
    exact h.apart b b' p p' o o' e e' g g'
theorem WRel.grow {P:Program} {ι:Ren} {s s':St} {w:World} (h:WRel P ι s w) (hg:Grown s s') (hn:s.next.toNat ≤ s'.next.toNat):WRel P ι s' w:=by
  have hsame:∀ b p,ι b = some p→PT.get b s'.heap = PT.get b s.heap:=fun b p e => by
    obtain ⟨o,ho,_⟩:=h.objs b p e
    rw [ho,hg b o ho]
  refine ⟨fun b p e => ?_,fun b b' p p' o o' e e' g g' => ?_,fun b p e => Nat.lt_of_lt_of_le (h.fresh b p e) hn,h.bound⟩
  · rw [hsame b p e]; exact h.objs b p e
  · rw [hsame b p e] at g
    rw [hsame b' p' e'] at g'
    exact h.apart b b' p p' o o' e e' g g'
theorem WRel.Zql {P:Program} {ι:Ren} {s:St} {w:World} (h:WRel P ι s w) {q:Pos} {x:AObj} {obj:Obj} {sz:Nat} (hq:PT.get q s.heap = some x) (hn:ι q = none) (hlt:q.toNat < s.next.toNat)
    (hx:ORel P (Ren.set ι q ⟨w.heap.size,0,sz,false⟩) { w with heap:=w.heap.push obj } ⟨w.heap.size,0,sz,false⟩ x) :
    WRel P (Ren.set ι q ⟨w.heap.size,0,sz,false⟩) s { w with heap:=w.heap.push obj }∧Ext ι w (Ren.set ι q ⟨w.heap.size,0,sz,false⟩) { w with heap:=w.heap.push obj }:=by
  have hle:Ren.le ι (Ren.set ι q ⟨w.heap.size,0,sz,false⟩):=Ren.Z63 hn
  refine ⟨⟨fun b p e => ?_,fun b b' p p' o o' e e' g g' hl hl' hb => ?_,fun b p e => ?_,fun b p e => ?_⟩,⟨hle,by simp,fun b p e => ?_,fun i hi _ => Z7j hi,rfl,rfl⟩⟩
  · rcases Ren.Z1d e with ⟨rfl,rfl⟩ | ⟨_,e⟩
    · exact ⟨x,hq,hx⟩
    · obtain ⟨o,ho,hr⟩:=h.objs b p e
      exact ⟨o,ho,ORel.mono (w:=w) hle (fun _ => Z7j (h.bound b p e)) hr⟩
  · rcases Ren.Z1d e with ⟨hb1,hp1⟩ | ⟨_,e2⟩
    · rcases Ren.Z1d e' with ⟨hb2,hp2⟩ | ⟨_,e3⟩
      · exact .inl (hb1.trans hb2.symm)
      · have:=h.bound b' p' e3
        rw [hp1] at hb
        simp only at hb; omega
    · rcases Ren.Z1d e' with ⟨hb2,hp2⟩ | ⟨_,e3⟩
      · have:=h.bound b p e2
        rw [hp2] at hb
        simp only at hb; omega
      · exact h.apart b b' p p' o o' e2 e3 g g' hl hl' hb
  · rcases Ren.Z1d e with ⟨rfl,rfl⟩ | ⟨_,e⟩
    · exact hlt
    · exact h.fresh b p e
  · rcases Ren.Z1d e with ⟨rfl,rfl⟩ | ⟨_,e⟩
    · simp
    · have:=h.bound b p e; simp; omega
  · rcases Ren.Z1d e with ⟨rfl,rfl⟩ | ⟨_,e⟩
    · exact .inr (.inl (Nat.le_refl _))
    · exact .inl e
theorem WRel.pushed {P:Program} {ι:Ren} {s:St} {w:World} (h:WRel P ι s w) (obj:Obj):WRel P ι s { w with heap:=w.heap.push obj }∧Ext ι w ι { w with heap:=w.heap.push obj }:=by
  refine ⟨⟨fun b p e => ?_,h.apart,h.fresh,fun b p e => ?_⟩,⟨Ren.le_refl ι,by simp,fun b p e => .inl e,fun i hi _ => Z7j hi,rfl,rfl⟩⟩
  · obtain ⟨o,ho,hr⟩:=h.objs b p e
    exact ⟨o,ho,ORel.mono (w:=w) (Ren.le_refl ι) (fun _ => Z7j (h.bound b p e)) hr⟩
  · have:=h.bound b p e
    simp
    omega
theorem WRel.Zhj {P:Program} {ι:Ren} {s:St} {w:World} (h:WRel P ι s w) {q:Pos} {x:AObj} {blk sz:Nat} (hq:PT.get q s.heap = some x) (hn:ι q = none) (hlt:q.toNat < s.next.toNat)
    (hb:∀ b p,ι b = some p→p.blk ≠ blk) (hbl:blk < w.heap.size) (hx:ORel P (Ren.set ι q ⟨blk,0,sz,false⟩) w ⟨blk,0,sz,false⟩ x):WRel P (Ren.set ι q ⟨blk,0,sz,false⟩) s w:=by
  have hle:Ren.le ι (Ren.set ι q ⟨blk,0,sz,false⟩):=Ren.Z63 hn
  refine ⟨fun b p e => ?_,fun b b' p p' o o' e e' g g' hl hl' hbb => ?_,fun b p e => ?_,fun b p e => ?_⟩
  · rcases Ren.Z1d e with ⟨rfl,rfl⟩ | ⟨_,e⟩
    · exact ⟨x,hq,hx⟩
    · obtain ⟨o,ho,hr⟩:=h.objs b p e
      exact ⟨o,ho,ORel.mono (w:=w) hle (fun _ => rfl) hr⟩
  · rcases Ren.Z1d e with ⟨hb1,hp1⟩ | ⟨_,e2⟩
    · rcases Ren.Z1d e' with ⟨hb2,hp2⟩ | ⟨_,e3⟩
      · exact .inl (hb1.trans hb2.symm)
      · rw [hp1] at hbb
        exact absurd hbb.symm (hb b' p' e3)
    · rcases Ren.Z1d e' with ⟨hb2,hp2⟩ | ⟨_,e3⟩
      · rw [hp2] at hbb
        exact absurd hbb (hb b p e2)
      · exact h.apart b b' p p' o o' e2 e3 g g' hl hl' hbb
  · rcases Ren.Z1d e with ⟨rfl,rfl⟩ | ⟨_,e⟩
    · exact hlt
    · exact h.fresh b p e
  · rcases Ren.Z1d e with ⟨rfl,rfl⟩ | ⟨_,e⟩
    · exact hbl
    · exact h.bound b p e
theorem Ext.Zhj {ι0 ι:Ren} {w0 w:World} (h:Ext ι0 w0 ι w) {q:Pos} {blk sz:Nat} (hn:ι q = none) (hb:w0.heap.size ≤ blk):Ext ι0 w0 (Ren.set ι q ⟨blk,0,sz,false⟩) w:=by
  refine ⟨Ren.le_trans h.le (Ren.Z63 hn),h.size,fun b p e => ?_,h.keep,h.os,h.out⟩
  rcases Ren.Z1d e with ⟨rfl,rfl⟩ | ⟨_,e⟩
  · exact .inr (.inl hb)
  · exact h.new b p e
theorem Grown.set {s:St} {x:AObj} (h:PT.get s.next s.heap = none):Grown s { heap:=PT.set s.next x s.heap,next:=s.next.succ }:=by
  intro b y e
  by_cases hb:b = s.next
  · subst hb; rw [h] at e; cases e
  · rw [PT.Z0w _ _ _ _ hb]; exact e
noncomputable def guardV (v : AVal) (w x y : Bool) : Bool :=
  @AVal.rec (fun _ => Bool) (fun _ => Bool) (fun b => ifK (Z5f b w) x y) (fun _ _ => y) (fun _ => y) (fun _ _ => y) y (fun _ _ _ _ => y) y (fun _ => y) y (fun _ _ _ _ _ => y) (fun _ => y) y
        (fun _ _ _ => y) y (fun _ _ => y) (fun _ _ => y) false (fun _ _ _ _ => false) v
theorem Zp3 {all:Array Oper} {o:Oper} {ρ:Operand→Option AVal} {g0:Nat × Bool} {g:Tmp × Bool} {v:AVal} (hg:o.guard = some g0) (h1:Z4z all o = some g) (h3:ρ (.tmp g.1) = some v) (x y:Bool) :
    Z26 all o ρ x y = guardV v g.2 x y:=by
  unfold Z26
  rw [hg]
  show optK (Z4z all o) _ = _
  rw [h1]
  show optK (ρ (.tmp g.1)) _ = _
  rw [h3]
  rfl
theorem Z7q {all:Array Oper} {o:Oper} {ρ:Operand→Option AVal} {x y:Bool} (h:Z26 all o ρ x y = true) :
    (x = true∧∀ x' y',Z26 all o ρ x' y' = x') ∨ (y = true∧∀ x' y',Z26 all o ρ x' y' = y'):=by
  cases hg:o.guard with
  | none =>
    have he:∀ x' y',Z26 all o ρ x' y' = x':=fun x' y' => by unfold Z26; rw [hg]
    exact .inl ⟨by rw [← he x y]; exact h,he⟩
  | some g0 =>
    have h0:=h
    unfold Z26 at h0
    rw [hg] at h0
    obtain ⟨g,h1,h2⟩:=Z01.1 h0
    obtain ⟨v,h3,_⟩:=Z01.1 h2
    have he:=Zp3 (all:=all) hg h1 h3
    rw [he] at h
    simp only [he]
    cases v with
    | bool b =>
      have h:ifK (Z5f b g.2) x y = true:=h
      rcases Z02.1 h with ⟨h5,h6⟩ | ⟨h5,h6⟩
      · refine .inl ⟨h6,fun x' y' => ?_⟩
        show ifK (Z5f b g.2) x' y' = x'
        rw [h5]; rfl
      · refine .inr ⟨h6,fun x' y' => ?_⟩
        show ifK (Z5f b g.2) x' y' = y'
        rw [h5]; rfl
    | _ => exact .inr ⟨h,fun _ _ => rfl⟩
section
variable (P:Program) (ops:Array Oper) (masks:List Nat) (tree:PT AVal)
abbrev cls (i:Nat):Nat:=Z0t P (opAt ops i).op
abbrev Z0k (i:Nat):Option Tmp:=(opAt ops i).dst
abbrev Anc (i j:Nat):Prop:=(maskAt masks i).testBit j = true
abbrev Z5a (i:Nat):List Tmp:=Z6d ops (opAt ops i)
def writer (i:Nat) (t:Tmp):Option Nat:=(List.range ops.size).find? fun j => (maskAt masks i).testBit j && Z0k ops j == some t
noncomputable def rho (vals:Nat→AVal) (i:Nat):Operand→Option AVal
  | .tmp t => if (Z5a ops i).contains t then (match writer ops masks i t with
    | some j => some (vals j)
    | none => PT.get (posOf t) tree) else none
  | .const v => conv v
  | .global _ => none
  | .func f => some (.fn f [] [])
structure TmpsOk:Prop where
  one:∀ i j d,i < ops.size→j < ops.size→Z0k ops i = some d→Z0k ops j = some d→i = j
  read:∀ i j d,i < ops.size→j < ops.size→i ≠ j→Z0k ops i = some d→d ∈ Z5a ops j→Anc masks j i ∨ Anc masks i j
end
section
variable {P:Program} {ops:Array Oper} {masks:List Nat} {tree:PT AVal}
theorem Za9 {i j:Nat} {t:Tmp} (h:writer ops masks i t = some j):j < ops.size∧Anc masks i j∧Z0k ops j = some t:=by
  unfold writer at h
  have h1:=List.mem_of_find?_eq_some h
  have h2:=List.find?_some h
  simp only [Bool.and_eq_true,beq_iff_eq] at h2
  exact ⟨by simpa using h1,h2.1,h2.2⟩
theorem Zhi {i:Nat} {t:Tmp} (h:writer ops masks i t = none) (j:Nat) (hj:j < ops.size) (ha:Anc masks i j):Z0k ops j ≠ some t:=by
  unfold writer at h
  rw [List.find?_eq_none] at h
  have:=h j (by simpa using hj)
  intro e
  simp only [Bool.and_eq_true,beq_iff_eq,not_and] at this
  exact this ha e
theorem Zcg {vals vals':Nat→AVal} {i:Nat} (h:∀ j,Anc masks i j→vals j = vals' j):rho ops masks tree vals i = rho ops masks tree vals' i:=by
  funext x
  cases x with
  | tmp t =>
    simp only [rho]
    split
    · cases hw:writer ops masks i t with
      | none => rfl
      | some j => simp only [h j (Za9 hw).2.1]
    · rfl
  | _ => rfl
theorem Zc8 {t:Tmp} {dst:Nat→Option Tmp}:∀ (pre:List Nat) {d:Nat},idxOf t (pre.map dst) 0 = some d→∃ j,pre[d]? = some j∧dst j = some t
  | [],d,h => by cases h
  | j :: pre,d,h => by
    rw [List.map_cons] at h
    unfold idxOf at h
    split at h
    · rename_i e
      cases h
      exact ⟨j,rfl,e⟩
    · rw [Z4p] at h
      cases hi:idxOf t (pre.map dst) 0 with
      | none => rw [hi] at h; cases h
      | some d' =>
        rw [hi] at h
        cases h
        obtain ⟨j',h1,h2⟩:=Zc8 pre hi
        exact ⟨j',by simpa using h1,h2⟩
theorem Z7r {t:Tmp} {dst:Nat→Option Tmp}:∀ (pre:List Nat),idxOf t (pre.map dst) 0 = none→∀ j ∈ pre,dst j ≠ some t
  | [],h,j,hj => by cases hj
  | i :: pre,h,j,hj => by
    rw [List.map_cons] at h
    unfold idxOf at h
    split at h
    · cases h
    · rename_i e
      rw [Z4p] at h
      have hi:idxOf t (pre.map dst) 0 = none:=by
        cases hi:idxOf t (pre.map dst) 0 with
        | none => rfl
        | some d' => rw [hi] at h; cases h
      rcases List.mem_cons.1 hj with rfl | hj
      · exact e
      · exact Z7r pre hi j hj
theorem Zai (ht:TmpsOk ops masks) {vals:Nat→AVal} {i:Nat} {pre:List Nat} (hlt:∀ j ∈ pre,j < ops.size) (hanc:∀ j,Anc masks i j→j ∈ pre) (hrd:∀ j ∈ pre,Anc masks i j ∨ ∀ d,Z0k ops j = some d→d ∉ Z5a ops i)
    (x:Operand) (hx:∀ t,x = .tmp t→t ∈ Z5a ops i):getO tree (pre.map vals) (Z07 (pre.map (Z0k ops)) x) = rho ops masks tree vals i x:=by
  cases x with
  | tmp t =>
    have hr:=hx t rfl
    simp only [rho,Z07]
    rw [if_pos (by simpa using hr)]
    cases hi:idxOf t (pre.map (Z0k ops)) 0 with
    | some d =>
      obtain ⟨j,h1,h2⟩:=Zc8 pre hi
      have hj:j ∈ pre:=List.mem_of_getElem? h1
      have ha:Anc masks i j:=by
        rcases hrd j hj with h | h
        · exact h
        · exact absurd hr (h t h2)
      cases hw:writer ops masks i t with
      | none => exact absurd h2 (Zhi hw j (hlt j hj) ha)
      | some j' =>
        obtain ⟨h3,_,h5⟩:=Za9 hw
        have:j' = j:=ht.one j' j t h3 (hlt j hj) h5 h2
        subst this
        show nthO (pre.map vals) d = some (vals j')
        rw [Zgg]
        simp [h1]
    | none =>
      have hno:=Z7r pre hi
      cases hw:writer ops masks i t with
      | none => rfl
      | some j =>
        obtain ⟨_,h4,h5⟩:=Za9 hw
        exact absurd h5 (hno j (hanc j h4))
  | const v =>
    simp only [rho,Z07]
    cases hc:conv v <;> rfl
  | global g => rfl
  | func f => rfl
theorem Ztz (ht:TmpsOk ops masks) {ι:Ren} {vals:Nat→AVal} {i:Nat} {L R:Nat→Prop} {a:Act} {tmps0:Array Value} (hi:i < ops.size) (hLi:¬ L i) (hRi:¬ R i) (hlt:∀ j,L j→j < ops.size) (hanc:∀ j,Anc masks i j→L j) (hLanc:∀ j,L j→∀ k,Anc masks j k→L k)
    (hR:∀ j,R j→j < ops.size∧∀ k,Anc masks j k→L k)
    (h1:∀ j,L j→∀ d,Z0k ops j = some d→∃ u,a.tmps[d]? = some u∧VRel ι (vals j) u) (h2:∀ t,(∀ j,L j ∨ R j→Z0k ops j ≠ some t)→a.tmps[t]? = tmps0[t]?)
    (h0:∀ t v,PT.get (posOf t) tree = some v→∃ u,tmps0[t]? = some u∧VRel ι v u) (x:Operand):ORl ι (rho ops masks tree vals i x) (a.eval x):=by
  intro v hv
  cases x with
  | tmp t =>
    simp only [rho] at hv
    split at hv
    · rename_i hr
      have hr:t ∈ Z5a ops i:=by simpa using hr
      cases hw:writer ops masks i t with
      | some j =>
        rw [hw] at hv
        cases hv
        obtain ⟨_,h4,h5⟩:=Za9 hw
        obtain ⟨u,h6,h7⟩:=h1 j (hanc j h4) t h5
        simpa [Act.eval,Array.getD_eq_getD_getElem?,h6] using h7
      | none =>
        rw [hw] at hv
        have hv:PT.get (posOf t) tree = some v:=hv
        obtain ⟨u,h6,h7⟩:=h0 t v hv
        have h8:=h2 t (fun j hj e => by
          have hjl:j < ops.size∧∀ k,Anc masks j k→L k:=by
            rcases hj with hj | hj
            · exact ⟨hlt j hj,hLanc j hj⟩
            · exact hR j hj
          have hne:j ≠ i:=fun e => by
            rcases hj with hj | hj
            · exact hLi (e ▸ hj)
            · exact hRi (e ▸ hj)
          rcases ht.read j i t hjl.1 hi hne e hr with h | h
          · exact Zhi hw j hjl.1 h e
          · exact hLi (hjl.2 i h))
        rw [h6] at h8
        simpa [Act.eval,Array.getD_eq_getD_getElem?,h8] using h7
    · cases hv
  | const c => exact Zhl hv
  | global g => cases hv
  | func f =>
    have hv:some (AVal.fn f [] []) = some v:=hv
    cases hv
    exact .fn .nil .nil
theorem Z95 {all:Array Oper} {o:Oper} {t:Tmp} (h:.tmp t ∈ o.op.operands):t ∈ Z6d all o:=by
  unfold Z6d
  refine List.mem_append_left _ (List.mem_flatMap.2 ⟨.tmp t,by simpa using h,by simp [Zjk]⟩)
end
end Go.AM
end
section
namespace Go.AM
variable [Orc] [OrcOk]
theorem put_defers (a:Act) (dst:Option Tmp) (u:Value):(a.put dst u).defers = a.defers:=by
  unfold Act.put; split <;> rfl
theorem Zi9 (a:Act) (dst:Option Tmp) (u:Value):(a.put dst u).tmps.size = a.tmps.size:=by
  unfold Act.put; split <;> simp
theorem Zi8 {a:Act} {d:Tmp} {u:Value} (h:d < a.tmps.size):(a.put (some d) u).tmps[d]? = some u:=by simp [Act.put,h]
theorem Z5k {a:Act} {dst:Option Tmp} {t:Tmp} {u:Value} (h:dst ≠ some t):(a.put dst u).tmps[t]? = a.tmps[t]?:=by
  cases dst with
  | none => rfl
  | some d => exact Array.getElem?_setIfInBounds_ne (fun e => h (by rw [e]))
def upd {α:Type} (f:Nat→α) (i:Nat) (v:α):Nat→α:=fun j => if j = i then v else f j
theorem Z39 {α:Type} (f:Nat→α) (i:Nat) (v:α):upd f i v i = v:=by simp [upd]
theorem Z2d {α:Type} {f:Nat→α} {i j:Nat} {v:α} (h:j ≠ i):upd f i v j = f j:=by simp [upd,h]
theorem Zkg {α:Type} {f:Nat→α} {i:Nat} {v:α} {l:List Nat} (h:i ∉ l):(i :: l).map (upd f i v) = v :: l.map f:=by
  rw [List.map_cons,Z39]
  congr 1
  exact List.map_congr_left fun j hj => Z2d fun e => h (e ▸ hj)
open Classical in
noncomputable def hold (p:Prop):Bool:=decide p
theorem Z1n {p:Prop}:hold p = true ↔ p:=by simp [hold]
theorem Zp9 {P:Program} {t:TypeId} {x:Option AVal} {s s':St} {K K':VK} (h:Z6s P t x s K = true) (hb:∀ b off,x = some (.ptr b off)→PT.get b s'.heap = PT.get b s.heap) (hK:∀ v,K v s = true→K' v s' = true) :
    Z6s P t x s' K' = true:=by
  obtain ⟨n,hn,h1⟩:=Z01.1 h
  obtain ⟨a,ha,h2⟩:=Z01.1 h1
  obtain ⟨b,off,rfl,h3⟩:=AVal.Z24.1 h2
  obtain ⟨cs,ro,hc,h4⟩:=Z1e.1 h3
  obtain ⟨v,hv,hd⟩:=Zfv h4
  exact Z01.2 ⟨n,hn,Z01.2 ⟨_,ha,AVal.Z24.2 ⟨b,off,rfl,Z1e.2 ⟨cs,ro,(hb b off ha).trans hc,hd (fun v => K' v s') (hK v hv)⟩⟩⟩⟩
theorem Zk6 {P:Program} {rec:RecT} {o:Op} {ρ:Operand→Option AVal} {T:St} {K:VK} (hc:Z0t P o ≤ 1) (h:opK P rec o ρ T K = true) :
    ∃ v,K v T = true∧∀ T',Grown T T'→∀ K':VK,K' v T' = true→opK P rec o ρ T' K' = true:=by
  rcases Nat.lt_or_ge (Z0t P o) 1 with h0 | h1
  · have h0:Z0t P o = 0:=by omega
    rw [Z9q h0 T T] at h
    obtain ⟨v,h1,h2⟩:=Zz9 (P:=P) (rec:=rec) (s:=T) (ρ:=ρ) h0 (fun v => K v T) h
    refine ⟨v,h1,fun T' _ K' hk => ?_⟩
    rw [Z9q h0 T' T]
    exact h2 (fun v => K' v T') hk
  · obtain ⟨t,a,rfl⟩:=Zfn (P:=P) (o:=o) (by omega)
    obtain ⟨v,h1,h2⟩:=Zrq (show Z6s P t (ρ a) T K = true from h)
    exact ⟨v,h1,fun T' hg K' hk => h2 T' hg K' hk⟩
section
variable (P:Program) (rec:RecT) (ops:Array Oper) (masks:List Nat) (tree:PT AVal)
def Z30 (vals:Nat→AVal) (i:Nat) (T:St):Prop :=
  Z26 ops (opAt ops i) (rho ops masks tree vals i) (opK P rec (opAt ops i).op (rho ops masks tree vals i) T fun v s => hold (v = vals i∧s = T)) (hold (vals i = .tup [])) = true
def Z9c (vals:Nat→AVal) (nm:Nat→Option Pos) (i:Nat) (T:St):Prop :=
  Z26 ops (opAt ops i) (rho ops masks tree vals i) (hold (∃ x v q,nm i = some q∧vals i = v q∧PT.get q T.heap = some x ∧
    ∀ ι ρc,(∀ y,ORl ι (rho ops masks tree vals i y) (ρc y))→Lays P ι x v (fun w => (execOp ρc (opAt ops i)).run P w))) (hold (vals i = .tup [])) = true
def Prom (vals:Nat→AVal) (nm:Nat→Option Pos) (i:Nat) (T:St):Prop :=
  (cls P ops i ≤ 1∧Z30 P rec ops masks tree vals i T) ∨ (cls P ops i = 2∧Z9c P ops masks tree vals nm i T)
end
section
variable {P:Program} {rec:RecT} {ops:Array Oper} {masks:List Nat} {tree:PT AVal}
theorem Z30.to {vals:Nat→AVal} {i:Nat} {T T':St} (hc:cls P ops i ≤ 1) (hg:Grown T T') (h:Z30 P rec ops masks tree vals i T):Z30 P rec ops masks tree vals i T':=by
  unfold Z30 at h ⊢
  rcases Z7q h with ⟨h1,h2⟩ | ⟨h1,h2⟩
  · rw [h2]
    obtain ⟨v,h3,h4⟩:=Zk6 hc h1
    exact h4 T' hg _ (Z1n.2 ⟨(Z1n.1 h3).1,rfl⟩)
  · rw [h2]; exact h1
theorem Prom.grow {vals:Nat→AVal} {nm:Nat→Option Pos} {i:Nat} {T T':St} (hg:Grown T T') (h:Prom P rec ops masks tree vals nm i T):Prom P rec ops masks tree vals nm i T':=by
  rcases h with ⟨hc,h⟩ | ⟨hc,h⟩
  · exact .inl ⟨hc,h.to hc hg⟩
  · refine .inr ⟨hc,?_⟩
    unfold Z9c at h ⊢
    rcases Z7q h with ⟨h1,h2⟩ | ⟨h1,h2⟩
    · rw [h2]
      obtain ⟨x,v,q,e1,e2,e3,e4⟩:=Z1n.1 h1
      exact Z1n.2 ⟨x,v,q,e1,e2,hg _ _ e3,e4⟩
    · rw [h2]; exact h1
theorem Prom.congr {vals vals':Nat→AVal} {nm nm':Nat→Option Pos} {i:Nat} {T:St} (hv:∀ j,Anc masks i j→vals j = vals' j) (hi:vals i = vals' i) (hn:nm i = nm' i) (h:Prom P rec ops masks tree vals nm i T):Prom P rec ops masks tree vals' nm' i T:=by
  have hr:rho ops masks tree vals i = rho ops masks tree vals' i:=Zcg hv
  unfold Prom Z30 Z9c at h ⊢
  rw [← hr,← hi,← hn]
  exact h
end
section
variable (P:Program) (rec:RecT) (ops:Array Oper) (masks:List Nat) (tree:PT AVal) (fi:FI) (k:PT AVal→St→Bool) (a0:Act) (ι0:Ren) (w0:World)
structure Ahead (vals:Nat→AVal) (j blk:Nat) (ι:Ren) (a:Act) (w:World):Prop where
  was:∃ (ρc:Operand→Value) (wj:World) (obj:Obj) (u:Value),(∀ x,ORl ι (rho ops masks tree vals j x) (ρc x))∧(execOp ρc (opAt ops j)).run P wj = .ok (.value u) { wj with heap:=wj.heap.push obj }∧wj.heap.size = blk ∧
    w.heap[blk]? = some obj∧∀ d,Z0k ops j = some d→a.tmps[d]? = some u
  from0:w0.heap.size ≤ blk
  free:∀ b p,ι b = some p→p.blk ≠ blk
structure Inv (B:Nat→Nat) (R:Nat→Prop) (pre:List Nat) (vals:Nat→AVal) (nm:Nat→Option Pos) (T:St) (L:Nat→Prop) (ι:Ren) (a:Act) (w:World) (pl:List PItem) (done:Nat):Prop where
  wr:WRel P ι T w
  ext:Ext ι0 w0 ι w
  defs:a.defers = a0.defers
  size:a.tmps.size = a0.tmps.size
  sub:∀ i,L i→i ∈ pre
  lt:∀ i ∈ pre,i < ops.size
  anc:∀ i ∈ pre,∀ j,Anc masks i j→j ∈ pre
  lanc:∀ i,L i→∀ j,Anc masks i j→L j
  t1:∀ j,L j→∀ d,Z0k ops j = some d→∃ u,a.tmps[d]? = some u∧VRel ι (vals j) u
  t2:∀ t,(∀ j,L j ∨ R j→Z0k ops j ≠ some t)→a.tmps[t]? = a0.tmps[t]?
  effs:∀ i ∈ pre,2 < cls P ops i→L i
  prom:∀ i ∈ pre,¬ L i→Prom P rec ops masks tree vals nm i T
  names:∀ i ∈ pre,¬ L i→∀ q,nm i = some q→ι q = none∧q.toNat < T.next.toNat
  apart:∀ i ∈ pre,∀ j ∈ pre,¬ L i→¬ L j→i ≠ j→∀ q,nm i = some q→nm j ≠ some q
  nmk:∀ i q,nm i = some q→cls P ops i = 2
  bits:∀ j,done.testBit j = true ↔ j ∈ pre
  plan:Z47 P ops masks pl done = true
  cont:Z1r P rec fi ops (Z1w ops pl) (pre.map (Z0k ops)) (pre.map vals) tree T k = true
  rlt:∀ j,R j→j < ops.size∧j ∉ pre∧cls P ops j = 2∧(opAt ops j).guard = none∧∀ x,Anc masks j x→L x
  rah:∀ j,R j→Ahead P ops masks tree w0 vals j (B j) ι a w
  rap:∀ j x,R j→R x→B j = B x→j = x
end
section
variable {P:Program} {rec:RecT} {ops:Array Oper} {masks:List Nat} {tree:PT AVal} {fi:FI} {k:PT AVal→St→Bool} {a0:Act} {ι0:Ren} {w0:World} {B:Nat→Nat} {R:Nat→Prop}
  {pre:List Nat} {vals:Nat→AVal} {nm:Nat→Option Pos} {T:St} {L:Nat→Prop} {ι:Ren} {a:Act} {w:World} {pl:List PItem} {done:Nat}
theorem Zad (hb:∀ j,done.testBit j = true ↔ j ∈ pre) (i j:Nat):(done ||| (1 <<< i)).testBit j = true ↔ j ∈ i :: pre:=by
  rw [Nat.testBit_or,Bool.or_eq_true,Nat.one_shiftLeft,Nat.testBit_two_pow,decide_eq_true_eq,hb j,List.mem_cons]
  constructor
  · rintro (h | h)
    · exact .inr h
    · exact .inl h.symm
  · rintro (h | h)
    · exact .inr h.symm
    · exact .inl h
theorem Z5t {i:Nat} (hb:∀ j,done.testBit j = true ↔ j ∈ pre) (hlt:∀ i ∈ pre,i < ops.size) (h:Zde ops masks i done = true) :
    i < ops.size∧i ∉ pre∧(∀ j,Anc masks i j→j ∈ pre)∧∀ j ∈ pre,Anc masks i j ∨ ∀ d,Z0k ops j = some d→d ∉ Z5a ops i:=by
  unfold Zde at h
  simp only [Bool.and_eq_true,decide_eq_true_eq,Bool.not_eq_true',beq_iff_eq] at h
  obtain ⟨⟨⟨h1,h2⟩,h3⟩,h4⟩:=h
  refine ⟨h1,fun hm => ?_,fun j hj => ?_,fun j hj => ?_⟩
  · have:=(hb i).2 hm
    rw [h2] at this; cases this
  · have:=congrArg (fun m => m.testBit j) h3
    simp only [Nat.testBit_and] at this
    rw [show (maskAt masks i).testBit j = true from hj] at this
    exact (hb j).1 (by simpa using this)
  · have:=List.all_eq_true.1 h4 j (by simpa using hlt j hj)
    rw [(hb j).2 hj] at this
    simp only [Bool.not_true,Bool.false_or,Bool.or_eq_true] at this
    rcases this with h5 | h5
    · exact .inl h5
    · refine .inr fun d e => ?_
      rw [show (opAt ops j).dst = some d from e] at h5
      simpa using h5
theorem Ahead.bound {j blk:Nat} (h:Ahead P ops masks tree w0 vals j blk ι a w):blk < w.heap.size:=by
  obtain ⟨_,_,_,_,_,_,_,h1,_⟩:=h.was
  exact (Array.getElem?_eq_some_iff.1 h1).1
theorem Ahead.ext {j blk:Nat} {ι':Ren} {a':Act} {w':World} {vals':Nat→AVal} (h:Ahead P ops masks tree w0 vals j blk ι a w) (he:Ext ι w ι' w') (ha:∀ d,Z0k ops j = some d→a'.tmps[d]? = a.tmps[d]?)
    (hv:∀ x,Anc masks j x→vals x = vals' x):Ahead P ops masks tree w0 vals' j blk ι' a' w':=by
  have hb:=h.bound
  obtain ⟨ρc,wj,obj,u,h1,h2,h3,h4,h5⟩:=h.was
  refine ⟨⟨ρc,wj,obj,u,fun x => ?_,h2,h3,?_,fun d hd => (ha d hd).trans (h5 d hd)⟩,h.from0,fun b p e => ?_⟩
  · rw [← Zcg hv]
    exact fun v e => (h1 x v e).mono he.le
  · rw [he.keep blk hb fun b p e _ => h.free b p e]
    exact h4
  · rcases he.new b p e with e | e | ⟨_,b0,p0,e,_,e'⟩
    · exact h.free b p e
    · omega
    · rw [← e']
      exact h.free b0 p0 e
theorem Inv.push {i:Nat} {T':St} {v:AVal} {nq:Option Pos} {r:List PItem} (h:Inv P rec ops masks tree fi k a0 ι0 w0 B R pre vals nm T L ι a w pl done) (hi:i < ops.size) (hn:i ∉ pre) (ha:∀ j,Anc masks i j→j ∈ pre) (hc:cls P ops i ≤ 2)
    (hg:Grown T T') (hnx:T.next.toNat ≤ T'.next.toNat) (hp:Prom P rec ops masks tree (upd vals i v) (upd nm i nq) i T')
    (hq:∀ q,nq = some q→cls P ops i = 2∧ι q = none∧q.toNat < T'.next.toNat∧∀ j ∈ pre,¬ L j→nm j ≠ some q)
    (hpl:Z47 P ops masks r (done ||| (1 <<< i)) = true) (hk:Z1r P rec fi ops (Z1w ops r) (Z0k ops i :: pre.map (Z0k ops)) (v :: pre.map vals) tree T' k = true) (hRi:¬ R i) :
    Inv P rec ops masks tree fi k a0 ι0 w0 B R (i :: pre) (upd vals i v) (upd nm i nq) T' L ι a w r (done ||| (1 <<< i)):=by
  have hLi:¬ L i:=fun e => hn (h.sub i e)
  have hne:∀ j ∈ pre,j ≠ i:=fun j hj e => hn (e ▸ hj)
  refine ⟨h.wr.grow hg hnx,h.ext,h.defs,h.size,fun j hj => List.mem_cons_of_mem _ (h.sub j hj),?_,?_,h.lanc,?_,h.t2,?_,?_,?_,?_,?_,Zad h.bits i,hpl,?_,?_,?_,h.rap⟩
  · intro j hj
    rcases List.mem_cons.1 hj with rfl | hj
    · exact hi
    · exact h.lt j hj
  · intro j hj m hm
    rcases List.mem_cons.1 hj with rfl | hj
    · exact List.mem_cons_of_mem _ (ha m hm)
    · exact List.mem_cons_of_mem _ (h.anc j hj m hm)
  · intro j hj d hd
    rw [Z2d (hne j (h.sub j hj))]
    exact h.t1 j hj d hd
  · intro j hj hcj
    rcases List.mem_cons.1 hj with rfl | hj
    · omega
    · exact h.effs j hj hcj
  · intro j hj hLj
    rcases List.mem_cons.1 hj with rfl | hj
    · exact hp
    · refine Prom.congr (fun m hm => ?_) ?_ ?_ ((h.prom j hj hLj).grow hg)
      · rw [Z2d (hne m (h.anc j hj m hm))]
      · rw [Z2d (hne j hj)]
      · rw [Z2d (hne j hj)]
  · intro j hj hLj q e
    rcases List.mem_cons.1 hj with rfl | hj
    · rw [Z39] at e
      exact ⟨(hq q e).2.1,(hq q e).2.2.1⟩
    · rw [Z2d (hne j hj)] at e
      obtain ⟨h1,h2⟩:=h.names j hj hLj q e
      exact ⟨h1,by omega⟩
  · intro j hj m hm hLj hLm hjm q e
    rcases List.mem_cons.1 hj with rfl | hj
    · rw [Z39] at e
      rcases List.mem_cons.1 hm with rfl | hm
      · exact absurd rfl hjm
      · rw [Z2d (hne m hm)]
        exact (hq q e).2.2.2 m hm hLm
    · have hj':=hj
      rw [Z2d (hne j hj)] at e
      rcases List.mem_cons.1 hm with rfl | hm
      · rw [Z39]
        intro e'
        exact (hq q e').2.2.2 j hj' hLj e
      · rw [Z2d (hne m hm)]
        exact h.apart j hj m hm hLj hLm hjm q e
  · intro j q e
    by_cases hj:j = i
    · subst hj
      rw [Z39] at e
      exact (hq q e).1
    · rw [Z2d hj] at e
      exact h.nmk j q e
  · rw [List.map_cons,Zkg hn]
    exact hk
  · intro j hj
    obtain ⟨h1,h2,h3⟩:=h.rlt j hj
    refine ⟨h1,fun hm => ?_,h3⟩
    rcases List.mem_cons.1 hm with rfl | hm
    · exact hRi hj
    · exact h2 hm
  · intro j hj
    exact (h.rah j hj).ext (Ext.refl ι w) (fun _ _ => rfl) fun x hx => (Z2d (hne x (h.sub x ((h.rlt j hj).2.2.2.2 x hx)))).symm
theorem Inv.Zql {i:Nat} {x:AObj} {v:Pos→AVal} {r:List PItem} (h:Inv P rec ops masks tree fi k a0 ι0 w0 B R pre vals nm T L ι a w pl done) (hi:R i) (hfr:PT.get T.next T.heap = none)
    (hl:∀ ι ρc,(∀ y,ORl ι (rho ops masks tree vals i y) (ρc y))→Lays P ι x v (fun w => (execOp ρc (opAt ops i)).run P w))
    (hpl:Z47 P ops masks r (done ||| (1 <<< i)) = true) (hk:Z1r P rec fi ops (Z1w ops r) (Z0k ops i :: pre.map (Z0k ops)) (v T.next :: pre.map vals) tree { heap:=PT.set T.next x T.heap,next:=T.next.succ } k = true) :
    ∃ ι',Inv P rec ops masks tree fi k a0 ι0 w0 B (fun j => R j∧j ≠ i) (i :: pre) (upd vals i (v T.next)) nm { heap:=PT.set T.next x T.heap,next:=T.next.succ } (fun j => L j ∨ j = i) ι' a w r (done ||| (1 <<< i)):=by
  obtain ⟨hlt,hn,hc,_,hanc⟩:=h.rlt i hi
  have hah:=h.rah i hi
  have hbd:=hah.bound
  obtain ⟨ρc,wj,obj,u,h1,h2,h3,h4,h5⟩:=hah.was
  obtain ⟨obj',u',sz,g1,g2⟩:=hl ι ρc h1 wj
  have g1:(execOp ρc (opAt ops i)).run P wj = .ok (.value u') { wj with heap:=wj.heap.push obj' }:=g1
  rw [h2] at g1
  injection g1 with g3 g4
  injection g3 with g3
  have hobj:obj = obj':=by
    have:=congrArg (fun w:World => w.heap[wj.heap.size]?) g4
    simpa using this
  subst g3 hobj
  have hq:=h.wr.Z6c
  have hsucc:T.next.succ.toNat = T.next.toNat + 1:=Pos.Z9a _
  have hg:Grown T { heap:=PT.set T.next x T.heap,next:=T.next.succ }:=Grown.set hfr
  obtain ⟨hv,hx⟩:=g2 (Ren.set ι T.next ⟨wj.heap.size,0,sz,false⟩) T.next (Ren.Z63 hq) (Ren.Z3m _ _ _)
  rw [h3] at hv hx
  have hx:ORel P (Ren.set ι T.next ⟨B i,0,sz,false⟩) w ⟨B i,0,sz,false⟩ x:=hx.mono (Ren.le_refl _) fun _ => by
    show w.heap[B i]? = (wj.heap.push obj)[B i]?
    rw [h4,← h3]
    simp
  have hne:∀ j ∈ pre,j ≠ i:=fun j hj e => hn (e ▸ hj)
  have hle:Ren.le ι (Ren.set ι T.next ⟨B i,0,sz,false⟩):=Ren.Z63 hq
  refine ⟨Ren.set ι T.next ⟨B i,0,sz,false⟩,?_⟩
  refine ⟨(h.wr.grow hg (by simp only [hsucc]; omega)).Zhj (PT.Z1h _ _ _) hq (by simp only [hsucc]; omega) hah.free hbd hx,h.ext.Zhj hq hah.from0,h.defs,h.size,?_,?_,?_,?_,?_,?_,?_,?_,?_,?_,h.nmk,Zad h.bits i,hpl,?_,?_,?_,fun j x hj hx => h.rap j x hj.1 hx.1⟩
  · rintro j (hj | rfl)
    · exact List.mem_cons_of_mem _ (h.sub j hj)
    · simp
  · intro j hj
    rcases List.mem_cons.1 hj with rfl | hj
    · exact hlt
    · exact h.lt j hj
  · intro j hj m hm
    rcases List.mem_cons.1 hj with rfl | hj
    · exact List.mem_cons_of_mem _ (h.sub m (hanc m hm))
    · exact List.mem_cons_of_mem _ (h.anc j hj m hm)
  · rintro j (hj | rfl) m hm
    · exact .inl (h.lanc j hj m hm)
    · exact .inl (hanc m hm)
  · rintro j (hj | rfl) d hd
    · rw [Z2d (hne j (h.sub j hj))]
      obtain ⟨u',e1,e2⟩:=h.t1 j hj d hd
      exact ⟨u',e1,e2.mono hle⟩
    · rw [Z39]
      exact ⟨u,h5 d hd,hv⟩
  · intro t hno
    refine h.t2 t fun j hj => ?_
    by_cases e:j = i
    · exact hno j (.inl (.inr e))
    · rcases hj with hj | hj
      · exact hno j (.inl (.inl hj))
      · exact hno j (.inr ⟨hj,e⟩)
  · intro j hj hcj
    rcases List.mem_cons.1 hj with rfl | hj
    · exact .inr rfl
    · exact .inl (h.effs j hj hcj)
  · intro j hj hLj
    rcases List.mem_cons.1 hj with rfl | hj
    · exact (hLj (.inr rfl)).elim
    · refine Prom.congr (fun m hm => ?_) ?_ rfl ((h.prom j hj fun e => hLj (.inl e)).grow hg)
      · rw [Z2d (hne m (h.anc j hj m hm))]
      · rw [Z2d (hne j hj)]
  · intro j hj hLj q' e
    rcases List.mem_cons.1 hj with rfl | hj
    · exact (hLj (.inr rfl)).elim
    · obtain ⟨e1,e2⟩:=h.names j hj (fun e => hLj (.inl e)) q' e
      refine ⟨?_,by simp only [hsucc]; omega⟩
      rw [Ren.Zjr (fun e' => by rw [e'] at e2; omega)]
      exact e1
  · intro j hj m hm hLj hLm hjm q' e
    rcases List.mem_cons.1 hj with rfl | hj
    · exact (hLj (.inr rfl)).elim
    · rcases List.mem_cons.1 hm with rfl | hm
      · exact (hLm (.inr rfl)).elim
      · exact h.apart j hj m hm (fun e => hLj (.inl e)) (fun e => hLm (.inl e)) hjm q' e
  · rw [List.map_cons,Zkg hn]
    exact hk
  · rintro j ⟨hj,hji⟩
    obtain ⟨e1,e2,e3,e4,e5⟩:=h.rlt j hj
    refine ⟨e1,fun hm => ?_,e3,e4,fun x hx => .inl (e5 x hx)⟩
    rcases List.mem_cons.1 hm with e | hm
    · exact hji e
    · exact e2 hm
  · rintro j ⟨hj,hji⟩
    have hj2:=(h.rah j hj).ext (vals':=upd vals i (v T.next)) (Ext.refl ι w) (fun _ _ => rfl) fun x hx => (Z2d (hne x (h.sub x ((h.rlt j hj).2.2.2.2 x hx)))).symm
    obtain ⟨ρ2,wj2,obj2,u2,k1,k2,k3,k4,k5⟩:=hj2.was
    refine ⟨⟨ρ2,wj2,obj2,u2,fun y z e => (k1 y z e).mono hle,k2,k3,k4,k5⟩,hj2.from0,fun b p e => ?_⟩
    rcases Ren.Z1d e with ⟨rfl,rfl⟩ | ⟨_,e⟩
    · exact fun e' => hji (h.rap i j hi hj e').symm
    · exact hj2.free b p e
theorem Inv.settle (ht : TmpsOk ops masks) : ∀ (pl : List PItem) (R : Nat → Prop) (L : Nat → Prop) (ι : Ren) (pre : List Nat) (vals : Nat → AVal) (nm : Nat → Option Pos) (T : St) (done : Nat), Inv P rec ops masks tree fi k a0 ι0 w0 B R pre vals nm T L ι a w pl done →
    ∃ R' L' ι' pre' vals' nm' T' pl' done', Inv P rec ops masks tree fi k a0 ι0 w0 B R' pre' vals' nm' T' L' ι' a w pl' done' ∧ (pl' = [] ∨ ∃ i cs ps r, pl' = .eff i cs ps :: r) ∧ ∀ j, L' j ∨ R' j ↔ L j ∨ R j
  | [], R, L, ι, pre, vals, nm, T, done, h => ⟨R, L, ι, pre, vals, nm, T, [], done, h, .inl rfl, fun _ => Iff.rfl⟩
  | .eff i cs ps :: r, R, L, ι, pre, vals, nm, T, done, h => ⟨R, L, ι, pre, vals, nm, T, _, done, h, .inr ⟨i, cs, ps, r, rfl⟩, fun _ => Iff.rfl⟩
  | .calm i :: r, R, L, ι, pre, vals, nm, T, done, h => by
    have hpl := h.plan
    simp only [Z47, Bool.and_eq_true, decide_eq_true_eq] at hpl
    obtain ⟨⟨hst, hc⟩, hr⟩ := hpl
    obtain ⟨hi, hn, ha, hrd⟩ := Z5t h.bits h.lt hst
    have hlook := fun x hx => Zai (tree := tree) ht (vals := vals) h.lt ha hrd x hx
    have hk : Z26 ops (opAt ops i) (fun x => getO tree (pre.map vals) (Z07 (pre.map (Z0k ops)) x))
        (opK P rec (opAt ops i).op (fun x => getO tree (pre.map vals) (Z07 (pre.map (Z0k ops)) x)) T fun v s => Z1r P rec fi ops (Z1w ops r) (Z0k ops i :: pre.map (Z0k ops)) (v :: pre.map vals) tree s k)
        (Z1r P rec fi ops (Z1w ops r) (Z0k ops i :: pre.map (Z0k ops)) (.tup [] :: pre.map vals) tree T k) = true := h.cont
    rw [Z91 (fun t ht => hlook (.tmp t) (fun t' e => by cases e; exact ht)), Zao (ρ' := rho ops masks tree vals i) (fun x hx => hlook x (fun t e => Z95 (e ▸ hx)))] at hk
    have hri : ∀ v, rho ops masks tree (upd vals i v) i = rho ops masks tree vals i := fun v => Zcg fun j hj => Z2d fun e => hn (e ▸ ha j hj)
    have hRi : ¬ R i := fun e => by
      have : cls P ops i = 2 := (h.rlt i e).2.2.1
      have hc : cls P ops i ≤ 1 := hc
      omega
    have hqn : ∀ q, (none : Option Pos) = some q → cls P ops i = 2 ∧ ι q = none ∧ q.toNat < T.next.toNat ∧ ∀ j ∈ pre, ¬ L j → nm j ≠ some q := fun q e => by cases e
    rcases Z7q hk with ⟨h1, h2⟩ | ⟨h1, h2⟩
    · obtain ⟨v, h3, h4⟩ := Zk6 hc h1
      refine Inv.settle ht r _ _ _ _ _ _ _ _ (h.push (v := v) (nq := none) hi hn ha (Nat.le_trans hc (by decide)) (Grown.refl T) (Nat.le_refl _) (.inl ⟨hc, ?_⟩) hqn hr h3 hRi)
      unfold Z30
      rw [hri, h2, Z39]
      exact h4 T (Grown.refl T) _ (Z1n.2 ⟨rfl, rfl⟩)
    · refine Inv.settle ht r _ _ _ _ _ _ _ _ (h.push (v := .tup []) (nq := none) hi hn ha (Nat.le_trans hc (by decide)) (Grown.refl T) (Nat.le_refl _) (.inl ⟨hc, ?_⟩) hqn hr h1 hRi)
      unfold Z30
      rw [hri, h2, Z39]
      exact Z1n.2 rfl
  | .make i :: r, R, L, ι, pre, vals, nm, T, done, h => by
    have hpl := h.plan
    simp only [Z47, Bool.and_eq_true, beq_iff_eq] at hpl
    obtain ⟨⟨hst, hc⟩, hr⟩ := hpl
    obtain ⟨hi, hn, ha, hrd⟩ := Z5t h.bits h.lt hst
    have hlook := fun x hx => Zai (tree := tree) ht (vals := vals) h.lt ha hrd x hx
    have hk0 : @Option.rec AObj (fun _ => Bool) (Z26 ops (opAt ops i) (fun x => getO tree (pre.map vals) (Z07 (pre.map (Z0k ops)) x))
        (opK P rec (opAt ops i).op (fun x => getO tree (pre.map vals) (Z07 (pre.map (Z0k ops)) x)) T fun v s => Z1r P rec fi ops (Z1w ops r) (Z0k ops i :: pre.map (Z0k ops)) (v :: pre.map vals) tree s k)
        (Z1r P rec fi ops (Z1w ops r) (Z0k ops i :: pre.map (Z0k ops)) (.tup [] :: pre.map vals) tree T k)) (fun _ => fail 56) (PT.get T.next T.heap) = true := h.cont
    cases hfr : PT.get T.next T.heap with
    | some y => rw [hfr] at hk0; cases hk0
    | none =>
      rw [hfr] at hk0
      have hk := hk0
      simp only at hk
      rw [Z91 (fun t ht => hlook (.tmp t) (fun t' e => by cases e; exact ht)), Zao (ρ' := rho ops masks tree vals i) (fun x hx => hlook x (fun t e => Z95 (e ▸ hx)))] at hk
      have hri : ∀ v, rho ops masks tree (upd vals i v) i = rho ops masks tree vals i := fun v => Zcg fun j hj => Z2d fun e => hn (e ▸ ha j hj)
      by_cases hRi : R i
      · have hno := (h.rlt i hRi).2.2.2.1
        have h1 : opK P rec (opAt ops i).op (rho ops masks tree vals i) T (fun v s => Z1r P rec fi ops (Z1w ops r) (Z0k ops i :: pre.map (Z0k ops)) (v :: pre.map vals) tree s k) = true := by
          unfold Z26 at hk
          rw [hno] at hk
          exact hk
        obtain ⟨x, v, _, h3, h4⟩ := Zdj hc h1
        obtain ⟨ι2, hinv⟩ := h.Zql hRi hfr h4 hr h3
        obtain ⟨R', L', ι', pre', vals', nm', T', pl', done', g1, g2, g3⟩ := Inv.settle ht r _ _ _ _ _ _ _ _ hinv
        refine ⟨R', L', ι', pre', vals', nm', T', pl', done', g1, g2, fun j => (g3 j).trans ?_⟩
        by_cases e : j = i
        · subst e
          simp [hRi]
        · simp [e]
      rcases Z7q hk with ⟨h1, h2⟩ | ⟨h1, h2⟩
      · obtain ⟨x, v, _, h3, h4⟩ := Zdj hc h1
        have hsucc : T.next.succ.toNat = T.next.toNat + 1 := Pos.Z9a _
        refine Inv.settle ht r _ _ _ _ _ _ _ _ (h.push (T' := { heap := PT.set T.next x T.heap, next := T.next.succ }) (v := v T.next) (nq := some T.next) hi hn ha (Nat.le_of_eq hc) (Grown.set hfr) (by simp only [hsucc]; omega) (.inr ⟨hc, ?_⟩) (fun q e => ?_) hr h3 hRi)
        · unfold Z9c
          rw [hri, h2, Z39, Z39]
          exact Z1n.2 ⟨x, v, T.next, rfl, rfl, PT.Z1h _ _ _, h4⟩
        · cases e
          refine ⟨hc, h.wr.Z6c, by simp only [hsucc]; omega, fun j hj hLj e => ?_⟩
          have := (h.names j hj hLj _ e).2
          omega
      · refine Inv.settle ht r _ _ _ _ _ _ _ _ (h.push (v := .tup []) (nq := none) hi hn ha (Nat.le_of_eq hc) (Grown.refl T) (Nat.le_refl _) (.inr ⟨hc, ?_⟩) (fun q e => by cases e) hr h1 hRi)
        unfold Z9c
        rw [hri, h2, Z39]
        exact Z1n.2 rfl
end
end Go.AM
end
