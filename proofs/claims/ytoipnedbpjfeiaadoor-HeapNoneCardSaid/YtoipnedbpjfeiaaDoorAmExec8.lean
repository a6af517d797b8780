/- The abstract machine's loops over functions, and every operation: they hold. -/
import Derived.Test.YtoipnedbpjfeiaaDoorAmExec7
set_option linter.all false
set_option linter.unusedSectionVars false
set_option linter.unusedSimpArgs false
set_option linter.unusedVariables false
namespace Go.AM
variable [Orc] [OrcOk]
theorem AVal.fnK_inv {v : AVal} {K : Nat → List AVal → List AVal → Bool} (h : v.fnK K = true) : ∃ f a c, v = .fn f a c ∧ K f a c = true := AVal.fnK_true.1 h
/-- A block that no name leads to is laid. -/
theorem WRel.other {P : Program} {ι : Ren} {s : St} {w : World} (h : WRel P ι s w) (o : Obj) : WRel P ι s (w.alloc o) ∧ Ext ι w ι (w.alloc o) := by
  have hold : ∀ i, i < w.heap.size → (w.alloc o).heap[i]? = w.heap[i]? := fun i hi => push_old hi
  have hsz : (w.alloc o).heap.size = w.heap.size + 1 := by simp
  refine ⟨⟨fun b p e => ?_, h.apart, h.fresh, fun b p e => by have := h.bound b p e; omega⟩, ⟨Ren.le_refl ι, by omega, fun _ _ e => .inl e, fun i hi _ => hold i hi, rfl, rfl⟩⟩
  obtain ⟨x, hx, hr⟩ := h.objs b p e
  exact ⟨x, hx, ORel.mono (w := w) (Ren.le_refl ι) (fun _ => hold _ (h.bound b p e)) hr⟩
theorem resolve_fn {P : Program} {w : World} {ρ : Operand → Value} {c : Call} {ty : TypeId} {g : Operand} {f : FuncId} {x y : Array Value} (hc : c.callee = .value g) (hg : ρ g = .func (.func f) x y) :
    (resolve ρ c ty).run P w = .ok { target := .fn (.func f) y, args := x ++ c.args.map ρ } w := by
  unfold resolve
  simp [hc, hg, Deferred.ofValue]
theorem DefInv.more {P : Program} {ι : Ren} {s : St} {n0 : Nat} {w w' : World} {ds : List Deferred} {ι' : Ren} (h : DefInv n0 ι w ds) (he : Ext ι w ι' w') (hn : n0 ≤ w.heap.size) (hw : w'.heap[w.heap.size]? = some (.deferred (some [])))
    (hι : ∀ b p, ι' b = some p → p.ro = false → p.blk ≠ w.heap.size) : DefInv n0 ι' w' ({ target := .collected w.heap.size, args := #[] } :: ds) := by
  obtain ⟨rs, h1, h2, h3⟩ := h
  have hrs : ∀ r ∈ rs, r < w.heap.size := fun r hr => lt_of_get (h3 r hr).1
  have h4 : ∀ r ∈ rs, w'.heap[r]? = some (.deferred (some [])) ∧ n0 ≤ r ∧ ∀ b p, ι' b = some p → p.ro = false → p.blk ≠ r := by
    intro r hr
    obtain ⟨h4, h6, h5⟩ := h3 r hr
    refine ⟨by rw [he.keep r (hrs r hr) h5]; exact h4, h6, fun b p e hro hb => ?_⟩
    rcases he.new b p e with e' | e' | ⟨_, b0, p0, e0, hr0, hb0⟩
    · exact h5 b p e' hro hb
    · have := hrs r hr; omega
    · exact h5 b0 p0 e0 hr0 (hb0.trans hb)
  refine ⟨w.heap.size :: rs, by rw [h1]; rfl, List.nodup_cons.2 ⟨fun hm => Nat.lt_irrefl _ (hrs _ hm), h2⟩, fun r hr => ?_⟩
  rcases List.mem_cons.1 hr with rfl | hr
  · exact ⟨hw, hn, hι⟩
  · exact h4 r hr
theorem rangeK_sound {P : Program} {rec : RecT} (hs : Sound P rec) {n0 : Nat} {fi : FI} {g : Operand} {params : Array Tmp} {c d : Code} {tree : PT AVal} {s : St} {K : CodeK} {F : Fence} {m : Nat} {ι : Ren} {a : Act} {w : World}
    (h : rangeK P rec fi (resolveO [] g) params.toList (compile P fi.ps fi.ntmps c) (compile P fi.ps fi.ntmps d) tree s K = true) (hfo : FOk P fi) (hF : ∀ f, F.fn f) (hd : F.depth = none) (hr : RRel ι fi.round F.round) (hh : Here P n0 fi ι tree s a w) :
    (Code.rangeFunc g params c d).wpIn F m P (Post P n0 fi ι w K) a w := by
  obtain ⟨fv, hfv, h1⟩ := optK_true.1 h
  have hrel := getO_ok (LocRel.start hh.tr) g fv hfv
  have h2 : (∀ l0, fi.round = some l0 → ∃ r, PT.get l0 s.heap = some (.loop r)) ∧ (allocK (.loop { state := .ready, pending := none, fn := fi.fn, tm := tree, params := params.toList, assign := compile P fi.ps fi.ntmps c, body := compile P fi.ps fi.ntmps d }) s fun l s =>
      fv.fnK fun f a c => appK [.yld l] c fun r => appK a r fun args => callF P rec f args s fun _ s => loopK l s fun L => ifK (isBusy L.state) (fail 52)
        (putK l (.loop { L with state := .exhausted }) s fun s => pendK L.pending tree s K)) = true := by
    cases hro : fi.round with
    | none => rw [hro] at h1; exact ⟨fun l0 e => (by cases e), h1⟩
    | some l0 =>
      rw [hro] at h1
      obtain ⟨r, hl, h2⟩ := loopK_true.1 (show loopK l0 s _ = true from h1)
      exact ⟨fun l1 e => by cases e; exact ⟨r, hl⟩, h2⟩
  obtain ⟨hround, h3⟩ := h2
  rw [allocK_eq] at h3
  obtain ⟨f, x, y, rfl, h4⟩ := AVal.fnK_inv h3
  rw [appK_eq, appK_eq] at h4
  obtain ⟨info, hinfo, hnt, hps⟩ := hfo
  generalize hgv : a.eval g = gv at hrel
  cases hrel with
  | @fn _ _ _ x' y' hx hy =>
    refine wpIn_rangeFunc fun fn _ => ?_
    -- the record is laid
    have hlay : ∃ (w0 w1 : World) (mark : List Deferred) (df : Nat),
        (Instr.enterLoop fn a.tmps params c d F.round).run P w = .ok (w0.heap.size, mark) w1 ∧
        w1 = w0.alloc (.loop { state := .ready, pending := none, fn, tmps := a.tmps, params, assign := c, body := d, defers := df }) ∧ WRel P ι s w0 ∧ Ext ι w ι w0 ∧
        (∀ ι', Ext ι w ι' w1 → (∀ b p, ι' b = some p → ι b = some p ∨ p.blk = w0.heap.size) → DefInv n0 ι' w1 (mark ++ a.defers)) := by
      cases hFr : F.round with
      | none =>
        obtain ⟨hw0, he0⟩ := hh.wr.other (.deferred (some []))
        have hsz : (w.alloc (.deferred (some []))).heap.size = w.heap.size + 1 := by simp
        refine ⟨w.alloc (.deferred (some [])), _, [{ target := .collected w.heap.size, args := #[] }], w.heap.size, ?_, rfl, hw0, he0, fun ι' he hι => ?_⟩
        · rw [run_enterLoop_outer, hsz]
        · refine DefInv.more (P := P) (s := s) hh.df he hh.nz ?_ ?_
          · exact (push_old (by rw [hsz]; omega)).trans (World.alloc_heap_new w _)
          · intro b p e hro
            rcases hι b p e with e | e
            · have := hh.wr.bound b p e; omega
            · rw [e, hsz]; omega
      | some l1 =>
        cases hfr : fi.round with
        | none => rw [hFr, hfr] at hr; exact hr.elim
        | some l0 =>
          rw [hFr, hfr] at hr
          obtain ⟨p0, hp0, rfl⟩ := hr
          obtain ⟨r0, hr0⟩ := hround l0 hfr
          obtain ⟨L0, hL0, _, _⟩ := hh.wr.loop hp0 hr0
          refine ⟨w, _, [], L0.defers, ?_, rfl, hh.wr, Ext.refl ι w, fun ι' he _ => ?_⟩
          · unfold Instr.enterLoop
            simp only [Sem.run_bind, run_getLoop hL0, Result.andThen, Sem.run_pure, run_newObj_alloc]
          · exact hh.df.ext he
    obtain ⟨w0, w1, mark, df, hen, hw1, hw0, he0, hdf⟩ := hlay
    have hlr : ∀ ι', Ren.le ι ι' → LRel P ι' { state := .ready, pending := none, fn := fi.fn, tm := tree, params := params.toList, assign := compile P fi.ps fi.ntmps c, body := compile P fi.ps fi.ntmps d }
        { state := .ready, pending := none, fn, tmps := a.tmps, params, assign := c, body := d, defers := df } := fun ι' hle =>
      ⟨rfl, rfl, by simp, info, hinfo, by rw [hnt, hps]; exact hh.tr.mono hle, by rw [hnt, hps], by rw [hnt, hps]⟩
    obtain ⟨hw2, he2⟩ := hw0.alloc (.loop { state := .ready, pending := none, fn := fi.fn, tm := tree, params := params.toList, assign := compile P fi.ps fi.ntmps c, body := compile P fi.ps fi.ntmps d })
      (.loop { state := .ready, pending := none, fn, tmps := a.tmps, params, assign := c, body := d, defers := df }) ⟨w0.heap.size, 0, 0, false⟩ rfl rfl
      (.loop (World.alloc_heap_new w0 _) (hlr _ (Ren.le_set hw0.next_none)) rfl)
    have hdir : w1 = { w0 with heap := w0.heap.push (.loop { state := .ready, pending := none, fn, tmps := a.tmps, params, assign := c, body := d, defers := df }) } := hw1
    rw [← hdir] at hw2 he2
    have hle := he2.le
    have he := he0.trans he2
    have hdf1 := hdf _ he (fun b p e => by
      rcases Ren.set_some e with ⟨_, rfl⟩ | ⟨_, e⟩
      · exact .inr rfl
      · exact .inl e)
    have hl : Ren.set ι s.next ⟨w0.heap.size, 0, 0, false⟩ s.next = some ⟨w0.heap.size, 0, 0, false⟩ := Ren.set_same _ _ _
    have hargs : VRels (Ren.set ι s.next ⟨w0.heap.size, 0, 0, false⟩) (x ++ ([.yld s.next] ++ y)) ((x' ++ #[Value.func (.yield w0.heap.size) #[] #[]]) ++ y').toList := by
      simp only [Array.toList_append, List.append_assoc]
      exact VRels.append (hx.mono hle) (VRels.append (.cons (.yld hl) .nil) (hy.mono hle))
    have hcall := callF_sound hs (F := F) (m := m - 1) h4 hF hd hw2 hargs
    obtain ⟨fi2, hfi2⟩ := callF_info h4
    obtain ⟨fn2, _, hf2, hb2, hnm2, _⟩ := funInfo_some hfi2
    refine ⟨_, mark, w1, { target := .fn (.func f) y', args := x' ++ #[Value.func (.yield w0.heap.size) #[] #[]] }, w1, f, _, w1, hen, ?_, fun f' _ => hF f', callFunc_enter hf2 hb2 hnm2, by simp [hd], CallsIn.mono hcall ?_⟩
    · rw [resolve_fn (f := f) (x := x') (y := y') rfl hgv]
      simp [Act.eval]
    · rintro e w3 ⟨v, ι3, s3, av, rfl, he3, hw3, hv3, hk3⟩
      have hl3 := he3.le _ _ hl
      obtain ⟨l3, hl3', h5⟩ := loopK_true.1 (show loopK s.next s3 _ = true from hk3)
      obtain ⟨L3, hL3, hr3, hro3⟩ := hw3.loop hl3 hl3'
      rcases ifK_true.1 h5 with ⟨_, h6⟩ | ⟨hbz, h6⟩
      · cases h6
      · have hst : L3.state ≠ .busy := by
          rw [hr3.state]
          revert hbz
          cases l3.state <;> simp [isBusy]
        rw [putK_eq] at h6
        have hr4 : LRel P ι3 { l3 with state := .exhausted } { L3 with state := .exhausted } := ⟨rfl, hr3.pending, hr3.params, hr3.tm⟩
        obtain ⟨hw4, he4⟩ := Ext.put hw3 hl3 hl3' hL3 hro3 hr4
        have hext := (he.trans he3).trans he4
        refine ⟨L3.pending, _, run_endLoop hL3 hst, ?_⟩
        have hhere : Here P n0 fi ι3 tree { heap := PT.set s.next (.loop { l3 with state := .exhausted }) s3.heap, next := s3.next } { a with defers := mark ++ a.defers } (w3.putObj w0.heap.size (.loop { L3 with state := .exhausted })) :=
          ⟨hw4, hh.tr.mono hext.le, hdf1.ext (he3.trans he4), Nat.le_trans hh.nz hext.size⟩
        generalize (World.putObj w3 w0.heap.size (Obj.loop { L3 with state := .exhausted })) = w4 at hext hhere ⊢
        rw [hr3.pending]
        generalize ({ heap := PT.set s.next (.loop { l3 with state := .exhausted }) s3.heap, next := s3.next } : St) = s4 at h6 hhere
        have h6 : pendK l3.pending tree s4 K = true := h6
        cases hpe : l3.pending with
        | none =>
          rw [hpe] at h6
          exact ⟨.normal, _, _, _, rfl, hext, hhere, h6⟩
        | some j =>
          rw [hpe] at h6
          cases j with
          | exit id => exact wpIn_exit ⟨.exit id, _, _, _, rfl, hext, hhere, h6⟩
          | ret => exact wpIn_ret ⟨.ret, _, _, _, rfl, hext, hhere, h6⟩
          | _ => cases h6
/-- Every operation. -/
theorem opK_wpIn {P : Program} {rec : RecT} (hs : Sound P rec) {F : Fence} {m : Nat} {o : Oper} {a : Act} {w : World} {ι : Ren} {s : St} {K : VK} {ρ : Operand → Option AVal} {next : Act → World → Prop} {Q : Exit → Act → World → Prop}
    (h : opK P rec o.op ρ s K = true) (hF : ∀ f, F.fn f) (hd : F.depth = none) (hw : WRel P ι s w) (hρ : ∀ x, ORl ι (ρ x) (a.eval x))
    (hn : ∀ v w' ι' s' av, Ext ι w ι' w' → WRel P ι' s' w' → VRel ι' av v → K av s' = true → next (a.put o.dst v) w') : o.wpIn F m P a w next Q := by
  have hnd : ∀ c, o.op ≠ .defer c := by
    intro c e
    rw [e] at h
    cases h
  by_cases hnf : noFn o.op = true
  · exact op_wpIn hF hnd (opK_fine hnf h hw hρ) hn
  · refine ⟨fun f _ => hF f, ?_⟩
    rw [Oper.semAt_eq _ _ _ hnd]
    have hc : ∃ g args ats, o.op = .call ⟨.value g, args, ats⟩ := by
      generalize o.op = op at hnf
      cases op with
      | call c =>
        obtain ⟨callee, args, ats⟩ := c
        cases callee with
        | value g => exact ⟨g, args, ats, rfl⟩
        | _ => exact absurd rfl hnf
      | _ => exact absurd rfl hnf
    obtain ⟨g, args, ats, hop⟩ := hc
    rw [hop] at h
    have h : callOp P rec ⟨.value g, args, ats⟩ ρ s K = true := h
    obtain ⟨fv, hfv, h1⟩ := optK_true.1 (show optK (ρ g) _ = true from h)
    obtain ⟨as, hu, h2⟩ := valsK_true (ρc := a.eval) args.toList _ h1 (fun x _ => hρ x)
    have hgr := hρ g fv hfv
    have hex : ∀ w, (execOp a.eval o).run P w = Sem.run P (do let d ← resolve a.eval ⟨.value g, args, ats⟩ o.type; invoke d.target d.args) w := by
      intro w
      unfold execOp
      rw [hop]
    rw [hex]
    generalize hgv : a.eval g = gv at hgr
    cases hgr with
    | @fn f x y x' y' hx hy =>
      have h2 : appK as y (fun r => appK x r fun args => callF P rec f args s K) = true := h2
      rw [appK_eq, appK_eq] at h2
      obtain ⟨fi2, hfi2⟩ := callF_info h2
      obtain ⟨fn2, _, hf2, hb2, hnm2, _⟩ := funInfo_some hfi2
      have hv : VRels ι (x ++ (as ++ y)) ((x' ++ args.map a.eval) ++ y').toList := by
        simp only [Array.toList_append, Array.toList_map, List.append_assoc]
        exact VRels.append hx (VRels.append hu hy)
      have hcall := callF_sound hs (F := F) (m := m - 1) h2 hF hd hw hv
      simp only [Sem.run_bind, resolve_fn (c := ⟨.value g, args, ats⟩) (f := f) (x := x') (y := y') rfl hgv, Result.andThen_ok, invoke]
      rw [callFunc_enter hf2 hb2 hnm2]
      rw [Oper.uponIn_enter]
      refine ⟨by simp [hd], CallsIn.mono hcall ?_⟩
      rintro e w' ⟨v, ι', s', av, rfl, he, hw', hv', hk⟩
      exact hn v w' ι' s' av he hw' hv' hk
    | @yld l p hl =>
      have h2 : yieldK P rec l as s K = true := h2
      obtain ⟨L, hL, hlen, hround⟩ := yieldK_sound hs (F := F) (m := m - 1) h2 hF hd hw hl hu
      have hres : (resolve a.eval ⟨.value g, args, ats⟩ o.type).run P w = .ok { target := .fn (.yield p.blk) #[], args := args.map a.eval } w := by
        unfold resolve
        simp [hgv, Deferred.ofValue]
      simp only [Sem.run_bind, hres, Result.andThen_ok, invoke]
      rw [run_yield hL (by simpa using hlen)]
      rw [Oper.uponIn_round]
      have harr : (args.toList.map a.eval).toArray = args.map a.eval := by
        rw [← Array.toList_map, Array.toArray_toList]
      rw [harr] at hround
      refine ⟨by simp [hd], RoundIn.mono hround ?_⟩
      rintro e w' ⟨v, ι', s', av, rfl, he, hw', hv', hk⟩
      exact hn v w' ι' s' av he hw' hv' hk
    | _ => cases h2
end Go.AM
