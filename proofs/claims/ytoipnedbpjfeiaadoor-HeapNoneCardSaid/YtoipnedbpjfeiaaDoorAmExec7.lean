/- The abstract machine's calls, rounds and loops over functions: they hold. -/
import Derived.Test.YtoipnedbpjfeiaaDoorAmExec6
import Derived.RangeFuncRecord
set_option linter.all false
set_option linter.unusedSectionVars false
set_option linter.unusedSimpArgs false
set_option linter.unusedVariables false
namespace Go.AM
variable [Orc] [OrcOk]
/-- A step of an operation. -/
theorem op_wpIn {P : Program} {F : Fence} {m : Nat} {o : Oper} {a : Act} {w : World} {ι : Ren} {K : VK} {next : Act → World → Prop} {Q : Exit → Act → World → Prop} (hF : ∀ f, F.fn f) (hnd : ∀ c, o.op ≠ .defer c)
    (h : Fine P ι w K ((execOp a.eval o).run P w))
    (hn : ∀ v w' ι' s' av, Ext ι w ι' w' → WRel P ι' s' w' → VRel ι' av v → K av s' = true → next (a.put o.dst v) w') : o.wpIn F m P a w next Q := by
  refine ⟨fun f _ => hF f, ?_⟩
  rw [Oper.semAt_eq _ _ _ hnd]
  obtain ⟨v, w', ι', s', av, e, h1, h2, h3, h4⟩ := h
  rcases e with e | ⟨e, rfl⟩
  · rw [e]; exact hn v w' ι' s' av h1 h2 h3 h4
  · rw [e]; exact hn undef w' ι' s' av h1 h2 h3 h4
theorem callFunc_enter {P : Program} {w : World} {f : FuncId} {fn : Func} {c : Code} {args : Array Value} (hf : P.funcs[f]? = some fn) (hb : fn.body = some c) (hn : fn.name ≠ "runtime.NumGoroutine") :
    (callFunc f args).run P w = .ok (.enter f args) w := by
  simp [callFunc, hf, hb, hn]
theorem FOk.of {P : Program} {f : FuncId} {fi : FInfo} (h : funInfo P f = some fi) (r : Option Pos) : FOk P { fn := f, ntmps := fi.ntmps, ps := fi.ps, round := r } := ⟨fi, h, rfl, rfl⟩
theorem params_ok {ι : Ren} {ps : List Tmp} {n : Nat} : ∀ (params : List Tmp) (pl : List (Option Pos)) (args : List AVal) (us : List Value) (tree : PT AVal) (tmps : Array Value) (k : PT AVal → Bool),
    paramPlan ps n params = some pl → VRels ι args us → args.length = params.length → TRel ι n ps tree tmps → commitK pl args tree k = true →
    ∃ tree', k tree' = true ∧ TRel ι n ps tree' ((params.zip us).foldl (fun tmps (x : Tmp × Value) => tmps.setIfInBounds x.1 x.2) tmps)
  | [], pl, args, us, tree, tmps, k, hp, hv, hl, ht, h => by
    cases hp
    cases args with
    | nil => cases hv; exact ⟨tree, h, ht⟩
    | cons x r => simp at hl
  | t :: params, pl, args, us, tree, tmps, k, hp, hv, hl, ht, h => by
    cases hv with
    | nil => simp at hl
    | @cons x u args us hx hv =>
      unfold paramPlan at hp
      split at hp
      · rename_i hlt
        split at hp
        · rename_i l hpl
          cases hp
          have hlen : args.length = params.length := by simpa using hl
          have hsz := ht.size
          by_cases hc : ps.contains t = true
          · rw [if_pos hc] at h
            have h : PT.setK (posOf t) x tree (fun t => commitK l args t k) = true := h
            rw [PT.setK_eq] at h
            refine params_ok params l args us _ _ k hpl hv hlen ⟨by simpa using hsz, fun t' v e => ?_⟩ h
            by_cases hne : t' = t
            · subst hne
              rw [PT.get_set_same] at e
              cases e
              exact ⟨by simpa using hc, u, by rw [Array.getElem?_setIfInBounds_self_of_lt (Nat.lt_of_lt_of_le hlt hsz)], hx⟩
            · rw [PT.get_set_ne _ _ _ _ (fun e => hne (posOf_inj e))] at e
              obtain ⟨e1, v', e2, e3⟩ := ht.get t' v e
              exact ⟨e1, v', by rw [Array.getElem?_setIfInBounds_ne (Ne.symm hne)]; exact e2, e3⟩
          · rw [if_neg hc] at h
            have h : commitK l args tree k = true := h
            refine params_ok params l args us _ _ k hpl hv hlen ⟨by simpa using hsz, fun t' v e => ?_⟩ h
            obtain ⟨e1, v', e2, e3⟩ := ht.get t' v e
            have hne : t' ≠ t := fun e => hc (by simpa [e] using e1)
            exact ⟨e1, v', by rw [Array.getElem?_setIfInBounds_ne (Ne.symm hne)]; exact e2, e3⟩
        · cases hp
      · cases hp
theorem Ext.put {P : Program} {ι : Ren} {s : St} {w : World} (hw : WRel P ι s w) {b : Pos} {p : Place} {l : LoopR} {L : Loop} {l' : LoopR} {L' : Loop} (e : ι b = some p) (hy : PT.get b s.heap = some (.loop l))
    (hL : w.heap[p.blk]? = some (.loop L)) (hr : p.ro = false) (h : LRel P ι l' L') :
    WRel P ι { heap := PT.set b (.loop l') s.heap, next := s.next } (w.putObj p.blk (.loop L')) ∧ Ext ι w ι (w.putObj p.blk (.loop L')) := by
  refine hw.update (.loop l') e hy rfl hr (by simp) (fun i hi => World.putObj_heap_other hi) rfl rfl ?_
  exact .loop (World.putObj_heap_same (lt_of_get hL)) h hr
theorem WRel.loop {P : Program} {ι : Ren} {s : St} {w : World} (hw : WRel P ι s w) {b : Pos} {p : Place} {l : LoopR} (e : ι b = some p) (h : PT.get b s.heap = some (.loop l)) : ∃ L, w.heap[p.blk]? = some (.loop L) ∧ LRel P ι l L ∧ p.ro = false := by
  obtain ⟨o, ho, hr⟩ := hw.objs b p e
  rw [h] at ho
  cases ho
  cases hr with
  | loop h1 h2 h3 => exact ⟨_, h1, h2, h3⟩
/-- How a round ends. -/
def ValEnd (P : Program) (ι : Ren) (w : World) (K : VK) : Ending → World → Prop := CallEnd P ι w K
theorem yieldK_sound {P : Program} {rec : RecT} (hs : Sound P rec) {F : Fence} {m : Nat} {q : Pos} {p : Place} {args : List AVal} {us : List Value} {s : St} {w : World} {ι : Ren} {K : VK} (h : yieldK P rec q args s K = true) (hF : ∀ f, F.fn f)
    (hd : F.depth = none) (hw : WRel P ι s w) (hq : ι q = some p) (hv : VRels ι args us) :
    ∃ L, w.heap[p.blk]? = some (.loop L) ∧ us.length = L.params.size ∧ RoundIn F m P p.blk L.fn ((L.params.zip us.toArray).foldl (fun tmps (x : Tmp × Value) => tmps.setIfInBounds x.1 x.2) L.tmps) L.assign L.body w (CallEnd P ι w K) := by
  obtain ⟨l, hl, h1⟩ := loopK_true.1 h
  obtain ⟨fi, hfi, h2⟩ := optK_true.1 h1
  obtain ⟨pl, hpl, h3⟩ := optK_true.1 h2
  rw [lenK_eq, lenK_eq, Nat.zero_add, Nat.zero_add] at h3
  rcases ifK_true.1 h3 with ⟨hn, h4⟩ | ⟨_, h4⟩
  · obtain ⟨L, hL, hr, hro⟩ := hw.loop hq hl
    have hn : args.length = l.params.length := Nat.eq_of_beq_eq_true hn
    obtain ⟨fi', hfi', ht, hasg, hbody⟩ := hr.tm
    rw [hfi] at hfi'; cases hfi'
    refine ⟨L, hL, ?_, ?_⟩
    · rw [← hv.length, hn, hr.params]; simp
    · obtain ⟨tree, h5, ht'⟩ := params_ok l.params pl args us _ _ _ hpl hv hn ht h4
      have hfold : (L.params.zip us.toArray).foldl (fun tmps (x : Tmp × Value) => tmps.setIfInBounds x.1 x.2) L.tmps = (l.params.zip us).foldl (fun tmps (x : Tmp × Value) => tmps.setIfInBounds x.1 x.2) L.tmps := by
        rw [hr.params]
        simp
      rw [hfold]
      rw [hasg] at h5
      refine roundIn_of_wpIn (hF _) ?_
      refine wpIn_mono (hs L.assign w.heap.size { fn := l.fn, ntmps := fi.ntmps, ps := fi.ps, round := some q } _ _ _ (F.inRound p.blk) m ι _ w h5 (FOk.of hfi _) hF hd ⟨p, hq, rfl⟩ ⟨hw, ht', DefInv.nil _ _ _, Nat.le_refl _⟩) ?_
      rintro e a' w' ⟨ex, tree', s', ι', rfl, he, hh, hk⟩
      cases ex with
      | normal =>
        obtain ⟨l2, hl2, h6⟩ := loopK_true.1 (show loopK q s' _ = true from hk)
        rcases ifK_true.1 h6 with ⟨hrd, h7⟩ | ⟨_, h7⟩
        · have hq' := he.le _ _ hq
          obtain ⟨L2, hL2, hr2, hro2⟩ := hh.wr.loop hq' hl2
          have hst : L2.state = .ready := by
            rw [hr2.state]
            revert hrd
            cases l2.state <;> simp [isReady]
          refine ⟨_, run_beginRound hL2 hst, ?_⟩
          rw [putK_eq, hbody] at h7
          have hr3 : LRel P ι' { l2 with state := .busy } { L2 with state := .busy } := ⟨rfl, hr2.pending, hr2.params, hr2.tm⟩
          obtain ⟨hw3, he3⟩ := Ext.put hh.wr hq' hl2 hL2 hro hr3
          refine wpIn_mono (hs L.body w.heap.size { fn := l.fn, ntmps := fi.ntmps, ps := fi.ps, round := some q } _ _ _ (F.inRound p.blk) m ι' _ _ h7 (FOk.of hfi _) hF hd ⟨p, hq', rfl⟩ ⟨hw3, hh.tr, hh.df.ext he3, Nat.le_trans hh.nz he3.size⟩) ?_
          rintro e a'' w'' ⟨ex, tree'', s'', ι'', rfl, he'', hh'', hk''⟩
          have hq'' := he''.le _ _ hq'
          obtain ⟨l3, hl3, h8⟩ := loopK_true.1 (show loopK q s'' _ = true from hk'')
          obtain ⟨L3, hL3, hr3', _⟩ := hh''.wr.loop hq'' hl3
          have hext := (he.trans he3).trans he''
          cases ex with
          | normal =>
            have h8 : putK q (.loop { l3 with state := .ready, pending := none }) s'' (fun s => K (.bool true) s) = true := h8
            rw [putK_eq] at h8
            have hr4 : LRel P ι'' { l3 with state := .ready, pending := none } { L3 with state := .ready, pending := none } := ⟨rfl, rfl, hr3'.params, hr3'.tm⟩
            obtain ⟨hw4, he4⟩ := Ext.put hh''.wr hq'' hl3 hL3 hro hr4
            exact ⟨_, _, run_endRound none hL3, _, ι'', _, _, rfl, hext.trans he4, hw4, .bool true, h8⟩
          | exit id =>
            have h8 : putK q (.loop { l3 with state := .done, pending := some (.exit id) }) s'' (fun s => K (.bool false) s) = true := h8
            rw [putK_eq] at h8
            have hr4 : LRel P ι'' { l3 with state := .done, pending := some (.exit id) } { L3 with state := .done, pending := some (.exit id) } := ⟨rfl, rfl, hr3'.params, hr3'.tm⟩
            obtain ⟨hw4, he4⟩ := Ext.put hh''.wr hq'' hl3 hL3 hro hr4
            exact ⟨_, _, run_endRound _ hL3, _, ι'', _, _, rfl, hext.trans he4, hw4, .bool false, h8⟩
          | ret =>
            have h8 : putK q (.loop { l3 with state := .done, pending := some .ret }) s'' (fun s => K (.bool false) s) = true := h8
            rw [putK_eq] at h8
            have hr4 : LRel P ι'' { l3 with state := .done, pending := some .ret } { L3 with state := .done, pending := some .ret } := ⟨rfl, rfl, hr3'.params, hr3'.tm⟩
            obtain ⟨hw4, he4⟩ := Ext.put hh''.wr hq'' hl3 hL3 hro hr4
            exact ⟨_, _, run_endRound _ hL3, _, ι'', _, _, rfl, hext.trans he4, hw4, .bool false, h8⟩
        · cases h7
      | exit id => cases hk
      | ret => cases hk
  · cases h4
end Go.AM
