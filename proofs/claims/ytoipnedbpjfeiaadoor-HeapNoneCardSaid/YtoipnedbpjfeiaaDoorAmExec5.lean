/- Calls of functions. -/
import Derived.Test.YtoipnedbpjfeiaaDoorAmExec4
set_option linter.all false
set_option linter.unusedSectionVars false
set_option linter.unusedSimpArgs false
set_option linter.unusedVariables false
namespace Go.AM
variable [Orc]
theorem argPlan_ok {ps : List Tmp} : ∀ (n i : Nat) (args : List AVal) (tree : PT AVal) (k : PT AVal → Bool), commitK (argPlan ps n i) args tree k = true →
    ∃ tree', k tree' = true ∧ ∀ t v, PT.get (posOf t) tree' = some v → PT.get (posOf t) tree = some v ∨ (t ∈ ps ∧ i ≤ t ∧ args[t - i]? = some v)
  | 0, i, args, tree, k, h => ⟨tree, h, fun t v e => .inl e⟩
  | n + 1, i, args, tree, k, h => by
    cases args with
    | nil => unfold argPlan at h; split at h <;> cases h
    | cons u args =>
      unfold argPlan at h
      by_cases hc : ps.contains i = true
      · rw [if_pos hc] at h
        have h : PT.setK (posOf i) u tree (fun t => commitK (argPlan ps n (i + 1)) args t k) = true := h
        rw [PT.setK_eq] at h
        obtain ⟨tree', h1, h2⟩ := argPlan_ok n (i + 1) args _ k h
        refine ⟨tree', h1, fun t v e => ?_⟩
        rcases h2 t v e with e1 | ⟨e1, e2, e3⟩
        · by_cases hne : t = i
          · subst hne
            rw [PT.get_set_same] at e1
            cases e1
            exact .inr ⟨by simpa using hc, Nat.le_refl _, by simp⟩
          · rw [PT.get_set_ne _ _ _ _ (fun e => hne (posOf_inj e))] at e1
            exact .inl e1
        · refine .inr ⟨e1, by omega, ?_⟩
          rw [show t - i = (t - (i + 1)) + 1 by omega]
          simpa using e3
      · rw [if_neg hc] at h
        obtain ⟨tree', h1, h2⟩ := argPlan_ok n (i + 1) args tree k h
        refine ⟨tree', h1, fun t v e => ?_⟩
        rcases h2 t v e with e1 | ⟨e1, e2, e3⟩
        · exact .inl e1
        · refine .inr ⟨e1, by omega, ?_⟩
          rw [show t - i = (t - (i + 1)) + 1 by omega]
          simpa using e3
theorem funInfo_some {P : Program} {f : FuncId} {fi : FInfo} (h : funInfo P f = some fi) : ∃ fn c, P.funcs[f]? = some fn ∧ fn.body = some c ∧ fn.name ≠ "runtime.NumGoroutine" ∧ fi.ntmps = fn.ntmps ∧ fi.res = fn.results.toList ∧ fi.code = compile P fi.ps fi.ntmps c := by
  unfold funInfo at h
  split at h
  · rename_i fn hfn
    split at h
    · rename_i c hb
      split at h
      · cases h
      · rename_i hn
        cases h
        exact ⟨fn, c, hfn, hb, hn, rfl, rfl, rfl⟩
    · cases h
  · cases h
/-- Blocks of deferred calls have been shut. -/
theorem WRel.shut {P : Program} {ι : Ren} {s : St} {w w' : World} {rs : List Nat} (h : WRel P ι s w) (hd : ∀ r ∈ rs, w.heap[r]? = some (.deferred (some []))) (hs : w'.heap.size = w.heap.size) (hk : ∀ i, i ∉ rs → w'.heap[i]? = w.heap[i]?) : WRel P ι s w' := by
  refine ⟨fun b p e => ?_, h.apart, h.fresh, fun b p e => hs ▸ h.bound b p e⟩
  obtain ⟨o, ho, hr⟩ := h.objs b p e
  refine ⟨o, ho, ORel.mono (w := w) (Ren.le_refl ι) (fun hl => ?_) hr⟩
  by_cases hm : p.blk ∈ rs
  · have h1 := hd _ hm
    cases hr with
    | cells h2 => rw [h1] at h2; cases h2
    | map h2 => rw [h1] at h2; cases h2
    | loop h2 => rw [h1] at h2; cases h2
    | dead => cases hl
  · exact hk _ hm
end Go.AM
