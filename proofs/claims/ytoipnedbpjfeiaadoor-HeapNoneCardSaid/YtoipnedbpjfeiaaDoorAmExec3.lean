/- The abstract machine's results of a function. -/
import Derived.Test.YtoipnedbpjfeiaaDoorAmExec2
set_option linter.all false
set_option linter.unusedSectionVars false
set_option linter.unusedSimpArgs false
set_option linter.unusedVariables false
namespace Go.AM
section
variable {P : Program} {ι : Ren} {s : St} {w : World} {K : VK}
theorem opLoad_same {t : TypeId} {x : Option AVal} {v : Value} (h : opLoad P t x s K = true) (hw : WRel P ι s w) (hx : ORl ι x v) :
    ∃ b o u a, v = .pointer (some ⟨b, o, none⟩) ∧ (loadVar t ⟨b, o, none⟩).run P w = .ok u w ∧ VRel ι a u ∧ K a s = true := by
  obtain ⟨n, hn, h⟩ := optK_true.1 h
  obtain ⟨a, ha, h⟩ := optK_true.1 h
  obtain ⟨b, off, rfl, h⟩ := AVal.ptrK_true.1 h
  obtain ⟨cs, ro, hc, h⟩ := cellsK_true.1 h
  have hr := hx _ ha
  cases hr with
  | ptr hb =>
    obtain ⟨u, a', hu, hru, hk⟩ := loadVar_fine hn hb hc hw h
    exact ⟨_, _, u, a', rfl, hu, hru, hk⟩
/-- One result. -/
def oneRes (tmps : Array Value) : ResultVar → Sem Value
  | .tmp t => pure (tmps.getD t undef)
  | .cell a t => do loadVar t (← asAddr (tmps.getD a undef))
theorem resK_ok {n : Nat} {ps : List Tmp} {tree : PT AVal} {tmps : Array Value} (hw : WRel P ι s w) (ht : TRel ι n ps tree tmps) : ∀ (l : List ResultVar) (k : List AVal → Bool), resK P tree s l k = true →
    ∃ vs us, k vs = true ∧ VRels ι vs us ∧ (l.mapM (oneRes tmps)).run P w = .ok us w
  | [], k, h => ⟨[], [], h, .nil, by simp⟩
  | .tmp t :: l, k, h => by
    obtain ⟨v, hv, h1⟩ := optK_true.1 h
    obtain ⟨vs, us, h2, h3, h4⟩ := resK_ok hw ht l _ h1
    obtain ⟨_, u, hu, hr⟩ := ht.get t v hv
    refine ⟨v :: vs, u :: us, h2, .cons hr h3, ?_⟩
    simp only [List.mapM_cons, oneRes, Sem.run_bind, Sem.run_pure, Result.andThen_ok, h4]
    simp [Array.getD_eq_getD_getElem?, hu]
  | .cell a t :: l, k, h => by
    have h : opLoad P t (PT.get (posOf a) tree) s (fun v _ => resK P tree s l fun r => k (v :: r)) = true := h
    obtain ⟨b, o, u, v, e1, e2, e3, h1⟩ := opLoad_same (v := tmps.getD a undef) h hw (fun v hv => by
      obtain ⟨_, u, hu, hr⟩ := ht.get a v hv
      simpa [Array.getD_eq_getD_getElem?, hu] using hr)
    obtain ⟨vs, us, h2, h3, h4⟩ := resK_ok hw ht l _ h1
    refine ⟨v :: vs, u :: us, h2, .cons e3 h3, ?_⟩
    simp only [List.mapM_cons, oneRes, Sem.run_bind, e1, asAddr, Sem.run_pure, Result.andThen_ok, e2, h4]
theorem retK_ok {n : Nat} {ps : List Tmp} {tree : PT AVal} {tmps : Array Value} {fn : Func} (hw : WRel P ι s w) (ht : TRel ι n ps tree tmps) (h : resK P tree s fn.results.toList (fun l => retK l s K) = true) :
    ∃ a v, (results fn tmps).run P w = .ok v w ∧ VRel ι a v ∧ K a s = true := by
  obtain ⟨vs, us, h2, h3, h4⟩ := resK_ok hw ht _ _ h
  have hm : (fn.results.mapM (oneRes tmps)).run P w = .ok us.toArray w := by
    rw [Array.mapM_eq_mapM_toList]
    simp [h4]
  have hres : (results fn tmps).run P w = .ok (if h : us.toArray.size = 1 then us.toArray[0] else .tuple us.toArray) w := by
    have : results fn tmps = (do let vs ← fn.results.mapM (oneRes tmps); pure (if h : vs.size = 1 then vs[0] else .tuple vs)) := by
      unfold results
      congr 1
    rw [this]
    simp only [Sem.run_bind, hm, Result.andThen_ok, Sem.run_pure]
  rw [hres]
  cases h3 with
  | nil => exact ⟨_, _, rfl, .tup .nil, h2⟩
  | cons hx hr =>
    cases hr with
    | nil => exact ⟨_, _, rfl, hx, h2⟩
    | cons hy hr =>
      refine ⟨_, _, rfl, ?_, h2⟩
      rw [dif_neg (by simp)]
      exact .tup (.cons hx (.cons hy hr))
end
end Go.AM
