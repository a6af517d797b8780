/- The abstract machine's regions, part 1: operands, guards, what is kept behind a region. -/
import Derived.Test.YtoipnedbpjfeiaaDoorAmOps9
import Derived.RangeFuncLeaves
set_option linter.all false
set_option linter.unusedSectionVars false
set_option linter.unusedSimpArgs false
set_option linter.unusedVariables false
namespace Go.AM

theorem idxOf_shift (t : Tmp) : ∀ (l : List (Option Tmp)) (i : Nat), idxOf t l i = (idxOf t l 0).map (· + i)
  | [], i => rfl
  | x :: r, i => by
    unfold idxOf
    split
    · simp
    · rw [idxOf_shift t r (i + 1), idxOf_shift t r 1]
      cases idxOf t r 0 <;> simp; omega
theorem nthO_eq : ∀ (l : List AVal) (i : Nat), nthO l i = l[i]?
  | [], i => by cases i <;> rfl
  | x :: l, 0 => rfl
  | x :: l, i + 1 => (nthO_eq l i).trans (by simp)
/-- What a piece of code knows of the temporaries: what the region has written, and what stood ahead of it. -/
structure LocRel (ι : Ren) (prev : List (Option Tmp)) (locals : List AVal) (tree : PT AVal) (tmps : Array Value) : Prop where
  len : prev.length = locals.length
  loc : ∀ t d v, idxOf t prev 0 = some d → locals[d]? = some v → ∃ u, tmps[t]? = some u ∧ VRel ι v u
  old : ∀ t v, idxOf t prev 0 = none → PT.get (posOf t) tree = some v → ∃ u, tmps[t]? = some u ∧ VRel ι v u
theorem LocRel.mono {ι ι' : Ren} {prev : List (Option Tmp)} {locals : List AVal} {tree : PT AVal} {tmps : Array Value} (hl : Ren.le ι ι') (h : LocRel ι prev locals tree tmps) : LocRel ι' prev locals tree tmps :=
  ⟨h.len, fun t d v e1 e2 => let ⟨u, h1, h2⟩ := h.loc t d v e1 e2; ⟨u, h1, h2.mono hl⟩, fun t v e1 e2 => let ⟨u, h1, h2⟩ := h.old t v e1 e2; ⟨u, h1, h2.mono hl⟩⟩
theorem LocRel.start {ι : Ren} {n : Nat} {ps : List Tmp} {tree : PT AVal} {tmps : Array Value} (h : TRel ι n ps tree tmps) : LocRel ι [] [] tree tmps :=
  ⟨rfl, fun t d v e1 e2 => by simp at e2, fun t v _ e => (h.get t v e).2⟩
theorem LocRel.push {ι : Ren} {prev : List (Option Tmp)} {locals : List AVal} {tree : PT AVal} {a : Act} {v : AVal} {u : Value} (h : LocRel ι prev locals tree a.tmps) (dst : Option Tmp) (hd : ∀ d, dst = some d → d < a.tmps.size) (hv : VRel ι v u) :
    LocRel ι (dst :: prev) (v :: locals) tree (a.put dst u).tmps := by
  refine ⟨by simp [h.len], fun t d v' e1 e2 => ?_, fun t v' e1 e2 => ?_⟩
  · unfold idxOf at e1
    split at e1
    · rename_i hdt
      cases e1
      subst hdt
      simp at e2; subst e2
      exact ⟨u, by simp [Act.put, hd t rfl], hv⟩
    · rename_i hdt
      rw [idxOf_shift] at e1
      cases hi : idxOf t prev 0 with
      | none => rw [hi] at e1; cases e1
      | some k =>
        rw [hi] at e1; cases e1
        have e2 : locals[k]? = some v' := by simpa using e2
        obtain ⟨u', h1, h2⟩ := h.loc t k v' hi e2
        refine ⟨u', ?_, h2⟩
        cases dst with
        | none => exact h1
        | some d => rw [← h1]; exact Array.getElem?_setIfInBounds_ne (fun e => hdt (by rw [e]))
  · unfold idxOf at e1
    split at e1
    · cases e1
    · rename_i hdt
      rw [idxOf_shift] at e1
      cases hi : idxOf t prev 0 with
      | some k => rw [hi] at e1; cases e1
      | none =>
        obtain ⟨u', h1, h2⟩ := h.old t v' hi e2
        refine ⟨u', ?_, h2⟩
        cases dst with
        | none => exact h1
        | some d => rw [← h1]; exact Array.getElem?_setIfInBounds_ne (fun e => hdt (by rw [e]))
theorem getO_ok {ι : Ren} {prev : List (Option Tmp)} {locals : List AVal} {tree : PT AVal} {a : Act} (h : LocRel ι prev locals tree a.tmps) (x : Operand) : ORl ι (getO tree locals (resolveO prev x)) (a.eval x) := by
  intro v hv
  cases x with
  | tmp t =>
    unfold resolveO at hv
    cases hi : idxOf t prev 0 with
    | some d =>
      simp only [hi] at hv
      have hv : nthO locals d = some v := hv
      rw [nthO_eq] at hv
      obtain ⟨u, h1, h2⟩ := h.loc t d v hi hv
      simpa [Act.eval, Array.getD_eq_getD_getElem?, h1] using h2
    | none =>
      simp only [hi] at hv
      have hv : PT.get (posOf t) tree = some v := hv
      obtain ⟨u, h1, h2⟩ := h.old t v hi hv
      simpa [Act.eval, Array.getD_eq_getD_getElem?, h1] using h2
  | const c =>
    unfold resolveO at hv
    cases hc : conv c with
    | none => simp only [hc] at hv; cases hv
    | some b =>
      simp only [hc] at hv
      have hv : some b = some v := hv
      cases hv
      exact conv_rel hc
  | global g => cases hv
  | func f =>
    have hv : some (AVal.fn f [] []) = some v := hv
    cases hv
    exact .fn .nil .nil
theorem yielded_of {ops : Array Oper} {a : Act} {j : Nat} {d : Tmp} (h : (ops[j]?).bind (·.dst) = some d) : yielded ops a.tmps j = (match a.eval (.tmp d) with | .bool b => some b | _ => none) := by
  unfold yielded
  rw [h]
  simp only [Option.bind_some, Act.eval, Array.getD_eq_getD_getElem?]
  cases a.tmps[d]? with
  | none => rfl
  | some v => cases v <;> rfl
theorem guardK_true {ι : Ren} {all : Array Oper} {o : Oper} {ρ : Operand → Option AVal} {x y : Bool} {a : Act} (h : guardK all o ρ x y = true) (hρ : ∀ x, ORl ι (ρ x) (a.eval x)) :
    (Region.wanted o (yielded all a.tmps) = true ∧ x = true) ∨ (Region.wanted o (yielded all a.tmps) = false ∧ y = true) := by
  unfold guardK at h
  cases hg : o.guard with
  | none =>
    rw [hg] at h
    exact .inl ⟨by simp [Region.wanted, hg], h⟩
  | some g =>
    rw [hg] at h
    obtain ⟨j, want⟩ := g
    obtain ⟨g2, hg2, h1⟩ := optK_true.1 h
    unfold guardTmp at hg2
    simp only [hg] at hg2
    split at hg2
    · rename_i d hd
      cases hg2
      obtain ⟨v, hv, h2⟩ := optK_true.1 h1
      have hr := hρ _ v hv
      have hy := yielded_of (a := a) hd
      simp only [Region.wanted, hg, hy]
      cases v with
      | bool b =>
        rcases ifK_true.1 h2 with ⟨hb, h3⟩ | ⟨hb, h3⟩
        · generalize a.eval (.tmp d) = u at hr
          cases hr
          left; refine ⟨?_, h3⟩
          cases b <;> cases want <;> first | rfl | cases hb
        · generalize a.eval (.tmp d) = u at hr
          cases hr
          right; refine ⟨?_, h3⟩
          cases b <;> cases want <;> first | rfl | cases hb
      | _ =>
        generalize a.eval (.tmp d) = u at hr
        first
        | (cases hr <;> exact .inr ⟨rfl, h2⟩)
        | (cases h2)
    · cases hg2
theorem commitK_ok {ps : List Tmp} : ∀ (prev : List (Option Tmp)) (locals : List AVal) (seen : List Tmp) (tree : PT AVal) (k : PT AVal → Bool), commitK (commitPlan ps prev seen) locals tree k = true →
    ∃ tree', k tree' = true ∧ ∀ t v, PT.get (posOf t) tree' = some v → (t ∈ ps ∧ t ∉ seen ∧ ∃ d, idxOf t prev 0 = some d ∧ locals[d]? = some v) ∨ (PT.get (posOf t) tree = some v ∧ (idxOf t prev 0 = none ∨ t ∈ seen ∨ t ∉ ps))
  | [], locals, seen, tree, k, h => ⟨tree, h, fun t v e => .inr ⟨e, .inl rfl⟩⟩
  | none :: r, locals, seen, tree, k, h => by
    cases locals with
    | nil => cases h
    | cons u locals =>
      obtain ⟨tree', h1, h2⟩ := commitK_ok r locals seen tree k h
      refine ⟨tree', h1, fun t v e => ?_⟩
      have hi : idxOf t (none :: r) 0 = (idxOf t r 0).map (· + 1) := by rw [← idxOf_shift]; rfl
      rcases h2 t v e with ⟨e1, e2, d, e3, e4⟩ | ⟨e1, e2⟩
      · exact .inl ⟨e1, e2, d + 1, by rw [hi, e3]; rfl, by simpa using e4⟩
      · refine .inr ⟨e1, ?_⟩
        rcases e2 with e2 | e2 | e2
        · exact .inl (by rw [hi, e2]; rfl)
        · exact .inr (.inl e2)
        · exact .inr (.inr e2)
  | some x :: r, locals, seen, tree, k, h => by
    cases locals with
    | nil => unfold commitPlan at h; split at h <;> cases h
    | cons u locals =>
      have hi : ∀ t, t ≠ x → idxOf t (some x :: r) 0 = (idxOf t r 0).map (· + 1) := by
        intro t ht
        rw [← idxOf_shift]
        show (if some x = some t then some 0 else idxOf t r (0 + 1)) = _
        rw [if_neg (by simpa using Ne.symm ht)]
      have h0 : idxOf x (some x :: r) 0 = some 0 := by simp [idxOf]
      unfold commitPlan at h
      by_cases hc : (ps.contains x && !seen.contains x) = true
      · rw [if_pos hc] at h
        simp only [Bool.and_eq_true, List.contains_iff_mem, Bool.not_eq_true', List.contains_eq_mem, decide_eq_true_eq, decide_eq_false_iff_not] at hc
        have h : PT.setK (posOf x) u tree (fun t => commitK (commitPlan ps r (x :: seen)) locals t k) = true := h
        rw [PT.setK_eq] at h
        obtain ⟨tree', h1, h2⟩ := commitK_ok r locals (x :: seen) _ k h
        refine ⟨tree', h1, fun t v e => ?_⟩
        rcases h2 t v e with ⟨e1, e2, d, e3, e4⟩ | ⟨e1, e2⟩
        · have hne : t ≠ x := fun e => e2 (by simp [e])
          exact .inl ⟨e1, fun h => e2 (by simp [h]), d + 1, by rw [hi t hne, e3]; rfl, by simpa using e4⟩
        · by_cases hne : t = x
          · subst hne
            rw [PT.get_set_same] at e1
            cases e1
            exact .inl ⟨hc.1, hc.2, 0, h0, by simp⟩
          · rw [PT.get_set_ne _ _ _ _ (fun e => hne (posOf_inj e))] at e1
            refine .inr ⟨e1, ?_⟩
            rcases e2 with e2 | e2 | e2
            · exact .inl (by rw [hi t hne, e2]; rfl)
            · simp [hne] at e2
              exact .inr (.inl e2)
            · exact .inr (.inr e2)
      · rw [if_neg hc] at h
        obtain ⟨tree', h1, h2⟩ := commitK_ok r locals (x :: seen) tree k h
        refine ⟨tree', h1, fun t v e => ?_⟩
        rcases h2 t v e with ⟨e1, e2, d, e3, e4⟩ | ⟨e1, e2⟩
        · have hne : t ≠ x := fun e => e2 (by simp [e])
          exact .inl ⟨e1, fun h => e2 (by simp [h]), d + 1, by rw [hi t hne, e3]; rfl, by simpa using e4⟩
        · refine .inr ⟨e1, ?_⟩
          by_cases hne : t = x
          · subst hne
            by_cases hs : t ∈ seen
            · exact .inr (.inl hs)
            · refine .inr (.inr fun hp => hc ?_)
              simp [hp, hs]
          · rcases e2 with e2 | e2 | e2
            · exact .inl (by rw [hi t hne, e2]; rfl)
            · simp [hne] at e2
              exact .inr (.inl e2)
            · exact .inr (.inr e2)
/-- Behind a region. -/
theorem LocRel.commit {ι : Ren} {n : Nat} {ps : List Tmp} {prev : List (Option Tmp)} {locals : List AVal} {tree : PT AVal} {tmps : Array Value} {k : PT AVal → Bool} (h : LocRel ι prev locals tree tmps) (hn : n ≤ tmps.size)
    (hp : ∀ t v, PT.get (posOf t) tree = some v → t ∈ ps) (hk : commitK (commitPlan ps prev []) locals tree k = true) : ∃ tree', k tree' = true ∧ TRel ι n ps tree' tmps := by
  obtain ⟨tree', h1, h2⟩ := commitK_ok prev locals [] tree k hk
  refine ⟨tree', h1, hn, fun t v e => ?_⟩
  rcases h2 t v e with ⟨e1, _, d, e3, e4⟩ | ⟨e1, e2⟩
  · exact ⟨e1, h.loc t d v e3 e4⟩
  · have := hp t v e1
    rcases e2 with e2 | e2 | e2
    · exact ⟨this, h.old t v e2 e1⟩
    · cases e2
    · exact absurd this e2
end Go.AM
