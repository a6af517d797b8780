/- Calls of functions: they hold. -/
import Derived.Test.YtoipnedbpjfeiaaDoorAmExec5
set_option linter.all false
set_option linter.unusedSectionVars false
set_option linter.unusedSimpArgs false
set_option linter.unusedVariables false
namespace Go.AM
variable [Orc] [OrcOk]
theorem WRel.stands {P : Program} {ι : Ren} {s : St} {w w' : World} (h : WRel P ι s w) (he : Ext (fun _ => none) w (fun _ => none) w') : WRel P ι s w' ∧ Ext ι w ι w' := by
  have hk : ∀ i, i < w.heap.size → w'.heap[i]? = w.heap[i]? := fun i hi => he.keep i hi (fun b p e => by cases e)
  refine ⟨⟨fun b p e => ?_, h.apart, h.fresh, fun b p e => Nat.lt_of_lt_of_le (h.bound b p e) he.size⟩, ⟨Ren.le_refl ι, he.size, fun _ _ e => .inl e, fun i hi _ => hk i hi, he.os, he.out⟩⟩
  obtain ⟨x, hx, hr⟩ := h.objs b p e
  exact ⟨x, hx, ORel.mono (w := w) (Ren.le_refl ι) (fun _ => hk _ (h.bound b p e)) hr⟩
theorem orcK_true {P : Program} {f : FuncId} {args : List AVal} {s : St} {K : VK} {x : Bool} (h : orcK P f args s K x = true) : (Orc.get P f = none ∧ x = true) ∨ ∃ v, Orc.get P f = some v ∧ args = [] ∧ K v s = true := by
  unfold orcK at h
  cases hg : Orc.get P f with
  | none => rw [hg] at h; exact .inl ⟨rfl, h⟩
  | some v =>
    rw [hg] at h
    cases args with
    | nil => exact .inr ⟨v, rfl, rfl, h⟩
    | cons a r => cases h
theorem callF_info {P : Program} {rec : RecT} {f : FuncId} {args : List AVal} {s : St} {K : VK} (h : callF P rec f args s K = true) : ∃ fi, funInfo P f = some fi := by
  rcases orcK_true h with ⟨_, h⟩ | ⟨v0, hg, _, _⟩
  · obtain ⟨fi, hfi, _⟩ := optK_true.1 h
    exact ⟨fi, hfi⟩
  · exact OrcOk.info P f v0 hg
theorem callF_sound {P : Program} {rec : RecT} (hs : Sound P rec) {F : Fence} {m : Nat} {f : FuncId} {args : List AVal} {us : List Value} {s : St} {w : World} {ι : Ren} {K : VK} (h : callF P rec f args s K = true) (hF : ∀ f, F.fn f)
    (hd : F.depth = none) (hw : WRel P ι s w) (hv : VRels ι args us) : CallsIn F m P f us.toArray w (CallEnd P ι w K) := by
  rcases orcK_true h with ⟨_, h⟩ | ⟨v0, hg, rfl, hk0⟩
  rotate_left
  · cases hv
    refine CallsIn.mono (OrcOk.ok P f v0 hg F m w hF hd) ?_
    rintro e w' ⟨u, rfl, hr, he⟩
    obtain ⟨hw', he'⟩ := hw.stands he
    exact ⟨u, ι, s, v0, rfl, he', hw', hr.mono (fun b p e => by cases e), hk0⟩
  obtain ⟨fi, hfi, h1⟩ := optK_true.1 h
  rw [lenK_eq, Nat.zero_add] at h1
  obtain ⟨fn, c, hf, hb, _, hnt, hres, hcode⟩ := funInfo_some hfi
  rcases ifK_true.1 h1 with ⟨hn, h2⟩ | ⟨_, h2⟩
  · rcases ifK_true.1 h2 with ⟨hle, h3⟩ | ⟨_, h3⟩
    · have hle : args.length ≤ fi.ntmps := Nat.le_of_ble_eq_true hle
      obtain ⟨tree, h4, h5⟩ := argPlan_ok _ _ _ _ _ h3
      have hl := hv.length
      refine callsIn_turn (callsIn_of_wp_marks hf hb (hF f) ?_ rfl)
      rw [hcode] at h4
      refine wpIn_mono (hs c w.heap.size { fn := f, ntmps := fi.ntmps, ps := fi.ps, round := none } _ _ _ { F with round := none } m ι _ w h4 ⟨fi, hfi, rfl, rfl⟩ hF hd trivial ⟨hw, ⟨?_, fun t v e => ?_⟩, DefInv.nil _ _ _, Nat.le_refl _⟩) ?_
      · simp only [Array.size_append, Array.size_replicate, List.size_toArray]
        rw [hnt]; omega
      · rcases h5 t v e with e1 | ⟨e1, _, e3⟩
        · rw [PT.get_leaf] at e1; cases e1
        · obtain ⟨u, hu, hr⟩ := hv.get (by simpa using e3)
          refine ⟨e1, u, ?_, hr⟩
          have hlt : t < us.length := (List.getElem?_eq_some_iff.1 hu).1
          rw [Array.getElem?_append_left (by simpa using hlt)]
          simpa using hu
      · rintro e a' w' ⟨ex, tree', s', ι', rfl, he, hh, hk⟩
        have hend : LeavesInM { F with round := none } m P fn a'.tmps (CallEnd P ι w K) a'.defers .returning w' := by
          have hk' : resK P tree' s' fi.res (fun l => retK l s' K) = true := by cases ex <;> first | exact hk | cases hk
          obtain ⟨rs, hrs, hnd, hr⟩ := hh.df
          rw [hrs]
          refine leaves_marks rs w' hnd (fun r h => (hr r h).1) (fun w'' e1 e2 e3 e4 => ?_)
          have hw2 := hh.wr.shut (fun r h => (hr r h).1) e1 e2
          obtain ⟨av, v, e5, e6, e7⟩ := retK_ok hw2 hh.tr (hres ▸ hk')
          refine ⟨v, e5, v, ι', s', av, rfl, ⟨he.le, by rw [e1]; exact he.size, he.new, fun i hi hno => ?_, e3.trans he.os, e4.trans he.out⟩, hw2, e6, e7⟩
          rw [e2 i (fun hm => by have := (hr i hm).2.1; omega)]
          exact he.keep i hi hno
        cases ex with
        | normal => exact hend
        | ret => exact hend
        | exit id => cases hk
    · cases h3
  · cases h2
end Go.AM
