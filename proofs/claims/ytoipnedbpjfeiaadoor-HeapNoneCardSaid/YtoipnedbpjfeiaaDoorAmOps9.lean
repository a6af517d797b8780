/- The abstract machine's operations hold of the model's, part 9: every operation that calls no function of the program. -/
import Derived.Test.YtoipnedbpjfeiaaDoorAmOps8
set_option linter.all false
set_option linter.unusedSectionVars false
set_option linter.unusedSimpArgs false
set_option linter.unusedVariables false
namespace Go.AM
variable [Orc]
section
variable {P : Program} {ι : Ren} {s : St} {w : World} {K : VK}

theorem OORl.map {ρ : Operand → Option AVal} {ρc : Operand → Value} (hρ : ∀ x, ORl ι (ρ x) (ρc x)) (x : Option Operand) : OORl ι (x.map ρ) (x.map ρc) := by
  cases x with
  | none => simp [OORl]
  | some x => simpa [OORl] using hρ x
/-- No call of a function. -/
def noFn : Op → Bool
  | .call c => match c.callee with
    | .value _ => false
    | _ => true
  | _ => true
theorem invoke_builtin (b : Builtin) (ts : Array TypeId) (ty : TypeId) (cs : Array Bool) (args : Array Value) : invoke (.builtin b ts ty cs) args = builtin b ts ty cs args := rfl
theorem two {α β : Type} {l : Array α} {x y : α} (h : l.toList = [x, y]) (f : α → β) : l.map f = #[f x, f y] := by
  have : l = #[x, y] := by rw [← Array.toArray_toList (xs := l), h]
  subst this; simp
theorem one {α β : Type} {l : Array α} {x : α} (h : l.toList = [x]) (f : α → β) : l.map f = #[f x] := by
  have : l = #[x] := by rw [← Array.toArray_toList (xs := l), h]
  subst this; simp
theorem opK_fine {rec : RecT} {o : Oper} {ρ : Operand → Option AVal} {ρc : Operand → Value} (hn : noFn o.op = true) (h : opK P rec o.op ρ s K = true) (hw : WRel P ι s w) (hρ : ∀ x, ORl ι (ρ x) (ρc x)) :
    Fine P ι w K ((execOp ρc o).run P w) := by
  unfold execOp
  generalize o.op = op at hn h
  cases op with
  | move x => exact (show FineV P ι w K ((Sem.run P (pure (ρc x)) w)) from opMove_fine h hw (hρ x)).fine
  | assign x => exact (show FineV P ι w K ((Sem.run P (pure (ρc x)) w)) from opMove_fine h hw (hρ x)).fine
  | pick c a b =>
    have := (opPick_fine h hw (hρ c) (hρ a) (hρ b)).fine
    simpa using this
  | alloc t => exact (opAlloc_fine h hw).fine
  | box t x => exact (opBox_fine h hw (hρ x)).fine
  | build t ps => exact (opBuild_fine h hw (fun x _ => hρ x.2)).fine
  | buildSlice t n ps => exact (opBuildSlice_fine h hw (fun x _ => hρ x.2)).fine
  | insert t m k x => exact opMapSet_fine h hw (hρ m) (hρ k) (hρ x)
  | load t a => exact (opLoad_fine h hw (hρ a)).fine
  | store t a x => exact opStore_fine h hw (hρ a) (hρ x)
  | nilCheck x =>
    obtain ⟨b, off, a, hx, hr, hk⟩ := opNil_fine h (hρ x)
    simp only [hx, Sem.run_pure]
    exact ⟨_, w, ι, s, a, .inl rfl, Ext.refl ι w, hw, hx ▸ hr, hk⟩
  | binOp op t x y e => exact (opBin_fine h hw (hρ x) (hρ y)).fine
  | unOp op t x => exact (opUn_fine h hw (hρ x)).fine
  | convert a b x => exact (opConvert_fine h hw (hρ x)).fine
  | makeFunc f a c =>
    obtain ⟨g, hg, h1⟩ := optK_true.1 h
    obtain ⟨as, ha, h2⟩ := valsK_true (ρc := ρc) a.toList _ h1 (fun x _ => hρ x)
    obtain ⟨cs, hc, h3⟩ := valsK_true (ρc := ρc) c.toList _ h2 (fun x _ => hρ x)
    cases f with
    | func f =>
      cases hg
      refine (show FineV P ι w K _ from ?_).fine
      exact .same hw (.fn (by simpa using ha) (by simpa using hc)) h3
    | _ => cases hg
  | makeMap t r =>
    rcases ifK_true.1 h with ⟨hr, h1⟩ | ⟨_, h1⟩
    · rcases ifK_true.1 h1 with ⟨_, h2⟩ | ⟨_, h2⟩
      · cases r with
        | some r => cases hr
        | none => exact (opMakeMap_fine h2 hw).fine
      · cases h2
    · cases h1
  | makeSlice t l c => exact (opMakeSlice_fine h hw (hρ l) (hρ c)).fine
  | slice t x lo hi mx => exact (opSlice_fine h hw (hρ x) (OORl.map hρ lo) (OORl.map hρ hi) (OORl.map hρ mx)).fine
  | fieldAddr t x f => exact (opFieldAddr_fine h hw (hρ x)).fine
  | field t x f => exact (opField_fine h hw (hρ x)).fine
  | indexAddr t x i => exact (opIndexAddr_fine h hw (hρ x) (hρ i)).fine
  | index t x i => exact (opIndex_fine h hw (hρ x) (hρ i)).fine
  | lookup t m i ok => exact (opLookup_fine h hw (hρ m) (hρ i)).fine
  | mapUpdate t m k x => exact opMapSet_fine h hw (hρ m) (hρ k) (hρ x)
  | extract x i => exact (opExtract_fine h hw (hρ x)).fine
  | call c =>
    obtain ⟨callee, args, ats⟩ := c
    cases callee with
    | value f => cases hn
    | invoke r n => cases h
    | builtin b =>
      have hred : ∃ bs, (Sem.run P (do let d ← resolve ρc ⟨.builtin b, args, ats⟩ o.type; invoke d.target d.args) w) = (builtin b ats o.type bs (args.map ρc)).run P w := by
        have hr : ∃ bs, resolve ρc ⟨.builtin b, args, ats⟩ o.type = pure ⟨.builtin b ats o.type bs, args.map ρc⟩ := ⟨_, rfl⟩
        obtain ⟨bs, hr⟩ := hr
        exact ⟨bs, by rw [hr]; simp only [Sem.run_bind, Sem.run_pure, Result.andThen_ok, invoke_builtin]⟩
      obtain ⟨bs, hred⟩ := hred
      have goal : Fine P ι w K ((builtin b ats o.type bs (args.map ρc)).run P w) → Fine P ι w K (Sem.run P (do let d ← resolve ρc ⟨.builtin b, args, ats⟩ o.type; invoke d.target d.args) w) := fun h => hred.symm ▸ h
      refine goal ?_
      have h : callOp P rec ⟨.builtin b, args, ats⟩ ρ s K = true := h
      cases b with
      | append =>
        simp only [callOp] at h
        split at h
        · rename_i x y hl
          rw [two hl]
          exact (opAppend_fine h hw (hρ x) (hρ y)).fine
        · cases h
      | len =>
        simp only [callOp] at h
        split at h
        · rename_i x hl
          rw [one hl]
          exact (opLen_fine h hw (hρ x)).fine
        · cases h
      | copy =>
        simp only [callOp] at h
        split at h
        · rename_i x y hl
          rw [two hl]
          exact (opCopy_fine h hw (hρ x) (hρ y)).fine
        · cases h
      | min =>
        obtain ⟨l, hl, h1⟩ := valsK_true (ρc := ρc) args.toList _ h (fun x _ => hρ x)
        exact (opMin_fine h1 hw (by simpa using hl)).fine
      | max =>
        obtain ⟨l, hl, h1⟩ := valsK_true (ρc := ρc) args.toList _ h (fun x _ => hρ x)
        exact (opMax_fine h1 hw (by simpa using hl)).fine
      | clear =>
        simp only [callOp] at h
        split at h
        · rename_i x hl
          rw [one hl]
          exact (opClear_fine h hw (hρ x)).fine
        · cases h
      | _ => cases h
  | _ => cases h
end
end Go.AM
