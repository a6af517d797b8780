/- The seat's ground: the program's order, awake, and the calls that are known. -/
import Derived.KernelRfl
import Derived.Test.YtoipnedbpjfeiaaDoorProg
import Derived.Test.YtoipnedbpjfeiaaDoorAmReify
set_option linter.all false
set_option linter.unusedSectionVars false
set_option linter.unusedSimpArgs false
set_option linter.unusedVariables false
open Go Go.AM
namespace Go.Proofs
set_option maxRecDepth 1000000
theorem mixed : Tryd.prog.follows .mixedOrders = true := by kernel_rfl
/-- No call is known. -/
@[reducible] def noOrc : Orc := ⟨fun _ _ => none⟩
theorem noOrcOk : @OrcOk noOrc := @OrcOk.mk noOrc (fun _ _ _ h => nomatch h) (fun _ _ _ h => nomatch h)
noncomputable def st0 : St := { heap := .leaf, next := posOf 0 }
theorem awake_runs : @callF noOrc Tryd.prog (@exec noOrc Tryd.prog 100000) 9 [] st0 (fun v _ => v.boolK fun b => b) = true := by kernel_rfl
theorem awake_info : (match funInfo Tryd.prog 9 with | some _ => true | none => false) = true := by kernel_rfl
theorem wrel0 (w : World) : WRel Tryd.prog (fun _ => none) st0 w :=
  { objs := by intro b p h; cases h
    apart := by intro b b' p p' o o' h; cases h
    fresh := by intro b p h; cases h
    bound := by intro b p h; cases h }
/-- The calls that are known: awake answers true. -/
noncomputable instance seatOrc : Orc := ⟨fun P f => @ite (Option AVal) (P = Tryd.prog ∧ f = 9) (Classical.propDecidable _) (some (.bool true)) none⟩
theorem orc_awake : Orc.get Tryd.prog 9 = some (.bool true) := by
  show @ite (Option AVal) _ (Classical.propDecidable _) _ _ = _
  rw [if_pos ⟨rfl, rfl⟩]
theorem orc_ne {f : FuncId} (h : f ≠ 9) : Orc.get Tryd.prog f = none := by
  show @ite (Option AVal) _ (Classical.propDecidable _) _ _ = _
  rw [if_neg fun h' => h h'.2]
instance seatOk : OrcOk where
  info := by
    intro P f v h
    have h : @ite (Option AVal) (P = Tryd.prog ∧ f = 9) (Classical.propDecidable _) (some (.bool true)) none = some v := h
    split at h
    · rename_i hc
      obtain ⟨rfl, rfl⟩ := hc
      have := awake_info
      split at this
      · rename_i x hx
        exact ⟨x, hx⟩
      · cases this
    · cases h
  ok := by
    intro P f v h F n w hF hd
    have h : @ite (Option AVal) (P = Tryd.prog ∧ f = 9) (Classical.propDecidable _) (some (.bool true)) none = some v := h
    by_cases hc : P = Tryd.prog ∧ f = 9
    · rw [if_pos hc] at h
      obtain rfl : AVal.bool true = v := Option.some.inj h
      obtain ⟨rfl, rfl⟩ := hc
      have := @callF_sound noOrc noOrcOk Tryd.prog _ (@exec_sound noOrc noOrcOk Tryd.prog (fun rec hs => @draw_sound noOrc noOrcOk Tryd.prog rec mixed hs) 100000) F n 9 [] [] st0 w (fun _ => none) _ awake_runs hF hd (wrel0 w) .nil
      refine CallsIn.mono this ?_
      rintro e w' ⟨u, ι', s', a, rfl, he, hw', hv, hb⟩
      cases a with
      | bool b =>
        have hb : b = true := hb
        subst hb
        cases hv
        refine ⟨_, rfl, .bool _, ?_⟩
        refine { le := fun b p h => h, size := he.size, new := ?_, keep := ?_, os := he.os, out := he.out }
        · intro b p h
          cases h
        · intro i hi _
          refine he.keep i hi ?_
          intro b p h
          cases h
      | _ => cases hb
    · rw [if_neg hc] at h
      cases h
end Go.Proofs
