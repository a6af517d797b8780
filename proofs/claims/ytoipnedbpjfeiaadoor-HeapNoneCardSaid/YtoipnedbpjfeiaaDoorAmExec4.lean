/- What it is for the abstract machine's evaluation of code to hold of the model's machine. -/
import Derived.Test.YtoipnedbpjfeiaaDoorAmExec3
set_option linter.all false
set_option linter.unusedSectionVars false
set_option linter.unusedSimpArgs false
set_option linter.unusedVariables false
namespace Go.AM
variable [Orc]
/-- Where a frame stands. -/
structure Here (P : Program) (n0 : Nat) (fi : FI) (ι : Ren) (tree : PT AVal) (s : St) (a : Act) (w : World) : Prop where
  wr : WRel P ι s w
  tr : TRel ι fi.ntmps fi.ps tree a.tmps
  df : DefInv n0 ι w a.defers
  nz : n0 ≤ w.heap.size
/-- The loop whose round a frame is. -/
def RRel (ι : Ren) : Option Pos → Option Nat → Prop
  | none, none => True
  | some q, some l => ∃ p, ι q = some p ∧ p.blk = l
  | _, _ => False
theorem RRel.mono {ι ι' : Ren} (hl : Ren.le ι ι') : ∀ {x : Option Pos} {y : Option Nat}, RRel ι x y → RRel ι' x y
  | none, none, _ => trivial
  | some _, some _, ⟨p, h1, h2⟩ => ⟨p, hl _ _ h1, h2⟩
def exOf : Ex → Exit
  | .normal => .normal
  | .exit id => .exit id
  | .ret => .ret
def Post (P : Program) (n0 : Nat) (fi : FI) (ι : Ren) (w : World) (K : CodeK) : Exit → Act → World → Prop :=
  fun e a' w' => ∃ ex tree' s' ι', exOf ex = e ∧ Ext ι w ι' w' ∧ Here P n0 fi ι' tree' s' a' w' ∧ K ex tree' s' = true
/-- A frame's facts are its function's. -/
def FOk (P : Program) (fi : FI) : Prop := ∃ info, funInfo P fi.fn = some info ∧ info.ntmps = fi.ntmps ∧ info.ps = fi.ps
def Sound (P : Program) (rec : RecT) : Prop := ∀ c n0 fi tree s K F m ι a w, rec (compile P fi.ps fi.ntmps c) fi tree s K = true → FOk P fi → (∀ f, F.fn f) → F.depth = none → RRel ι fi.round F.round → Here P n0 fi ι tree s a w →
  c.wpIn F m P (Post P n0 fi ι w K) a w
/-- The answers that are known hold of the model: such a call leaves all that stands as it stands. -/
class OrcOk : Prop where
  info : ∀ (P : Program) (f : FuncId) (v : AVal), Orc.get P f = some v → ∃ fi, funInfo P f = some fi
  ok : ∀ (P : Program) (f : FuncId) (v : AVal), Orc.get P f = some v → ∀ (F : Fence) (n : Nat) (w : World), (∀ f, F.fn f) → F.depth = none → CallsIn F n P f #[] w fun e w' => ∃ u, e = .returned u ∧ VRel (fun _ => none) v u ∧ Ext (fun _ => none) w (fun _ => none) w'
/-- How a call ends. -/
def CallEnd (P : Program) (ι : Ren) (w : World) (K : VK) : Ending → World → Prop :=
  fun e w' => ∃ v ι' s' a, e = .returned v ∧ Ext ι w ι' w' ∧ WRel P ι' s' w' ∧ VRel ι' a v ∧ K a s' = true
theorem callsIn_turn {F : Fence} {n : Nat} {P : Program} {f : FuncId} {args : Array Value} {w : World} {R : Ending → World → Prop} (h : CallsIn { F with round := none } n P f args w R) : CallsIn F n P f args w R := h
/-- Marks alone: the frame leaves. -/
theorem leaves_marks {F : Fence} {n : Nat} {P : Program} {fn : Func} {tmps : Array Value} {R : Ending → World → Prop} : ∀ (rs : List Nat) (w : World), rs.Nodup → (∀ r ∈ rs, w.heap[r]? = some (.deferred (some []))) →
    (∀ w', w'.heap.size = w.heap.size → (∀ i, i ∉ rs → w'.heap[i]? = w.heap[i]?) → w'.os = w.os → w'.output = w.output → ∃ v, (results fn tmps).run P w' = .ok v w' ∧ R (.returned v) w') →
    LeavesInM F n P fn tmps R (rs.map fun r => { target := .collected r, args := #[] }) .returning w
  | [], w, _, _, h => by
    obtain ⟨v, h1, h2⟩ := h w rfl (fun _ _ => rfl) rfl rfl
    exact ⟨v, h1, h2⟩
  | r :: rs, w, hn, hr, h => by
    have h0 := hr r (by simp)
    have hlt := lt_of_get h0
    have hn' := List.nodup_cons.1 hn
    refine ⟨by simp, .inl ⟨r, { w with heap := w.heap.setIfInBounds r (.deferred none) }, rfl, ?_, ?_⟩⟩
    · have hg : (getObj r).run P w = .ok (.deferred (some [])) w := by simp [getObj, Sem.run, h0]
      simp only [Instr.takeDeferred, Sem.run_bind, hg, Result.andThen_ok, setObj_run (P := P) (o := .deferred none) h0 (by intro c t f e; cases e), Sem.run_pure]
    · refine leaves_marks rs _ hn'.2 (fun x hx => ?_) (fun w' e1 e2 e3 e4 => ?_)
      · have hne : r ≠ x := fun e => hn'.1 (e ▸ hx)
        simp [Array.getElem?_setIfInBounds_ne hne, hr x (by simp [hx])]
      · refine h w' (by simpa using e1) (fun i hi => ?_) e3 e4
        have hi1 : r ≠ i := fun e => hi (by simp [e])
        rw [e2 i (fun h => hi (by simp [h]))]
        simp [Array.getElem?_setIfInBounds_ne hi1]
end Go.AM
