/- The abstract machine's compiled code does what the code does. -/
import Derived.Test.YtoipnedbpjfeiaaDoorAmCore
set_option linter.all false
set_option linter.unusedSectionVars false
set_option linter.unusedSimpArgs false
set_option linter.unusedVariables false
namespace Go.AM
variable [Orc]
section
variable {P : Program} {rec : RecT} {prev : List (Option Tmp)} {γ : RO → Option AVal} {s : St} {K : VK}
theorem mvalsK_eq : ∀ (l : List Operand) (k : List AVal → Bool), mvalsK γ (l.map (resolveO prev)) k = valsK (fun x => γ (resolveO prev x)) l k
  | [], k => rfl
  | x :: l, k => by
    show (optK (γ (resolveO prev x)) fun v => mvalsK γ (l.map (resolveO prev)) fun r => k (v :: r)) = optK (γ (resolveO prev x)) fun v => valsK _ l fun r => k (v :: r)
    congr 1
    funext v
    exact mvalsK_eq l _
theorem mfillK_eq : ∀ (l : List (Nat × Nat × Operand)) (cs : List AVal) (k : List AVal → Bool), mfillK γ (mparts prev l) cs k = fillK (fun x => γ (resolveO prev x)) l cs k
  | [], cs, k => rfl
  | x :: l, cs, k => by
    show (optK (γ (resolveO prev x.2.2)) fun v => noTup v (v.cellsK fun vs => lenK vs 0 fun m => ifK (Nat.beq m x.2.1) (putAtK vs cs x.1 fun cs => mfillK γ (mparts prev l) cs k) (fail 29))) =
      (optK (γ (resolveO prev x.2.2)) fun v => noTup v (v.cellsK fun vs => lenK vs 0 fun m => ifK (Nat.beq m x.2.1) (putAtK vs cs x.1 fun cs => fillK (fun x => γ (resolveO prev x)) l cs k) (fail 29)))
    have : (fun cs => mfillK γ (mparts prev l) cs k) = (fun cs => fillK (fun x => γ (resolveO prev x)) l cs k) := funext fun cs => mfillK_eq l cs k
    rw [this]
theorem mplacesA_eq {es : Nat} : ∀ (l : List (Nat × Operand)), mplacesA es (l.map fun x => (x.1, resolveO prev x.2)) = mparts prev (placesA es l)
  | [] => rfl
  | (i, x) :: l => by
    show (i * es, es, resolveO prev x) :: mplacesA es (l.map fun x => (x.1, resolveO prev x.2)) = (i * es, es, resolveO prev x) :: mparts prev (placesA es l)
    rw [mplacesA_eq l]
theorem omap_eq (x : Option Operand) : (x.map (resolveO prev)).map γ = x.map fun x => γ (resolveO prev x) := by cases x <;> rfl
theorem mop_eq (o : Op) : mopK P rec (mop P prev o) γ s K = opK P rec o (fun x => γ (resolveO prev x)) s K := by
  cases o with
  | build t ps =>
    show (optK ((buildPlan P t ps).map (mparts prev)) fun pl => optK (zeroCells P t) fun zs => mfillK γ pl zs fun cs => K (.agg cs) s) = optK (buildPlan P t ps) fun pl => optK (zeroCells P t) fun zs => fillK _ pl zs fun cs => K (.agg cs) s
    cases buildPlan P t ps with
    | none => rfl
    | some pl =>
      show (optK (zeroCells P t) fun zs => mfillK γ (mparts prev pl) zs fun cs => K (.agg cs) s) = optK (zeroCells P t) fun zs => fillK _ pl zs fun cs => K (.agg cs) s
      simp only [mfillK_eq]
  | buildSlice t n ps =>
    simp only [mop, mopK, opK, opBuildSlice, mplacesA_eq, mfillK_eq]
  | makeFunc f a c => simp only [mop, mopK, opK, mvalsK_eq]
  | makeMap t r =>
    show ifK (r.isNone && isEK P t .map) _ _ = ifK r.isNone _ _
    cases r with
    | none => cases h : isEK P t .map <;> rfl
    | some r => rfl
  | slice t x lo hi mx =>
    simp only [mop, mopK, opK, opSlice, omap_eq]
  | call c =>
    obtain ⟨callee, args, ats⟩ := c
    cases callee with
    | value f => simp only [mop, mcall, mopK, opK, callOp, mvalsK_eq]
    | invoke r n => rfl
    | builtin b =>
      cases b with
      | append =>
        simp only [mop, mcall, opK, callOp]
        split <;> rfl
      | len =>
        simp only [mop, mcall, opK, callOp]
        split <;> rfl
      | copy =>
        simp only [mop, mcall, opK, callOp]
        split <;> rfl
      | min => simp only [mop, mcall, mopK, opK, callOp, mvalsK_eq]
      | max => simp only [mop, mcall, mopK, opK, callOp, mvalsK_eq]
      | clear =>
        simp only [mop, mcall, opK, callOp]
        split <;> rfl
      | _ => rfl
  | _ => rfl
theorem mguard_eq {all : Array Oper} {o : Oper} {x y : Bool} : mguardK (mguard all prev o) γ x y = guardK all o (fun x => γ (resolveO prev x)) x y := by
  unfold mguard guardK mguardK
  cases o.guard with
  | none => rfl
  | some g =>
    show (optK ((guardTmp all o).map fun g => (resolveO prev (.tmp g.1), g.2)) _) = optK (guardTmp all o) _
    cases guardTmp all o <;> rfl
end
theorem mitems_eq {P : Program} {rec : RecT} {fi : FI} {all : Array Oper} : ∀ (l : List DItem) (prev : List (Option Tmp)) (locals : List AVal) (tree : PT AVal) (s : St) (k : PT AVal → St → Bool),
    mitemsK P rec (mitems P fi.ps all l prev).2 (mitems P fi.ps all l prev).1 locals tree s k = itemsK P rec fi all l prev locals tree s k
  | [], prev, locals, tree, s, k => rfl
  | .run o :: r, prev, locals, tree, s, k => by
    show mguardK (mguard all prev o) (fun x => getO tree locals x) (mopK P rec (mop P prev o.op) (fun x => getO tree locals x) s fun v s => mitemsK P rec (mitems P fi.ps all r (o.dst :: prev)).2 (mitems P fi.ps all r (o.dst :: prev)).1 (v :: locals) tree s k)
        (mitemsK P rec (mitems P fi.ps all r (o.dst :: prev)).2 (mitems P fi.ps all r (o.dst :: prev)).1 (.tup [] :: locals) tree s k) =
      guardK all o (fun x => getO tree locals (resolveO prev x)) (opK P rec o.op (fun x => getO tree locals (resolveO prev x)) s fun v s => itemsK P rec fi all r (o.dst :: prev) (v :: locals) tree s k)
        (itemsK P rec fi all r (o.dst :: prev) (.tup [] :: locals) tree s k)
    rw [mguard_eq, mop_eq, mitems_eq r]
    simp only [mitems_eq r]
  | .chk o :: r, prev, locals, tree, s, k => by
    show mguardK (mguard all prev o) (fun x => getO tree locals x)
        (mopK P rec (mop P prev o.op) (fun x => getO tree locals x) s fun v _ => optK (o.dst.map fun d => resolveO prev (.tmp d)) fun x => optK (getO tree locals x) fun u => ifK (eqVal 8 v u) (mitemsK P rec (mitems P fi.ps all r prev).2 (mitems P fi.ps all r prev).1 locals tree s k) (fail 49))
        (mitemsK P rec (mitems P fi.ps all r prev).2 (mitems P fi.ps all r prev).1 locals tree s k) =
      guardK all o (fun x => getO tree locals (resolveO prev x))
        (opK P rec o.op (fun x => getO tree locals (resolveO prev x)) s fun v _ => optK o.dst fun d => optK (getO tree locals (resolveO prev (.tmp d))) fun u => ifK (eqVal 8 v u) (itemsK P rec fi all r prev locals tree s k) (fail 49))
        (itemsK P rec fi all r prev locals tree s k)
    rw [mguard_eq, mop_eq, mitems_eq r]
    cases o.dst <;> rfl
  | .fresh :: r, prev, locals, tree, s, k => by
    show @Option.rec AObj (fun _ => Bool) (mitemsK P rec (mitems P fi.ps all r prev).2 (mitems P fi.ps all r prev).1 locals tree s k) (fun _ => fail 56) (PT.get s.next s.heap) =
      @Option.rec AObj (fun _ => Bool) (itemsK P rec fi all r prev locals tree s k) (fun _ => fail 56) (PT.get s.next s.heap)
    rw [mitems_eq r]
/-- A compiled region. -/
theorem region_eq {P : Program} {rec : RecT} {fi : FI} {id : Nat} {ops : Array Oper} {draw : Bool} {tree : PT AVal} {s : St} {K : CodeK} (h : execF P rec (compile P fi.ps fi.ntmps (.region id ops draw)) fi tree s K = true) :
    regionK P rec fi ops draw tree s (fun tree s => K .normal tree s) = true := by
  unfold compile at h
  unfold regionK
  cases hl : itemsOf P ops draw with
  | none => rw [hl] at h; cases h
  | some l =>
    rw [hl] at h
    show ifK (dstsOk fi.ntmps ops) _ _ = true
    cases hd : dstsOk fi.ntmps ops with
    | false => simp only [hd] at h; cases h
    | true =>
      simp only [hd, if_true] at h
      have h : mitemsK P rec (mitems P fi.ps ops l []).2 (mitems P fi.ps ops l []).1 [] tree s (fun tree s => K .normal tree s) = true := h
      rw [mitems_eq] at h
      exact h
end Go.AM
