/- The abstract machine's drawn regions, part 1: operations that only compute, loads, and operations that make memory. -/
import Derived.Test.YtoipnedbpjfeiaaDoorAmExec9
import Derived.OrdersIn
set_option linter.all false
set_option linter.unusedSectionVars false
set_option linter.unusedSimpArgs false
set_option linter.unusedVariables false
namespace Go.AM
variable [Orc]
section
variable {P : Program} {rec : RecT} {ι : Ren} {s : St} {K : VK}
/-- An operation that only computes answers the same whatever the state. -/
theorem opK_calm {o : Op} {ρ : Operand → Option AVal} (hc : opClass P o = 0) (s s' : St) (K : VK) : opK P rec o ρ s K = opK P rec o ρ s' (fun v _ => K v s) := by
  cases o with
  | move x => rfl
  | assign x => rfl
  | pick c a b => rfl
  | build t ps => rfl
  | nilCheck x => rfl
  | binOp op t x y e =>
    show opBin P op t (ρ x) (ρ y) s K = opBin P op t (ρ x) (ρ y) s' (fun v _ => K v s)
    rfl
  | unOp op t x => rfl
  | makeFunc f a c => rfl
  | slice t x lo hi mx => rfl
  | fieldAddr t x f => rfl
  | field t x f => rfl
  | indexAddr t x i => rfl
  | index t x i => rfl
  | extract x i => rfl
  | convert a b x =>
    show opConvert P a b (ρ x) s K = opConvert P a b (ρ x) s' (fun v _ => K v s)
    unfold opConvert
    have hc : (match convKind P a b with | .int _ => 0 | .same => 0 | _ => 3) = 0 := hc
    generalize convKind P a b = ck at hc
    cases ck with
    | int k => rfl
    | same => rfl
    | _ => simp at hc
  | call c =>
    obtain ⟨callee, args, ats⟩ := c
    cases callee with
    | value f => simp [opClass] at hc
    | invoke r n => simp [opClass] at hc
    | builtin b =>
      cases b with
      | len =>
        show (match args.toList with | [x] => opLen P ats (ρ x) s K | _ => fail 46) = (match args.toList with | [x] => opLen P ats (ρ x) s' (fun v _ => K v s) | _ => fail 46)
        split
        · unfold opLen
          have hc : (match lenInfo P ats with | some (.map, _) => 3 | some _ => 0 | none => 3) = 0 := hc
          cases hl : lenInfo P ats with
          | none => rfl
          | some e =>
            rw [hl] at hc
            obtain ⟨tk, n⟩ := e
            cases tk with
            | map => simp at hc
            | _ => rfl
        · rfl
      | min => rfl
      | max => rfl
      | _ => simp [opClass] at hc
  | _ => simp [opClass] at hc
theorem partK_det {n : Option Nat} {cs : List AVal} {off : Nat} {k : AVal → Bool} (h : partK n cs off k = true) : ∃ v, k v = true ∧ ∀ k' : AVal → Bool, k' v = true → partK n cs off k' = true := by
  cases n with
  | none =>
    obtain ⟨v, hv, hk⟩ := nthK_true.1 (show nthK cs off k = true from h)
    exact ⟨v, hk, fun k' hk' => nthK_true.2 ⟨v, hv, hk'⟩⟩
  | some n =>
    obtain ⟨hle, hk⟩ := segK_true.1 (show segK cs off n (fun l => k (.agg l)) = true from h)
    exact ⟨_, hk, fun k' hk' => segK_true.2 ⟨hle, hk'⟩⟩
/-- One heap says all that another one says. -/
def Grown (s s' : St) : Prop := ∀ b x, PT.get b s.heap = some x → PT.get b s'.heap = some x
theorem Grown.refl (s : St) : Grown s s := fun _ _ h => h
theorem Grown.trans {s s' s'' : St} (h : Grown s s') (h' : Grown s' s'') : Grown s s'' := fun b x e => h' b x (h b x e)
/-- A load answers the same in a heap that says more. -/
theorem opLoad_det {t : TypeId} {x : Option AVal} (h : opLoad P t x s K = true) : ∃ v, K v s = true ∧ ∀ s', Grown s s' → ∀ K' : VK, K' v s' = true → opLoad P t x s' K' = true := by
  obtain ⟨n, hn, h1⟩ := optK_true.1 h
  obtain ⟨a, ha, h2⟩ := optK_true.1 h1
  obtain ⟨b, off, rfl, h3⟩ := AVal.ptrK_true.1 h2
  obtain ⟨cs, ro, hc, h4⟩ := cellsK_true.1 h3
  obtain ⟨v, hv, hd⟩ := partK_det h4
  refine ⟨v, hv, fun s' hg K' hk => optK_true.2 ⟨n, hn, optK_true.2 ⟨_, ha, AVal.ptrK_true.2 ⟨b, off, rfl, cellsK_true.2 ⟨cs, ro, hg _ _ hc, hd _ hk⟩⟩⟩⟩⟩
theorem opClass_load {o : Op} (h : opClass P o = 1) : ∃ t a, o = .load t a := by
  cases o with
  | load t a => exact ⟨t, a, rfl⟩
  | convert a b x =>
    have hc : (match convKind P a b with | .int _ => 0 | .same => 0 | _ => 3) = 1 := h
    split at hc <;> simp at hc
  | call c =>
    obtain ⟨callee, args, ats⟩ := c
    cases callee with
    | value f => simp [opClass] at h
    | invoke r n => simp [opClass] at h
    | builtin b =>
      cases b with
      | len =>
        have hc : (match lenInfo P ats with | some (.map, _) => 3 | some _ => 0 | none => 3) = 1 := h
        split at hc <;> simp at hc
      | _ => simp [opClass] at h
  | _ => simp [opClass] at h
/-- A row that is laid: its object, and its value by its name. -/
def Lays (P : Program) (ι : Ren) (x : AObj) (v : Pos → AVal) (r : World → Result Next) : Prop :=
  ∀ w, ∃ obj u sz, r w = .ok (.value u) { w with heap := w.heap.push obj } ∧ ∀ (ι' : Ren) (q : Pos), Ren.le ι ι' → ι' q = some ⟨w.heap.size, 0, sz, false⟩ →
    VRel ι' (v q) u ∧ ORel P ι' { w with heap := w.heap.push obj } ⟨w.heap.size, 0, sz, false⟩ x
theorem lays_cells {l : List AVal} {v : Pos → AVal} {r : World → Result Next} (hs : ∀ x ∈ l, x.scalar = true)
    (h : ∀ w, ∃ (c : Array Value) (t : TypeId) (u : Value), VRels ι l c.toList ∧ r w = .ok (.value u) { w with heap := w.heap.push (.cells c t) } ∧ ∀ (ι' : Ren) (q : Pos), ι' q = some ⟨w.heap.size, 0, c.size, false⟩ → VRel ι' (v q) u) :
    Lays P ι (.cells l false) v r := by
  intro w
  obtain ⟨c, t, u, hc, hr, hv⟩ := h w
  refine ⟨_, u, c.size, hr, fun ι' q hle hq => ⟨hv ι' q hq, ?_⟩⟩
  have hl := hc.length
  exact ORel.cells (p := ⟨w.heap.size, 0, c.size, false⟩) (c := c) (t := t) (fr := (0, 0)) (by simp) rfl (by simp [hl]) (hc.cellsAt.mono hle) hs (fun _ i _ => by simp)
theorem fillK_det {ρ : Operand → Option AVal} : ∀ (pl : List (Nat × Nat × Operand)) (cs : List AVal) (k : List AVal → Bool), fillK ρ pl cs k = true → ∃ cs', k cs' = true ∧ ∀ k' : List AVal → Bool, k' cs' = true → fillK ρ pl cs k' = true
  | [], cs, k, h => ⟨cs, h, fun k' h' => h'⟩
  | p :: pl, cs, k, h => by
    have h : (optK (ρ p.2.2) fun v => noTup v (v.cellsK fun vs => lenK vs 0 fun m => ifK (Nat.beq m p.2.1) (putAtK vs cs p.1 fun cs => fillK ρ pl cs k) (fail 29))) = true := h
    obtain ⟨v, hv, h⟩ := optK_true.1 h
    obtain ⟨ht, h⟩ := noTup_true.1 h
    rw [cellsK_val, lenK_eq] at h
    rcases ifK_true.1 h with ⟨hm, h⟩ | ⟨_, h⟩
    · obtain ⟨hle, h⟩ := putAtK_true.1 h
      obtain ⟨cs', h1, h2⟩ := fillK_det pl _ k h
      refine ⟨cs', h1, fun k' hk' => ?_⟩
      show (optK (ρ p.2.2) fun v => noTup v (v.cellsK fun vs => lenK vs 0 fun m => ifK (Nat.beq m p.2.1) (putAtK vs cs p.1 fun cs => fillK ρ pl cs k') (fail 29))) = true
      refine optK_true.2 ⟨v, hv, noTup_true.2 ⟨ht, ?_⟩⟩
      rw [cellsK_val, lenK_eq]
      exact ifK_true.2 (.inl ⟨hm, putAtK_true.2 ⟨hle, h2 k' hk'⟩⟩)
    · cases h
theorem alloc_form {o : Oper} {ρ : Operand → Option AVal} (hc : opClass P o.op = 2) (h : opK P rec o.op ρ s K = true) :
    ∃ x v, x.live = true ∧ K (v s.next) { heap := PT.set s.next x s.heap, next := s.next.succ } = true ∧
      ∀ ι ρc, (∀ x, ORl ι (ρ x) (ρc x)) → Lays P ι x v (fun w => (execOp ρc o).run P w) := by
  unfold execOp
  generalize o.op = op at hc h
  cases op with
  | alloc t =>
    obtain ⟨cs, hcs, h1⟩ := optK_true.1 (show optK (zeroCells P t) (fun cs => newCellsK cs s K) = true from h)
    unfold newCellsK at h1
    rw [allocK_eq] at h1
    refine ⟨.cells cs false, fun q => .ptr q 0, rfl, h1, fun ι ρc _ => ?_⟩
    obtain ⟨a, ha, rfl⟩ := zeroCells_some hcs
    refine lays_cells (zeroV_scalars ha) fun w => ?_
    obtain ⟨v, hv, hr⟩ := run_zeroA (ι := ι) (w := w) ha
    refine ⟨v.cells, t, _, hr.cells, ?_, fun ι' q hq => .ptr (p := ⟨w.heap.size, 0, v.cells.size, false⟩) (off := 0) hq⟩
    simp only [Instr.alloc, newVar, newRow, Sem.run_bind, hv, Result.andThen_ok, run_newObj, Sem.run_pure]
  | box t x =>
    obtain ⟨a, ha, h1⟩ := optK_true.1 (show optK (ρ x) _ = true from h)
    obtain ⟨ht, h2⟩ := noTup_true.1 h1
    rw [cellsK_val] at h2
    unfold newCellsK at h2
    rw [allocK_eq] at h2
    refine ⟨.cells a.cells false, fun q => .ptr q 0, rfl, h2, fun ι ρc hρ => ?_⟩
    have hr := hρ x a ha
    refine lays_cells (hr.cells_scalar ht) fun w => ?_
    refine ⟨(ρc x).cells, t, _, hr.cells, ?_, fun ι' q hq => .ptr (p := ⟨w.heap.size, 0, (ρc x).cells.size, false⟩) (off := 0) hq⟩
    simp only [Instr.box, newVar, newRow, Sem.run_bind, run_newObj, Result.andThen_ok, Sem.run_pure]
  | makeMap t r =>
    rcases ifK_true.1 (show ifK r.isNone _ _ = true from h) with ⟨hr, h1⟩ | ⟨_, h1⟩
    · rcases ifK_true.1 h1 with ⟨_, h2⟩ | ⟨_, h2⟩
      · cases r with
        | some r => cases hr
        | none =>
          rw [allocK_eq] at h2
          refine ⟨.map [] 0, fun q => .map q, rfl, h2, fun ι ρc hρ w => ?_⟩
          refine ⟨.map #[] 0, .map (some w.heap.size), 0, ?_, fun ι' q _ hq => ⟨VRel.map (p := ⟨w.heap.size, 0, 0, false⟩) hq, .map (es' := #[]) (by simp) rfl (fun i e h => by simp at h) rfl⟩⟩
          simp [Instr.makeMap]
      · cases h2
    · cases h1
  | makeSlice t l c =>
    have h : opMakeSlice P t (ρ l) (ρ c) s K = true := h
    obtain ⟨e, he, h⟩ := optK_true.1 h
    obtain ⟨zs, hzs, h⟩ := optK_true.1 h
    obtain ⟨el, inf, hd, hel, rfl⟩ := slcInfo_some he
    rw [slcElem_of hd] at hzs
    simp only [Option.bind_some] at hzs
    rw [lenK_eq] at h
    rcases ifK_true.1 h with ⟨hzn, h⟩ | ⟨_, h⟩
    · have hzn : zs.length = inf.size := by simpa using Nat.eq_of_beq_eq_true hzn
      obtain ⟨a, ha, h⟩ := optK_true.1 h
      obtain ⟨b, hb, h⟩ := optK_true.1 h
      obtain ⟨j, n, rfl, h5⟩ := AVal.intK_true.1 h
      obtain ⟨k, m, rfl, h6⟩ := AVal.intK_true.1 h5
      obtain ⟨n', rfl, h7⟩ := idxK_true.1 h6
      obtain ⟨m', rfl, h8⟩ := idxK_true.1 h7
      clear h h5 h6 h7
      rcases ifK_true.1 h8 with ⟨h1, h9⟩ | ⟨_, h9⟩
      · rcases ifK_true.1 h9 with ⟨h2, h10⟩ | ⟨_, h10⟩
        · rcases ifK_true.1 h10 with ⟨h3, h11⟩ | ⟨_, h11⟩
          · rw [repK_eq, allocK_eq, List.append_nil] at h11
            refine ⟨.cells (List.replicate m' zs).flatten false, fun q => .slice q 0 n' (.lim m'), rfl, h11, fun ι ρc hρ => ?_⟩
            have h1 : n' ≤ m' := Nat.le_of_ble_eq_true h1
            have h2 : m' * inf.bytes ≤ 1099511627776 := Nat.le_of_ble_eq_true h2
            have h3 : m' ≤ 1099511627776 := Nat.le_of_ble_eq_true h3
            have hra := hρ l _ ha
            have hrb := hρ c _ hb
            generalize hvl : ρc l = vl at hra
            generalize hvc : ρc c = vc at hrb
            cases hra; cases hrb
            have hsc : ∀ x ∈ zs, x.scalar = true := by
              obtain ⟨a, ha, rfl⟩ := zeroCells_some hzs
              exact zeroV_scalars ha
            refine lays_cells (rep_scalars hsc m') fun w => ?_
            obtain ⟨v, hv, hvz, _⟩ := run_zeroCells (ι := ι) (w := w) hzs
            have hm2 : ((inf.bytes * (m' : Int)) : Int) = ((m' * inf.bytes : Nat) : Int) := by rw [Int.natCast_mul, Int.mul_comm]
            have hbig : ¬ ((m' : Int) < 0 ∨ (inf.bytes : Int) * (m' : Int) > 2 ^ 48) := by rw [hm2]; omega
            have hcells : ∃ cs : Array Value, VRels ι (List.replicate m' zs).flatten cs.toList ∧
                ((do let zero ← if m' * inf.size = 0 then pure #[] else do pure (← zeroValue el).cells
                     let a ← newRow el ((Array.range (m' * inf.size)).map (zero[· % zero.size]!))
                     pure (Value.slice (some a) n' m')) : Sem Value).run P w = .ok (.slice (some ⟨w.heap.size, 0, none⟩) n' m') { w with heap := w.heap.push (.cells cs el) } := by
              by_cases h0 : m' * inf.size = 0
              · refine ⟨#[], ?_, ?_⟩
                · have : (List.replicate m' zs).flatten = [] := by
                    apply List.eq_nil_of_length_eq_zero
                    simp [hzn, h0]
                  rw [this]; exact .nil
                · have hr0 : Array.range 0 = #[] := by simp [Array.range]
                  simp [h0, newRow, hr0]
              · refine ⟨(Array.range (m' * inf.size)).map (v.cells[· % v.cells.size]!), by rw [← hzn]; exact hvz.rep m', ?_⟩
                simp [h0, newRow, hv]
            obtain ⟨cs, hcs, hrun⟩ := hcells
            refine ⟨cs, el, .slice (some ⟨w.heap.size, 0, none⟩) n' m', hcs, ?_, fun ι' q hq => VRel.slice (p := ⟨w.heap.size, 0, cs.size, false⟩) (off := 0) hq⟩
            have hc1 : ((decide ((m' : Int) < 0) || decide ((inf.bytes : Int) * (m' : Int) > 2 ^ 48)) || decide ((n' : Int) < 0) || decide ((n' : Int) > (m' : Int))) = false := by
              simp only [Bool.or_eq_false_iff, decide_eq_false_iff_not]
              refine ⟨⟨⟨?_, ?_⟩, ?_⟩, ?_⟩ <;> omega
            simp only [hvl, hvc, Instr.makeSlice, asInt, asIntOf, Sem.run_bind, run_underlyingA hd, Result.andThen_ok, Sem.run_pure, run_typeInfoA hel, wrap_nat h3, wrap_nat (Nat.le_trans h1 h3), hc1,
              Bool.false_eq_true, if_false, run_askRoom, run_sizeOfA (tySize_info hel), Int.toNat_natCast]
            have := congrArg (fun r => r.andThen fun v w => Result.ok (Next.value v) w) hrun
            simpa using this
          · cases h11
        · cases h10
      · cases h9
    · cases h
  | buildSlice t len parts =>
    have h : opBuildSlice P t len parts ρ s K = true := h
    obtain ⟨e, he, h⟩ := optK_true.1 h
    obtain ⟨zs, hzs, h⟩ := optK_true.1 h
    obtain ⟨el, inf, hd, hel, rfl⟩ := slcInfo_some he
    rw [slcElem_of hd] at hzs
    simp only [Option.bind_some] at hzs
    rw [lenK_eq] at h
    rcases ifK_true.1 h with ⟨hzn, h⟩ | ⟨_, h⟩
    · have hzn : zs.length = inf.size := by simpa using Nat.eq_of_beq_eq_true hzn
      rcases ifK_true.1 h with ⟨hsm, h⟩ | ⟨_, h⟩
      · have hsm : len * inf.size ≤ 16777216 := Nat.le_of_ble_eq_true hsm
        rw [repK_eq, List.append_nil] at h
        obtain ⟨cs, hcs, hdet⟩ := fillK_det _ _ _ h
        rw [allocK_eq] at hcs
        refine ⟨.cells cs false, fun q => .slice q 0 len (.lim len), rfl, hcs, fun ι ρc hρ => ?_⟩
        have hsc : ∀ x ∈ zs, x.scalar = true := by
          obtain ⟨a, ha, rfl⟩ := zeroCells_some hzs
          exact zeroV_scalars ha
        obtain ⟨h3, h4⟩ := placesA_ok (es := inf.size) parts.toList
        have hall : ∀ w : World, ∃ (c : Array Value), VRels ι cs c.toList ∧ (∀ x ∈ cs, x.scalar = true) ∧ Sem.run P (do pure (Next.value (← Instr.buildSlice t len (parts.map fun (i, x) => (i, ρc x))))) w =
            .ok (.value (.slice (some ⟨w.heap.size, 0, none⟩) len len)) { w with heap := w.heap.push (.cells c el) } := by
          intro w
          obtain ⟨v, hv, hvz, _⟩ := run_zeroCells (ι := ι) (w := w) hzs
          have hmap : (parts.map fun (i, x) => (i, ρc x)).toList = parts.toList.map fun x => (x.1, ρc x.2) := by simp
          have hzero : ∃ z : Array Value, ((len * inf.size = 0 ∧ z = #[]) ∨ (¬ len * inf.size = 0 ∧ z = v.cells)) ∧
              VRels ι (List.replicate len zs).flatten ((Array.range (len * inf.size)).map (z[· % z.size]!)).toList := by
            by_cases h0 : len * inf.size = 0
            · refine ⟨#[], .inl ⟨h0, rfl⟩, ?_⟩
              have : (List.replicate len zs).flatten = [] := by
                apply List.eq_nil_of_length_eq_zero
                simp [hzn, h0]
              rw [this, h0]
              have hr0 : Array.range 0 = #[] := by simp [Array.range]
              rw [hr0]
              simpa using VRels.nil (ι := ι)
            · exact ⟨v.cells, .inr ⟨h0, rfl⟩, by rw [← hzn]; exact hvz.rep len⟩
          obtain ⟨z, hz1, hz2⟩ := hzero
          obtain ⟨cs', c, f1, f2, f3, f4⟩ := fillK_ok (place := fun i => some (i * inf.size, inf.size)) (ρc := ρc) parts.toList _ _ _ (fun c => @decide (c = cs) (Classical.propDecidable _)) (fun x _ => hρ x.2) h3 (fun j x hx => ⟨_, _, h4 j x hx, rfl⟩) hz2 (rep_scalars hsc len) (hdet _ (by simp))
          have f4 : cs' = cs := by simpa using f4
          subst f4
          refine ⟨c, f2, f3, ?_⟩
          have hn : ¬ len * inf.size > 2 ^ 24 := by omega
          simp only [Instr.buildSlice, Sem.run_bind, run_underlyingA hd, Result.andThen_ok, run_sizeOfA (tySize_info hel), hn, if_false, hmap]
          rcases hz1 with ⟨h0, rfl⟩ | ⟨h0, rfl⟩
          · simp only [h0, if_true, Sem.run_bind, Sem.run_pure, Result.andThen_ok] at f1 ⊢
            rw [f1]
            simp [newRow]
          · simp only [h0, if_false, Sem.run_bind, hv, Sem.run_pure, Result.andThen_ok]
            rw [f1]
            simp [newRow]
        intro w
        obtain ⟨_, _, hs, _⟩ := hall w
        exact lays_cells hs (fun w => by
          obtain ⟨c, h1, _, h2⟩ := hall w
          exact ⟨c, el, _, h1, h2, fun ι' q hq => VRel.slice (p := ⟨w.heap.size, 0, c.size, false⟩) (off := 0) hq⟩) w
      · cases h
    · cases h
  | convert a b x =>
    have hc : (match convKind P a b with | .int _ => 0 | .same => 0 | _ => 3) = 2 := hc
    split at hc <;> simp at hc
  | call c =>
    obtain ⟨callee, args, ats⟩ := c
    cases callee with
    | value f => simp [opClass] at hc
    | invoke r n => simp [opClass] at hc
    | builtin b =>
      cases b with
      | len =>
        have hc : (match lenInfo P ats with | some (.map, _) => 3 | some _ => 0 | none => 3) = 2 := hc
        split at hc <;> simp at hc
      | _ => simp [opClass] at hc
  | _ => simp [opClass] at hc
end
end Go.AM
