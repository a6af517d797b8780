/- The abstract machine's drawn regions, part 2: operands; which operations stand ahead of which; plans. -/
import Derived.Test.YtoipnedbpjfeiaaDoorAmDraw1
set_option linter.all false
set_option linter.unusedSectionVars false
set_option linter.unusedSimpArgs false
set_option linter.unusedVariables false
namespace Go.AM
variable [Orc]
theorem valsK_congr {ρ ρ' : Operand → Option AVal} : ∀ (l : List Operand) (k : List AVal → Bool), (∀ x ∈ l, ρ x = ρ' x) → valsK ρ l k = valsK ρ' l k
  | [], k, _ => rfl
  | x :: l, k, h => by
    show (optK (ρ x) fun v => valsK ρ l fun r => k (v :: r)) = optK (ρ' x) fun v => valsK ρ' l fun r => k (v :: r)
    rw [h x (by simp)]
    congr 1
    funext v
    exact valsK_congr l _ (fun y hy => h y (by simp [hy]))
theorem fillK_congr {ρ ρ' : Operand → Option AVal} : ∀ (pl : List (Nat × Nat × Operand)) (cs : List AVal) (k : List AVal → Bool), (∀ x ∈ pl, ρ x.2.2 = ρ' x.2.2) → fillK ρ pl cs k = fillK ρ' pl cs k
  | [], cs, k, _ => rfl
  | p :: pl, cs, k, h => by
    show (optK (ρ p.2.2) fun v => noTup v (v.cellsK fun vs => lenK vs 0 fun m => ifK (Nat.beq m p.2.1) (putAtK vs cs p.1 fun cs => fillK ρ pl cs k) (fail 29))) =
      (optK (ρ' p.2.2) fun v => noTup v (v.cellsK fun vs => lenK vs 0 fun m => ifK (Nat.beq m p.2.1) (putAtK vs cs p.1 fun cs => fillK ρ' pl cs k) (fail 29)))
    rw [h p (by simp)]
    have : (fun cs => fillK ρ pl cs k) = (fun cs => fillK ρ' pl cs k) := funext fun cs => fillK_congr pl cs k (fun y hy => h y (by simp [hy]))
    rw [this]
theorem placesA_mem {es : Nat} : ∀ (ps : List (Nat × Operand)) (x : Nat × Nat × Operand), x ∈ placesA es ps → ∃ y ∈ ps, y.2 = x.2.2
  | [], x, h => by cases h
  | (i, y) :: ps, x, h => by
    rcases List.mem_cons.1 (show x ∈ (i * es, es, y) :: placesA es ps from h) with rfl | h
    · exact ⟨(i, y), by simp, rfl⟩
    · obtain ⟨z, hz, e⟩ := placesA_mem ps x h
      exact ⟨z, by simp [hz], e⟩
theorem placesS_mem {P : Program} {fs : Array Field} : ∀ (ps : List (Nat × Operand)) (pl : List (Nat × Nat × Operand)), placesS P fs ps = some pl → ∀ x ∈ pl, ∃ y ∈ ps, y.2 = x.2.2
  | [], pl, h, x, hx => by cases h; cases hx
  | (i, y) :: ps, pl, h, x, hx => by
    unfold placesS at h
    split at h
    · split at h
      · rename_i n l hn hl
        cases h
        rcases List.mem_cons.1 hx with rfl | hx
        · exact ⟨(i, y), by simp, rfl⟩
        · obtain ⟨z, hz, e⟩ := placesS_mem ps l hl x hx
          exact ⟨z, by simp [hz], e⟩
      · cases h
    · cases h
theorem buildPlan_mem {P : Program} {t : TypeId} {parts : Array (Nat × Operand)} {pl : List (Nat × Nat × Operand)} (h : buildPlan P t parts = some pl) : ∀ x ∈ pl, ∃ y ∈ parts.toList, y.2 = x.2.2 := by
  unfold buildPlan at h
  split at h
  · split at h
    · exact placesS_mem _ _ h
    · cases h
  · split at h
    · cases h; exact placesA_mem _
    · cases h
  · cases h
theorem optK_congr {α : Type} {x : Option α} {k k' : α → Bool} (h : ∀ v, x = some v → k v = k' v) : optK x k = optK x k' := by
  cases x with
  | none => rfl
  | some v => exact h v rfl
section
variable {P : Program} {rec : RecT} {s : St} {K : VK} {ρ ρ' : Operand → Option AVal}
theorem opK_congr {o : Op} (h : ∀ x ∈ o.operands, ρ x = ρ' x) : opK P rec o ρ s K = opK P rec o ρ' s K := by
  have hparts : ∀ ps : Array (Nat × Operand), (∀ x ∈ (ps.toList.map (·.2)).toArray, ρ x = ρ' x) → ∀ y ∈ ps.toList, ρ y.2 = ρ' y.2 := fun ps h y hy => h y.2 (by simp; exact ⟨y.1, by simpa using hy⟩)
  cases o with
  | move x => simp only [opK, h x (by simp [Op.operands])]
  | assign x => simp only [opK, h x (by simp [Op.operands])]
  | pick c a b => simp only [opK, h c (by simp [Op.operands]), h a (by simp [Op.operands]), h b (by simp [Op.operands])]
  | alloc t => rfl
  | box t x => simp only [opK, h x (by simp [Op.operands])]
  | build t ps =>
    have hp := hparts ps (by simpa [Op.operands] using h)
    show opBuild P t ps ρ s K = opBuild P t ps ρ' s K
    unfold opBuild
    refine optK_congr fun pl hpl => optK_congr fun zs _ => fillK_congr _ _ _ fun x hx => ?_
    obtain ⟨y, hy, e⟩ := buildPlan_mem hpl x hx
    exact e ▸ hp y hy
  | buildSlice t n ps =>
    have hp := hparts ps (by simpa [Op.operands] using h)
    show opBuildSlice P t n ps ρ s K = opBuildSlice P t n ps ρ' s K
    have hf : ∀ (es : Nat) (cs : List AVal) (k : List AVal → Bool), fillK ρ (placesA es ps.toList) cs k = fillK ρ' (placesA es ps.toList) cs k := fun es cs k => fillK_congr _ _ _ fun x hx => by
      obtain ⟨y, hy, e⟩ := placesA_mem _ x hx
      exact e ▸ hp y hy
    unfold opBuildSlice
    simp only [hf]
  | insert t m k x => simp only [opK, h m (by simp [Op.operands]), h k (by simp [Op.operands]), h x (by simp [Op.operands])]
  | load t a => simp only [opK, h a (by simp [Op.operands])]
  | store t a x => simp only [opK, h a (by simp [Op.operands]), h x (by simp [Op.operands])]
  | nilCheck x => simp only [opK, h x (by simp [Op.operands])]
  | binOp op t x y e => simp only [opK, h x (by simp [Op.operands]), h y (by simp [Op.operands])]
  | unOp op t x => simp only [opK, h x (by simp [Op.operands])]
  | convert a b x => simp only [opK, h x (by simp [Op.operands])]
  | makeFunc f a c =>
    have ha : ∀ k, valsK ρ a.toList k = valsK ρ' a.toList k := fun k => valsK_congr _ _ fun x hx => h x (by simp [Op.operands]; exact .inl (by simpa using hx))
    have hc : ∀ k, valsK ρ c.toList k = valsK ρ' c.toList k := fun k => valsK_congr _ _ fun x hx => h x (by simp [Op.operands]; exact .inr (by simpa using hx))
    simp only [opK, ha, hc]
  | makeMap t r => rfl
  | makeSlice t l c => simp only [opK, h l (by simp [Op.operands]), h c (by simp [Op.operands])]
  | slice t x lo hi mx =>
    have h1 : lo.map ρ = lo.map ρ' := by cases lo with
      | none => rfl
      | some y => simp [h y (by simp [Op.operands])]
    have h2 : hi.map ρ = hi.map ρ' := by cases hi with
      | none => rfl
      | some y => simp [h y (by simp [Op.operands])]
    have h3 : mx.map ρ = mx.map ρ' := by cases mx with
      | none => rfl
      | some y => simp [h y (by simp [Op.operands])]
    simp only [opK, h x (by simp [Op.operands]), h1, h2, h3]
  | fieldAddr t x f => simp only [opK, h x (by simp [Op.operands])]
  | field t x f => simp only [opK, h x (by simp [Op.operands])]
  | indexAddr t x i => simp only [opK, h x (by simp [Op.operands]), h i (by simp [Op.operands])]
  | index t x i => simp only [opK, h x (by simp [Op.operands]), h i (by simp [Op.operands])]
  | lookup t m i ok => simp only [opK, h m (by simp [Op.operands]), h i (by simp [Op.operands])]
  | mapUpdate t m k x => simp only [opK, h m (by simp [Op.operands]), h k (by simp [Op.operands]), h x (by simp [Op.operands])]
  | extract x i => simp only [opK, h x (by simp [Op.operands])]
  | call c =>
    have hargs : ∀ x ∈ c.args.toList, ρ x = ρ' x := fun x hx => h x (by simp [Op.operands, Call.operands]; exact .inr (by simpa using hx))
    have hv : ∀ k, valsK ρ c.args.toList k = valsK ρ' c.args.toList k := fun k => valsK_congr _ _ hargs
    show callOp P rec c ρ s K = callOp P rec c ρ' s K
    obtain ⟨callee, args, ats⟩ := c
    cases callee with
    | value f =>
      have hf : ρ f = ρ' f := h f (by simp [Op.operands, Call.operands])
      unfold callOp
      simp only [hf, hv]
    | invoke r n => rfl
    | builtin b =>
      unfold callOp
      have h1 : ∀ x, args.toList = [x] → ρ x = ρ' x := fun x e => hargs x (by simp [e])
      have h2 : ∀ x y, args.toList = [x, y] → ρ x = ρ' x ∧ ρ y = ρ' y := fun x y e => ⟨hargs x (by simp [e]), hargs y (by simp [e])⟩
      cases b with
      | append =>
        simp only
        split
        · rename_i x y e; rw [(h2 x y e).1, (h2 x y e).2]
        · rfl
      | len =>
        simp only
        split
        · rename_i x e; rw [h1 x e]
        · rfl
      | copy =>
        simp only
        split
        · rename_i x y e; rw [(h2 x y e).1, (h2 x y e).2]
        · rfl
      | min => simp only [hv]
      | max => simp only [hv]
      | clear =>
        simp only
        split
        · rename_i x e; rw [h1 x e]
        · rfl
      | _ => rfl
  | _ => rfl
theorem guardK_congr {all : Array Oper} {o : Oper} {x y : Bool} (h : ∀ t ∈ operReads all o, ρ (.tmp t) = ρ' (.tmp t)) : guardK all o ρ x y = guardK all o ρ' x y := by
  unfold guardK
  cases hg : o.guard with
  | none => rfl
  | some g =>
    show optK (guardTmp all o) _ = optK (guardTmp all o) _
    refine optK_congr fun g' hg' => ?_
    rw [h g'.1 (by unfold operReads; rw [hg']; simp)]
end
/-! ### Which operations stand ahead of which -/
theorem ancFold_none : ∀ (masks : List Nat) (l : List Edge), l.foldl (fun acc e => match acc with
    | none => none
    | some m => if Region.binds .any e then (match masks[e.on]? with | some a => some (m ||| a ||| (1 <<< e.on)) | none => none) else some m) (none : Option Nat) = none
  | _, [] => rfl
  | masks, _ :: l => ancFold_none masks l
theorem ancFold_ok (masks : List Nat) : ∀ (l : List Edge) (m0 m : Nat), l.foldl (fun acc e => match acc with
    | none => none
    | some m => if Region.binds .any e then (match masks[e.on]? with | some a => some (m ||| a ||| (1 <<< e.on)) | none => none) else some m) (some m0) = some m →
    (∀ e ∈ l, Region.binds .any e = true → e.on < masks.length) ∧
    ∀ j, m.testBit j = true → m0.testBit j = true ∨ ∃ e ∈ l, Region.binds .any e = true ∧ (j = e.on ∨ (maskAt masks e.on).testBit j = true)
  | [], m0, m, h => by
    cases h
    exact ⟨by simp, fun j h => .inl h⟩
  | e :: l, m0, m, h => by
    rw [List.foldl_cons] at h
    by_cases hb : Region.binds .any e = true
    · simp only [hb, if_true] at h
      cases ha : masks[e.on]? with
      | none =>
        rw [ha] at h
        rw [ancFold_none] at h
        cases h
      | some a =>
        rw [ha] at h
        obtain ⟨h1, h2⟩ := ancFold_ok masks l _ m h
        have hlt : e.on < masks.length := (List.getElem?_eq_some_iff.1 ha).1
        refine ⟨fun e' he' hb' => ?_, fun j hj => ?_⟩
        · rcases List.mem_cons.1 he' with rfl | he'
          · exact hlt
          · exact h1 e' he' hb'
        · rcases h2 j hj with h3 | ⟨e', he', h4⟩
          · simp only [Nat.testBit_or, Bool.or_eq_true] at h3
            rcases h3 with (h3 | h3) | h3
            · exact .inl h3
            · exact .inr ⟨e, by simp, hb, .inr (by unfold maskAt; rw [List.getD_eq_getElem?_getD, ha]; exact h3)⟩
            · refine .inr ⟨e, by simp, hb, .inl ?_⟩
              rw [Nat.one_shiftLeft, Nat.testBit_two_pow] at h3
              exact (of_decide_eq_true h3).symm
          · exact .inr ⟨e', by simp [he'], h4⟩
    · have hb : Region.binds .any e = false := by simpa using hb
      simp only [hb] at h
      obtain ⟨h1, h2⟩ := ancFold_ok masks l _ m h
      refine ⟨fun e' he' hb' => ?_, fun j hj => ?_⟩
      · rcases List.mem_cons.1 he' with rfl | he'
        · rw [hb] at hb'; cases hb'
        · exact h1 e' he' hb'
      · rcases h2 j hj with h3 | ⟨e', he', h4⟩
        · exact .inl h3
        · exact .inr ⟨e', by simp [he'], h4⟩
/-- What is known of the masks. -/
structure AncOk (l : List Oper) (masks : List Nat) : Prop where
  len : masks.length = l.length
  back : ∀ (i : Nat) (o : Oper), l[i]? = some o → ∀ e ∈ o.after, Region.binds .any e = true → e.on < i
  anc : ∀ (i : Nat) (o : Oper), l[i]? = some o → ∀ j, (maskAt masks i).testBit j = true → ∃ e ∈ o.after, Region.binds .any e = true ∧ (j = e.on ∨ (maskAt masks e.on).testBit j = true)
theorem maskAt_append {a b : List Nat} {i : Nat} (h : i < a.length) : maskAt (a ++ b) i = maskAt a i := by
  unfold maskAt
  rw [List.getD_eq_getElem?_getD, List.getD_eq_getElem?_getD, List.getElem?_append_left h]
theorem ancs_ok : ∀ (r pre : List Oper) (acc masks : List Nat), AncOk pre acc → ancs r acc = some masks → AncOk (pre ++ r) masks
  | [], pre, acc, masks, h, e => by
    cases e
    simpa using h
  | o :: r, pre, acc, masks, h, e => by
    unfold ancs at e
    split at e
    · rename_i m hm
      have := ancs_ok r (pre ++ [o]) (acc ++ [m]) masks ?_ e
      · simpa using this
      · unfold ancOf at hm
        obtain ⟨h1, h2⟩ := ancFold_ok acc o.after.toList 0 m hm
        refine ⟨by simp [h.len], fun i o' ho e' he' hb => ?_, fun i o' ho j hj => ?_⟩
        · by_cases hi : i < pre.length
          · rw [List.getElem?_append_left hi] at ho
            exact h.back i o' ho e' he' hb
          · rw [List.getElem?_append_right (by omega)] at ho
            have hi' : i = pre.length := by
              have := (List.getElem?_eq_some_iff.1 ho).1
              simp at this; omega
            subst hi'
            simp at ho
            subst ho
            have := h1 e' (by simpa using he') hb
            rw [← h.len]; exact this
        · by_cases hi : i < pre.length
          · rw [List.getElem?_append_left hi] at ho
            rw [maskAt_append (by rw [h.len]; exact hi)] at hj
            obtain ⟨e', he', hb, h3⟩ := h.anc i o' ho j hj
            refine ⟨e', he', hb, ?_⟩
            have := h.back i o' ho e' he' hb
            rw [maskAt_append (by rw [h.len]; omega)]
            exact h3
          · rw [List.getElem?_append_right (by omega)] at ho
            have hi' : i = pre.length := by
              have := (List.getElem?_eq_some_iff.1 ho).1
              simp at this; omega
            subst hi'
            simp at ho
            subst ho
            have hm' : maskAt (acc ++ [m]) pre.length = m := by
              unfold maskAt
              rw [List.getD_eq_getElem?_getD, List.getElem?_append_right (by rw [h.len]; exact Nat.le_refl _)]
              simp [h.len]
            rw [hm'] at hj
            rcases h2 j hj with h3 | ⟨e', he', hb, h3⟩
            · simp at h3
            · have := h1 e' he' hb
              exact ⟨e', by simpa using he', hb, by rw [maskAt_append this]; exact h3⟩
    · cases e
theorem ancs_of {ops : Array Oper} {masks : List Nat} (h : ancs ops.toList [] = some masks) : AncOk ops.toList masks := by
  have := ancs_ok ops.toList [] [] masks ⟨rfl, fun i o h => by simp at h, fun i o h => by simp at h⟩ h
  simpa using this
end Go.AM
