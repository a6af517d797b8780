/- Parts of the proof: Draw2, Draw3, Draw4, Draw5, Draw6, Draw7. -/
import Derived.Test.YtoipnedbpjfeiaaDoorAm02
set_option linter.all false
set_option linter.unusedSectionVars false
set_option linter.unusedSimpArgs false
set_option linter.unusedVariables false
section
/- The abstract machine's drawn regions, part 2: operands; which operations stand ahead of which; plans. -/
namespace Go.AM
variable [Orc]
theorem valsK_congr {ρ ρ' : Operand → Option AVal} : ∀ (l : List Operand) (k : List AVal → Bool), (∀ x ∈ l, ρ x = ρ' x) → valsK ρ l k = valsK ρ' l k
  | [], k, _ => rfl
  | x :: l, k, h => by
    show (optK (ρ x) fun v => valsK ρ l fun r => k (v :: r)) = optK (ρ' x) fun v => valsK ρ' l fun r => k (v :: r)
    rw [h x (by simp)]
    congr 1
    funext v
    exact valsK_congr l _ (fun y hy => h y (by simp [hy]))
theorem fillK_congr {ρ ρ' : Operand → Option AVal} : ∀ (pl : List (Nat × Nat × Operand)) (cs : List AVal) (k : List AVal → Bool), (∀ x ∈ pl, ρ x.2.2 = ρ' x.2.2) → fillK ρ pl cs k = fillK ρ' pl cs k
  | [], cs, k, _ => rfl
  | p :: pl, cs, k, h => by
    show (optK (ρ p.2.2) fun v => noTup v (v.cellsK fun vs => lenK vs 0 fun m => ifK (Nat.beq m p.2.1) (putAtK vs cs p.1 fun cs => fillK ρ pl cs k) (fail 29))) =
      (optK (ρ' p.2.2) fun v => noTup v (v.cellsK fun vs => lenK vs 0 fun m => ifK (Nat.beq m p.2.1) (putAtK vs cs p.1 fun cs => fillK ρ' pl cs k) (fail 29)))
    rw [h p (by simp)]
    have : (fun cs => fillK ρ pl cs k) = (fun cs => fillK ρ' pl cs k) := funext fun cs => fillK_congr pl cs k (fun y hy => h y (by simp [hy]))
    rw [this]
theorem placesA_mem {es : Nat} : ∀ (ps : List (Nat × Operand)) (x : Nat × Nat × Operand), x ∈ placesA es ps → ∃ y ∈ ps, y.2 = x.2.2
  | [], x, h => by cases h
  | (i, y) :: ps, x, h => by
    rcases List.mem_cons.1 (show x ∈ (i * es, es, y) :: placesA es ps from h) with rfl | h
    · exact ⟨(i, y), by simp, rfl⟩
    · obtain ⟨z, hz, e⟩ := placesA_mem ps x h
      exact ⟨z, by simp [hz], e⟩
theorem placesS_mem {P : Program} {fs : Array Field} : ∀ (ps : List (Nat × Operand)) (pl : List (Nat × Nat × Operand)), placesS P fs ps = some pl → ∀ x ∈ pl, ∃ y ∈ ps, y.2 = x.2.2
  | [], pl, h, x, hx => by cases h; cases hx
  | (i, y) :: ps, pl, h, x, hx => by
    unfold placesS at h
    split at h
    · split at h
      · rename_i n l hn hl
        cases h
        rcases List.mem_cons.1 hx with rfl | hx
        · exact ⟨(i, y), by simp, rfl⟩
        · obtain ⟨z, hz, e⟩ := placesS_mem ps l hl x hx
          exact ⟨z, by simp [hz], e⟩
      · cases h
    · cases h
theorem buildPlan_mem {P : Program} {t : TypeId} {parts : Array (Nat × Operand)} {pl : List (Nat × Nat × Operand)} (h : buildPlan P t parts = some pl) : ∀ x ∈ pl, ∃ y ∈ parts.toList, y.2 = x.2.2 := by
  unfold buildPlan at h
  split at h
  · split at h
    · exact placesS_mem _ _ h
    · cases h
  · split at h
    · cases h; exact placesA_mem _
    · cases h
  · cases h
theorem optK_congr {α : Type} {x : Option α} {k k' : α → Bool} (h : ∀ v, x = some v → k v = k' v) : optK x k = optK x k' := by
  cases x with
  | none => rfl
  | some v => exact h v rfl
section
variable {P : Program} {rec : RecT} {s : St} {K : VK} {ρ ρ' : Operand → Option AVal}
theorem opK_congr {o : Op} (h : ∀ x ∈ o.operands, ρ x = ρ' x) : opK P rec o ρ s K = opK P rec o ρ' s K := by
  have hparts : ∀ ps : Array (Nat × Operand), (∀ x ∈ (ps.toList.map (·.2)).toArray, ρ x = ρ' x) → ∀ y ∈ ps.toList, ρ y.2 = ρ' y.2 := fun ps h y hy => h y.2 (by simp; exact ⟨y.1, by simpa using hy⟩)
  cases o with
  | move x => simp only [opK, h x (by simp [Op.operands])]
  | assign x => simp only [opK, h x (by simp [Op.operands])]
  | pick c a b => simp only [opK, h c (by simp [Op.operands]), h a (by simp [Op.operands]), h b (by simp [Op.operands])]
  | alloc t => rfl
  | box t x => simp only [opK, h x (by simp [Op.operands])]
  | build t ps =>
    have hp := hparts ps (by simpa [Op.operands] using h)
    show opBuild P t ps ρ s K = opBuild P t ps ρ' s K
    unfold opBuild
    refine optK_congr fun pl hpl => optK_congr fun zs _ => fillK_congr _ _ _ fun x hx => ?_
    obtain ⟨y, hy, e⟩ := buildPlan_mem hpl x hx
    exact e ▸ hp y hy
  | buildSlice t n ps =>
    have hp := hparts ps (by simpa [Op.operands] using h)
    show opBuildSlice P t n ps ρ s K = opBuildSlice P t n ps ρ' s K
    have hf : ∀ (es : Nat) (cs : List AVal) (k : List AVal → Bool), fillK ρ (placesA es ps.toList) cs k = fillK ρ' (placesA es ps.toList) cs k := fun es cs k => fillK_congr _ _ _ fun x hx => by
      obtain ⟨y, hy, e⟩ := placesA_mem _ x hx
      exact e ▸ hp y hy
    unfold opBuildSlice
    simp only [hf]
  | insert t m k x => simp only [opK, h m (by simp [Op.operands]), h k (by simp [Op.operands]), h x (by simp [Op.operands])]
  | load t a => simp only [opK, h a (by simp [Op.operands])]
  | store t a x => simp only [opK, h a (by simp [Op.operands]), h x (by simp [Op.operands])]
  | nilCheck x => simp only [opK, h x (by simp [Op.operands])]
  | binOp op t x y e => simp only [opK, h x (by simp [Op.operands]), h y (by simp [Op.operands])]
  | unOp op t x => simp only [opK, h x (by simp [Op.operands])]
  | convert a b x => simp only [opK, h x (by simp [Op.operands])]
  | makeFunc f a c =>
    have ha : ∀ k, valsK ρ a.toList k = valsK ρ' a.toList k := fun k => valsK_congr _ _ fun x hx => h x (by simp [Op.operands]; exact .inl (by simpa using hx))
    have hc : ∀ k, valsK ρ c.toList k = valsK ρ' c.toList k := fun k => valsK_congr _ _ fun x hx => h x (by simp [Op.operands]; exact .inr (by simpa using hx))
    simp only [opK, ha, hc]
  | makeMap t r => rfl
  | makeSlice t l c => simp only [opK, h l (by simp [Op.operands]), h c (by simp [Op.operands])]
  | slice t x lo hi mx =>
    have h1 : lo.map ρ = lo.map ρ' := by cases lo with
      | none => rfl
      | some y => simp [h y (by simp [Op.operands])]
    have h2 : hi.map ρ = hi.map ρ' := by cases hi with
      | none => rfl
      | some y => simp [h y (by simp [Op.operands])]
    have h3 : mx.map ρ = mx.map ρ' := by cases mx with
      | none => rfl
      | some y => simp [h y (by simp [Op.operands])]
    simp only [opK, h x (by simp [Op.operands]), h1, h2, h3]
  | fieldAddr t x f => simp only [opK, h x (by simp [Op.operands])]
  | field t x f => simp only [opK, h x (by simp [Op.operands])]
  | indexAddr t x i => simp only [opK, h x (by simp [Op.operands]), h i (by simp [Op.operands])]
  | index t x i => simp only [opK, h x (by simp [Op.operands]), h i (by simp [Op.operands])]
  | lookup t m i ok => simp only [opK, h m (by simp [Op.operands]), h i (by simp [Op.operands])]
  | mapUpdate t m k x => simp only [opK, h m (by simp [Op.operands]), h k (by simp [Op.operands]), h x (by simp [Op.operands])]
  | extract x i => simp only [opK, h x (by simp [Op.operands])]
  | call c =>
    have hargs : ∀ x ∈ c.args.toList, ρ x = ρ' x := fun x hx => h x (by simp [Op.operands, Call.operands]; exact .inr (by simpa using hx))
    have hv : ∀ k, valsK ρ c.args.toList k = valsK ρ' c.args.toList k := fun k => valsK_congr _ _ hargs
    show callOp P rec c ρ s K = callOp P rec c ρ' s K
    obtain ⟨callee, args, ats⟩ := c
    cases callee with
    | value f =>
      have hf : ρ f = ρ' f := h f (by simp [Op.operands, Call.operands])
      unfold callOp
      simp only [hf, hv]
    | invoke r n => rfl
    | builtin b =>
      unfold callOp
      have h1 : ∀ x, args.toList = [x] → ρ x = ρ' x := fun x e => hargs x (by simp [e])
      have h2 : ∀ x y, args.toList = [x, y] → ρ x = ρ' x ∧ ρ y = ρ' y := fun x y e => ⟨hargs x (by simp [e]), hargs y (by simp [e])⟩
      cases b with
      | append =>
        simp only
        split
        · rename_i x y e; rw [(h2 x y e).1, (h2 x y e).2]
        · rfl
      | len =>
        simp only
        split
        · rename_i x e; rw [h1 x e]
        · rfl
      | copy =>
        simp only
        split
        · rename_i x y e; rw [(h2 x y e).1, (h2 x y e).2]
        · rfl
      | min => simp only [hv]
      | max => simp only [hv]
      | clear =>
        simp only
        split
        · rename_i x e; rw [h1 x e]
        · rfl
      | _ => rfl
  | _ => rfl
theorem guardK_congr {all : Array Oper} {o : Oper} {x y : Bool} (h : ∀ t ∈ operReads all o, ρ (.tmp t) = ρ' (.tmp t)) : guardK all o ρ x y = guardK all o ρ' x y := by
  unfold guardK
  cases hg : o.guard with
  | none => rfl
  | some g =>
    show optK (guardTmp all o) _ = optK (guardTmp all o) _
    refine optK_congr fun g' hg' => ?_
    rw [h g'.1 (by unfold operReads; rw [hg']; simp)]
end
/-! ### Which operations stand ahead of which -/
theorem ancFold_none : ∀ (masks : List Nat) (l : List Edge), l.foldl (fun acc e => match acc with
    | none => none
    | some m => if Region.binds .any e then (match masks[e.on]? with | some a => some (m ||| a ||| (1 <<< e.on)) | none => none) else some m) (none : Option Nat) = none
  | _, [] => rfl
  | masks, _ :: l => ancFold_none masks l
theorem ancFold_ok (masks : List Nat) : ∀ (l : List Edge) (m0 m : Nat), l.foldl (fun acc e => match acc with
    | none => none
    | some m => if Region.binds .any e then (match masks[e.on]? with | some a => some (m ||| a ||| (1 <<< e.on)) | none => none) else some m) (some m0) = some m →
    (∀ e ∈ l, Region.binds .any e = true → e.on < masks.length) ∧
    ∀ j, m.testBit j = true → m0.testBit j = true ∨ ∃ e ∈ l, Region.binds .any e = true ∧ (j = e.on ∨ (maskAt masks e.on).testBit j = true)
  | [], m0, m, h => by
    cases h
    exact ⟨by simp, fun j h => .inl h⟩
  | e :: l, m0, m, h => by
    rw [List.foldl_cons] at h
    by_cases hb : Region.binds .any e = true
    · simp only [hb, if_true] at h
      cases ha : masks[e.on]? with
      | none =>
        rw [ha] at h
        rw [ancFold_none] at h
        cases h
      | some a =>
        rw [ha] at h
        obtain ⟨h1, h2⟩ := ancFold_ok masks l _ m h
        have hlt : e.on < masks.length := (List.getElem?_eq_some_iff.1 ha).1
        refine ⟨fun e' he' hb' => ?_, fun j hj => ?_⟩
        · rcases List.mem_cons.1 he' with rfl | he'
          · exact hlt
          · exact h1 e' he' hb'
        · rcases h2 j hj with h3 | ⟨e', he', h4⟩
          · simp only [Nat.testBit_or, Bool.or_eq_true] at h3
            rcases h3 with (h3 | h3) | h3
            · exact .inl h3
            · exact .inr ⟨e, by simp, hb, .inr (by unfold maskAt; rw [List.getD_eq_getElem?_getD, ha]; exact h3)⟩
            · refine .inr ⟨e, by simp, hb, .inl ?_⟩
              rw [Nat.one_shiftLeft, Nat.testBit_two_pow] at h3
              exact (of_decide_eq_true h3).symm
          · exact .inr ⟨e', by simp [he'], h4⟩
    · have hb : Region.binds .any e = false := by simpa using hb
      simp only [hb] at h
      obtain ⟨h1, h2⟩ := ancFold_ok masks l _ m h
      refine ⟨fun e' he' hb' => ?_, fun j hj => ?_⟩
      · rcases List.mem_cons.1 he' with rfl | he'
        · rw [hb] at hb'; cases hb'
        · exact h1 e' he' hb'
      · rcases h2 j hj with h3 | ⟨e', he', h4⟩
        · exact .inl h3
        · exact .inr ⟨e', by simp [he'], h4⟩
/-- What is known of the masks. -/
structure AncOk (l : List Oper) (masks : List Nat) : Prop where
  len : masks.length = l.length
  back : ∀ (i : Nat) (o : Oper), l[i]? = some o → ∀ e ∈ o.after, Region.binds .any e = true → e.on < i
  anc : ∀ (i : Nat) (o : Oper), l[i]? = some o → ∀ j, (maskAt masks i).testBit j = true → ∃ e ∈ o.after, Region.binds .any e = true ∧ (j = e.on ∨ (maskAt masks e.on).testBit j = true)
theorem maskAt_append {a b : List Nat} {i : Nat} (h : i < a.length) : maskAt (a ++ b) i = maskAt a i := by
  unfold maskAt
  rw [List.getD_eq_getElem?_getD, List.getD_eq_getElem?_getD, List.getElem?_append_left h]
theorem ancs_ok : ∀ (r pre : List Oper) (acc masks : List Nat), AncOk pre acc → ancs r acc = some masks → AncOk (pre ++ r) masks
  | [], pre, acc, masks, h, e => by
    cases e
    simpa using h
  | o :: r, pre, acc, masks, h, e => by
    unfold ancs at e
    split at e
    · rename_i m hm
      have := ancs_ok r (pre ++ [o]) (acc ++ [m]) masks ?_ e
      · simpa using this
      · unfold ancOf at hm
        obtain ⟨h1, h2⟩ := ancFold_ok acc o.after.toList 0 m hm
        refine ⟨by simp [h.len], fun i o' ho e' he' hb => ?_, fun i o' ho j hj => ?_⟩
        · by_cases hi : i < pre.length
          · rw [List.getElem?_append_left hi] at ho
            exact h.back i o' ho e' he' hb
          · rw [List.getElem?_append_right (by omega)] at ho
            have hi' : i = pre.length := by
              have := (List.getElem?_eq_some_iff.1 ho).1
              simp at this; omega
            subst hi'
            simp at ho
            subst ho
            have := h1 e' (by simpa using he') hb
            rw [← h.len]; exact this
        · by_cases hi : i < pre.length
          · rw [List.getElem?_append_left hi] at ho
            rw [maskAt_append (by rw [h.len]; exact hi)] at hj
            obtain ⟨e', he', hb, h3⟩ := h.anc i o' ho j hj
            refine ⟨e', he', hb, ?_⟩
            have := h.back i o' ho e' he' hb
            rw [maskAt_append (by rw [h.len]; omega)]
            exact h3
          · rw [List.getElem?_append_right (by omega)] at ho
            have hi' : i = pre.length := by
              have := (List.getElem?_eq_some_iff.1 ho).1
              simp at this; omega
            subst hi'
            simp at ho
            subst ho
            have hm' : maskAt (acc ++ [m]) pre.length = m := by
              unfold maskAt
              rw [List.getD_eq_getElem?_getD, List.getElem?_append_right (by rw [h.len]; exact Nat.le_refl _)]
              simp [h.len]
            rw [hm'] at hj
            rcases h2 j hj with h3 | ⟨e', he', hb, h3⟩
            · simp at h3
            · have := h1 e' he' hb
              exact ⟨e', by simpa using he', hb, by rw [maskAt_append this]; exact h3⟩
    · cases e
theorem ancs_of {ops : Array Oper} {masks : List Nat} (h : ancs ops.toList [] = some masks) : AncOk ops.toList masks := by
  have := ancs_ok ops.toList [] [] masks ⟨rfl, fun i o h => by simp at h, fun i o h => by simp at h⟩ h
  simpa using this
end Go.AM
end
section
/- The abstract machine's drawn regions, part 3: what only computes comes to one value. -/
namespace Go.AM
variable [Orc]
/-- It comes to one value, or fails. -/
def Det {α : Type} (f : (α → Bool) → Bool) : Prop := ∀ K, f K = true → ∃ v, K v = true ∧ ∀ K' : α → Bool, K' v = true → f K' = true
theorem Det.ret {α : Type} (v : α) : Det fun K => K v := fun K h => ⟨v, h, fun _ h => h⟩
theorem Det.no {α : Type} : Det (α := α) fun _ => false := fun K h => by cases h
theorem Det.opt {α β : Type} {x : Option β} {g : β → (α → Bool) → Bool} (h : ∀ v, Det (g v)) : Det fun K => optK x fun v => g v K := by
  intro K hk
  obtain ⟨v, rfl, h1⟩ := optK_true.1 hk
  obtain ⟨a, h2, h3⟩ := h v K h1
  exact ⟨a, h2, fun K' h' => optK_true.2 ⟨v, rfl, h3 K' h'⟩⟩
theorem Det.ite {α : Type} {b : Bool} {g g' : (α → Bool) → Bool} (h : Det g) (h' : Det g') : Det fun K => ifK b (g K) (g' K) := by
  intro K hk
  cases b with
  | true => exact h K hk
  | false => exact h' K hk
/-- Out of one another. -/
theorem Det.bind {α β : Type} {f : (β → Bool) → Bool} {g : β → (α → Bool) → Bool} (hf : Det f) (hg : ∀ v, Det (g v)) : Det fun K => f fun v => g v K := by
  intro K hk
  obtain ⟨b, h1, h2⟩ := hf _ hk
  obtain ⟨a, h3, h4⟩ := hg b K h1
  exact ⟨a, h3, fun K' h' => h2 _ (h4 K' h')⟩
theorem Det.nat (n : Nat) : Det fun K => natK n K := by
  simp only [natK_eq]; exact Det.ret n
theorem Det.int (n : Int) : Det fun K => AM.intK n K := by
  simp only [intK_eq]; exact Det.ret n
theorem Det.idx (n : Int) : Det fun K => idxK n K := by
  intro K hk
  obtain ⟨m, e, h⟩ := idxK_true.1 hk
  exact ⟨m, h, fun K' h' => idxK_true.2 ⟨m, e, h'⟩⟩
theorem Det.len {α : Type} (l : List α) (n : Nat) : Det fun K => lenK l n K := by
  simp only [lenK_eq]; exact Det.ret _
theorem Det.app {α : Type} (l m : List α) : Det fun K => appK l m K := by
  simp only [appK_eq]; exact Det.ret _
theorem Det.nth {α : Type} (l : List α) (i : Nat) : Det fun K => nthK l i K := by
  intro K hk
  obtain ⟨a, e, h⟩ := nthK_true.1 hk
  exact ⟨a, h, fun K' h' => nthK_true.2 ⟨a, e, h'⟩⟩
theorem Det.seg {α : Type} (l : List α) (i n : Nat) : Det fun K => segK l i n K := by
  intro K hk
  obtain ⟨e, h⟩ := segK_true.1 hk
  exact ⟨_, h, fun K' h' => segK_true.2 ⟨e, h'⟩⟩
theorem Det.part (n : Option Nat) (cs : List AVal) (off : Nat) : Det fun K => partK n cs off K := fun _ h => partK_det h
theorem Det.bool (v : AVal) : Det fun K => v.boolK K := by
  intro K hk
  obtain ⟨b, rfl, h⟩ := AVal.boolK_true.1 hk
  exact ⟨b, h, fun K' h' => h'⟩
theorem Det.valInt (v : AVal) : Det fun (K : IntKind × Int → Bool) => v.intK fun k n => K (k, n) := by
  intro K hk
  obtain ⟨k, n, rfl, h⟩ := AVal.intK_true.1 hk
  exact ⟨(k, n), h, fun K' h' => h'⟩
theorem Det.valIntU {α : Type} {v : AVal} {g : Int → (α → Bool) → Bool} (h : ∀ n, Det (g n)) : Det fun K => v.intK fun _ n => g n K :=
  Det.bind (g := fun p K => g p.2 K) (Det.valInt v) fun p => h p.2
theorem Det.str (v : AVal) : Det fun K => v.strK K := by
  intro K hk
  obtain ⟨b, rfl, h⟩ := AVal.strK_true.1 hk
  exact ⟨b, h, fun K' h' => h'⟩
theorem Det.agg (v : AVal) : Det fun K => v.aggK K := by
  intro K hk
  obtain ⟨b, rfl, h⟩ := AVal.aggK_true.1 hk
  exact ⟨b, h, fun K' h' => h'⟩
theorem Det.tup (v : AVal) : Det fun K => v.tupK K := by
  intro K hk
  obtain ⟨b, rfl, h⟩ := AVal.tupK_true.1 hk
  exact ⟨b, h, fun K' h' => h'⟩
theorem Det.ptr (v : AVal) : Det fun (K : Pos × Nat → Bool) => v.ptrK fun b o => K (b, o) := by
  intro K hk
  obtain ⟨b, o, rfl, h⟩ := AVal.ptrK_true.1 hk
  exact ⟨(b, o), h, fun K' h' => h'⟩
theorem Det.slc (v : AVal) : Det fun (K : Pos × Nat × Nat × Cap → Bool) => v.sliceK fun b o n c => K (b, o, n, c) := by
  intro K hk
  obtain ⟨b, o, n, c, rfl, h⟩ := AVal.sliceK_true.1 hk
  exact ⟨(b, o, n, c), h, fun K' h' => h'⟩
theorem Det.vals (ρ : Operand → Option AVal) : ∀ l, Det fun K => valsK ρ l K
  | [] => Det.ret []
  | x :: l => by
    show Det fun K => optK (ρ x) fun v => valsK ρ l fun r => K (v :: r)
    exact Det.opt fun v => Det.bind (Det.vals ρ l) fun r => Det.ret (v :: r)
theorem Det.fill (ρ : Operand → Option AVal) (pl : List (Nat × Nat × Operand)) (cs : List AVal) : Det fun K => fillK ρ pl cs K := fun K h => fillK_det pl cs K h
theorem Det.mnmx (mx : Bool) : ∀ (l : List AVal) (v : AVal), Det fun K => mnmxK mx l v K
  | [], v => by
    show Det fun (K : AVal → Bool) => v.intK fun k n => K (AVal.int k n)
    exact Det.bind (g := fun p K => K (AVal.int p.1 p.2)) (Det.valInt v) fun p => Det.ret _
  | y :: l, x => by
    show Det fun K => x.intK fun k a => y.intK fun _ b => ifK mx (ifK (ltI a b) (mnmxK mx l (.int k b) K) (mnmxK mx l (.int k a) K)) (ifK (ltI b a) (mnmxK mx l (.int k b) K) (mnmxK mx l (.int k a) K))
    exact Det.bind (g := fun p K => y.intK fun _ b => ifK mx (ifK (ltI p.2 b) (mnmxK mx l (.int p.1 b) K) (mnmxK mx l (.int p.1 p.2) K)) (ifK (ltI b p.2) (mnmxK mx l (.int p.1 b) K) (mnmxK mx l (.int p.1 p.2) K)))
      (Det.valInt x) fun p => Det.bind (g := fun q K => ifK mx (ifK (ltI p.2 q.2) (mnmxK mx l (.int p.1 q.2) K) (mnmxK mx l (.int p.1 p.2) K)) (ifK (ltI q.2 p.2) (mnmxK mx l (.int p.1 q.2) K) (mnmxK mx l (.int p.1 p.2) K)))
        (Det.valInt y) fun q => Det.ite (Det.ite (Det.mnmx mx l _) (Det.mnmx mx l _)) (Det.ite (Det.mnmx mx l _) (Det.mnmx mx l _))
theorem Det.eqCell (k : SK) (a b : AVal) : Det fun K => AM.eqCell k a b K := by
  cases k with
  | bool =>
    show Det fun K => a.boolK fun x => b.boolK fun y => K (eqBool x y)
    exact Det.bind (Det.bool a) fun x => Det.bind (Det.bool b) fun y => Det.ret _
  | int =>
    show Det fun K => a.intK fun j x => b.intK fun k y => ifK (Nat.beq (kindCode j) (kindCode k)) (K (eqI x y)) (fail 8)
    exact Det.bind (g := fun p K => b.intK fun k y => ifK (Nat.beq (kindCode p.1) (kindCode k)) (K (eqI p.2 y)) (fail 8)) (Det.valInt a) fun p =>
      Det.bind (g := fun q K => ifK (Nat.beq (kindCode p.1) (kindCode q.1)) (K (eqI p.2 q.2)) (fail 8)) (Det.valInt b) fun q => Det.ite (Det.ret _) Det.no
  | str =>
    show Det fun K => a.strK fun x => b.strK fun y => K (eqBytes x y)
    exact Det.bind (Det.str a) fun x => Det.bind (Det.str b) fun y => Det.ret _
theorem Det.eqCells : ∀ (ks : List SK) (x y : List AVal), Det fun K => AM.eqCells ks x y K
  | [], x, y => Det.ret true
  | k :: ks, [], y => Det.no
  | k :: ks, a :: x, [] => Det.no
  | k :: ks, a :: x, b :: y => by
    show Det fun K => AM.eqCell k a b fun e => ifK e (AM.eqCells ks x y K) (K false)
    exact Det.bind (Det.eqCell k a b) fun e => Det.ite (Det.eqCells ks x y) (Det.ret false)
theorem Det.bound (x : Option (Option AVal)) (d : Nat) : Det fun K => boundK x d K := by
  cases x with
  | none => exact Det.ret d
  | some v =>
    show Det fun K => optK v fun v => v.intK fun _ n => idxK n K
    exact Det.opt fun v => Det.bind (g := fun p K => idxK p.2 K) (Det.valInt v) fun p => Det.idx _
theorem Det.le3 {α : Type} {a b c : Nat} {g : (α → Bool) → Bool} (h : Det g) : Det fun K => le3K a b c (g K) := Det.ite (Det.ite h Det.no) Det.no
section
variable {P : Program} {rec : RecT} {s : St}
theorem Det.boolV (b : Bool) : Det fun (K : AVal → Bool) => AM.boolV b s fun v _ => K v := by
  cases b <;> exact Det.ret _
theorem Det.intV (k : IntKind) (n : Int) : Det fun (K : AVal → Bool) => AM.intV k n s fun v _ => K v := Det.bind (Det.int n) fun n => Det.ret _
theorem Det.eqBin (op : BinOp) (e : Bool) : Det fun (K : AVal → Bool) => AM.eqBin op e s fun v _ => K v := by
  cases op <;> first | exact Det.no | exact Det.boolV (s := s) _
theorem Det.intBin (op : BinOp) (k : IntKind) (a b : Int) : Det fun (K : AVal → Bool) => AM.intBin op k a b s fun v _ => K v := by
  cases op <;> first | exact Det.intV (s := s) _ _ | exact Det.boolV (s := s) _ | exact Det.ite Det.no (Det.intV (s := s) _ _)
theorem Det.strBin (op : BinOp) (a b : List UInt8) : Det fun (K : AVal → Bool) => AM.strBin op a b s fun v _ => K v := by
  cases op <;> first | exact Det.no | exact Det.boolV (s := s) _ | exact Det.bind (Det.len a 0) fun n => Det.bind (Det.len b 0) fun m => Det.ite (Det.bind (Det.app a b) fun l => Det.ret _) Det.no
theorem Det.bothNil (a b : Bool) : Det fun K => AM.bothNil a b K := Det.ite (Det.ret _) (Det.ite (Det.ret _) Det.no)
theorem Det.nilOf {α : Type} (v : AVal) {p s m f : Bool → (α → Bool) → Bool} (h1 : ∀ b, Det (p b)) (h2 : ∀ b, Det (s b)) (h3 : ∀ b, Det (m b)) (h4 : ∀ b, Det (f b)) :
    Det fun K => AM.nilOf v (fun b => p b K) (fun b => s b K) (fun b => m b K) (fun b => f b K) := by
  cases v <;> first | exact Det.no | exact h1 _ | exact h2 _ | exact h3 _ | exact h4 _
theorem Det.eqRest (op : BinOp) (t : TypeId) (x y : AVal) : Det fun (K : AVal → Bool) => AM.eqRest P op t x y s fun v _ => K v := by
  refine Det.nilOf x (fun a => Det.ite (Det.nilOf y (fun b => Det.bind (Det.bothNil a b) fun e => Det.eqBin (s := s) op e) (fun _ => Det.no) (fun _ => Det.no) (fun _ => Det.no)) Det.no)
    (fun a => Det.ite (Det.nilOf y (fun _ => Det.no) (fun b => Det.bind (Det.bothNil a b) fun e => Det.eqBin (s := s) op e) (fun _ => Det.no) (fun _ => Det.no)) Det.no)
    (fun a => Det.ite (Det.nilOf y (fun _ => Det.no) (fun _ => Det.no) (fun b => Det.bind (Det.bothNil a b) fun e => Det.eqBin (s := s) op e) (fun _ => Det.no)) Det.no)
    (fun a => Det.ite (Det.nilOf y (fun _ => Det.no) (fun _ => Det.no) (fun _ => Det.no) (fun b => Det.bind (Det.bothNil a b) fun e => Det.eqBin (s := s) op e)) Det.no)
theorem Det.eqAgg (op : BinOp) (t : TypeId) (x : List AVal) (y : AVal) : Det fun (K : AVal → Bool) => AM.eqAgg P op t x y s fun v _ => K v :=
  Det.opt fun ks => Det.bind (Det.agg y) fun y => Det.bind (Det.len ks 0) fun n => Det.bind (Det.len x 0) fun a => Det.bind (Det.len y 0) fun b => Det.ite (Det.ite (Det.bind (Det.eqCells ks x y) fun e => Det.eqBin (s := s) op e) Det.no) Det.no
theorem Det.opBin (op : BinOp) (t : TypeId) (x y : Option AVal) : Det fun (K : AVal → Bool) => AM.opBin P op t x y s fun v _ => K v := by
  refine Det.opt fun x => Det.opt fun y => ?_
  cases x with
  | bool a => exact Det.bind (Det.bool y) fun b => Det.ite (Det.eqBin (s := s) _ _) Det.no
  | int k a =>
    exact Det.bind (g := fun p (K : AVal → Bool) => ifK (isShift op) (AM.intBin op k a p.2 s fun v _ => K v) (ifK (Nat.beq (kindCode k) (kindCode p.1)) (AM.intBin op k a p.2 s fun v _ => K v) (fail 13))) (Det.valInt y) fun p =>
      Det.ite (Det.intBin (s := s) _ _ _ _) (Det.ite (Det.intBin (s := s) _ _ _ _) Det.no)
  | str a => exact Det.bind (Det.str y) fun b => Det.strBin (s := s) _ _ _
  | agg l => exact Det.eqAgg (P := P) (s := s) _ _ _ _
  | yld l => exact Det.no
  | iface t v => exact Det.no
  | nilIface => exact Det.no
  | tup l => exact Det.no
  | _ => exact Det.eqRest (P := P) (s := s) _ _ _ _
theorem Det.cut (es : Nat) (b : Pos) (off len : Nat) (cap : Cap) (lo hi mx : Option (Option AVal)) : Det fun (K : AVal → Bool) => AM.cutK es b off len cap lo hi mx s fun v _ => K v := by
  refine Det.bind (Det.bound lo 0) fun l => Det.bind (Det.bound hi len) fun h => ?_
  cases cap with
  | lim c =>
    exact Det.bind (Det.bound mx c) fun m => Det.ite (Det.le3 (Det.ite (Det.ret _) (Det.bind (Det.nat _) fun o => Det.bind (Det.nat _) fun n => Det.bind (Det.nat _) fun c => Det.ret _))) Det.no
  | opn e =>
    refine Det.ite ?_ Det.no
    cases mx with
    | none => exact Det.le3 (Det.bind (Det.nat _) fun o => Det.bind (Det.nat _) fun n => Det.ret _)
    | some x => exact Det.no
theorem Det.maxHigh {α : Type} (hi mx : Option (Option AVal)) {g : (α → Bool) → Bool} (h : Det g) : Det fun K => AM.maxHigh hi mx (g K) := by
  cases mx with
  | none => exact h
  | some m => cases hi with
    | none => exact Det.no
    | some _ => exact h
theorem Det.opSlice (t : TypeId) (x : Option AVal) (lo hi mx : Option (Option AVal)) : Det fun (K : AVal → Bool) => AM.opSlice P t x lo hi mx s fun v _ => K v := by
  refine Det.opt fun x => ?_
  unfold AM.maxHigh
  refine Det.maxHigh hi mx ?_
  cases tyKind P t with
  | str =>
    refine Det.bind (Det.str x) fun l => Det.bind (Det.len l 0) fun n => Det.bind (Det.bound lo 0) fun a => Det.bind (Det.bound hi n) fun b => ?_
    cases mx with
    | none => exact Det.le3 (Det.bind (Det.seg _ _ _) fun l => Det.ret _)
    | some m => exact Det.no
  | slc =>
    refine Det.opt fun e => ?_
    cases x with
    | slice b off n c => exact Det.cut (s := s) _ _ _ _ _ _ _ _
    | nilSlice => exact Det.bind (Det.bound lo 0) fun l => Det.bind (Det.bound hi 0) fun h => Det.bind (Det.bound mx 0) fun m => Det.ite (Det.ite (Det.ite (Det.ret _) Det.no) Det.no) Det.no
    | _ => exact Det.no
  | arr =>
    refine Det.opt fun e => ?_
    exact Det.bind (g := fun p (K : AVal → Bool) => AM.cutK e.2 p.1 p.2 e.1 (.lim e.1) lo hi mx s fun v _ => K v) (Det.ptr x) fun p => Det.cut (s := s) _ _ _ _ _ _ _ _
  | _ => exact Det.no
theorem Det.opIndexAddr (t : TypeId) (x i : Option AVal) : Det fun (K : AVal → Bool) => AM.opIndexAddr P t x i s fun v _ => K v := by
  refine Det.opt fun x => Det.opt fun i => ?_
  refine Det.valIntU fun p => Det.bind (Det.idx _) fun i => ?_
  cases tyKind P t with
  | slc =>
    refine Det.opt fun e => ?_
    exact Det.bind (g := fun q (K : AVal → Bool) => ifK (Nat.ble (Nat.succ i) q.2.2.1) (natK (Nat.add q.2.1 (Nat.mul i e.1)) fun o => K (.ptr q.1 o)) (fail 16)) (Det.slc x) fun q => Det.ite (Det.bind (Det.nat _) fun o => Det.ret _) Det.no
  | arr =>
    refine Det.opt fun e => ?_
    exact Det.bind (g := fun q (K : AVal → Bool) => ifK (Nat.ble (Nat.succ i) e.1) (natK (Nat.add q.2 (Nat.mul i e.2)) fun o => K (.ptr q.1 o)) (fail 17)) (Det.ptr x) fun q => Det.ite (Det.bind (Det.nat _) fun o => Det.ret _) Det.no
  | _ => exact Det.no
theorem Det.opIndex (t : TypeId) (x i : Option AVal) : Det fun (K : AVal → Bool) => AM.opIndex P t x i s fun v _ => K v := by
  refine Det.opt fun x => Det.opt fun i => ?_
  refine Det.valIntU fun p => Det.bind (Det.idx _) fun i => ?_
  cases tyKind P t with
  | str => exact Det.bind (Det.str x) fun l => Det.bind (Det.nth l i) fun c => Det.bind (Det.nat _) fun n => Det.ret _
  | arr => exact Det.opt fun e => Det.bind (Det.agg x) fun l => Det.ite (Det.bind (Det.part _ _ _) fun v => Det.ret _) Det.no
  | _ => exact Det.no
theorem Det.opMnmx (mx : Bool) (l : List AVal) : Det fun (K : AVal → Bool) => AM.opMnmx mx l s fun v _ => K v := by
  cases l with
  | nil => exact Det.no
  | cons x r => exact Det.mnmx mx r x
theorem Det.opLen (ts : Array TypeId) (x : Option AVal) (hm : ∀ e, lenInfo P ts = some e → (match e.1 with | .map => false | _ => true) = true) : Det fun (K : AVal → Bool) => AM.opLen P ts x s fun v _ => K v := by
  unfold AM.opLen
  cases hl : lenInfo P ts with
  | none => exact Det.no
  | some e =>
    have := hm e hl
    obtain ⟨tk, n⟩ := e
    refine Det.bind (f := fun K => optK x K) (Det.opt (x := x) (g := fun v K => K v) fun v => Det.ret v) fun v => ?_
    cases tk with
    | str => exact Det.bind (Det.str v) fun l => Det.bind (Det.len l 0) fun n => Det.ret _
    | slc => cases v <;> first | exact Det.no | exact Det.ret _
    | arr => exact Det.bind (Det.nat _) fun n => Det.ret _
    | map => simp at this
    | other => exact Det.no
theorem opK_det {o : Op} {ρ : Operand → Option AVal} (hc : opClass P o = 0) : Det fun (K : AVal → Bool) => opK P rec o ρ s fun v _ => K v := by
  cases o with
  | move x => exact Det.opt fun v => Det.ret v
  | assign x => exact Det.opt fun v => Det.ret v
  | pick c a b => exact Det.opt fun c => Det.bind (Det.bool c) fun t => Det.ite (Det.opt fun v => Det.ret v) (Det.opt fun v => Det.ret v)
  | build t ps => exact Det.opt fun pl => Det.opt fun zs => Det.bind (Det.fill ρ pl zs) fun cs => Det.ret _
  | nilCheck x => exact Det.opt fun v => Det.bind (g := fun p (K : AVal → Bool) => K (.ptr p.1 p.2)) (Det.ptr v) fun p => Det.ret _
  | binOp op t x y e => exact Det.opBin (P := P) (s := s) op t (ρ x) (ρ y)
  | unOp op t x =>
    refine Det.opt fun x => ?_
    cases op with
    | neg => exact Det.bind (g := fun p (K : AVal → Bool) => AM.intV p.1 (wrapF p.1 (Int.sub 0 p.2)) s fun v _ => K v) (Det.valInt x) fun p => Det.intV (s := s) _ _
    | xor => exact Det.bind (g := fun p (K : AVal → Bool) => AM.intV p.1 (p.1.wrap (BitVec.ofInt p.1.bits (if p.1.signed then -1 else p.1.max) ^^^ BitVec.ofInt p.1.bits p.2).toNat) s fun v _ => K v) (Det.valInt x) fun p => Det.intV (s := s) _ _
    | not => exact Det.bind (Det.bool x) fun b => Det.boolV (s := s) _
    | plus => exact Det.no
  | makeFunc f a c => exact Det.opt fun f => Det.bind (Det.vals ρ _) fun a => Det.bind (Det.vals ρ _) fun c => Det.ret _
  | slice t x lo hi mx => exact Det.opSlice (P := P) (s := s) t (ρ x) _ _ _
  | fieldAddr t x f => exact Det.opt fun fo => Det.opt fun x => Det.bind (g := fun p (K : AVal → Bool) => natK (Nat.add p.2 fo) fun o => K (.ptr p.1 o)) (Det.ptr x) fun p => Det.bind (Det.nat _) fun o => Det.ret _
  | field t x f => exact Det.opt fun f => Det.opt fun x => Det.bind (Det.agg x) fun l => Det.bind (Det.part _ _ _) fun v => Det.ret _
  | indexAddr t x i => exact Det.opIndexAddr (P := P) (s := s) t (ρ x) (ρ i)
  | index t x i => exact Det.opIndex (P := P) (s := s) t (ρ x) (ρ i)
  | extract x i => exact Det.opt fun x => Det.bind (Det.tup x) fun l => Det.bind (Det.nth l i) fun v => Det.ret _
  | convert a b x =>
    show Det fun (K : AVal → Bool) => AM.opConvert P a b (ρ x) s fun v _ => K v
    refine Det.opt fun x => ?_
    have hc : (match convKind P a b with | .int _ => 0 | .same => 0 | _ => 3) = 0 := hc
    generalize convKind P a b = ck at hc
    cases ck with
    | int k => exact Det.bind (g := fun p (K : AVal → Bool) => AM.intV k (wrapF k p.2) s fun v _ => K v) (Det.valInt x) fun p => Det.intV (s := s) _ _
    | same => exact Det.bind (Det.str x) fun l => Det.ret _
    | _ => simp at hc
  | call c =>
    obtain ⟨callee, args, ats⟩ := c
    cases callee with
    | value f => simp [opClass] at hc
    | invoke r n => simp [opClass] at hc
    | builtin b =>
      cases b with
      | len =>
        have hc : (match lenInfo P ats with | some (.map, _) => 3 | some _ => 0 | none => 3) = 0 := hc
        show Det fun (K : AVal → Bool) => (match args.toList with | [x] => AM.opLen P ats (ρ x) s fun v _ => K v | _ => fail 46)
        split
        · refine Det.opLen (P := P) (s := s) _ _ fun e he => ?_
          rw [he] at hc
          obtain ⟨tk, n⟩ := e
          cases tk <;> first | rfl | simp at hc
        · exact Det.no
      | min => exact Det.bind (Det.vals ρ _) fun l => Det.opMnmx (s := s) false l
      | max => exact Det.bind (Det.vals ρ _) fun l => Det.opMnmx (s := s) true l
      | _ => simp [opClass] at hc
  | _ => simp [opClass] at hc
end
end Go.AM
end
section
/- The abstract machine's drawn regions, part 4: what an operation reads; what is promised of an operation that the plan has run and the model has not. -/
namespace Go.AM
variable [Orc]
/-! ### Heaps restricted -/
def PT.restrict {α : Type} : (Pos → Bool) → PT α → PT α
  | _, .leaf => .leaf
  | f, .node l v r => .node (PT.restrict (fun p => f (.o p)) l) (if f .h then v else none) (PT.restrict (fun p => f (.i p)) r)
theorem PT.get_restrict {α : Type} : ∀ (k : Pos) (f : Pos → Bool) (t : PT α), PT.get k (PT.restrict f t) = if f k then PT.get k t else none
  | .h, f, .leaf => by cases hf : f .h <;> rfl
  | .o k, f, .leaf => by cases hf : f (.o k) <;> rfl
  | .i k, f, .leaf => by cases hf : f (.i k) <;> rfl
  | .h, f, .node l v r => rfl
  | .o k, f, .node l v r => PT.get_restrict k (fun p => f (.o p)) l
  | .i k, f, .node l v r => PT.get_restrict k (fun p => f (.i p)) r
noncomputable def St.known (ι : Ren) (s : St) : St := { heap := PT.restrict (fun b => (ι b).isSome) s.heap, next := s.next }
theorem St.known_get {ι : Ren} {s : St} {b : Pos} (h : (ι b).isSome = true) : PT.get b (s.known ι).heap = PT.get b s.heap := by
  unfold St.known
  simp [PT.get_restrict, h]
theorem St.known_some {ι : Ren} {s : St} {b : Pos} {x : AObj} (h : PT.get b (s.known ι).heap = some x) : (ι b).isSome = true := by
  unfold St.known at h
  rw [PT.get_restrict] at h
  cases hb : (ι b).isSome with
  | true => rfl
  | false => rw [hb] at h; cases h
theorem WRel.known {P : Program} {ι : Ren} {s : St} {w : World} (h : WRel P ι s w) : WRel P ι (s.known ι) w := by
  refine ⟨fun b p e => ?_, fun b b' p p' o o' e e' g g' => ?_, h.fresh, h.bound⟩
  · obtain ⟨o, ho, hr⟩ := h.objs b p e
    exact ⟨o, by rw [St.known_get (by simp [e])]; exact ho, hr⟩
  · rw [St.known_get (by simp [e])] at g
    rw [St.known_get (by simp [e'])] at g'
    exact h.apart b b' p p' o o' e e' g g'
/-- Nothing new is named where the heap is what is known. -/
theorem WRel.same_names {P : Program} {ι ι' : Ren} {s : St} {w' : World} (hle : Ren.le ι ι') (h : WRel P ι' (s.known ι) w') : ι' = ι := by
  funext b
  cases e : ι' b with
  | none =>
    cases e' : ι b with
    | none => rfl
    | some p => rw [hle b p e'] at e; cases e
  | some p =>
    obtain ⟨o, ho, _⟩ := h.objs b p e
    have := St.known_some ho
    cases e' : ι b with
    | none => rw [e'] at this; cases this
    | some q => rw [hle b q e'] at e; exact e.symm
theorem WRel.unknown {P : Program} {ι : Ren} {s : St} {w w' : World} (hw : WRel P ι s w) (h : WRel P ι (s.known ι) w') : WRel P ι s w' := by
  refine ⟨fun b p e => ?_, fun b b' p p' o o' e e' g g' => ?_, hw.fresh, h.bound⟩
  · obtain ⟨o, ho, hr⟩ := h.objs b p e
    exact ⟨o, by rw [← St.known_get (ι := ι) (s := s) (b := b) (by simp [e])]; exact ho, hr⟩
  · rw [← St.known_get (ι := ι) (s := s) (b := b) (by simp [e])] at g
    rw [← St.known_get (ι := ι) (s := s) (b := b') (by simp [e'])] at g'
    exact h.apart b b' p p' o o' e e' g g'
/-- A heap that says more is related where it says more of what is not known. -/
theorem WRel.grow {P : Program} {ι : Ren} {s s' : St} {w : World} (h : WRel P ι s w) (hg : Grown s s') (hn : s.next.toNat ≤ s'.next.toNat) : WRel P ι s' w := by
  have hsame : ∀ b p, ι b = some p → PT.get b s'.heap = PT.get b s.heap := fun b p e => by
    obtain ⟨o, ho, _⟩ := h.objs b p e
    rw [ho, hg b o ho]
  refine ⟨fun b p e => ?_, fun b b' p p' o o' e e' g g' => ?_, fun b p e => Nat.lt_of_lt_of_le (h.fresh b p e) hn, h.bound⟩
  · rw [hsame b p e]; exact h.objs b p e
  · rw [hsame b p e] at g
    rw [hsame b' p' e'] at g'
    exact h.apart b b' p p' o o' e e' g g'
/-- A block that has been laid is given the name of an object that stands already. -/
theorem WRel.adopt {P : Program} {ι : Ren} {s : St} {w : World} (h : WRel P ι s w) {q : Pos} {x : AObj} {obj : Obj} {sz : Nat} (hq : PT.get q s.heap = some x) (hn : ι q = none) (hlt : q.toNat < s.next.toNat)
    (hx : ORel P (Ren.set ι q ⟨w.heap.size, 0, sz, false⟩) { w with heap := w.heap.push obj } ⟨w.heap.size, 0, sz, false⟩ x) :
    WRel P (Ren.set ι q ⟨w.heap.size, 0, sz, false⟩) s { w with heap := w.heap.push obj } ∧ Ext ι w (Ren.set ι q ⟨w.heap.size, 0, sz, false⟩) { w with heap := w.heap.push obj } := by
  have hle : Ren.le ι (Ren.set ι q ⟨w.heap.size, 0, sz, false⟩) := Ren.le_set hn
  refine ⟨⟨fun b p e => ?_, fun b b' p p' o o' e e' g g' hl hl' hb => ?_, fun b p e => ?_, fun b p e => ?_⟩, ⟨hle, by simp, fun b p e => ?_, fun i hi _ => push_old hi, rfl, rfl⟩⟩
  · rcases Ren.set_some e with ⟨rfl, rfl⟩ | ⟨_, e⟩
    · exact ⟨x, hq, hx⟩
    · obtain ⟨o, ho, hr⟩ := h.objs b p e
      exact ⟨o, ho, ORel.mono (w := w) hle (fun _ => push_old (h.bound b p e)) hr⟩
  · rcases Ren.set_some e with ⟨hb1, hp1⟩ | ⟨_, e2⟩
    · rcases Ren.set_some e' with ⟨hb2, hp2⟩ | ⟨_, e3⟩
      · exact .inl (hb1.trans hb2.symm)
      · have := h.bound b' p' e3
        rw [hp1] at hb
        simp only at hb; omega
    · rcases Ren.set_some e' with ⟨hb2, hp2⟩ | ⟨_, e3⟩
      · have := h.bound b p e2
        rw [hp2] at hb
        simp only at hb; omega
      · exact h.apart b b' p p' o o' e2 e3 g g' hl hl' hb
  · rcases Ren.set_some e with ⟨rfl, rfl⟩ | ⟨_, e⟩
    · exact hlt
    · exact h.fresh b p e
  · rcases Ren.set_some e with ⟨rfl, rfl⟩ | ⟨_, e⟩
    · simp
    · have := h.bound b p e; simp; omega
  · rcases Ren.set_some e with ⟨rfl, rfl⟩ | ⟨_, e⟩
    · exact .inr (.inl (Nat.le_refl _))
    · exact .inl e
theorem Grown.set {s : St} {x : AObj} (h : PT.get s.next s.heap = none) : Grown s { heap := PT.set s.next x s.heap, next := s.next.succ } := by
  intro b y e
  by_cases hb : b = s.next
  · subst hb; rw [h] at e; cases e
  · rw [PT.get_set_ne _ _ _ _ hb]; exact e

noncomputable def guardV (v : AVal) (w x y : Bool) : Bool :=
  @AVal.rec (fun _ => Bool) (fun _ => Bool) (fun b => ifK (eqBool b w) x y) (fun _ _ => y) (fun _ => y) (fun _ _ => y) y (fun _ _ _ _ => y) y (fun _ => y) y (fun _ _ _ _ _ => y) (fun _ => y) y
        (fun _ _ _ => y) y (fun _ _ => y) (fun _ _ => y) false (fun _ _ _ _ => false) v
theorem guardK_some {all : Array Oper} {o : Oper} {ρ : Operand → Option AVal} {g0 : Nat × Bool} {g : Tmp × Bool} {v : AVal} (hg : o.guard = some g0) (h1 : guardTmp all o = some g) (h3 : ρ (.tmp g.1) = some v) (x y : Bool) :
    guardK all o ρ x y = guardV v g.2 x y := by
  unfold guardK
  rw [hg]
  show optK (guardTmp all o) _ = _
  rw [h1]
  show optK (ρ (.tmp g.1)) _ = _
  rw [h3]
  rfl
/-- A guard chooses, whatever it chooses from. -/
theorem guardK_sel {all : Array Oper} {o : Oper} {ρ : Operand → Option AVal} {x y : Bool} (h : guardK all o ρ x y = true) :
    (x = true ∧ ∀ x' y', guardK all o ρ x' y' = x') ∨ (y = true ∧ ∀ x' y', guardK all o ρ x' y' = y') := by
  cases hg : o.guard with
  | none =>
    have he : ∀ x' y', guardK all o ρ x' y' = x' := fun x' y' => by unfold guardK; rw [hg]
    exact .inl ⟨by rw [← he x y]; exact h, he⟩
  | some g0 =>
    have h0 := h
    unfold guardK at h0
    rw [hg] at h0
    obtain ⟨g, h1, h2⟩ := optK_true.1 h0
    obtain ⟨v, h3, _⟩ := optK_true.1 h2
    have he := guardK_some (all := all) hg h1 h3
    rw [he] at h
    simp only [he]
    cases v with
    | bool b =>
      have h : ifK (eqBool b g.2) x y = true := h
      rcases ifK_true.1 h with ⟨h5, h6⟩ | ⟨h5, h6⟩
      · refine .inl ⟨h6, fun x' y' => ?_⟩
        show ifK (eqBool b g.2) x' y' = x'
        rw [h5]; rfl
      · refine .inr ⟨h6, fun x' y' => ?_⟩
        show ifK (eqBool b g.2) x' y' = y'
        rw [h5]; rfl
    | _ => exact .inr ⟨h, fun _ _ => rfl⟩

section
variable (P : Program) (ops : Array Oper) (masks : List Nat) (tree : PT AVal)
abbrev cls (i : Nat) : Nat := opClass P (opAt ops i).op
abbrev dstAt (i : Nat) : Option Tmp := (opAt ops i).dst
abbrev Anc (i j : Nat) : Prop := (maskAt masks i).testBit j = true
abbrev readsAt (i : Nat) : List Tmp := operReads ops (opAt ops i)
def writer (i : Nat) (t : Tmp) : Option Nat := (List.range ops.size).find? fun j => (maskAt masks i).testBit j && dstAt ops j == some t
/-- The operands of an operation, by what stands ahead of it. -/
noncomputable def rho (vals : Nat → AVal) (i : Nat) : Operand → Option AVal
  | .tmp t => if (readsAt ops i).contains t then (match writer ops masks i t with
    | some j => some (vals j)
    | none => PT.get (posOf t) tree) else none
  | .const v => conv v
  | .global _ => none
  | .func f => some (.fn f [] [])
/-- What the plan's check says of temporaries. -/
structure TmpsOk : Prop where
  one : ∀ i j d, i < ops.size → j < ops.size → dstAt ops i = some d → dstAt ops j = some d → i = j
  read : ∀ i j d, i < ops.size → j < ops.size → i ≠ j → dstAt ops i = some d → d ∈ readsAt ops j → Anc masks j i ∨ Anc masks i j
end
section
variable {P : Program} {ops : Array Oper} {masks : List Nat} {tree : PT AVal}
theorem writer_some {i j : Nat} {t : Tmp} (h : writer ops masks i t = some j) : j < ops.size ∧ Anc masks i j ∧ dstAt ops j = some t := by
  unfold writer at h
  have h1 := List.mem_of_find?_eq_some h
  have h2 := List.find?_some h
  simp only [Bool.and_eq_true, beq_iff_eq] at h2
  exact ⟨by simpa using h1, h2.1, h2.2⟩
theorem writer_none {i : Nat} {t : Tmp} (h : writer ops masks i t = none) (j : Nat) (hj : j < ops.size) (ha : Anc masks i j) : dstAt ops j ≠ some t := by
  unfold writer at h
  rw [List.find?_eq_none] at h
  have := h j (by simpa using hj)
  intro e
  simp only [Bool.and_eq_true, beq_iff_eq, not_and] at this
  exact this ha e
theorem rho_congr {vals vals' : Nat → AVal} {i : Nat} (h : ∀ j, Anc masks i j → vals j = vals' j) : rho ops masks tree vals i = rho ops masks tree vals' i := by
  funext x
  cases x with
  | tmp t =>
    simp only [rho]
    split
    · cases hw : writer ops masks i t with
      | none => rfl
      | some j => simp only [h j (writer_some hw).2.1]
    · rfl
  | _ => rfl
theorem idxOf_map {t : Tmp} {dst : Nat → Option Tmp} : ∀ (pre : List Nat) {d : Nat}, idxOf t (pre.map dst) 0 = some d → ∃ j, pre[d]? = some j ∧ dst j = some t
  | [], d, h => by cases h
  | j :: pre, d, h => by
    rw [List.map_cons] at h
    unfold idxOf at h
    split at h
    · rename_i e
      cases h
      exact ⟨j, rfl, e⟩
    · rw [idxOf_shift] at h
      cases hi : idxOf t (pre.map dst) 0 with
      | none => rw [hi] at h; cases h
      | some d' =>
        rw [hi] at h
        cases h
        obtain ⟨j', h1, h2⟩ := idxOf_map pre hi
        exact ⟨j', by simpa using h1, h2⟩
theorem idxOf_map_none {t : Tmp} {dst : Nat → Option Tmp} : ∀ (pre : List Nat), idxOf t (pre.map dst) 0 = none → ∀ j ∈ pre, dst j ≠ some t
  | [], h, j, hj => by cases hj
  | i :: pre, h, j, hj => by
    rw [List.map_cons] at h
    unfold idxOf at h
    split at h
    · cases h
    · rename_i e
      rw [idxOf_shift] at h
      have hi : idxOf t (pre.map dst) 0 = none := by
        cases hi : idxOf t (pre.map dst) 0 with
        | none => rfl
        | some d' => rw [hi] at h; cases h
      rcases List.mem_cons.1 hj with rfl | hj
      · exact e
      · exact idxOf_map_none pre hi j hj
/-- The plan's operands are these. -/
theorem look_plan (ht : TmpsOk ops masks) {vals : Nat → AVal} {i : Nat} {pre : List Nat} (hlt : ∀ j ∈ pre, j < ops.size) (hanc : ∀ j, Anc masks i j → j ∈ pre) (hrd : ∀ j ∈ pre, Anc masks i j ∨ ∀ d, dstAt ops j = some d → d ∉ readsAt ops i)
    (x : Operand) (hx : ∀ t, x = .tmp t → t ∈ readsAt ops i) : getO tree (pre.map vals) (resolveO (pre.map (dstAt ops)) x) = rho ops masks tree vals i x := by
  cases x with
  | tmp t =>
    have hr := hx t rfl
    simp only [rho, resolveO]
    rw [if_pos (by simpa using hr)]
    cases hi : idxOf t (pre.map (dstAt ops)) 0 with
    | some d =>
      obtain ⟨j, h1, h2⟩ := idxOf_map pre hi
      have hj : j ∈ pre := List.mem_of_getElem? h1
      have ha : Anc masks i j := by
        rcases hrd j hj with h | h
        · exact h
        · exact absurd hr (h t h2)
      cases hw : writer ops masks i t with
      | none => exact absurd h2 (writer_none hw j (hlt j hj) ha)
      | some j' =>
        obtain ⟨h3, _, h5⟩ := writer_some hw
        have : j' = j := ht.one j' j t h3 (hlt j hj) h5 h2
        subst this
        show nthO (pre.map vals) d = some (vals j')
        rw [nthO_eq]
        simp [h1]
    | none =>
      have hno := idxOf_map_none pre hi
      cases hw : writer ops masks i t with
      | none => rfl
      | some j =>
        obtain ⟨_, h4, h5⟩ := writer_some hw
        exact absurd h5 (hno j (hanc j h4))
  | const v =>
    simp only [rho, resolveO]
    cases hc : conv v <;> rfl
  | global g => rfl
  | func f => rfl
/-- The model's operands are these. -/
theorem look_real (ht : TmpsOk ops masks) {ι : Ren} {vals : Nat → AVal} {i : Nat} {L : Nat → Prop} {a : Act} {tmps0 : Array Value} (hi : i < ops.size) (hLi : ¬ L i) (hlt : ∀ j, L j → j < ops.size) (hanc : ∀ j, Anc masks i j → L j) (hLanc : ∀ j, L j → ∀ k, Anc masks j k → L k)
    (h1 : ∀ j, L j → ∀ d, dstAt ops j = some d → ∃ u, a.tmps[d]? = some u ∧ VRel ι (vals j) u) (h2 : ∀ t, (∀ j, L j → dstAt ops j ≠ some t) → a.tmps[t]? = tmps0[t]?)
    (h0 : ∀ t v, PT.get (posOf t) tree = some v → ∃ u, tmps0[t]? = some u ∧ VRel ι v u) (x : Operand) : ORl ι (rho ops masks tree vals i x) (a.eval x) := by
  intro v hv
  cases x with
  | tmp t =>
    simp only [rho] at hv
    split at hv
    · rename_i hr
      have hr : t ∈ readsAt ops i := by simpa using hr
      cases hw : writer ops masks i t with
      | some j =>
        rw [hw] at hv
        cases hv
        obtain ⟨_, h4, h5⟩ := writer_some hw
        obtain ⟨u, h6, h7⟩ := h1 j (hanc j h4) t h5
        simpa [Act.eval, Array.getD_eq_getD_getElem?, h6] using h7
      | none =>
        rw [hw] at hv
        have hv : PT.get (posOf t) tree = some v := hv
        obtain ⟨u, h6, h7⟩ := h0 t v hv
        have h8 := h2 t (fun j hj e => by
          have hne : j ≠ i := fun e => hLi (e ▸ hj)
          rcases ht.read j i t (hlt j hj) hi hne e hr with h | h
          · exact writer_none hw j (hlt j hj) h e
          · exact hLi (hLanc j hj i h))
        rw [h6] at h8
        simpa [Act.eval, Array.getD_eq_getD_getElem?, h8] using h7
    · cases hv
  | const c => exact conv_rel hv
  | global g => cases hv
  | func f =>
    have hv : some (AVal.fn f [] []) = some v := hv
    cases hv
    exact .fn .nil .nil
theorem opTmps_mem {all : Array Oper} {o : Oper} {t : Tmp} (h : .tmp t ∈ o.op.operands) : t ∈ operReads all o := by
  unfold operReads
  refine List.mem_append_left _ (List.mem_flatMap.2 ⟨.tmp t, by simpa using h, by simp [opTmps]⟩)
end
end Go.AM
end
section
/- The abstract machine's drawn regions, part 5: any order that the model draws comes to what the plan came to. -/
namespace Go.AM
variable [Orc] [OrcOk]
theorem put_defers (a : Act) (dst : Option Tmp) (u : Value) : (a.put dst u).defers = a.defers := by
  unfold Act.put; split <;> rfl
theorem put_size (a : Act) (dst : Option Tmp) (u : Value) : (a.put dst u).tmps.size = a.tmps.size := by
  unfold Act.put; split <;> simp
theorem put_same {a : Act} {d : Tmp} {u : Value} (h : d < a.tmps.size) : (a.put (some d) u).tmps[d]? = some u := by simp [Act.put, h]
theorem put_other {a : Act} {dst : Option Tmp} {t : Tmp} {u : Value} (h : dst ≠ some t) : (a.put dst u).tmps[t]? = a.tmps[t]? := by
  cases dst with
  | none => rfl
  | some d => exact Array.getElem?_setIfInBounds_ne (fun e => h (by rw [e]))
def upd {α : Type} (f : Nat → α) (i : Nat) (v : α) : Nat → α := fun j => if j = i then v else f j
theorem upd_same {α : Type} (f : Nat → α) (i : Nat) (v : α) : upd f i v i = v := by simp [upd]
theorem upd_ne {α : Type} {f : Nat → α} {i j : Nat} {v : α} (h : j ≠ i) : upd f i v j = f j := by simp [upd, h]
theorem map_upd {α : Type} {f : Nat → α} {i : Nat} {v : α} {l : List Nat} (h : i ∉ l) : (i :: l).map (upd f i v) = v :: l.map f := by
  rw [List.map_cons, upd_same]
  congr 1
  exact List.map_congr_left fun j hj => upd_ne fun e => h (e ▸ hj)
open Classical in
/-- A test of what cannot be computed. -/
noncomputable def hold (p : Prop) : Bool := decide p
theorem hold_true {p : Prop} : hold p = true ↔ p := by simp [hold]
theorem opLoad_move {P : Program} {t : TypeId} {x : Option AVal} {s s' : St} {K K' : VK} (h : opLoad P t x s K = true) (hb : ∀ b off, x = some (.ptr b off) → PT.get b s'.heap = PT.get b s.heap) (hK : ∀ v, K v s = true → K' v s' = true) :
    opLoad P t x s' K' = true := by
  obtain ⟨n, hn, h1⟩ := optK_true.1 h
  obtain ⟨a, ha, h2⟩ := optK_true.1 h1
  obtain ⟨b, off, rfl, h3⟩ := AVal.ptrK_true.1 h2
  obtain ⟨cs, ro, hc, h4⟩ := cellsK_true.1 h3
  obtain ⟨v, hv, hd⟩ := partK_det h4
  exact optK_true.2 ⟨n, hn, optK_true.2 ⟨_, ha, AVal.ptrK_true.2 ⟨b, off, rfl, cellsK_true.2 ⟨cs, ro, (hb b off ha).trans hc, hd (fun v => K' v s') (hK v hv)⟩⟩⟩⟩
theorem calm_to {P : Program} {rec : RecT} {o : Op} {ρ : Operand → Option AVal} {T : St} {K : VK} (hc : opClass P o ≤ 1) (h : opK P rec o ρ T K = true) :
    ∃ v, K v T = true ∧ ∀ T', Grown T T' → ∀ K' : VK, K' v T' = true → opK P rec o ρ T' K' = true := by
  rcases Nat.lt_or_ge (opClass P o) 1 with h0 | h1
  · have h0 : opClass P o = 0 := by omega
    rw [opK_calm h0 T T] at h
    obtain ⟨v, h1, h2⟩ := opK_det (P := P) (rec := rec) (s := T) (ρ := ρ) h0 (fun v => K v T) h
    refine ⟨v, h1, fun T' _ K' hk => ?_⟩
    rw [opK_calm h0 T' T]
    exact h2 (fun v => K' v T') hk
  · obtain ⟨t, a, rfl⟩ := opClass_load (P := P) (o := o) (by omega)
    obtain ⟨v, h1, h2⟩ := opLoad_det (show opLoad P t (ρ a) T K = true from h)
    exact ⟨v, h1, fun T' hg K' hk => h2 T' hg K' hk⟩

section
variable (P : Program) (rec : RecT) (ops : Array Oper) (masks : List Nat) (tree : PT AVal)
def CalmProm (vals : Nat → AVal) (i : Nat) (T : St) : Prop :=
  guardK ops (opAt ops i) (rho ops masks tree vals i) (opK P rec (opAt ops i).op (rho ops masks tree vals i) T fun v s => hold (v = vals i ∧ s = T)) (hold (vals i = .tup [])) = true
def MakeProm (vals : Nat → AVal) (nm : Nat → Option Pos) (i : Nat) (T : St) : Prop :=
  guardK ops (opAt ops i) (rho ops masks tree vals i) (hold (∃ x v q, nm i = some q ∧ vals i = v q ∧ PT.get q T.heap = some x ∧
    ∀ ι ρc, (∀ y, ORl ι (rho ops masks tree vals i y) (ρc y)) → Lays P ι x v (fun w => (execOp ρc (opAt ops i)).run P w))) (hold (vals i = .tup [])) = true
/-- What is promised of an operation that the plan has run and the model has not. -/
def Prom (vals : Nat → AVal) (nm : Nat → Option Pos) (i : Nat) (T : St) : Prop :=
  (cls P ops i ≤ 1 ∧ CalmProm P rec ops masks tree vals i T) ∨ (cls P ops i = 2 ∧ MakeProm P ops masks tree vals nm i T)
end
section
variable {P : Program} {rec : RecT} {ops : Array Oper} {masks : List Nat} {tree : PT AVal}
theorem CalmProm.to {vals : Nat → AVal} {i : Nat} {T T' : St} (hc : cls P ops i ≤ 1) (hg : Grown T T') (h : CalmProm P rec ops masks tree vals i T) : CalmProm P rec ops masks tree vals i T' := by
  unfold CalmProm at h ⊢
  rcases guardK_sel h with ⟨h1, h2⟩ | ⟨h1, h2⟩
  · rw [h2]
    obtain ⟨v, h3, h4⟩ := calm_to hc h1
    exact h4 T' hg _ (hold_true.2 ⟨(hold_true.1 h3).1, rfl⟩)
  · rw [h2]; exact h1
theorem Prom.grow {vals : Nat → AVal} {nm : Nat → Option Pos} {i : Nat} {T T' : St} (hg : Grown T T') (h : Prom P rec ops masks tree vals nm i T) : Prom P rec ops masks tree vals nm i T' := by
  rcases h with ⟨hc, h⟩ | ⟨hc, h⟩
  · exact .inl ⟨hc, h.to hc hg⟩
  · refine .inr ⟨hc, ?_⟩
    unfold MakeProm at h ⊢
    rcases guardK_sel h with ⟨h1, h2⟩ | ⟨h1, h2⟩
    · rw [h2]
      obtain ⟨x, v, q, e1, e2, e3, e4⟩ := hold_true.1 h1
      exact hold_true.2 ⟨x, v, q, e1, e2, hg _ _ e3, e4⟩
    · rw [h2]; exact h1
theorem Prom.congr {vals vals' : Nat → AVal} {nm nm' : Nat → Option Pos} {i : Nat} {T : St} (hv : ∀ j, Anc masks i j → vals j = vals' j) (hi : vals i = vals' i) (hn : nm i = nm' i) (h : Prom P rec ops masks tree vals nm i T) : Prom P rec ops masks tree vals' nm' i T := by
  have hr : rho ops masks tree vals i = rho ops masks tree vals' i := rho_congr hv
  unfold Prom CalmProm MakeProm at h ⊢
  rw [← hr, ← hi, ← hn]
  exact h
end
section
variable (P : Program) (rec : RecT) (ops : Array Oper) (masks : List Nat) (tree : PT AVal) (fi : FI) (k : PT AVal → St → Bool) (a0 : Act) (ι0 : Ren) (w0 : World)
/-- Where the model stands within a region whose order it draws: what the plan has run (`pre`), what the model has run (`L`). -/
structure Inv (pre : List Nat) (vals : Nat → AVal) (nm : Nat → Option Pos) (T : St) (L : Nat → Prop) (ι : Ren) (a : Act) (w : World) (pl : List PItem) (done : Nat) : Prop where
  wr : WRel P ι T w
  ext : Ext ι0 w0 ι w
  defs : a.defers = a0.defers
  size : a.tmps.size = a0.tmps.size
  sub : ∀ i, L i → i ∈ pre
  lt : ∀ i ∈ pre, i < ops.size
  anc : ∀ i ∈ pre, ∀ j, Anc masks i j → j ∈ pre
  lanc : ∀ i, L i → ∀ j, Anc masks i j → L j
  t1 : ∀ j, L j → ∀ d, dstAt ops j = some d → ∃ u, a.tmps[d]? = some u ∧ VRel ι (vals j) u
  t2 : ∀ t, (∀ j, L j → dstAt ops j ≠ some t) → a.tmps[t]? = a0.tmps[t]?
  effs : ∀ i ∈ pre, 2 < cls P ops i → L i
  prom : ∀ i ∈ pre, ¬ L i → Prom P rec ops masks tree vals nm i T
  names : ∀ i ∈ pre, ¬ L i → ∀ q, nm i = some q → ι q = none ∧ q.toNat < T.next.toNat
  apart : ∀ i ∈ pre, ∀ j ∈ pre, ¬ L i → ¬ L j → i ≠ j → ∀ q, nm i = some q → nm j ≠ some q
  nmk : ∀ i q, nm i = some q → cls P ops i = 2
  bits : ∀ j, done.testBit j = true ↔ j ∈ pre
  plan : planOk P ops masks pl done = true
  cont : itemsK P rec fi ops (planItems ops pl) (pre.map (dstAt ops)) (pre.map vals) tree T k = true
end
section
variable {P : Program} {rec : RecT} {ops : Array Oper} {masks : List Nat} {tree : PT AVal} {fi : FI} {k : PT AVal → St → Bool} {a0 : Act} {ι0 : Ren} {w0 : World}
  {pre : List Nat} {vals : Nat → AVal} {nm : Nat → Option Pos} {T : St} {L : Nat → Prop} {ι : Ren} {a : Act} {w : World} {pl : List PItem} {done : Nat}
theorem bits_push (hb : ∀ j, done.testBit j = true ↔ j ∈ pre) (i j : Nat) : (done ||| (1 <<< i)).testBit j = true ↔ j ∈ i :: pre := by
  rw [Nat.testBit_or, Bool.or_eq_true, Nat.one_shiftLeft, Nat.testBit_two_pow, decide_eq_true_eq, hb j, List.mem_cons]
  constructor
  · rintro (h | h)
    · exact .inr h
    · exact .inl h.symm
  · rintro (h | h)
    · exact .inr h.symm
    · exact .inl h
theorem stepOk_some {i : Nat} (hb : ∀ j, done.testBit j = true ↔ j ∈ pre) (hlt : ∀ i ∈ pre, i < ops.size) (h : stepOk ops masks i done = true) :
    i < ops.size ∧ i ∉ pre ∧ (∀ j, Anc masks i j → j ∈ pre) ∧ ∀ j ∈ pre, Anc masks i j ∨ ∀ d, dstAt ops j = some d → d ∉ readsAt ops i := by
  unfold stepOk at h
  simp only [Bool.and_eq_true, decide_eq_true_eq, Bool.not_eq_true', beq_iff_eq] at h
  obtain ⟨⟨⟨h1, h2⟩, h3⟩, h4⟩ := h
  refine ⟨h1, fun hm => ?_, fun j hj => ?_, fun j hj => ?_⟩
  · have := (hb i).2 hm
    rw [h2] at this; cases this
  · have := congrArg (fun m => m.testBit j) h3
    simp only [Nat.testBit_and] at this
    rw [show (maskAt masks i).testBit j = true from hj] at this
    exact (hb j).1 (by simpa using this)
  · have := List.all_eq_true.1 h4 j (by simpa using hlt j hj)
    rw [(hb j).2 hj] at this
    simp only [Bool.not_true, Bool.false_or, Bool.or_eq_true] at this
    rcases this with h5 | h5
    · exact .inl h5
    · refine .inr fun d e => ?_
      rw [show (opAt ops j).dst = some d from e] at h5
      simpa using h5
theorem Inv.push {i : Nat} {T' : St} {v : AVal} {nq : Option Pos} {r : List PItem} (h : Inv P rec ops masks tree fi k a0 ι0 w0 pre vals nm T L ι a w pl done) (hi : i < ops.size) (hn : i ∉ pre) (ha : ∀ j, Anc masks i j → j ∈ pre) (hc : cls P ops i ≤ 2)
    (hg : Grown T T') (hnx : T.next.toNat ≤ T'.next.toNat) (hp : Prom P rec ops masks tree (upd vals i v) (upd nm i nq) i T')
    (hq : ∀ q, nq = some q → cls P ops i = 2 ∧ ι q = none ∧ q.toNat < T'.next.toNat ∧ ∀ j ∈ pre, ¬ L j → nm j ≠ some q)
    (hpl : planOk P ops masks r (done ||| (1 <<< i)) = true) (hk : itemsK P rec fi ops (planItems ops r) (dstAt ops i :: pre.map (dstAt ops)) (v :: pre.map vals) tree T' k = true) :
    Inv P rec ops masks tree fi k a0 ι0 w0 (i :: pre) (upd vals i v) (upd nm i nq) T' L ι a w r (done ||| (1 <<< i)) := by
  have hLi : ¬ L i := fun e => hn (h.sub i e)
  have hne : ∀ j ∈ pre, j ≠ i := fun j hj e => hn (e ▸ hj)
  refine ⟨h.wr.grow hg hnx, h.ext, h.defs, h.size, fun j hj => List.mem_cons_of_mem _ (h.sub j hj), ?_, ?_, h.lanc, ?_, h.t2, ?_, ?_, ?_, ?_, ?_, bits_push h.bits i, hpl, ?_⟩
  · intro j hj
    rcases List.mem_cons.1 hj with rfl | hj
    · exact hi
    · exact h.lt j hj
  · intro j hj m hm
    rcases List.mem_cons.1 hj with rfl | hj
    · exact List.mem_cons_of_mem _ (ha m hm)
    · exact List.mem_cons_of_mem _ (h.anc j hj m hm)
  · intro j hj d hd
    rw [upd_ne (hne j (h.sub j hj))]
    exact h.t1 j hj d hd
  · intro j hj hcj
    rcases List.mem_cons.1 hj with rfl | hj
    · omega
    · exact h.effs j hj hcj
  · intro j hj hLj
    rcases List.mem_cons.1 hj with rfl | hj
    · exact hp
    · refine Prom.congr (fun m hm => ?_) ?_ ?_ ((h.prom j hj hLj).grow hg)
      · rw [upd_ne (hne m (h.anc j hj m hm))]
      · rw [upd_ne (hne j hj)]
      · rw [upd_ne (hne j hj)]
  · intro j hj hLj q e
    rcases List.mem_cons.1 hj with rfl | hj
    · rw [upd_same] at e
      exact ⟨(hq q e).2.1, (hq q e).2.2.1⟩
    · rw [upd_ne (hne j hj)] at e
      obtain ⟨h1, h2⟩ := h.names j hj hLj q e
      exact ⟨h1, by omega⟩
  · intro j hj m hm hLj hLm hjm q e
    rcases List.mem_cons.1 hj with rfl | hj
    · rw [upd_same] at e
      rcases List.mem_cons.1 hm with rfl | hm
      · exact absurd rfl hjm
      · rw [upd_ne (hne m hm)]
        exact (hq q e).2.2.2 m hm hLm
    · have hj' := hj
      rw [upd_ne (hne j hj)] at e
      rcases List.mem_cons.1 hm with rfl | hm
      · rw [upd_same]
        intro e'
        exact (hq q e').2.2.2 j hj' hLj e
      · rw [upd_ne (hne m hm)]
        exact h.apart j hj m hm hLj hLm hjm q e
  · intro j q e
    by_cases hj : j = i
    · subst hj
      rw [upd_same] at e
      exact (hq q e).1
    · rw [upd_ne hj] at e
      exact h.nmk j q e
  · rw [List.map_cons, map_upd hn]
    exact hk
/-- The plan runs on to the next operation that may do anything. -/
theorem Inv.settle (ht : TmpsOk ops masks) : ∀ (pl : List PItem) (pre : List Nat) (vals : Nat → AVal) (nm : Nat → Option Pos) (T : St) (done : Nat), Inv P rec ops masks tree fi k a0 ι0 w0 pre vals nm T L ι a w pl done →
    ∃ pre' vals' nm' T' pl' done', Inv P rec ops masks tree fi k a0 ι0 w0 pre' vals' nm' T' L ι a w pl' done' ∧ (pl' = [] ∨ ∃ i cs r, pl' = .eff i cs :: r)
  | [], pre, vals, nm, T, done, h => ⟨pre, vals, nm, T, [], done, h, .inl rfl⟩
  | .eff i cs :: r, pre, vals, nm, T, done, h => ⟨pre, vals, nm, T, _, done, h, .inr ⟨i, cs, r, rfl⟩⟩
  | .calm i :: r, pre, vals, nm, T, done, h => by
    have hpl := h.plan
    simp only [planOk, Bool.and_eq_true, decide_eq_true_eq] at hpl
    obtain ⟨⟨hst, hc⟩, hr⟩ := hpl
    obtain ⟨hi, hn, ha, hrd⟩ := stepOk_some h.bits h.lt hst
    have hlook := fun x hx => look_plan (tree := tree) ht (vals := vals) h.lt ha hrd x hx
    have hk : guardK ops (opAt ops i) (fun x => getO tree (pre.map vals) (resolveO (pre.map (dstAt ops)) x))
        (opK P rec (opAt ops i).op (fun x => getO tree (pre.map vals) (resolveO (pre.map (dstAt ops)) x)) T fun v s => itemsK P rec fi ops (planItems ops r) (dstAt ops i :: pre.map (dstAt ops)) (v :: pre.map vals) tree s k)
        (itemsK P rec fi ops (planItems ops r) (dstAt ops i :: pre.map (dstAt ops)) (.tup [] :: pre.map vals) tree T k) = true := h.cont
    rw [guardK_congr (fun t ht => hlook (.tmp t) (fun t' e => by cases e; exact ht)), opK_congr (ρ' := rho ops masks tree vals i) (fun x hx => hlook x (fun t e => opTmps_mem (e ▸ hx)))] at hk
    have hri : ∀ v, rho ops masks tree (upd vals i v) i = rho ops masks tree vals i := fun v => rho_congr fun j hj => upd_ne fun e => hn (e ▸ ha j hj)
    have hqn : ∀ q, (none : Option Pos) = some q → cls P ops i = 2 ∧ ι q = none ∧ q.toNat < T.next.toNat ∧ ∀ j ∈ pre, ¬ L j → nm j ≠ some q := fun q e => by cases e
    rcases guardK_sel hk with ⟨h1, h2⟩ | ⟨h1, h2⟩
    · obtain ⟨v, h3, h4⟩ := calm_to hc h1
      refine Inv.settle ht r _ _ _ _ _ (h.push (v := v) (nq := none) hi hn ha (Nat.le_trans hc (by decide)) (Grown.refl T) (Nat.le_refl _) (.inl ⟨hc, ?_⟩) hqn hr h3)
      unfold CalmProm
      rw [hri, h2, upd_same]
      exact h4 T (Grown.refl T) _ (hold_true.2 ⟨rfl, rfl⟩)
    · refine Inv.settle ht r _ _ _ _ _ (h.push (v := .tup []) (nq := none) hi hn ha (Nat.le_trans hc (by decide)) (Grown.refl T) (Nat.le_refl _) (.inl ⟨hc, ?_⟩) hqn hr h1)
      unfold CalmProm
      rw [hri, h2, upd_same]
      exact hold_true.2 rfl
  | .make i :: r, pre, vals, nm, T, done, h => by
    have hpl := h.plan
    simp only [planOk, Bool.and_eq_true, beq_iff_eq] at hpl
    obtain ⟨⟨hst, hc⟩, hr⟩ := hpl
    obtain ⟨hi, hn, ha, hrd⟩ := stepOk_some h.bits h.lt hst
    have hlook := fun x hx => look_plan (tree := tree) ht (vals := vals) h.lt ha hrd x hx
    have hk0 : @Option.rec AObj (fun _ => Bool) (guardK ops (opAt ops i) (fun x => getO tree (pre.map vals) (resolveO (pre.map (dstAt ops)) x))
        (opK P rec (opAt ops i).op (fun x => getO tree (pre.map vals) (resolveO (pre.map (dstAt ops)) x)) T fun v s => itemsK P rec fi ops (planItems ops r) (dstAt ops i :: pre.map (dstAt ops)) (v :: pre.map vals) tree s k)
        (itemsK P rec fi ops (planItems ops r) (dstAt ops i :: pre.map (dstAt ops)) (.tup [] :: pre.map vals) tree T k)) (fun _ => fail 56) (PT.get T.next T.heap) = true := h.cont
    cases hfr : PT.get T.next T.heap with
    | some y => rw [hfr] at hk0; cases hk0
    | none =>
      rw [hfr] at hk0
      have hk := hk0
      simp only at hk
      rw [guardK_congr (fun t ht => hlook (.tmp t) (fun t' e => by cases e; exact ht)), opK_congr (ρ' := rho ops masks tree vals i) (fun x hx => hlook x (fun t e => opTmps_mem (e ▸ hx)))] at hk
      have hri : ∀ v, rho ops masks tree (upd vals i v) i = rho ops masks tree vals i := fun v => rho_congr fun j hj => upd_ne fun e => hn (e ▸ ha j hj)
      rcases guardK_sel hk with ⟨h1, h2⟩ | ⟨h1, h2⟩
      · obtain ⟨x, v, _, h3, h4⟩ := alloc_form hc h1
        have hsucc : T.next.succ.toNat = T.next.toNat + 1 := Pos.succ_toNat _
        refine Inv.settle ht r _ _ _ _ _ (h.push (T' := { heap := PT.set T.next x T.heap, next := T.next.succ }) (v := v T.next) (nq := some T.next) hi hn ha (Nat.le_of_eq hc) (Grown.set hfr) (by simp only [hsucc]; omega) (.inr ⟨hc, ?_⟩) (fun q e => ?_) hr h3)
        · unfold MakeProm
          rw [hri, h2, upd_same, upd_same]
          exact hold_true.2 ⟨x, v, T.next, rfl, rfl, PT.get_set_same _ _ _, h4⟩
        · cases e
          refine ⟨hc, h.wr.next_none, by simp only [hsucc]; omega, fun j hj hLj e => ?_⟩
          have := (h.names j hj hLj _ e).2
          omega
      · refine Inv.settle ht r _ _ _ _ _ (h.push (v := .tup []) (nq := none) hi hn ha (Nat.le_of_eq hc) (Grown.refl T) (Nat.le_refl _) (.inr ⟨hc, ?_⟩) (fun q e => by cases e) hr h1)
        unfold MakeProm
        rw [hri, h2, upd_same]
        exact hold_true.2 rfl
end
end Go.AM
end
section
/- The abstract machine's drawn regions, part 6: the model's steps within a drawn region. -/
namespace Go.AM
variable [Orc] [OrcOk]
theorem eqCap_eq {a b : Cap} (h : eqCap a b = true) : a = b := by
  cases a <;> cases b <;> simp [eqCap] at h <;> rw [h]
theorem zip_eq {f : AVal → AVal → Bool} (hf : ∀ x y, f x y = true → x = y) : ∀ (a b : List AVal), a.length = b.length → ((a.zip b).all fun x => f x.1 x.2) = true → a = b
  | [], [], _, _ => rfl
  | [], _ :: _, h, _ => by simp at h
  | _ :: _, [], h, _ => by simp at h
  | x :: a, y :: b, h, e => by
    simp only [List.zip_cons_cons, List.all_cons, Bool.and_eq_true] at e
    rw [hf x y e.1, zip_eq hf a b (by simpa using h) e.2]
theorem eqVal_eq : ∀ (d : Nat) (a b : AVal), eqVal d a b = true → a = b
  | 0, a, b, h => by simp [eqVal] at h
  | d + 1, a, b, h => by
    cases a <;> cases b <;> simp only [eqVal, Bool.and_eq_true, beq_iff_eq, Bool.false_eq_true] at h <;> first
      | rfl
      | (rw [h])
      | (rw [h.1, h.2])
      | (rw [Pos.toNat_inj h])
      | (rw [Pos.toNat_inj h.1, h.2])
      | (rw [Pos.toNat_inj h.1.1.1, h.1.1.2, h.1.2, eqCap_eq h.2])
      | (rw [zip_eq (eqVal_eq d) _ _ h.1 h.2])
      | (rw [h.1.1.1.1, zip_eq (eqVal_eq d) _ _ h.1.1.1.2 h.1.2, zip_eq (eqVal_eq d) _ _ h.1.1.2 h.2])
      | (cases h)
section
variable {P : Program} {rec : RecT} {ops : Array Oper} {masks : List Nat} {tree : PT AVal} {fi : FI} {k : PT AVal → St → Bool} {a0 : Act} {ι0 : Ren} {w0 : World}
  {pre : List Nat} {vals : Nat → AVal} {nm : Nat → Option Pos} {T : St} {L : Nat → Prop} {ι : Ren} {a : Act} {w : World} {pl : List PItem} {done : Nat} {F : Fence} {m : Nat} {Q : Exit → Act → World → Prop} {i : Nat}
theorem opAt_get (h : i < ops.size) : ops[i]? = some (opAt ops i) := by
  unfold opAt
  simp [h]
theorem Inv.real (h : Inv P rec ops masks tree fi k a0 ι0 w0 pre vals nm T L ι a w pl done) (ht : TmpsOk ops masks) (h0 : ∀ t v, PT.get (posOf t) tree = some v → ∃ u, a0.tmps[t]? = some u ∧ VRel ι0 v u) (hi : i < ops.size) (hL : ¬ L i)
    (hanc : ∀ j, Anc masks i j → L j) (x : Operand) : ORl ι (rho ops masks tree vals i x) (a.eval x) :=
  look_real ht hi hL (fun j hj => h.lt j (h.sub j hj)) hanc h.lanc h.t1 h.t2 (fun t v e => let ⟨u, h1, h2⟩ := h0 t v e; ⟨u, h1, h2.mono h.ext.le⟩) x
/-- The model has run what the plan had run. -/
theorem Inv.ran (h : Inv P rec ops masks tree fi k a0 ι0 w0 pre vals nm T L ι a w pl done) (ht : TmpsOk ops masks) (hds : ∀ d, dstAt ops i = some d → d < a0.tmps.size) (hi : i ∈ pre) (hL : ¬ L i) (hanc : ∀ j, Anc masks i j → L j)
    {ι' : Ren} {u : Value} {w' : World} (hw : WRel P ι' T w') (he : Ext ι w ι' w') (hv : VRel ι' (vals i) u) (hnames : ∀ j ∈ pre, ¬ L j → j ≠ i → ∀ q, nm j = some q → ι' q = none) :
    Inv P rec ops masks tree fi k a0 ι0 w0 pre vals nm T (fun j => L j ∨ j = i) ι' (a.put (dstAt ops i) u) w' pl done := by
  refine ⟨hw, h.ext.trans he, (put_defers a _ u).trans h.defs, (put_size a _ u).trans h.size, ?_, h.lt, h.anc, ?_, ?_, ?_, ?_, ?_, ?_, ?_, h.nmk, h.bits, h.plan, h.cont⟩
  · rintro j (hj | rfl)
    · exact h.sub j hj
    · exact hi
  · rintro j (hj | rfl) x hx
    · exact .inl (h.lanc j hj x hx)
    · exact .inl (hanc x hx)
  · rintro j (hj | rfl) d hd
    · obtain ⟨u', h1, h2⟩ := h.t1 j hj d hd
      refine ⟨u', ?_, h2.mono he.le⟩
      rw [put_other]
      · exact h1
      · intro e
        have := ht.one i j d (h.lt i hi) (h.lt j (h.sub j hj)) e hd
        exact hL (this ▸ hj)
    · rw [hd]
      exact ⟨u, put_same (by rw [h.size]; exact hds d hd), hv⟩
  · intro t hno
    rw [put_other (hno i (.inr rfl))]
    exact h.t2 t fun j hj => hno j (.inl hj)
  · intro j hj hc
    exact .inl (h.effs j hj hc)
  · intro j hj hLj
    exact h.prom j hj fun e => hLj (.inl e)
  · intro j hj hLj q e
    exact ⟨hnames j hj (fun e => hLj (.inl e)) (fun e => hLj (.inr e)) q e, (h.names j hj (fun e => hLj (.inl e)) q e).2⟩
  · intro j hj x hx hLj hLx
    exact h.apart j hj x hx (fun e => hLj (.inl e)) (fun e => hLx (.inl e))
theorem step_calm (hs : Sound P rec) (hF : ∀ f, F.fn f) (hd : F.depth = none) (h : Inv P rec ops masks tree fi k a0 ι0 w0 pre vals nm T L ι a w pl done) (ht : TmpsOk ops masks) (hds : ∀ d, dstAt ops i = some d → d < a0.tmps.size)
    (h0 : ∀ t v, PT.get (posOf t) tree = some v → ∃ u, a0.tmps[t]? = some u ∧ VRel ι0 v u) (hi : i ∈ pre) (hL : ¬ L i) (hanc : ∀ j, Anc masks i j → L j) (hc : cls P ops i ≤ 1) {K : Act → World → Prop}
    (hK : ∀ ι' a' w', Inv P rec ops masks tree fi k a0 ι0 w0 pre vals nm T (fun j => L j ∨ j = i) ι' a' w' pl done → K a' w') : wpOpIn F m P ops Q i K a w := by
  have hlt := h.lt i hi
  have hreal := h.real ht h0 hlt hL hanc
  have hp : CalmProm P rec ops masks tree vals i T := by
    rcases h.prom i hi hL with ⟨_, hp⟩ | ⟨hc2, _⟩
    · exact hp
    · omega
  unfold wpOpIn
  rw [opAt_get hlt]
  show if Region.wanted (opAt ops i) (yielded ops a.tmps) = true then _ else _
  have hno : ∀ j ∈ pre, ¬ L j → j ≠ i → ∀ q, nm j = some q → ι q = none := fun j hj hLj _ q e => (h.names j hj hLj q e).1
  rcases guardK_true hp hreal with ⟨hw, h1⟩ | ⟨hw, h1⟩
  · rw [if_pos hw]
    have h2 : opK P rec (opAt ops i).op (rho ops masks tree vals i) (T.known ι) (fun v s => hold (v = vals i ∧ s = T.known ι)) = true := by
      rcases Nat.lt_or_ge (cls P ops i) 1 with hc0 | hc1
      · have hc0 : opClass P (opAt ops i).op = 0 := Nat.lt_one_iff.1 hc0
        rw [opK_calm hc0 (T.known ι) T]
        rw [opK_calm hc0 T T] at h1
        have : (fun v (_ : St) => hold (v = vals i ∧ T = T)) = (fun v (_ : St) => hold (v = vals i ∧ T.known ι = T.known ι)) := by
          funext v _
          simp [hold]
        rw [← this]
        exact h1
      · obtain ⟨t, x, hx⟩ := opClass_load (P := P) (o := (opAt ops i).op) (Nat.le_antisymm hc hc1)
        rw [hx] at h1 ⊢
        refine opLoad_move (K := fun v s => hold (v = vals i ∧ s = T)) (K' := fun v s => hold (v = vals i ∧ s = T.known ι)) (show opLoad P t (rho ops masks tree vals i x) T (fun v s => hold (v = vals i ∧ s = T)) = true from h1) (fun b off e => ?_) (fun v hv => hold_true.2 ⟨(hold_true.1 hv).1, rfl⟩)
        have hrel := hreal x _ e
        generalize a.eval x = gx at hrel
        cases hrel with
        | ptr hb => exact St.known_get (by simp [hb])
    refine opK_wpIn hs h2 hF hd h.wr.known hreal fun v w' ι' s' av he hw' hv hk => ?_
    obtain ⟨rfl, rfl⟩ := hold_true.1 hk
    have hι : ι' = ι := WRel.same_names he.le hw'
    subst hι
    exact hK _ _ _ (h.ran ht hds hi hL hanc (h.wr.unknown hw') he hv hno)
  · rw [if_neg (by rw [hw]; simp)]
    refine ⟨fun f _ => hF f, hK ι _ _ (h.ran ht hds hi hL hanc h.wr (Ext.refl ι w) ?_ hno)⟩
    rw [hold_true.1 h1]
    exact .tup .nil
theorem step_make (hF : ∀ f, F.fn f) (h : Inv P rec ops masks tree fi k a0 ι0 w0 pre vals nm T L ι a w pl done) (ht : TmpsOk ops masks) (hds : ∀ d, dstAt ops i = some d → d < a0.tmps.size)
    (h0 : ∀ t v, PT.get (posOf t) tree = some v → ∃ u, a0.tmps[t]? = some u ∧ VRel ι0 v u) (hi : i ∈ pre) (hL : ¬ L i) (hanc : ∀ j, Anc masks i j → L j) (hc : cls P ops i = 2) {K : Act → World → Prop}
    (hK : ∀ ι' a' w', Inv P rec ops masks tree fi k a0 ι0 w0 pre vals nm T (fun j => L j ∨ j = i) ι' a' w' pl done → K a' w') : wpOpIn F m P ops Q i K a w := by
  have hlt := h.lt i hi
  have hreal := h.real ht h0 hlt hL hanc
  have hp : MakeProm P ops masks tree vals nm i T := by
    rcases h.prom i hi hL with ⟨hc2, _⟩ | ⟨_, hp⟩
    · omega
    · exact hp
  unfold wpOpIn
  rw [opAt_get hlt]
  show if Region.wanted (opAt ops i) (yielded ops a.tmps) = true then _ else _
  rcases guardK_true hp hreal with ⟨hw, h1⟩ | ⟨hw, h1⟩
  · rw [if_pos hw]
    obtain ⟨x, v, q, e1, e2, e3, e4⟩ := hold_true.1 h1
    obtain ⟨obj, u, sz, hrun, hlay⟩ := e4 ι a.eval hreal w
    have hrun : (execOp a.eval (opAt ops i)).run P w = .ok (.value u) { w with heap := w.heap.push obj } := hrun
    obtain ⟨hqn, hqlt⟩ := h.names i hi hL q e1
    obtain ⟨hv, hx⟩ := hlay (Ren.set ι q ⟨w.heap.size, 0, sz, false⟩) q (Ren.le_set hqn) (Ren.set_same _ _ _)
    obtain ⟨hw', he'⟩ := h.wr.adopt e3 hqn hqlt hx
    have hnd : ∀ c, (opAt ops i).op ≠ .defer c := fun c e => by
      have : opClass P (opAt ops i).op = 2 := hc
      rw [e] at this
      simp [opClass] at this
    refine ⟨fun f _ => hF f, ?_⟩
    rw [Oper.semAt_eq _ _ _ hnd, hrun]
    show K _ _
    refine hK _ _ _ (h.ran ht hds hi hL hanc hw' he' (e2 ▸ hv) fun j hj hLj hji q' e => ?_)
    have hne : q' ≠ q := fun e' => h.apart j hj i hi hLj hL hji q' e (e' ▸ e1)
    rw [Ren.set_ne hne]
    exact (h.names j hj hLj q' e).1
  · rw [if_neg (by rw [hw]; simp)]
    refine ⟨fun f _ => hF f, hK ι _ _ (h.ran ht hds hi hL hanc h.wr (Ext.refl ι w) ?_ fun j hj hLj _ q e => (h.names j hj hLj q e).1)⟩
    rw [hold_true.1 h1]
    exact .tup .nil
/-- The loads are looked at again. -/
theorem chks (ht : TmpsOk ops masks) (hlt : ∀ j ∈ pre, j < ops.size) (hanc : ∀ i ∈ pre, ∀ j, Anc masks i j → j ∈ pre) {R : List DItem} : ∀ (cs : List Nat), (∀ j ∈ cs, j ∈ pre ∧ cls P ops j ≤ 1 ∧ (dstAt ops j).isSome = true ∧ ∀ x ∈ pre, Anc masks j x ∨ ∀ d, dstAt ops x = some d → d ∉ readsAt ops j) →
    itemsK P rec fi ops (cs.map (fun j => .chk (opAt ops j)) ++ R) (pre.map (dstAt ops)) (pre.map vals) tree T k = true →
    itemsK P rec fi ops R (pre.map (dstAt ops)) (pre.map vals) tree T k = true ∧ ∀ j ∈ cs, ∀ T0, CalmProm P rec ops masks tree vals j T0 → CalmProm P rec ops masks tree vals j T
  | [], _, h => ⟨h, fun j hj => by cases hj⟩
  | j :: cs, hcs, h => by
    obtain ⟨hj, hc, hds, hrd⟩ := hcs j (by simp)
    have hlook := fun x hx => look_plan (tree := tree) ht (vals := vals) hlt (hanc j hj) hrd x hx
    have h : guardK ops (opAt ops j) (fun x => getO tree (pre.map vals) (resolveO (pre.map (dstAt ops)) x))
        (opK P rec (opAt ops j).op (fun x => getO tree (pre.map vals) (resolveO (pre.map (dstAt ops)) x)) T fun v _ => optK (opAt ops j).dst fun d => optK (getO tree (pre.map vals) (resolveO (pre.map (dstAt ops)) (.tmp d))) fun u =>
          ifK (eqVal 8 v u) (itemsK P rec fi ops (cs.map (fun j => .chk (opAt ops j)) ++ R) (pre.map (dstAt ops)) (pre.map vals) tree T k) (fail 49))
        (itemsK P rec fi ops (cs.map (fun j => .chk (opAt ops j)) ++ R) (pre.map (dstAt ops)) (pre.map vals) tree T k) = true := h
    rw [guardK_congr (fun t ht => hlook (.tmp t) (fun t' e => by cases e; exact ht)), opK_congr (ρ' := rho ops masks tree vals j) (fun x hx => hlook x (fun t e => opTmps_mem (e ▸ hx)))] at h
    rcases guardK_sel h with ⟨h1, h2⟩ | ⟨h1, h2⟩
    · obtain ⟨v, h3, h4⟩ := calm_to hc h1
      obtain ⟨d, hd, h5⟩ := optK_true.1 h3
      obtain ⟨u, hu, h6⟩ := optK_true.1 h5
      rcases ifK_true.1 h6 with ⟨h7, h8⟩ | ⟨_, h8⟩
      · have hvu := eqVal_eq _ _ _ h7
        subst hvu
        have huv : v = vals j := by
          simp only [resolveO] at hu
          cases hi : idxOf d (pre.map (dstAt ops)) 0 with
          | none => exact absurd hd (idxOf_map_none pre hi j hj)
          | some e =>
            rw [hi] at hu
            obtain ⟨j', g1, g2⟩ := idxOf_map pre hi
            have : j' = j := ht.one j' j d (hlt _ (List.mem_of_getElem? g1)) (hlt j hj) g2 hd
            subst this
            have hu : nthO (pre.map vals) e = some v := hu
            rw [nthO_eq] at hu
            simp [g1] at hu
            exact hu.symm
        subst huv
        obtain ⟨h9, h10⟩ := chks ht hlt hanc cs (fun x hx => hcs x (by simp [hx])) h8
        refine ⟨h9, fun x hx T0 hp => ?_⟩
        rcases List.mem_cons.1 hx with rfl | hx
        · unfold CalmProm
          rw [h2]
          exact h4 T (Grown.refl T) _ (hold_true.2 ⟨rfl, rfl⟩)
        · exact h10 x hx T0 hp
      · cases h8
    · obtain ⟨h9, h10⟩ := chks ht hlt hanc cs (fun x hx => hcs x (by simp [hx])) h1
      refine ⟨h9, fun x hx T0 hp => ?_⟩
      rcases List.mem_cons.1 hx with rfl | hx
      · unfold CalmProm at hp ⊢
        rw [h2] at hp ⊢
        exact hp
      · exact h10 x hx T0 hp
theorem readsOk_some {j : Nat} {dn : Nat} {pr : List Nat} (hb : ∀ x, dn.testBit x = true ↔ x ∈ pr) (hlt : ∀ x ∈ pr, x < ops.size) (h : readsOk ops masks j dn = true) : ∀ x ∈ pr, Anc masks j x ∨ ∀ d, dstAt ops x = some d → d ∉ readsAt ops j := by
  intro x hx
  have := List.all_eq_true.1 h x (by simpa using hlt x hx)
  rw [(hb x).2 hx] at this
  simp only [Bool.not_true, Bool.false_or, Bool.or_eq_true] at this
  rcases this with h5 | h5
  · exact .inl h5
  · refine .inr fun d e => ?_
    rw [show (opAt ops x).dst = some d from e] at h5
    simpa using h5
theorem step_eff (hs : Sound P rec) (hF : ∀ f, F.fn f) (hd : F.depth = none) {cs : List Nat} {r : List PItem} (h : Inv P rec ops masks tree fi k a0 ι0 w0 pre vals nm T L ι a w (.eff i cs :: r) done) (ht : TmpsOk ops masks)
    (hds : ∀ d, dstAt ops i = some d → d < a0.tmps.size) (h0 : ∀ t v, PT.get (posOf t) tree = some v → ∃ u, a0.tmps[t]? = some u ∧ VRel ι0 v u) (hanc : ∀ j, Anc masks i j → L j) {K : Act → World → Prop}
    (hK : ∀ vals' T' ι' a' w', Inv P rec ops masks tree fi k a0 ι0 w0 (i :: pre) vals' nm T' (fun j => L j ∨ j = i) ι' a' w' r (done ||| (1 <<< i)) → K a' w') : wpOpIn F m P ops Q i K a w := by
  have hpl := h.plan
  simp only [planOk, Bool.and_eq_true] at hpl
  obtain ⟨⟨⟨hst, hef⟩, hch⟩, hr⟩ := hpl
  obtain ⟨hlt, hn, ha, hrd⟩ := stepOk_some h.bits h.lt hst
  have hLi : ¬ L i := fun e => hn (h.sub i e)
  have hne : ∀ j ∈ pre, j ≠ i := fun j hj e => hn (e ▸ hj)
  have hreal := h.real ht h0 hlt hLi hanc
  have hlook := fun x hx => look_plan (tree := tree) ht (vals := vals) h.lt ha hrd x hx
  have hk : guardK ops (opAt ops i) (fun x => getO tree (pre.map vals) (resolveO (pre.map (dstAt ops)) x))
      (opK P rec (opAt ops i).op (fun x => getO tree (pre.map vals) (resolveO (pre.map (dstAt ops)) x)) T fun v s =>
        itemsK P rec fi ops (cs.map (fun j => .chk (opAt ops j)) ++ planItems ops r) (dstAt ops i :: pre.map (dstAt ops)) (v :: pre.map vals) tree s k)
      (itemsK P rec fi ops (cs.map (fun j => .chk (opAt ops j)) ++ planItems ops r) (dstAt ops i :: pre.map (dstAt ops)) (.tup [] :: pre.map vals) tree T k) = true := h.cont
  rw [guardK_congr (fun t ht => hlook (.tmp t) (fun t' e => by cases e; exact ht)), opK_congr (ρ' := rho ops masks tree vals i) (fun x hx => hlook x (fun t e => opTmps_mem (e ▸ hx)))] at hk
  -- what is known of the operations that the plan has run and the model has not
  have hpend : ∀ j ∈ pre, ¬ L j → cls P ops j ≤ 1 ∧ (cls P ops j = 1 → j ∈ cs) := by
    intro j hj hLj
    have h1 := List.all_eq_true.1 hef j (by simpa using h.lt j hj)
    simp only [Bool.and_eq_true, (h.bits j).2 hj, Bool.not_true, Bool.false_or, Bool.true_or, true_and] at h1
    obtain ⟨h2, h3⟩ := h1
    have hna : ¬ (maskAt masks i).testBit j = true := fun e => hLj (hanc j e)
    have hnf : (maskAt masks i).testBit j = false := by simpa using hna
    rw [hnf] at h2 h3
    simp only [Bool.or_false, bne_iff_ne, ne_eq] at h2 h3
    have hle : cls P ops j ≤ 2 := by
      rcases Nat.lt_or_ge 2 (cls P ops j) with h4 | h4
      · exact absurd (h.effs j hj h4) hLj
      · exact h4
    have h2 : ¬ cls P ops j = 2 := h2
    refine ⟨by omega, fun e => ?_⟩
    simp only [Bool.or_eq_true, bne_iff_ne, ne_eq] at h3
    rcases h3 with h3 | h3
    · exact absurd e h3
    · simpa using h3
  have hlt' : ∀ j ∈ i :: pre, j < ops.size := fun j hj => by
    rcases List.mem_cons.1 hj with rfl | hj
    · exact hlt
    · exact h.lt j hj
  have hanc' : ∀ j ∈ i :: pre, ∀ x, Anc masks j x → x ∈ i :: pre := fun j hj x hx => by
    rcases List.mem_cons.1 hj with rfl | hj
    · exact List.mem_cons_of_mem _ (ha x hx)
    · exact List.mem_cons_of_mem _ (h.anc j hj x hx)
  have hcs : ∀ j ∈ cs, j ∈ i :: pre ∧ cls P ops j ≤ 1 ∧ (dstAt ops j).isSome = true ∧ ∀ x ∈ i :: pre, Anc masks j x ∨ ∀ d, dstAt ops x = some d → d ∉ readsAt ops j := fun j hj => by
    have h1 := List.all_eq_true.1 hch j hj
    unfold chkOk at h1
    simp only [Bool.and_eq_true, beq_iff_eq] at h1
    obtain ⟨⟨⟨h2, h3⟩, h4⟩, h5⟩ := h1
    exact ⟨(bits_push h.bits i j).1 h2, Nat.le_of_eq h3, h5, readsOk_some (bits_push h.bits i) hlt' h4⟩
  -- behind the operation
  have hgo : ∀ (v : AVal) (T' : St) (ι' : Ren) (u : Value) (w' : World), WRel P ι' T' w' → Ext ι w ι' w' → VRel ι' v u →
      itemsK P rec fi ops (cs.map (fun j => .chk (opAt ops j)) ++ planItems ops r) (dstAt ops i :: pre.map (dstAt ops)) (v :: pre.map vals) tree T' k = true → K (a.put (dstAt ops i) u) w' := by
    intro v T' ι' u w' hw' he hv hk
    have hk' : itemsK P rec fi ops (cs.map (fun j => .chk (opAt ops j)) ++ planItems ops r) ((i :: pre).map (dstAt ops)) ((i :: pre).map (upd vals i v)) tree T' k = true := by
      rw [map_upd hn]
      exact hk
    obtain ⟨hk2, hchk⟩ := chks ht hlt' hanc' cs hcs hk'
    have hinv : Inv P rec ops masks tree fi k a0 ι0 w0 (i :: pre) (upd vals i v) nm T' (fun j => L j ∨ j = i) ι' (a.put (dstAt ops i) u) w' r (done ||| (1 <<< i)) := by
      refine ⟨hw', h.ext.trans he, (put_defers a _ u).trans h.defs, (put_size a _ u).trans h.size, ?_, hlt', hanc', ?_, ?_, ?_, ?_, ?_, ?_, ?_, h.nmk, bits_push h.bits i, hr, hk2⟩
      · rintro j (hj | rfl)
        · exact List.mem_cons_of_mem _ (h.sub j hj)
        · simp
      · rintro j (hj | rfl) x hx
        · exact .inl (h.lanc j hj x hx)
        · exact .inl (hanc x hx)
      · rintro j (hj | rfl) d hdj
        · obtain ⟨u', h1, h2⟩ := h.t1 j hj d hdj
          rw [upd_ne (hne j (h.sub j hj))]
          refine ⟨u', ?_, h2.mono he.le⟩
          rw [put_other]
          · exact h1
          · intro e
            exact hne j (h.sub j hj) (ht.one i j d hlt (h.lt j (h.sub j hj)) e hdj).symm
        · rw [upd_same, hdj]
          exact ⟨u, put_same (by rw [h.size]; exact hds d hdj), hv⟩
      · intro t hno
        rw [put_other (hno i (.inr rfl))]
        exact h.t2 t fun j hj => hno j (.inl hj)
      · intro j hj hc
        rcases List.mem_cons.1 hj with rfl | hj
        · exact .inr rfl
        · exact .inl (h.effs j hj hc)
      · intro j hj hLj
        have hji : j ≠ i := fun e => hLj (.inr e)
        have hjp : j ∈ pre := by
          rcases List.mem_cons.1 hj with e | hj
          · exact absurd e hji
          · exact hj
        have hLj' : ¬ L j := fun e => hLj (.inl e)
        obtain ⟨hc1, hc2⟩ := hpend j hjp hLj'
        have hp : CalmProm P rec ops masks tree vals j T := by
          rcases h.prom j hjp hLj' with ⟨_, hp⟩ | ⟨hc3, _⟩
          · exact hp
          · omega
        have hp' : CalmProm P rec ops masks tree (upd vals i v) j T := by
          rcases Prom.congr (vals' := upd vals i v) (nm' := nm) (nm := nm) (fun x hx => by rw [upd_ne (hne x (h.anc j hjp x hx))]) (by rw [upd_ne hji]) rfl (.inl ⟨hc1, hp⟩ : Prom P rec ops masks tree vals nm j T) with ⟨_, hp⟩ | ⟨hc3, _⟩
          · exact hp
          · omega
        refine .inl ⟨hc1, ?_⟩
        rcases Nat.lt_or_ge (cls P ops j) 1 with h1 | h1
        · have hc0 : opClass P (opAt ops j).op = 0 := Nat.lt_one_iff.1 h1
          unfold CalmProm at hp' ⊢
          rcases guardK_sel hp' with ⟨g1, g2⟩ | ⟨g1, g2⟩
          · rw [g2, opK_calm hc0 T' T]
            rw [opK_calm hc0 T T] at g1
            have : (fun v' (_ : St) => hold (v' = upd vals i v j ∧ T = T)) = (fun v' (_ : St) => hold (v' = upd vals i v j ∧ T' = T')) := by
              funext v' _
              simp [hold]
            rw [← this]
            exact g1
          · rw [g2]; exact g1
        · exact hchk j (hc2 (Nat.le_antisymm hc1 h1)) T hp'
      · intro j hj hLj q e
        have hji : j ≠ i := fun e => hLj (.inr e)
        have hjp : j ∈ pre := by
          rcases List.mem_cons.1 hj with e | hj
          · exact absurd e hji
          · exact hj
        have := (hpend j hjp (fun e => hLj (.inl e))).1
        have := h.nmk j q e
        omega
      · intro j hj x hx hLj hLx _ q e
        have hji : j ≠ i := fun e => hLj (.inr e)
        have hjp : j ∈ pre := by
          rcases List.mem_cons.1 hj with e | hj
          · exact absurd e hji
          · exact hj
        have := (hpend j hjp (fun e => hLj (.inl e))).1
        have := h.nmk j q e
        omega
    exact hK _ _ _ _ _ hinv
  unfold wpOpIn
  rw [opAt_get hlt]
  show if Region.wanted (opAt ops i) (yielded ops a.tmps) = true then _ else _
  rcases guardK_true hk hreal with ⟨hw, h1⟩ | ⟨hw, h1⟩
  · rw [if_pos hw]
    exact opK_wpIn hs h1 hF hd h.wr hreal fun v w' ι' s' av he hw' hv hk => hgo av s' ι' v w' hw' he hv hk
  · rw [if_neg (by rw [hw]; simp)]
    exact ⟨fun f _ => hF f, hgo (.tup []) T ι undef w h.wr (Ext.refl ι w) (.tup .nil) h1⟩
end
end Go.AM
end
section
/- The abstract machine's answers hold of the model: regions that are drawn, and calls. -/
namespace Go.AM
variable [Orc] [OrcOk]
theorem rows_get {ops : Array Oper} {masks : List Nat} (hl : masks.length = ops.size) {i : Nat} (hi : i < ops.size) : (i, opAt ops i, maskAt masks i) ∈ allRows ops.toList masks := by
  unfold allRows
  refine List.mem_map.2 ⟨((opAt ops i, i), maskAt masks i), ?_, rfl⟩
  refine List.mem_of_getElem? (i := i) ?_
  rw [List.getElem?_zip_eq_some]
  refine ⟨?_, ?_⟩
  · rw [List.getElem?_zipIdx]
    simp [opAt_get hi]
  · unfold maskAt
    rw [List.getD_eq_getElem?_getD]
    rw [List.getElem?_eq_getElem (by omega)]
    rfl
theorem TmpsOk.of {ops : Array Oper} {masks : List Nat} (hl : masks.length = ops.size) (h : tmpsOk ops (allRows ops.toList masks) = true) : TmpsOk ops masks := by
  have key : ∀ i j, i < ops.size → j < ops.size → i ≠ j → ∀ d, dstAt ops i = some d → dstAt ops j ≠ some d ∧ (d ∈ readsAt ops j → Anc masks j i ∨ Anc masks i j) := by
    intro i j hi hj hne d hd
    have h1 := List.all_eq_true.1 (List.all_eq_true.1 h _ (rows_get hl hi)) _ (rows_get hl hj)
    simp only [Bool.or_eq_true, beq_iff_eq, Bool.and_eq_true] at h1
    rcases h1 with h1 | ⟨h1, _⟩
    · exact absurd h1 hne
    · rw [show (opAt ops i).dst = some d from hd] at h1
      simp only [Bool.and_eq_true, bne_iff_ne, ne_eq, Bool.or_eq_true, Bool.not_eq_true'] at h1
      refine ⟨h1.1, fun hm => ?_⟩
      rcases h1.2 with (h2 | h2) | h2
      · simp at h2
        exact absurd hm h2
      · exact .inl h2
      · exact .inr h2
  refine ⟨fun i j d hi hj e e' => ?_, fun i j d hi hj hne e hm => (key i j hi hj hne d e).2 hm⟩
  by_cases hne : i = j
  · exact hne
  · exact absurd e' (key i j hi hj hne d e).1
theorem countP_one : ∀ (l : List Nat) (p q : Nat → Bool) (i : Nat), l.Nodup → i ∈ l → (∀ j ∈ l, j ≠ i → p j = q j) → p i = true → q i = false → l.countP p = l.countP q + 1
  | [], p, q, i, _, hi, _, _, _ => by cases hi
  | x :: l, p, q, i, hn, hi, h, hp, hq => by
    obtain ⟨hx, hn⟩ := List.nodup_cons.1 hn
    by_cases e : x = i
    · subst e
      rw [List.countP_cons_of_pos hp, List.countP_cons_of_neg (by simp [hq])]
      congr 1
      exact List.countP_congr fun j hj => by rw [h j (by simp [hj]) (fun e => hx (e ▸ hj))]
    · have hi : i ∈ l := by
        rcases List.mem_cons.1 hi with e' | hi
        · exact absurd e'.symm e
        · exact hi
      have ih := countP_one l p q i hn hi (fun j hj => h j (by simp [hj])) hp hq
      have hxx := h x (by simp) e
      cases hpx : p x with
      | true => rw [List.countP_cons_of_pos hpx, List.countP_cons_of_pos (by rw [← hxx]; exact hpx), ih]
      | false => rw [List.countP_cons_of_neg (by simp [hpx]), List.countP_cons_of_neg (by rw [← hxx]; simp [hpx]), ih]
section
variable {P : Program} {rec : RecT} {ops : Array Oper} {masks : List Nat} {tree : PT AVal} {fi : FI} {k : PT AVal → St → Bool} {a0 : Act} {ι0 : Ren} {w0 : World} {F : Fence} {m n0 : Nat} {Q : Exit → Act → World → Prop}
theorem Inv.final {pre : List Nat} {vals : Nat → AVal} {nm : Nat → Option Pos} {T : St} {L : Nat → Prop} {ι : Ren} {a : Act} {w : World} {pl : List PItem} {done : Nat} (h : Inv P rec ops masks tree fi k a0 ι0 w0 pre vals nm T L ι a w pl done)
    (hset : pl = [] ∨ ∃ i cs r, pl = .eff i cs :: r) (hall : ∀ j, j < ops.size → L j) (h0 : ∀ t v, PT.get (posOf t) tree = some v → t ∈ fi.ps ∧ ∃ u, a0.tmps[t]? = some u ∧ VRel ι0 v u) (hsz : fi.ntmps ≤ a0.tmps.size)
    (hdf : DefInv n0 ι0 w0 a0.defers) (hnz : n0 ≤ w0.heap.size) (hQ : ∀ ι' tree' s' a' w', Ext ι0 w0 ι' w' → Here P n0 fi ι' tree' s' a' w' → k tree' s' = true → Q .normal a' w') : Q .normal a w := by
  rcases hset with rfl | ⟨i, cs, r, rfl⟩
  · have hk : commitK (commitPlan fi.ps (pre.map (dstAt ops)) []) (pre.map vals) tree (fun tree => k tree T) = true := h.cont
    have hloc : LocRel ι (pre.map (dstAt ops)) (pre.map vals) tree a.tmps := by
      refine ⟨by simp, fun t d v e1 e2 => ?_, fun t v e1 e2 => ?_⟩
      · obtain ⟨j, h1, h2⟩ := idxOf_map pre e1
        have hv : vals j = v := by simpa [h1] using e2
        rw [← hv]
        exact h.t1 j (hall j (h.lt j (List.mem_of_getElem? h1))) t h2
      · obtain ⟨_, u, h1, h2⟩ := h0 t v e2
        exact ⟨u, (h.t2 t fun j hj => idxOf_map_none pre e1 j (h.sub j hj)).trans h1, h2.mono h.ext.le⟩
    obtain ⟨tree', h1, h2⟩ := hloc.commit (n := fi.ntmps) (by rw [h.size]; exact hsz) (fun t v e => (h0 t v e).1) hk
    exact hQ ι tree' T a w h.ext ⟨h.wr, h2, h.defs ▸ hdf.ext h.ext, Nat.le_trans hnz h.ext.size⟩ h1
  · have hpl := h.plan
    simp only [planOk, Bool.and_eq_true] at hpl
    obtain ⟨hlt, hn, _, _⟩ := stepOk_some h.bits h.lt hpl.1.1.1
    exact absurd (h.sub i (hall i hlt)) hn
theorem any_order (hs : Sound P rec) (hF : ∀ f, F.fn f) (hd : F.depth = none) (hA : AncOk ops.toList masks) (ht : TmpsOk ops masks) (hds : ∀ i, i < ops.size → ∀ d, dstAt ops i = some d → d < a0.tmps.size)
    (h0 : ∀ t v, PT.get (posOf t) tree = some v → t ∈ fi.ps ∧ ∃ u, a0.tmps[t]? = some u ∧ VRel ι0 v u) (hsz : fi.ntmps ≤ a0.tmps.size)
    (hdf : DefInv n0 ι0 w0 a0.defers) (hnz : n0 ≤ w0.heap.size) (hQ : ∀ ι' tree' s' a' w', Ext ι0 w0 ι' w' → Here P n0 fi ι' tree' s' a' w' → k tree' s' = true → Q .normal a' w') :
    ∀ (fuel : Nat) (listed : Array Bool) (a : Act) (w : World) (pre : List Nat) (vals : Nat → AVal) (nm : Nat → Option Pos) (T : St) (L : Nat → Prop) (ι : Ren) (pl : List PItem) (done : Nat),
      Inv P rec ops masks tree fi k a0 ι0 w0 pre vals nm T L ι a w pl done → (pl = [] ∨ ∃ i cs r, pl = .eff i cs :: r) → listed.size = ops.size → (∀ j, j < ops.size → (listed.getD j false = true ↔ L j)) →
      (List.range ops.size).countP (fun j => !listed.getD j false) = fuel → wpAnyIn F m P .any ops Q fuel listed a w := by
  intro fuel
  induction fuel with
  | zero =>
    intro listed a w pre vals nm T L ι pl done h hset hls hL hcnt
    have hall : ∀ j, j < ops.size → listed.getD j false = true := by
      intro j hj
      have := List.countP_eq_zero.1 hcnt j (by simpa using hj)
      simpa using this
    refine ⟨?_, h.final hset (fun j hj => (hL j hj).1 (hall j hj)) h0 hsz hdf hnz hQ⟩
    refine List.eq_nil_iff_forall_not_mem.2 fun j hj => ?_
    obtain ⟨h1, o, ho, _⟩ := mem_ready.1 hj
    have hjlt := (Array.getElem?_eq_some_iff.1 ho).1
    have h2 := hall j hjlt
    rw [Array.getD_eq_getD_getElem?] at h1 h2
    rw [Array.getElem?_eq_getElem (by omega)] at h1 h2
    simp at h1 h2
    rw [h1] at h2; cases h2
  | succ fuel ih =>
    intro listed a w pre vals nm T L ι pl done h hset hls hL hcnt
    have hget : ∀ j, j < ops.size → listed.getD j true = listed.getD j false := fun j hj => by
      rw [Array.getD_eq_getD_getElem?, Array.getD_eq_getD_getElem?, Array.getElem?_eq_getElem (by omega)]
      rfl
    refine ⟨fun hnil => ?_, fun i hi => ?_⟩
    · exfalso
      have hall : ∀ j, j < ops.size → listed.getD j false = true := by
        intro j
        induction j using Nat.strongRecOn with
        | _ j ihj =>
          intro hj
          cases hlj : listed.getD j false with
          | true => rfl
          | false =>
            exfalso
            have : j ∈ Region.ready .any ops listed := mem_ready.2 ⟨by rw [hget j hj]; exact hlj, opAt ops j, opAt_get hj, fun e he hb => by
              have := hA.back j (opAt ops j) (by simpa using opAt_get hj) e he hb
              exact ihj e.on this (by omega)⟩
            rw [hnil] at this
            cases this
      have : (List.range ops.size).countP (fun j => !listed.getD j false) = 0 := List.countP_eq_zero.2 fun j hj => by
        rw [hall j (by simpa using hj)]; simp
      omega
    · obtain ⟨h1, o, ho, hedges⟩ := mem_ready.1 hi
      have hilt := (Array.getElem?_eq_some_iff.1 ho).1
      have hoi : opAt ops i = o := by
        have := opAt_get hilt
        rw [ho] at this
        exact (Option.some.inj this).symm
      have hLi : ¬ L i := fun e => by
        have := (hL i hilt).2 e
        rw [← hget i hilt, h1] at this
        cases this
      have hanc : ∀ j, Anc masks i j → L j := by
        intro j hj
        obtain ⟨e, he, hb, h2⟩ := hA.anc i o (by simpa using ho) j hj
        have hlt := hA.back i o (by simpa using ho) e he hb
        have hLe : L e.on := (hL e.on (by omega)).1 (hedges e he hb)
        rcases h2 with rfl | h2
        · exact hLe
        · exact h.lanc e.on hLe j h2
      have hset' : ∀ j, j < ops.size → ((listed.setIfInBounds i true).getD j false = true ↔ L j ∨ j = i) := by
        intro j hj
        by_cases e : j = i
        · subst e
          rw [Array.getD_eq_getD_getElem?, Array.getElem?_setIfInBounds_self_of_lt (by omega)]
          simp
        · rw [Array.getD_eq_getD_getElem?, Array.getElem?_setIfInBounds_ne (Ne.symm e), ← Array.getD_eq_getD_getElem?, hL j hj]
          simp [e]
      have hcnt' : (List.range ops.size).countP (fun j => !(listed.setIfInBounds i true).getD j false) = fuel := by
        have := countP_one (List.range ops.size) (fun j => !listed.getD j false) (fun j => !(listed.setIfInBounds i true).getD j false) i List.nodup_range (by simpa using hilt) (fun j hj e => by
            show (!listed.getD j false) = !(listed.setIfInBounds i true).getD j false
            rw [Array.getD_eq_getD_getElem?, Array.getD_eq_getD_getElem?, Array.getElem?_setIfInBounds_ne (Ne.symm e)]) (by rw [← hget i hilt, h1]; rfl) (by
            rw [Array.getD_eq_getD_getElem?, Array.getElem?_setIfInBounds_self_of_lt (by omega)]; rfl)
        omega
      have h0' : ∀ t v, PT.get (posOf t) tree = some v → ∃ u, a0.tmps[t]? = some u ∧ VRel ι0 v u := fun t v e => (h0 t v e).2
      by_cases hip : i ∈ pre
      · have hgo : ∀ ι' a' w', Inv P rec ops masks tree fi k a0 ι0 w0 pre vals nm T (fun j => L j ∨ j = i) ι' a' w' pl done → wpAnyIn F m P .any ops Q fuel (listed.setIfInBounds i true) a' w' := fun ι' a' w' h' =>
          ih _ a' w' pre vals nm T _ ι' pl done h' hset (by simpa using hls) hset' hcnt'
        rcases Nat.lt_or_ge (cls P ops i) 2 with hc | hc
        · exact step_calm hs hF hd h ht (hds i hilt) h0' hip hLi hanc (Nat.le_of_lt_succ hc) hgo
        · rcases Nat.lt_or_ge 2 (cls P ops i) with hc' | hc'
          · exact absurd (h.effs i hip hc') hLi
          · exact step_make hF h ht (hds i hilt) h0' hip hLi hanc (Nat.le_antisymm hc' hc) hgo
      · rcases hset with rfl | ⟨i', cs, r, rfl⟩
        · have := h.plan
          simp only [planOk] at this
          have := List.all_eq_true.1 this i (by simpa using hilt)
          exact absurd ((h.bits i).1 this) hip
        · have hpl := h.plan
          simp only [planOk, Bool.and_eq_true] at hpl
          obtain ⟨_, hn', _, _⟩ := stepOk_some h.bits h.lt hpl.1.1.1
          have h2 := List.all_eq_true.1 hpl.1.1.2 i (by simpa using hilt)
          simp only [Bool.and_eq_true, Bool.or_eq_true, beq_iff_eq] at h2
          have hii : i = i' := by
            rcases h2.1.1 with (h3 | h3) | h3
            · exact absurd ((h.bits i).1 h3) hip
            · exact h3
            · exact absurd (h.sub i' (hanc i' h3)) hn'
          subst hii
          refine step_eff hs hF hd h ht (hds i hilt) h0' hanc fun vals' T' ι' a' w' h' => ?_
          obtain ⟨pre2, vals2, nm2, T2, pl2, done2, h'', hset''⟩ := h'.settle ht
          exact ih _ a' w' pre2 vals2 nm2 T2 _ ι' pl2 done2 h'' hset'' (by simpa using hls) hset' hcnt'
/-- **DRAWN REGIONS HOLD.** -/
theorem draw_sound (hm : P.follows .mixedOrders = true) (hs : Sound P rec) : DrawSound P rec := by
  intro id ops n0 fi tree s k F m ι a w h hfo hF hd hr hh
  obtain ⟨l, hl, h1⟩ := optK_true.1 h
  rcases ifK_true.1 h1 with ⟨hdst, h2⟩ | ⟨_, h2⟩
  · have hl : drawPlan P ops = some l := hl
    unfold drawPlan at hl
    split at hl
    · rename_i masks hmasks
      simp only at hl
      split at hl
      · rename_i hok
        cases hl
        simp only [Bool.and_eq_true] at hok
        have hA := ancs_of hmasks
        have ht := TmpsOk.of (by rw [hA.len]; simp) hok.1
        refine wpIn_region_any hm ?_
        have h0 : ∀ t v, PT.get (posOf t) tree = some v → t ∈ fi.ps ∧ ∃ u, a.tmps[t]? = some u ∧ VRel ι v u := hh.tr.get
        have hinv : Inv P rec ops masks tree fi k a ι w [] (fun _ => .tup []) (fun _ => none) s (fun _ => False) ι a { w with drawn := w.drawn + 1 } (planGo P ops masks (allRows ops.toList masks) ops.size 0) 0 := by
          refine ⟨hh.wr.drawn _, Ext.drawn ι w _, rfl, rfl, fun i h => h.elim, fun i h => (by cases h), fun i h => (by cases h), fun i h => h.elim, fun i h => h.elim, fun t _ => rfl, fun i h => (by cases h), fun i h => (by cases h), fun i h => (by cases h),
            fun i h => (by cases h), fun i q e => (by cases e), fun j => by simp, hok.2, h2⟩
        obtain ⟨pre2, vals2, nm2, T2, pl2, done2, h'', hset''⟩ := hinv.settle ht
        refine any_order (n0 := n0) hs hF hd hA ht (fun i hi d e => ?_) h0 hh.tr.size hh.df hh.nz (fun ι' tree' s' a' w' he hh' hk => ⟨.normal, tree', s', ι', rfl, he, hh', hk⟩) ops.size _ a _ pre2 vals2 nm2 T2 _ ι pl2 done2 h'' hset'' (by simp) (fun j hj => ?_) ?_
        · exact Nat.lt_of_lt_of_le (dstsOk_lt hdst (opAt ops i) (List.mem_of_getElem? (i := i) (by simpa using opAt_get hi)) d e) hh.tr.size
        · rw [Array.getD_eq_getD_getElem?]
          simp [hj]
        · have : ∀ j ∈ List.range ops.size, (!(Array.replicate ops.size false).getD j false) = true := fun j hj => by
            rw [Array.getD_eq_getD_getElem?]
            have : j < ops.size := by simpa using hj
            simp [this]
          rw [List.countP_eq_length.2 this]
          simp
      · cases hl
    · cases hl
  · cases h2
end
/-- **THE ABSTRACT MACHINE's RUNS HOLD OF THE MODEL.** -/
theorem run_sound {P : Program} (hm : P.follows .mixedOrders = true) {n : Nat} {f : FuncId} {args : List AVal} {us : Array Value} {s : St} {w : World} {ι : Ren} {K : VK} (h : run P n f args s K = true) (hw : WRel P ι s w) (hv : VRels ι args us.toList) :
    Calls P f us w (CallEnd P ι w K) := by
  refine (callsIn_wide (n := 0)).1 ?_
  have := callF_sound (F := Fence.wide) (m := 0) (exec_sound (fun rec hs => draw_sound hm hs) n) h (fun _ => trivial) rfl hw hv
  simpa using this
end Go.AM
end
