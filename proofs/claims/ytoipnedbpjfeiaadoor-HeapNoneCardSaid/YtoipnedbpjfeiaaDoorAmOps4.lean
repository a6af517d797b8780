/- The abstract machine's operations hold of the model's, part 4: maps, and equality with nil. -/
import Derived.Test.YtoipnedbpjfeiaaDoorAmOps3
set_option linter.all false
set_option linter.unusedSectionVars false
set_option linter.unusedSimpArgs false
set_option linter.unusedVariables false
namespace Go.AM
section
variable {P : Program} {ι : Ren} {s : St} {w : World} {K : VK}

/-! ### Keys that may be keys -/
theorem flat_under {d : Nat} {t : TypeId} {ks : List SK} (h : flat P d t = some ks) : ∃ ty, P.underlying t = some ty := by
  cases d with
  | zero => cases h
  | succ d =>
    unfold flat at h
    cases hd : P.underlying t with
    | none => rw [hd] at h; cases h
    | some ty => exact ⟨ty, rfl⟩
def CheckOk (P : Program) (w : World) (D : Nat) (t : TypeId) (ks : List SK) : Prop :=
  ∀ (em : Bool) (xs : List Value), xs.length = ks.length → (Instr.checkKey em D t (mkV P t xs)).run P w = .ok () w
theorem checkFields_ok {D : Nat} {d : Nat} (em : Bool) (ih : ∀ t ks, flat P d t = some ks → CheckOk P w D t ks) {xs : List Value} :
    ∀ (fs : List Field) (off : Nat) (ks : List SK), flatFields P (flat P d) fs off = some ks → xs.length = off + ks.length →
      (forIn fs PUnit.unit (fun f _ => if f.name ≠ "_" then (do
        let __do_lift ← part f.type xs.toArray f.offset
        Instr.checkKey em D f.type __do_lift
        pure (ForInStep.yield PUnit.unit)) else pure (ForInStep.yield PUnit.unit)) : Sem PUnit).run P w = .ok PUnit.unit w
  | [], off, ks, h, _ => rfl
  | f :: fs, off, ks, h, hl => by
    simp only [flatFields] at h
    split at h
    · cases h
    · rename_i l hl'
      split at h
      · rename_i hc
        obtain ⟨hn, ho, hs⟩ := hc
        split at h
        · rename_i m hm
          cases h
          simp only [List.length_append] at hl
          have p1 := run_part_mk (w := w) (xs := xs) (off := off) hl' hs (by omega)
          have c1 := ih f.type l hl' em ((xs.drop off).take l.length) (by simp; omega)
          have r := checkFields_ok em ih (xs := xs) fs (off + l.length) m hm (by omega)
          simp only [List.forIn_cons, hn, ne_eq, not_false_eq_true, if_true, ho, Sem.run_bind, p1, c1, Result.andThen_ok, Sem.run_pure]
          exact r
        · cases h
      · cases h
theorem checkElems_ok {D : Nat} {d : Nat} (em : Bool) {e : TypeId} {l : List SK} (hl : flat P d e = some l) (hs : tySize P e = some l.length) (ih : CheckOk P w D e l) {xs : List Value} :
    ∀ (n i : Nat), xs.length = (i + n) * l.length →
      (forIn (List.range' i n) PUnit.unit (fun j _ => (do
        let n ← sizeOf e
        let __do_lift ← part e xs.toArray (j * n)
        Instr.checkKey em D e __do_lift
        pure (ForInStep.yield PUnit.unit))) : Sem PUnit).run P w = .ok PUnit.unit w
  | 0, i, _ => rfl
  | n + 1, i, hx => by
    have hm : (i + (n + 1)) * l.length = i * l.length + l.length + n * l.length := by rw [Nat.add_mul, Nat.add_mul]; omega
    have p1 := run_part_mk (w := w) (xs := xs) (off := i * l.length) hl hs (by omega)
    have c1 := ih em ((xs.drop (i * l.length)).take l.length) (by simp; omega)
    have r := checkElems_ok em hl hs ih (xs := xs) n (i + 1) (by rw [hx]; congr 1; omega)
    simp only [List.range'_succ, List.forIn_cons, Sem.run_bind, run_sizeOfA hs, p1, c1, Result.andThen_ok, Sem.run_pure]
    exact r
theorem checkOk_flat : ∀ (d : Nat) (t : TypeId) (ks : List SK), flat P d t = some ks → ∀ D, d ≤ D → CheckOk P w D t ks
  | 0, t, ks, h, _, _ => by cases h
  | d + 1, t, ks, h, D, hD => by
    obtain ⟨D, rfl⟩ : ∃ D', D = D' + 1 := ⟨D - 1, by omega⟩
    intro em xs hx
    obtain ⟨ty, hd⟩ := flat_under h
    have hag : aggT P t = isAggT ty := by simp [aggT, hd]
    unfold flat at h
    rw [hd] at h
    cases ty with
    | bool => cases h; simp [Instr.checkKey, run_underlyingA hd]
    | int kk => cases h; simp [Instr.checkKey, run_underlyingA hd]
    | string => cases h; simp [Instr.checkKey, run_underlyingA hd]
    | struct fs =>
      simp only at h
      split at h
      · cases h
      · have hmk : mkV P t xs = .agg xs.toArray := by simp [mkV, hag, isAggT]
        rw [hmk]
        have := checkFields_ok (P := P) (w := w) (D := D) em (fun t' ks' h' => checkOk_flat d t' ks' h' D (by omega)) (xs := xs) fs.toList 0 ks h (by omega)
        simp only [Instr.checkKey, Sem.run_bind, run_underlyingA hd, Result.andThen_ok]
        rw [← Array.forIn_toList]
        rw [this]
        rfl
    | array len e =>
      simp only at h
      split at h
      · rename_i l hl
        split at h
        · rename_i hs
          cases h
          have hmk : mkV P t xs = .agg xs.toArray := by simp [mkV, hag, isAggT]
          rw [hmk]
          have hlen : (List.replicate len l).flatten.length = len * l.length := by simp
          have := checkElems_ok (P := P) (w := w) em hl hs (checkOk_flat d e l hl D (by omega)) (xs := xs) len 0 (by rw [hx, hlen]; simp)
          simp only [Instr.checkKey, Sem.run_bind, run_underlyingA hd, Result.andThen_ok]
          rw [Std.Legacy.Range.forIn_eq_forIn_range']
          simp [Std.Legacy.Range.size] at this ⊢
          rw [this]
          rfl
        · cases h
      · cases h
    | _ => cases h
/-! ### Keys -/
theorem keyCells_true {agg : Bool} {ks : List SK} {v : AVal} {k : List AVal → Bool} (h : keyCells agg ks v k = true) : (agg = false ∧ k [v] = true) ∨ (agg = true ∧ ∃ l, v = .agg l ∧ l.length = ks.length ∧ k l = true) := by
  cases agg with
  | false => exact .inl ⟨rfl, h⟩
  | true =>
    obtain ⟨l, rfl, h'⟩ := AVal.aggK_true.1 h
    rw [lenK_eq, lenK_eq] at h'
    rcases ifK_true.1 h' with ⟨hl, h'⟩ | ⟨_, h'⟩
    · exact .inr ⟨rfl, l, rfl, by simpa using Nat.eq_of_beq_eq_true hl, h'⟩
    · cases h'
/-- A key's cells, as the model has them. -/
theorem key_ok {t : TypeId} {ks : List SK} {v : AVal} {vv : Value} {k : List AVal → Bool} (hf : flat P 20 t = some ks) (h : keyCells (aggT P t) ks v k = true) (hv : VRel ι v vv) :
    ∃ as xs, VRels ι as xs ∧ as.length = ks.length ∧ vv = mkV P t xs ∧ k as = true ∧ ((aggT P t = false ∧ as = [v]) ∨ (aggT P t = true ∧ v = .agg as)) := by
  rcases keyCells_true h with ⟨ha, h⟩ | ⟨ha, l, rfl, hl, h⟩
  · exact ⟨[v], [vv], .cons hv .nil, by rw [flat_scalar hf ha]; rfl, by simp [mkV, ha], h, .inl ⟨ha, rfl⟩⟩
  · cases hv with
    | agg hl' hs => exact ⟨l, _, hl', hl, by simp [mkV, ha], h, .inr ⟨ha, rfl⟩⟩
/-- Cells that are equal are the same. -/
theorem eqCells_same : ∀ (ks : List SK) (x y : List AVal), x.length = ks.length → y.length = ks.length → eqCells ks x y (fun e => e) = true → x = y ∧ ∀ a ∈ x, (∃ b, a = .bool b) ∨ (∃ k n, a = .int k n) ∨ ∃ l, a = .str l
  | [], x, y, hx, hy, _ => by cases List.length_eq_zero_iff.1 hx; cases List.length_eq_zero_iff.1 hy; simp
  | c :: ks, [], y, hx, _, _ => by simp at hx
  | c :: ks, a :: x, [], _, hy, _ => by simp at hy
  | c :: ks, a :: x, b :: y, hx, hy, h => by
    rw [eqCells_cons] at h
    obtain ⟨e, he, h⟩ := (eqCell_congr _ _ _ _).1 h
    rcases ifK_true.1 h with ⟨rfl, h⟩ | ⟨_, h⟩
    · obtain ⟨hxy, hp⟩ := eqCells_same ks x y (by simpa using hx) (by simpa using hy) h
      have : a = b ∧ ((∃ b, a = .bool b) ∨ (∃ k n, a = .int k n) ∨ ∃ l, a = .str l) := by
        cases c with
        | bool =>
          obtain ⟨p, rfl, h1⟩ := AVal.boolK_true.1 he
          obtain ⟨q, rfl, h2⟩ := AVal.boolK_true.1 h1
          rw [eqBool_eq] at h2
          have : p = q := by simpa using h2
          exact ⟨by rw [this], .inl ⟨p, rfl⟩⟩
        | int =>
          obtain ⟨j, p, rfl, h1⟩ := AVal.intK_true.1 he
          obtain ⟨k, q, rfl, h2⟩ := AVal.intK_true.1 h1
          rcases ifK_true.1 h2 with ⟨hk, h3⟩ | ⟨_, h3⟩
          · have hk := kindCode_inj (Nat.eq_of_beq_eq_true hk)
            rw [eqI_eq] at h3
            have : p = q := by simpa using h3
            exact ⟨by rw [hk, this], .inr (.inl ⟨j, p, rfl⟩)⟩
          · cases h3
        | str =>
          obtain ⟨p, rfl, h1⟩ := AVal.strK_true.1 he
          obtain ⟨q, rfl, h2⟩ := AVal.strK_true.1 h1
          rw [eqBytes_eq] at h2
          have : p = q := by simpa using h2
          exact ⟨by rw [this], .inr (.inr ⟨p, rfl⟩)⟩
      refine ⟨by rw [this.1, hxy], fun z hz => ?_⟩
      rcases List.mem_cons.1 hz with rfl | hz
      · exact this.2
      · exact hp z hz
    · cases h
theorem plain_same : ∀ {l : List AVal} {m m' : List Value}, (∀ a ∈ l, (∃ b, a = .bool b) ∨ (∃ k n, a = .int k n) ∨ ∃ l, a = .str l) → VRels ι l m → VRels ι l m' → m = m'
  | [], _, _, _, h, h' => by cases h; cases h'; rfl
  | a :: l, _, _, hp, .cons h t, .cons h' t' => by
    rw [plain_same (fun x hx => hp x (by simp [hx])) t t']
    rcases hp a (by simp) with ⟨b, rfl⟩ | ⟨k, n, rfl⟩ | ⟨s, rfl⟩ <;> cases h <;> cases h' <;> rfl
theorem sameBits_plain (d : Nat) {a : AVal} {v : Value} (hp : (∃ b, a = .bool b) ∨ (∃ k n, a = .int k n) ∨ ∃ l, a = .str l) (h : VRel ι a v) : Instr.sameBits d v v = true := by
  rcases hp with ⟨b, rfl⟩ | ⟨k, n, rfl⟩ | ⟨s, rfl⟩ <;> cases h <;> cases d <;> simp [Instr.sameBits, beq_toListBytes]
theorem sameBits_list (d : Nat) : ∀ {l : List AVal} {m : List Value}, (∀ a ∈ l, (∃ b, a = .bool b) ∨ (∃ k n, a = .int k n) ∨ ∃ l, a = .str l) → VRels ι l m → ((m.zip m).all fun x => Instr.sameBits d x.1 x.2) = true
  | [], _, _, h => by cases h; rfl
  | a :: l, _, hp, .cons h t => by
    have := sameBits_list d (fun x hx => hp x (by simp [hx])) t
    simp only [List.zip_cons_cons, List.all_cons, sameBits_plain d (hp a (by simp)) h, Bool.true_and]
    exact this
/-- What a search for a key comes to. -/
def FRel (ι : Ren) (es : List MapE) (es' : List MapEntry) (i : Nat) (key : Value) (r : Option (Nat × AVal)) (r' : Option (Nat × Value)) : Prop :=
  (r = none ∧ r' = none) ∨ ∃ j e e', r = some (i + j, e.val) ∧ r' = some (i + j, e'.val) ∧ es[j]? = some e ∧ es'[j]? = some e' ∧ VRel ι e.val e'.val ∧ Instr.sameBits 10000 e'.key key = true
theorem FRel.succ {es : List MapE} {es' : List MapEntry} {i : Nat} {key : Value} {r : Option (Nat × AVal)} {r' : Option (Nat × Value)} (e : MapE) (e' : MapEntry) (h : FRel ι es es' (i + 1) key r r') :
    FRel ι (e :: es) (e' :: es') i key r r' := by
  rcases h with h | ⟨j, x, x', h1, h2, h3, h4, h5, h6⟩
  · exact .inl h
  · exact .inr ⟨j + 1, x, x', by rw [h1]; congr 2; omega, by rw [h2]; congr 2; omega, by simpa using h3, by simpa using h4, h5, h6⟩
theorem findK_cons (agg : Bool) (ks : List SK) (key : List AVal) (e : MapE) (es : List MapE) (i : Nat) (k : Option (Nat × AVal) → Bool) :
    findK agg ks key (e :: es) i k = keyCells agg ks e.key fun c => eqCells ks key c fun b => ifK b (k (some (i, e.val))) (findK agg ks key es (i + 1) k) := rfl
theorem eqCells_split (ks : List SK) (x y : List AVal) (k : Bool → Bool) (hx : x.length = ks.length) (hy : y.length = ks.length) (h : eqCells ks x y k = true) :
    ∃ e, k e = true ∧ eqCells ks x y (fun z => z == e) = true := by
  induction ks generalizing x y with
  | nil => exact ⟨true, h, rfl⟩
  | cons c ks ih =>
    cases x with
    | nil => simp at hx
    | cons a x => cases y with
      | nil => simp at hy
      | cons b y =>
        rw [eqCells_cons] at h
        obtain ⟨e, he, h⟩ := (eqCell_congr _ _ _ _).1 h
        cases e with
        | false => exact ⟨false, h, by rw [eqCells_cons]; exact (eqCell_congr _ _ _ _).2 ⟨false, he, rfl⟩⟩
        | true =>
          obtain ⟨e', h1, h2⟩ := ih x y (by simpa using hx) (by simpa using hy) h
          exact ⟨e', h1, by rw [eqCells_cons]; exact (eqCell_congr _ _ _ _).2 ⟨true, he, h2⟩⟩
/-- The keys of an entry that is found. -/
theorem found_same {t : TypeId} {ks : List SK} (hf : flat P 20 t = some ks) {as bs : List AVal} {xs ys : List Value} (ha : as.length = ks.length) (hb : bs.length = ks.length) (hx : VRels ι as xs) (hy : VRels ι bs ys)
    (h : eqCells ks as bs (fun z => z == true) = true) : Instr.sameBits 10000 (mkV P t ys) (mkV P t xs) = true := by
  have h' : eqCells ks as bs (fun e => e) = true := by
    have : (fun z : Bool => z == true) = fun e => e := by funext z; cases z <;> rfl
    rwa [this] at h
  obtain ⟨rfl, hp⟩ := eqCells_same ks as bs ha hb h'
  have := plain_same hp hx hy
  subst this
  unfold mkV
  split
  · show (xs.toArray.size == xs.toArray.size && (xs.toArray.toList.zip xs.toArray.toList).all fun (x, y) => Instr.sameBits 9999 x y) = true
    rw [beq_self_eq_true, Bool.true_and]
    simpa using sameBits_list 9999 hp hx
  · rename_i hag
    have h1 := flat_scalar hf (by simpa using hag)
    cases as with
    | nil => simp at ha; omega
    | cons a as => cases hx with | cons h t => exact sameBits_plain 10000 (hp a (by simp)) h
theorem findAsking_ok {t : TypeId} {ks : List SK} (hf : flat P 20 t = some ks) {as : List AVal} {xs : List Value} (hx : VRels ι as xs) (ha : as.length = ks.length) :
    ∀ (es : List MapE) (es' : List MapEntry) (i : Nat) (k : Option (Nat × AVal) → Bool), es.length = es'.length → (∀ (j : Nat) (e : MapE), es[j]? = some e → ∃ e', es'[j]? = some e' ∧ ERel ι e e') →
      findK (aggT P t) ks as es i k = true → ∃ r r', k r = true ∧ (Instr.findAsking t (mkV P t xs) es' i).run P w = .ok r' w ∧ FRel ι es es' i (mkV P t xs) r r'
  | [], [], i, k, _, _, h => ⟨none, none, h, rfl, .inl ⟨rfl, rfl⟩⟩
  | [], _ :: _, _, _, hl, _, _ => by simp at hl
  | _ :: _, [], _, _, hl, _, _ => by simp at hl
  | e :: es, e' :: es', i, k, hl, he, h => by
    obtain ⟨e0, h0, hr⟩ := he 0 e rfl
    simp at h0; subst h0
    cases hr with
    | mk hk hv hb =>
      rw [findK_cons] at h
      obtain ⟨bs, ys, hy, hbl, hkey, h, _⟩ := key_ok hf h hk
      obtain ⟨q, hq, hsame⟩ := eqCells_split ks as bs _ ha hbl h
      obtain ⟨q', hq', hrun⟩ := eqOk_flat (P := P) (ι := ι) (w := w) 20 t ks hf Op.maxDepth (by decide) as bs xs ys hx hy ha hbl (fun z => z == q) hsame
      have : q' = q := by simpa using hq'
      subst this
      simp only [Instr.findAsking, Sem.run_bind, Op.equal, hkey, hrun, Result.andThen_ok]
      rcases ifK_true.1 hq with ⟨rfl, hq⟩ | ⟨rfl, hq⟩
      · exact ⟨_, _, hq, rfl, .inr ⟨0, e, e', rfl, rfl, rfl, rfl, hv, by rw [hkey]; exact found_same hf ha hbl hx hy hsame⟩⟩
      · obtain ⟨r, r', h1, h2, h3⟩ := findAsking_ok hf hx ha es es' (i + 1) k (by simpa using hl) (fun j x hj => by
          obtain ⟨x', hx', hr'⟩ := he (j + 1) x (by simpa using hj)
          exact ⟨x', by simpa using hx', hr'⟩) hq
        exact ⟨r, r', h1, h2, h3.succ e e'⟩
theorem eqCells_one {c : SK} {a b : AVal} {q : Bool} (h : eqCells [c] [a] [b] (fun z => z == q) = true) : eqCell c a b (fun z => z == q) = true := by
  rw [eqCells_cons] at h
  obtain ⟨e, he, h⟩ := (eqCell_congr _ _ _ _).1 h
  have : e = q := by
    rcases ifK_true.1 h with ⟨rfl, h'⟩ | ⟨rfl, h'⟩
    · have h2 : (true == q) = true := h'
      exact beq_iff_eq.1 h2
    · have h2 : (false == q) = true := h'
      exact beq_iff_eq.1 h2
  rwa [this] at he
theorem findNow_ok {t : TypeId} {ks : List SK} (hf : flat P 20 t = some ks) (hag : aggT P t = false) {ty : TypeDesc} (hd : P.underlying t = some ty) {a : AVal} {v : Value} (hx : VRel ι a v) :
    ∀ (es : List MapE) (es' : List MapEntry) (i : Nat) (k : Option (Nat × AVal) → Bool), es.length = es'.length → (∀ (j : Nat) (e : MapE), es[j]? = some e → ∃ e', es'[j]? = some e' ∧ ERel ι e e') →
      findK (aggT P t) ks [a] es i k = true → ∃ r r', k r = true ∧ Instr.findNow ty v es' i = some r' ∧ FRel ι es es' i v r r'
  | [], [], i, k, _, _, h => ⟨none, none, h, rfl, .inl ⟨rfl, rfl⟩⟩
  | [], _ :: _, _, _, hl, _, _ => by simp at hl
  | _ :: _, [], _, _, hl, _, _ => by simp at hl
  | e :: es, e' :: es', i, k, hl, he, h => by
    obtain ⟨e0, h0, hr⟩ := he 0 e rfl
    simp at h0; subst h0
    have h1 := flat_scalar hf hag
    cases hr with
    | mk hk hv hb =>
      rw [findK_cons] at h
      obtain ⟨bs, ys, hy, hbl, hkey, h, hcase⟩ := key_ok hf h hk
      have hbs : bs = [e.key] := by
        rcases hcase with ⟨_, hb'⟩ | ⟨hb', _⟩
        · exact hb'
        · rw [hag] at hb'; cases hb'
      subst hbs
      obtain ⟨q, hq, hsame⟩ := eqCells_split ks [a] _ _ (by simp [h1]) hbl h
      have hx1 : VRels ι [a] [v] := .cons hx .nil
      have hmv : mkV P t [v] = v := by simp [mkV, hag]
      have hnow : Instr.sameNow ty v e'.key = some q := by
        obtain ⟨c, hc⟩ := List.length_eq_one_iff.1 h1
        subst hc
        have hone := eqCells_one hsame
        have hag' : isAggT ty = false := by simpa [aggT, hd] using hag
        clear hsame hy hkey h hx1 hmv hcase
        unfold flat at hf
        rw [hd] at hf
        cases c with
        | bool =>
          obtain ⟨x, rfl, h2⟩ := AVal.boolK_true.1 hone
          obtain ⟨y, hy2, h3⟩ := AVal.boolK_true.1 h2
          rw [hy2] at hk
          generalize e'.key = kv at hk
          cases hx; cases hk
          have hq : (x == y) = q := by rw [← eqBool_eq]; simpa using h3
          cases ty <;> simp [isAggT] at hag' <;> simp at hf
          simp [Instr.sameNow, hq]
        | int =>
          obtain ⟨k1, x, rfl, h2⟩ := AVal.intK_true.1 hone
          obtain ⟨k2, y, hy2, h3⟩ := AVal.intK_true.1 h2
          rw [hy2] at hk
          generalize e'.key = kv at hk
          cases hx; cases hk
          rcases ifK_true.1 h3 with ⟨h4, h5⟩ | ⟨_, h5⟩
          · have hkk := kindCode_inj (Nat.eq_of_beq_eq_true h4)
            subst hkk
            have hq : (x == y) = q := by
              rw [show (x == y) = eqI x y by rw [eqI_eq, Bool.eq_iff_iff]; simp]
              simpa using h5
            cases ty <;> simp [isAggT] at hag' <;> simp at hf
            simp [Instr.sameNow, hq]
          · cases h5
        | str =>
          obtain ⟨x, rfl, h2⟩ := AVal.strK_true.1 hone
          obtain ⟨y, hy2, h3⟩ := AVal.strK_true.1 h2
          rw [hy2] at hk
          generalize e'.key = kv at hk
          cases hx; cases hk
          have hq : (x == y) = q := by rw [← eqBytes_eq]; simpa using h3
          cases ty <;> simp [isAggT] at hag' <;> simp at hf
          simp [Instr.sameNow, beq_toListBytes, hq]
      simp only [Instr.findNow, hnow]
      rcases ifK_true.1 hq with ⟨rfl, hq⟩ | ⟨rfl, hq⟩
      · refine ⟨_, _, hq, rfl, .inr ⟨0, e, e', rfl, rfl, rfl, rfl, hv, ?_⟩⟩
        have := found_same hf (as := [a]) (by simp [h1]) hbl hx1 hy hsame
        rwa [hmv, ← hkey] at this
      · obtain ⟨r, r', h1, h2, h3⟩ := findNow_ok hf hag hd hx es es' (i + 1) k (by simpa using hl) (fun j x hj => by
          obtain ⟨x', hx', hr'⟩ := he (j + 1) x (by simpa using hj)
          exact ⟨x', by simpa using hx', hr'⟩) hq
        exact ⟨r, r', h1, h2, h3.succ e e'⟩
theorem findKey_ok {t : TypeId} {ks : List SK} (hf : flat P 20 t = some ks) {as : List AVal} {xs : List Value} (hx : VRels ι as xs) (ha : as.length = ks.length) (es : List MapE) (es' : List MapEntry)
    (k : Option (Nat × AVal) → Bool) (hl : es.length = es'.length) (he : ∀ (j : Nat) (e : MapE), es[j]? = some e → ∃ e', es'[j]? = some e' ∧ ERel ι e e')
    (h : findK (aggT P t) ks as es 0 k = true) : ∃ r r', k r = true ∧ (Instr.findKey t (mkV P t xs) es').run P w = .ok r' w ∧ FRel ι es es' 0 (mkV P t xs) r r' := by
  obtain ⟨ty, hd⟩ := flat_under hf
  simp only [Instr.findKey, Sem.run_bind, run_underlyingA hd, Result.andThen_ok]
  cases hag : aggT P t with
  | false =>
    have h1 := flat_scalar hf hag
    rw [h1] at ha
    obtain ⟨a, rfl⟩ := List.length_eq_one_iff.1 ha
    obtain ⟨v, rfl, hv⟩ := hx.single
    have hmv : mkV P t [v] = v := by simp [mkV, hag]
    obtain ⟨r, r', h2, h3, h4⟩ := findNow_ok hf hag hd hv es es' 0 k hl he h
    rw [hmv]
    exact ⟨r, r', h2, by rw [h3]; rfl, h4⟩
  | true =>
    cases hn : Instr.findNow ty (mkV P t xs) es' 0 with
    | none =>
      exact findAsking_ok hf hx ha es es' 0 k hl he h
    | some r =>
      cases es' with
      | nil =>
        cases es with
        | nil => cases hn; exact ⟨none, none, h, rfl, .inl ⟨rfl, rfl⟩⟩
        | cons e es => simp at hl
      | cons e' es' =>
        exfalso
        have : Instr.sameNow ty (mkV P t xs) e'.key = none := by
          have hmv : mkV P t xs = .agg xs.toArray := by simp [mkV, hag]
          rw [hmv]
          unfold Instr.sameNow
          split <;> simp_all
        simp [Instr.findNow, this] at hn
theorem mapInfo_some {t : TypeId} {info : Bool × List SK × AVal} (h : mapInfo P t = some info) : ∃ k e, P.underlying t = some (.map k e) ∧ flat P 20 k = some info.2.1 ∧ info.1 = aggT P k ∧ zeroV P e = some info.2.2 := by
  unfold mapInfo at h
  split at h
  · rename_i k e hd
    split at h
    · rename_i a l z hk hz
      cases h
      unfold keyShape at hk
      split at hk
      · rename_i l' hl'
        cases hk
        exact ⟨k, e, hd, hl', rfl, hz⟩
      · cases hk
    · cases h
  · cases h
theorem opLookup_fine {t : TypeId} {ok : Bool} {m i : Option AVal} {vm vi : Value} (h : opLookup P t ok m i s K = true) (hw : WRel P ι s w) (hm : ORl ι m vm) (hi : ORl ι i vi) :
    FineV P ι w K ((Instr.lookup t vm vi ok).run P w) := by
  obtain ⟨info, hinfo, h⟩ := optK_true.1 h
  obtain ⟨m', hm', h⟩ := optK_true.1 h
  obtain ⟨i', hi', h⟩ := optK_true.1 h
  obtain ⟨kt, et, hd, hf, hag, hz⟩ := mapInfo_some hinfo
  rw [hag] at h
  obtain ⟨as, xs, hx, ha, hkey, h, _⟩ := key_ok hf h (hi _ hi')
  obtain ⟨b, rfl, h'⟩ := AVal.mapK_true.1 h
  obtain ⟨es, clock, hes, h'⟩ := mapK_true.1 h'
  have hrm := hm _ hm'
  cases hrm with
  | map hb =>
    obtain ⟨o, ho, hr⟩ := hw.objs _ _ hb
    rw [hes] at ho; cases ho
    cases hr with
    | map hobj hl he hro =>
      rename_i p es'
      obtain ⟨r, r', hk, hrun, hrel⟩ := findKey_ok (w := w) hf hx ha es es'.toList _ (by simpa using hl) (fun j e hj => by obtain ⟨e', h1, h2⟩ := he j e hj; exact ⟨e', by simpa using h1, h2⟩) h'
      have hgo : (getObj p.blk).run P w = .ok (.map es' clock) w := by simp [getObj, Sem.run, hobj]
      have hck := checkOk_flat (P := P) (w := w) 20 kt info.2.1 hf 10000 (by decide) es'.isEmpty xs (by rw [← hx.length]; exact ha)
      rw [← hkey] at hrun hck
      simp only [Instr.lookup, Sem.run_bind, run_underlyingA hd, Result.andThen_ok, hgo, Sem.run_pure, hck, hrun]
      rcases hrel with ⟨rfl, rfl⟩ | ⟨j, e, e', rfl, rfl, _, _, hv, _⟩
      · obtain ⟨z, hz1, hz2⟩ := run_zeroA (ι := ι) (w := w) hz
        simp only [Sem.run_bind, hz1, Result.andThen_ok, Sem.run_pure]
        rcases ifK_true.1 hk with ⟨rfl, hk⟩ | ⟨rfl, hk⟩
        · exact .same hw (.tup (.cons hz2 (.cons (.bool false) .nil))) hk
        · exact .same hw hz2 hk
      · rcases ifK_true.1 hk with ⟨rfl, hk⟩ | ⟨rfl, hk⟩
        · exact .same hw (.tup (.cons hv (.cons (.bool true) .nil))) hk
        · exact .same hw hv hk
theorem setValK_true {v key : AVal} {es : List MapE} {i : Nat} {k : List MapE → Bool} : setValK v key es i k = true ↔ ∃ e, es[i]? = some e ∧ k (es.set i { key := key, val := v, born := e.born }) = true := by
  induction es generalizing i k with
  | nil => simp [setValK]
  | cons a es ih => cases i with
    | zero =>
      have : setValK v key (a :: es) 0 k = k ({ key := key, val := v, born := a.born } :: es) := rfl
      rw [this]; simp
    | succ i =>
      have : setValK v key (a :: es) (i + 1) k = setValK v key es i fun r => k (a :: r) := rfl
      rw [this, ih]; simp
theorem setObj_run {b : Nat} {o o' : Obj} (h : w.heap[b]? = some o') (hc : ∀ c t f, o' ≠ .cells c t f) : (setObj b o).run P w = .ok () { w with heap := w.heap.setIfInBounds b o } := by
  cases o' <;> simp [setObj, Sem.run, h] <;> exact absurd rfl (hc _ _ _)
theorem opMapSet_fine {t : TypeId} {m i x : Option AVal} {vm vi vx : Value} (h : opMapSet P t m i x s K = true) (hw : WRel P ι s w) (hm : ORl ι m vm) (hi : ORl ι i vi) (hxx : ORl ι x vx) :
    Fine P ι w K (Sem.run P (do Instr.mapUpdate t vm vi vx; pure .skip) w) := by
  obtain ⟨info, hinfo, h⟩ := optK_true.1 h
  obtain ⟨m', hm', h⟩ := optK_true.1 h
  obtain ⟨i', hi', h⟩ := optK_true.1 h
  obtain ⟨x', hx', h⟩ := optK_true.1 h
  obtain ⟨kt, et, hd, hf, hag, hz⟩ := mapInfo_some hinfo
  rw [hag] at h
  obtain ⟨as, xs, hx, ha, hkey, h, _⟩ := key_ok hf h (hi _ hi')
  obtain ⟨b, rfl, h'⟩ := AVal.mapK_true.1 h
  obtain ⟨es, clock, hes, h'⟩ := mapK_true.1 h'
  have hrm := hm _ hm'
  have hvi := hi _ hi'
  have hvx := hxx _ hx'
  cases hrm with
  | map hb =>
    obtain ⟨o, ho, hr⟩ := hw.objs _ _ hb
    rw [hes] at ho; cases ho
    cases hr with
    | map hobj hl he hro =>
      rename_i p es'
      obtain ⟨r, r', hk, hrun, hrel⟩ := findKey_ok (w := w) hf hx ha es es'.toList _ (by simpa using hl) (fun j e hj => by obtain ⟨e', h1, h2⟩ := he j e hj; exact ⟨e', by simpa using h1, h2⟩) h'
      have hgo : (getObj p.blk).run P w = .ok (.map es' clock) w := by simp [getObj, Sem.run, hobj]
      have hck := checkOk_flat (P := P) (w := w) 20 kt info.2.1 hf 10000 (by decide) false xs (by rw [← hx.length]; exact ha)
      rw [← hkey] at hrun hck hrel
      have hbnd := hw.bound _ _ hb
      have key : ∀ (es2 : List MapE) (es2' : Array MapEntry) (c2 : Nat), es2.length = es2'.size → (∀ (j : Nat) (e : MapE), es2[j]? = some e → ∃ e', es2'[j]? = some e' ∧ ERel ι e e') →
          K (.tup []) { heap := PT.set b (.map es2 c2) s.heap, next := s.next } = true → Fine P ι w K (Sem.run P (do setObj p.blk (.map es2' c2); pure .skip) w) := by
        intro es2 es2' c2 hl2 he2 hk2
        have hlt : p.blk < w.heap.size := hbnd
        obtain ⟨h1, h2⟩ := hw.update (w' := { w with heap := w.heap.setIfInBounds p.blk (.map es2' c2) }) (.map es2 c2) hb hes rfl hro (by simp)
          (fun k hk => by simp [Array.getElem?_setIfInBounds_ne hk.symm]) rfl rfl (.map (by simp [hlt]) hl2 he2 hro)
        refine ⟨undef, _, ι, _, .tup [], .inr ⟨?_, rfl⟩, h2, h1, .tup .nil, hk2⟩
        simp only [Sem.run_bind, setObj_run (P := P) (o := .map es2' c2) hobj (by intro c t f e; cases e), Result.andThen_ok, Sem.run_pure]
      simp only [Instr.mapUpdate, Sem.run_bind, run_underlyingA hd, Result.andThen_ok, hgo, hck, hrun]
      rcases hrel with ⟨rfl, rfl⟩ | ⟨j, e, e', rfl, rfl, hj, hj', hv, hsame⟩
      · have hk2 : (appK es [{ key := i', val := x', born := clock }] fun es => natK (Nat.succ clock) fun c => putK b (.map es c) s fun s => K (.tup []) s) = true := hk
        rw [appK_eq, natK_eq, putK_eq] at hk2
        have := key (es ++ [{ key := i', val := x', born := clock }]) (es'.push { key := vi, val := vx, born := clock }) (clock + 1) (by simp [hl]) (fun j e hj => by
          rw [List.getElem?_append] at hj
          split at hj
          · rename_i hlt
            obtain ⟨e', h1, h2⟩ := he j e hj
            refine ⟨e', ?_, h2⟩
            rw [Array.getElem?_push_lt (by omega)]
            rw [Array.getElem?_eq_getElem (by omega)] at h1
            exact h1
          · rename_i hge
            have : j = es.length := by
              rcases Nat.lt_or_ge es.length j with h0 | h0
              · have : ([{ key := i', val := x', born := clock }] : List MapE)[j - es.length]? = none := by simp; omega
                rw [this] at hj; cases hj
              · omega
            subst this
            simp at hj; subst hj
            exact ⟨_, by rw [hl, Array.getElem?_push_size], .mk hvi hvx rfl⟩) hk2
        simpa using this
      · have hk2 : (setValK x' i' es (0 + j) fun es => putK b (.map es clock) s fun s => K (.tup []) s) = true := hk
        rw [Nat.zero_add] at hk2
        obtain ⟨e0, he0, hk3⟩ := setValK_true.1 hk2
        rw [putK_eq] at hk3
        have hjj : es'[j]? = some e' := by simpa using hj'
        have hks : (Instr.keyThatStays e'.key vi).run P w = .ok vi w := by simp [Instr.keyThatStays, hsame]
        have hlt : j < es.length := (List.getElem?_eq_some_iff.1 hj).1
        have := key (es.set j { key := i', val := x', born := e0.born }) (es'.modify j fun e => { e with key := vi, val := vx }) clock (by simp [hl]) (fun l el hel => by
          by_cases hlj : l = j
          · subst hlj
            rw [List.getElem?_set_self hlt] at hel
            cases hel
            rw [hj] at he0; cases he0
            obtain ⟨e1, h1, h2⟩ := he l e hj
            rw [hjj] at h1; cases h1
            refine ⟨{ e' with key := vi, val := vx }, by simp [Array.getElem?_modify, hjj], .mk hvi hvx ?_⟩
            cases h2 with | mk _ _ hb' => exact hb'
          · rw [List.getElem?_set_ne (by omega)] at hel
            obtain ⟨e1, h1, h2⟩ := he l el hel
            exact ⟨e1, by rw [Array.getElem?_modify]; simp [h1]; omega, h2⟩) hk3
        simp only [Nat.zero_add, hjj, Option.map_some, Option.getD_some, Sem.run_bind, hks, Result.andThen_ok]
        simpa using this
/-! ### Comparisons -/
theorem eqBin_fine {op : BinOp} {e : Bool} {t : TypeId} {x y : Value} (h : eqBin op e s K = true) (hw : WRel P ι s w)
    (he : (binOp .eql t x y).run P w = .ok (.bool e) w) (hn : (binOp .neq t x y).run P w = .ok (.bool (!e)) w) : FineV P ι w K ((binOp op t x y).run P w) := by
  cases op with
  | eql =>
    have h : boolV e s K = true := h
    rw [he]
    exact boolV_fine h hw
  | neq =>
    have h : boolV (notB e) s K = true := h
    rw [notB_eq] at h
    rw [hn]
    exact boolV_fine h hw
  | _ => cases h
theorem eq_ptr1 (d : Nat) {t e : TypeId} (hd : P.underlying t = some (.pointer e)) (b : Option Addr) : (Op.equalIn (d + 1) t (.pointer none) (.pointer b)).run P w = .ok b.isNone w := by
  simp [Op.equalIn, run_underlyingA hd]
theorem eq_ptr2 (d : Nat) {t e : TypeId} (hd : P.underlying t = some (.pointer e)) (a : Addr) : (Op.equalIn (d + 1) t (.pointer (some a)) (.pointer none)).run P w = .ok false w := by
  simp [Op.equalIn, run_underlyingA hd]
theorem eq_slc1 (d : Nat) {t e : TypeId} (hd : P.underlying t = some (.slice e)) (n c : Nat) (b : Option Addr) (m k : Nat) : (Op.equalIn (d + 1) t (.slice none n c) (.slice b m k)).run P w = .ok b.isNone w := by
  simp [Op.equalIn, run_underlyingA hd]
theorem eq_slc2 (d : Nat) {t e : TypeId} (hd : P.underlying t = some (.slice e)) (a : Addr) (n c m k : Nat) : (Op.equalIn (d + 1) t (.slice (some a) n c) (.slice none m k)).run P w = .ok false w := by
  simp [Op.equalIn, run_underlyingA hd]
theorem eq_map1 (d : Nat) {t k e : TypeId} (hd : P.underlying t = some (.map k e)) (b : Option Nat) : (Op.equalIn (d + 1) t (.map none) (.map b)).run P w = .ok b.isNone w := by
  simp [Op.equalIn, run_underlyingA hd]
theorem eq_map2 (d : Nat) {t k e : TypeId} (hd : P.underlying t = some (.map k e)) (a : Nat) : (Op.equalIn (d + 1) t (.map (some a)) (.map none)).run P w = .ok false w := by
  simp [Op.equalIn, run_underlyingA hd]
theorem eq_fn1 (d : Nat) {t : TypeId} {a b : Array TypeId} {c : Bool} (hd : P.underlying t = some (.func a b c)) : (Op.equalIn (d + 1) t .nilFunc .nilFunc).run P w = .ok true w := by
  simp [Op.equalIn, run_underlyingA hd]
theorem eq_fn2 (d : Nat) {t : TypeId} {a b : Array TypeId} {c : Bool} (hd : P.underlying t = some (.func a b c)) (f : Fn) (x y : Array Value) : (Op.equalIn (d + 1) t .nilFunc (.func f x y)).run P w = .ok false w := by
  simp [Op.equalIn, run_underlyingA hd]
theorem eq_fn3 (d : Nat) {t : TypeId} {a b : Array TypeId} {c : Bool} (hd : P.underlying t = some (.func a b c)) (f : Fn) (x y : Array Value) : (Op.equalIn (d + 1) t (.func f x y) .nilFunc).run P w = .ok false w := by
  simp [Op.equalIn, run_underlyingA hd]
theorem eq_bool (d : Nat) {t : TypeId} (hd : P.underlying t = some .bool) (a b : Bool) : (Op.equalIn (d + 1) t (.bool a) (.bool b)).run P w = .ok (a == b) w := by
  simp [Op.equalIn, run_underlyingA hd]
/-- Values that `==` hands to 'equal'. -/
def Restful : Value → Prop
  | .bool _ | .pointer _ | .slice _ _ _ | .map _ | .nilFunc | .func _ _ _ | .agg _ => True
  | _ => False
theorem bin_eq {t : TypeId} {x y : Value} {e : Bool} (hx : Restful x) (hy : Restful y) (h : (Op.equalIn (9999 + 1) t x y).run P w = .ok e w) :
    (binOp .eql t x y).run P w = .ok (.bool e) w ∧ (binOp .neq t x y).run P w = .ok (.bool (!e)) w := by
  have h' : (Op.equal t x y).run P w = .ok e w := h
  cases x <;> simp only [Restful] at hx <;> cases y <;> simp only [Restful] at hy <;> simp only [binOp, Sem.run_bind, h', Result.andThen_ok, Sem.run_pure, and_self]
theorem eqRest_of {op : BinOp} {t : TypeId} {x y : Value} {e : Bool} (h : eqBin op e s K = true) (hw : WRel P ι s w) (hx : Restful x) (hy : Restful y) (he : (Op.equalIn (9999 + 1) t x y).run P w = .ok e w) :
    FineV P ι w K ((binOp op t x y).run P w) := eqBin_fine h hw (bin_eq hx hy he).1 (bin_eq hx hy he).2
theorem eqGuard_ok {op : BinOp} {t : TypeId} {x y : Operand} {a b : Value} (h : ∀ l l', a = .agg l → b = .agg l' → P.eqGuardType P.depth t = false) (hn : a ≠ .nilIface) : (eqGuard op t x y a b).run P w = .ok () w := by
  cases a <;> first | exact absurd rfl hn | (cases op <;> simp [eqGuard] <;> done) | skip
  rename_i l
  cases b <;> first | (cases op <;> simp [eqGuard] <;> done) | skip
  rename_i l'
  exact run_eqGuard_agg w op t x y l l' (h l l' rfl rfl)
theorem isEK_true {t : TypeId} {k : EK} (h : isEK P t k = true) : eqKind P t = k := by
  cases k <;> simp only [isEK] at h <;> (try (split at h <;> simp_all)) <;> cases h
theorem eqKind_ptr {t : TypeId} (h : isEK P t .ptr = true) : ∃ e, P.underlying t = some (.pointer e) := by
  have := isEK_true h
  unfold eqKind at this
  split at this <;> first | (cases this; done) | (exact ⟨_, by assumption⟩)
theorem eqKind_slc {t : TypeId} (h : isEK P t .slc = true) : ∃ e, P.underlying t = some (.slice e) := by
  have := isEK_true h
  unfold eqKind at this
  split at this <;> first | (cases this; done) | (exact ⟨_, by assumption⟩)
theorem eqKind_map {t : TypeId} (h : isEK P t .map = true) : ∃ k e, P.underlying t = some (.map k e) := by
  have := isEK_true h
  unfold eqKind at this
  split at this <;> first | (cases this; done) | (exact ⟨_, _, by assumption⟩)
theorem eqKind_func {t : TypeId} (h : isEK P t .func = true) : ∃ a b c, P.underlying t = some (.func a b c) := by
  have := isEK_true h
  unfold eqKind at this
  split at this <;> first | (cases this; done) | (exact ⟨_, _, _, by assumption⟩)
theorem eqKind_bool {t : TypeId} (h : isEK P t .bool = true) : P.underlying t = some .bool := by
  have := isEK_true h
  unfold eqKind at this
  split at this <;> first | (cases this; done) | assumption
theorem bothNil_true {a b : Bool} {k : Bool → Bool} (h : bothNil a b k = true) : (a = true ∧ k b = true) ∨ (a = false ∧ b = true ∧ k false = true) := by
  unfold bothNil at h
  rcases ifK_true.1 h with ⟨ha, h⟩ | ⟨ha, h⟩
  · exact .inl ⟨ha, h⟩
  · rcases ifK_true.1 h with ⟨hb, h⟩ | ⟨_, h⟩
    · exact .inr ⟨ha, hb, h⟩
    · cases h
theorem eqRest_fine {op : BinOp} {t : TypeId} {a b : AVal} {va vb : Value} (h : eqRest P op t a b s K = true) (hw : WRel P ι s w) (ha : VRel ι a va) (hb : VRel ι b vb) : FineV P ι w K ((binOp op t va vb).run P w) := by
  unfold eqRest at h
  cases ha <;> simp only [nilOf] at h <;> first | (cases h; done) | skip
  all_goals
    rcases ifK_true.1 h with ⟨hk, h⟩ | ⟨_, h⟩
    · cases hb <;> first | (cases h; done) | skip
      all_goals
        rcases bothNil_true h with ⟨h1, h2⟩ | ⟨h1, h2, h3⟩ <;> first | (cases h1; done) | (cases h2; done) | skip
      all_goals
        first
        | (obtain ⟨e, hd⟩ := eqKind_ptr hk
           first
           | exact eqRest_of h2 hw trivial trivial (eq_ptr1 9999 hd _)
           | exact eqRest_of h3 hw trivial trivial (eq_ptr2 9999 hd _))
        | (obtain ⟨e, hd⟩ := eqKind_slc hk
           first
           | exact eqRest_of h2 hw trivial trivial (eq_slc1 9999 hd _ _ _ _ _)
           | exact eqRest_of h3 hw trivial trivial (eq_slc2 9999 hd _ _ _ _ _))
        | (obtain ⟨k, e, hd⟩ := eqKind_map hk
           first
           | exact eqRest_of h2 hw trivial trivial (eq_map1 9999 hd _)
           | exact eqRest_of h3 hw trivial trivial (eq_map2 9999 hd _))
        | (obtain ⟨x1, x2, x3, hd⟩ := eqKind_func hk
           first
           | exact eqRest_of h2 hw trivial trivial (eq_fn1 9999 hd)
           | exact eqRest_of h2 hw trivial trivial (eq_fn2 9999 hd _ _ _)
           | exact eqRest_of h3 hw trivial trivial (eq_fn3 9999 hd _ _ _))
    · cases h
theorem eqShape_some {t : TypeId} {ks : List SK} (h : eqShape P t = some ks) : flat P 20 t = some ks ∧ P.eqGuardType P.depth t = false ∧ aggT P t = true := by
  unfold eqShape at h
  split at h
  · rename_i l hl
    split at h
    · rename_i hc; cases h; exact ⟨hl, hc⟩
    · cases h
  · cases h
theorem opBin_fine {op : BinOp} {t : TypeId} {ox oy : Operand} {x y : Option AVal} {vx vy : Value} (h : opBin P op t x y s K = true) (hw : WRel P ι s w) (hx : ORl ι x vx) (hy : ORl ι y vy) :
    FineV P ι w K (Sem.run P (do eqGuard op t ox oy vx vy; binOp op t vx vy) w) := by
  obtain ⟨a, ha, h⟩ := optK_true.1 h
  obtain ⟨b, hb, h⟩ := optK_true.1 h
  have hra := hx _ ha
  have hrb := hy _ hb
  cases a with
  | bool p =>
    obtain ⟨q, rfl, h'⟩ := AVal.boolK_true.1 h
    cases hra; cases hrb
    rcases ifK_true.1 h' with ⟨hk, h'⟩ | ⟨_, h'⟩
    · rw [Sem.run_bind, eqGuard_ok (by intro l l' e; cases e) (by simp), Result.andThen_ok]
      rw [eqBool_eq] at h'
      exact eqRest_of h' hw trivial trivial (eq_bool 9999 (eqKind_bool hk) p q)
    · cases h'
  | int k p =>
    obtain ⟨j, q, rfl, h'⟩ := AVal.intK_true.1 h
    cases hra; cases hrb
    rw [Sem.run_bind, eqGuard_ok (by intro l l' e; cases e) (by simp), Result.andThen_ok]
    rcases ifK_true.1 h' with ⟨hs, h'⟩ | ⟨hs, h'⟩
    · exact intBin_fine h' hw (fun e => by rw [e] at hs; cases hs) t
    · rcases ifK_true.1 h' with ⟨hk, h'⟩ | ⟨_, h'⟩
      · exact intBin_fine h' hw (fun _ => kindCode_inj (Nat.eq_of_beq_eq_true hk)) t
      · cases h'
  | str p =>
    obtain ⟨q, rfl, h'⟩ := AVal.strK_true.1 h
    cases hra; cases hrb
    rw [Sem.run_bind, eqGuard_ok (by intro l l' e; cases e) (by simp), Result.andThen_ok]
    exact strBin_fine h' hw t
  | agg l =>
    obtain ⟨ks, hks, h⟩ := optK_true.1 h
    obtain ⟨m, rfl, h2⟩ := AVal.aggK_true.1 h
    obtain ⟨hf, hg, hag⟩ := eqShape_some hks
    rw [lenK_eq, lenK_eq, lenK_eq] at h2
    rcases ifK_true.1 h2 with ⟨hla, h⟩ | ⟨_, h⟩
    · rcases ifK_true.1 h with ⟨hlb, h⟩ | ⟨_, h⟩
      · have hla : l.length = ks.length := by simpa using Nat.eq_of_beq_eq_true hla
        have hlb : m.length = ks.length := by simpa using Nat.eq_of_beq_eq_true hlb
        cases hra with
        | agg hl hs =>
          cases hrb with
          | agg hm hs' =>
            rename_i c c'
            rw [Sem.run_bind, eqGuard_ok (by intro _ _ _ _; exact hg) (by simp), Result.andThen_ok]
            obtain ⟨e, he, hsame⟩ := eqCells_split ks l m _ hla hlb h
            obtain ⟨e', he', hrun⟩ := eqOk_flat (P := P) (ι := ι) (w := w) 20 t ks hf (9999 + 1) (by decide) l m _ _ hl hm hla hlb (fun z => z == e) hsame
            have : e' = e := by simpa using he'
            subst this
            have hmk : ∀ x : Array Value, mkV P t x.toList = .agg x := fun x => by simp [mkV, hag]
            rw [hmk, hmk] at hrun
            exact eqRest_of he hw trivial trivial hrun
      · cases h
    · cases h
  | ptr b o => cases hra; rw [Sem.run_bind, eqGuard_ok (by intro l l' e; cases e) (by simp), Result.andThen_ok]; exact eqRest_fine h hw (hx _ ha) hrb
  | nilPtr => cases hra; rw [Sem.run_bind, eqGuard_ok (by intro l l' e; cases e) (by simp), Result.andThen_ok]; exact eqRest_fine h hw (hx _ ha) hrb
  | slice b o n c => cases hra <;> (rw [Sem.run_bind, eqGuard_ok (by intro l l' e; cases e) (by simp), Result.andThen_ok]; exact eqRest_fine h hw (hx _ ha) hrb)
  | nilSlice => cases hra; rw [Sem.run_bind, eqGuard_ok (by intro l l' e; cases e) (by simp), Result.andThen_ok]; exact eqRest_fine h hw (hx _ ha) hrb
  | map b => cases hra; rw [Sem.run_bind, eqGuard_ok (by intro l l' e; cases e) (by simp), Result.andThen_ok]; exact eqRest_fine h hw (hx _ ha) hrb
  | nilMap => cases hra; rw [Sem.run_bind, eqGuard_ok (by intro l l' e; cases e) (by simp), Result.andThen_ok]; exact eqRest_fine h hw (hx _ ha) hrb
  | fn f a' c => cases hra; rw [Sem.run_bind, eqGuard_ok (by intro l l' e; cases e) (by simp), Result.andThen_ok]; exact eqRest_fine h hw (hx _ ha) hrb
  | nilFn => cases hra; rw [Sem.run_bind, eqGuard_ok (by intro l l' e; cases e) (by simp), Result.andThen_ok]; exact eqRest_fine h hw (hx _ ha) hrb
  | _ => cases h
end
end Go.AM
