/- The abstract machine's operations hold of the model's, part 3: equality of keys and structs, maps, nil. -/
import Derived.Test.YtoipnedbpjfeiaaDoorAmOps2
import Derived.Laws.StructEq
set_option linter.all false
set_option linter.unusedSectionVars false
set_option linter.unusedSimpArgs false
set_option linter.unusedVariables false
namespace Go.AM
section
variable {P : Program} {ι : Ren} {s : St} {w : World} {K : VK}

theorem eqCells_nil (x y : List AVal) (k : Bool → Bool) : eqCells [] x y k = k true := rfl
theorem eqCells_cons (c : SK) (ks : List SK) (a b : AVal) (x y : List AVal) (k : Bool → Bool) : eqCells (c :: ks) (a :: x) (b :: y) k = eqCell c a b fun e => ifK e (eqCells ks x y k) (k false) := rfl
theorem eqCell_congr (c : SK) (a b : AVal) (k : Bool → Bool) : eqCell c a b k = true ↔ ∃ e, eqCell c a b (fun x => x == e) = true ∧ k e = true := by
  cases c with
  | bool =>
    show a.boolK _ = true ↔ ∃ e, a.boolK _ = true ∧ _
    simp only [AVal.boolK_true]
    constructor
    · rintro ⟨x, rfl, y, rfl, h⟩; exact ⟨_, ⟨x, rfl, y, rfl, by simp⟩, h⟩
    · rintro ⟨e, ⟨x, rfl, y, rfl, h⟩, hk⟩; exact ⟨x, rfl, y, rfl, by rw [beq_iff_eq] at h; rw [h]; exact hk⟩
  | int =>
    show a.intK _ = true ↔ ∃ e, a.intK _ = true ∧ _
    simp only [AVal.intK_true, ifK_true]
    constructor
    · rintro ⟨j, x, rfl, k', y, rfl, ⟨h1, h⟩ | ⟨_, h⟩⟩
      · exact ⟨_, ⟨j, x, rfl, k', y, rfl, .inl ⟨h1, by simp⟩⟩, h⟩
      · cases h
    · rintro ⟨e, ⟨j, x, rfl, k', y, rfl, ⟨h1, h⟩ | ⟨_, h⟩⟩, hk⟩
      · exact ⟨j, x, rfl, k', y, rfl, .inl ⟨h1, by rw [beq_iff_eq] at h; rw [h]; exact hk⟩⟩
      · cases h
  | str =>
    show a.strK _ = true ↔ ∃ e, a.strK _ = true ∧ _
    simp only [AVal.strK_true]
    constructor
    · rintro ⟨x, rfl, y, rfl, h⟩; exact ⟨_, ⟨x, rfl, y, rfl, by simp⟩, h⟩
    · rintro ⟨e, ⟨x, rfl, y, rfl, h⟩, hk⟩; exact ⟨x, rfl, y, rfl, by rw [beq_iff_eq] at h; rw [h]; exact hk⟩
theorem eqCells_append (k1 k2 : List SK) : ∀ (a1 a2 b1 b2 : List AVal) (k : Bool → Bool), a1.length = k1.length → b1.length = k1.length →
    eqCells (k1 ++ k2) (a1 ++ a2) (b1 ++ b2) k = true → eqCells k1 a1 b1 (fun e => ifK e (eqCells k2 a2 b2 k) (k false)) = true := by
  induction k1 with
  | nil => intro a1 a2 b1 b2 k h1 h2 h; cases List.length_eq_zero_iff.1 h1; cases List.length_eq_zero_iff.1 h2; exact h
  | cons c k1 ih =>
    intro a1 a2 b1 b2 k h1 h2 h
    cases a1 with
    | nil => simp at h1
    | cons a a1 => cases b1 with
      | nil => simp at h2
      | cons b b1 =>
        simp only [List.cons_append, eqCells_cons] at h ⊢
        obtain ⟨e, he, h⟩ := (eqCell_congr _ _ _ _).1 h
        refine (eqCell_congr _ _ _ _).2 ⟨e, he, ?_⟩
        cases e with
        | false => exact h
        | true => exact ih a1 a2 b1 b2 k (by simpa using h1) (by simpa using h2) h

/-- A value of a type out of its cells. -/
def mkV (P : Program) (t : TypeId) (xs : List Value) : Value := if aggT P t then .agg xs.toArray else xs.headD undef
theorem flat_scalar {d : Nat} {t : TypeId} {ks : List SK} (h : flat P d t = some ks) (ha : aggT P t = false) : ks.length = 1 := by
  cases d with
  | zero => cases h
  | succ d =>
    unfold flat at h
    unfold aggT at ha
    cases hd : P.underlying t with
    | none => rw [hd] at h; cases h
    | some ty =>
      rw [hd] at h ha
      cases ty <;> simp at h <;> first | (subst h; rfl) | (simp [isAggT] at ha)
/-- A part of an aggregate, as a value of its type. -/
theorem run_part_mk {d : Nat} {t : TypeId} {ks : List SK} {xs : List Value} {off : Nat} (h : flat P d t = some ks) (hs : tySize P t = some ks.length) (hl : off + ks.length ≤ xs.length) :
    (part t xs.toArray off).run P w = .ok (mkV P t ((xs.drop off).take ks.length)) w := by
  have hd : ∃ ty, P.underlying t = some ty := by
    cases d with
    | zero => cases h
    | succ d =>
      unfold flat at h
      cases hu : P.underlying t with
      | none => rw [hu] at h; cases h
      | some ty => exact ⟨ty, rfl⟩
  obtain ⟨ty, hd⟩ := hd
  have hag : aggT P t = isAggT ty := by simp [aggT, hd]
  simp only [part, Sem.run_bind, run_isAggA hd, Result.andThen_ok, mkV, hag]
  cases hg : isAggT ty with
  | true =>
    simp only [if_true, Sem.run_bind, run_sizeOfA hs, Result.andThen_ok, Sem.run_pure]
    congr 2
    apply Array.ext'
    simp
  | false =>
    have h1 := flat_scalar h (by rw [hag, hg])
    rw [h1] at hl ⊢
    have hlt : off < xs.length := by omega
    simp only [Bool.false_eq_true, if_false, List.getElem?_toArray]
    have e1 : (xs.drop off).take 1 = [xs[off]] := by rw [List.drop_eq_getElem_cons hlt]; rfl
    rw [List.getElem?_eq_getElem hlt, e1]
    rfl

/-- What equality comes to, on values out of cells. -/
def EqOk (P : Program) (ι : Ren) (w : World) (D : Nat) (t : TypeId) (ks : List SK) : Prop :=
  ∀ (as bs : List AVal) (xs ys : List Value), VRels ι as xs → VRels ι bs ys → as.length = ks.length → bs.length = ks.length → ∀ k : Bool → Bool, eqCells ks as bs k = true →
    ∃ e, k e = true ∧ (Op.equalIn D t (mkV P t xs) (mkV P t ys)).run P w = .ok e w
theorem VRels.take_drop {l : List AVal} {m : List Value} (h : VRels ι l m) (off n : Nat) : VRels ι ((l.drop off).take n) ((m.drop off).take n) := (h.drop off).take n
theorem eqFields_ok {D : Nat} {fl : TypeId → Option (List SK)} {d : Nat} (hfl : fl = flat P d) (ih : ∀ t ks, fl t = some ks → EqOk P ι w D t ks) {as bs : List AVal} {xs ys : List Value} (hx : VRels ι as xs) (hy : VRels ι bs ys) :
    ∀ (fs : List Field) (off : Nat) (ks : List SK), flatFields P fl fs off = some ks → as.length = off + ks.length → bs.length = off + ks.length → ∀ k : Bool → Bool,
      eqCells ks (as.drop off) (bs.drop off) k = true → ∃ e, k e = true ∧ (Op.eqFields D xs.toArray ys.toArray fs).run P w = .ok e w
  | [], off, ks, h, _, _, k, hk => by
    cases h
    exact ⟨true, hk, rfl⟩
  | f :: fs, off, ks, h, ha, hb, k, hk => by
    simp only [flatFields] at h
    split at h
    · cases h
    · rename_i l hl
      split at h
      · rename_i hc
        obtain ⟨hn, ho, hs⟩ := hc
        split at h
        · rename_i m hm
          cases h
          simp only [List.length_append] at ha hb
          have hxl := hx.length
          have hyl := hy.length
          have e1 : as.drop off = (as.drop off).take l.length ++ as.drop (off + l.length) := by rw [← List.drop_drop, List.take_append_drop]
          have e2 : bs.drop off = (bs.drop off).take l.length ++ bs.drop (off + l.length) := by rw [← List.drop_drop, List.take_append_drop]
          rw [e1, e2] at hk
          have hk' := eqCells_append l m _ _ _ _ k (by simp; omega) (by simp; omega) hk
          obtain ⟨e, he, hr⟩ := ih f.type l hl _ _ _ _ (hx.take_drop off l.length) (hy.take_drop off l.length) (by simp; omega) (by simp; omega) _ hk'
          have hfl' : flat P d f.type = some l := hfl ▸ hl
          have p1 := run_part_mk (w := w) (xs := xs) (off := off) hfl' hs (by omega)
          have p2 := run_part_mk (w := w) (xs := ys) (off := off) hfl' hs (by omega)
          simp only [Op.eqFields, hn, not_false_eq_true, if_true, ne_eq, ho, Sem.run_bind, p1, p2, Result.andThen_ok, hr]
          cases e with
          | false => exact ⟨false, he, by simp⟩
          | true =>
            obtain ⟨e', he', hr'⟩ := eqFields_ok hfl ih hx hy fs (off + l.length) m hm (by omega) (by omega) k he
            exact ⟨e', he', by simpa using hr'⟩
        · cases h
      · cases h
/-- Equality of arrays, element by element. -/
def eqElems (d : Nat) (e : TypeId) (n : Nat) (xs ys : Array Value) : List Nat → Sem Bool
  | [] => pure true
  | i :: r => do
    let a ← part e xs (i * n)
    let b ← part e ys (i * n)
    let q ← Op.equalIn d e a b
    if (!q) = true then pure false else eqElems d e n xs ys r
theorem run_equalIn_array (d : Nat) (t e : TypeId) (len n : Nat) (xs ys : Array Value) (ht : P.underlying t = some (.array len e)) (hn : tySize P e = some n) :
    (Op.equalIn (d + 1) t (.agg xs) (.agg ys)).run P w = (eqElems d e n xs ys (List.range' 0 len)).run P w := by
  simp only [Op.equalIn, Sem.run_bind, run_underlyingA ht, Result.andThen_ok, run_sizeOfA hn]
  rw [Std.Legacy.Range.forIn_eq_forIn_range']
  simp only [Std.Legacy.Range.size, Nat.sub_zero, Nat.add_sub_cancel, Nat.div_one]
  generalize List.range' 0 len 1 = is
  induction is generalizing w with
  | nil => simp [eqElems]
  | cons f fs ih =>
    simp only [List.forIn_cons, eqElems, Sem.run_bind, Sem.run_ite]
    generalize (part e xs (f * n)).run P w = r1
    cases r1 with
    | ok a w1 =>
      simp only [Result.andThen_ok]
      generalize (part e ys (f * n)).run P w1 = r2
      cases r2 with
      | ok b w2 =>
        simp only [Result.andThen_ok]
        generalize (Op.equalIn d e a b).run P w2 = r3
        cases r3 with
        | ok r w3 =>
          cases r
          · simp only [Result.andThen_ok, Bool.not_false, if_true, Sem.run_pure]
          · simp only [Result.andThen_ok, Bool.not_true, Bool.false_eq_true, if_false, Sem.run_pure]
            exact ih
        | halt x w3 => simp [Result.andThen]
      | halt x w2 => simp [Result.andThen]
    | halt x w1 => simp [Result.andThen]
theorem eqElems_ok {D : Nat} {d : Nat} {e : TypeId} {l : List SK} (hl : flat P d e = some l) (hs : tySize P e = some l.length) (ih : EqOk P ι w D e l) {as bs : List AVal} {xs ys : List Value} (hx : VRels ι as xs) (hy : VRels ι bs ys) :
    ∀ (n i : Nat), as.length = (i + n) * l.length → bs.length = (i + n) * l.length → ∀ k : Bool → Bool,
      eqCells (List.replicate n l).flatten (as.drop (i * l.length)) (bs.drop (i * l.length)) k = true → ∃ q, k q = true ∧ (eqElems D e l.length xs.toArray ys.toArray (List.range' i n)).run P w = .ok q w
  | 0, i, _, _, k, hk => ⟨true, hk, rfl⟩
  | n + 1, i, ha, hb, k, hk => by
    have hxl := hx.length
    have hyl := hy.length
    have hm : (i + (n + 1)) * l.length = i * l.length + l.length + n * l.length := by rw [Nat.add_mul, Nat.add_mul]; omega
    have hm2 : (i + 1) * l.length = i * l.length + l.length := by rw [Nat.add_mul]; omega
    have e1 : as.drop (i * l.length) = (as.drop (i * l.length)).take l.length ++ as.drop ((i + 1) * l.length) := by rw [hm2, ← List.drop_drop, List.take_append_drop]
    have e2 : bs.drop (i * l.length) = (bs.drop (i * l.length)).take l.length ++ bs.drop ((i + 1) * l.length) := by rw [hm2, ← List.drop_drop, List.take_append_drop]
    rw [e1, e2, List.replicate_succ, List.flatten_cons] at hk
    have hk' := eqCells_append l _ _ _ _ _ k (by simp; omega) (by simp; omega) hk
    obtain ⟨q, hq, hr⟩ := ih _ _ _ _ (hx.take_drop (i * l.length) l.length) (hy.take_drop (i * l.length) l.length) (by simp; omega) (by simp; omega) _ hk'
    have p1 := run_part_mk (w := w) (xs := xs) (off := i * l.length) hl hs (by omega)
    have p2 := run_part_mk (w := w) (xs := ys) (off := i * l.length) hl hs (by omega)
    simp only [List.range'_succ, eqElems, Sem.run_bind, p1, p2, Result.andThen_ok, hr]
    cases q with
    | false => exact ⟨false, hq, by simp⟩
    | true =>
      obtain ⟨q', hq', hr'⟩ := eqElems_ok hl hs ih hx hy n (i + 1) (by rw [ha]; congr 1; omega) (by rw [hb]; congr 1; omega) k hq
      exact ⟨q', hq', by simpa using hr'⟩
theorem VRels.single {a : AVal} {l : List Value} (h : VRels ι [a] l) : ∃ v, l = [v] ∧ VRel ι a v := by
  cases h with | cons h t => cases t; exact ⟨_, rfl, h⟩
/-- EQUALITY, CELL BY CELL. -/
theorem eqOk_flat : ∀ (d : Nat) (t : TypeId) (ks : List SK), flat P d t = some ks → ∀ D, d ≤ D → EqOk P ι w D t ks
  | 0, t, ks, h, _, _ => by cases h
  | d + 1, t, ks, h, D, hD => by
    obtain ⟨D, rfl⟩ : ∃ D', D = D' + 1 := ⟨D - 1, by omega⟩
    intro as bs xs ys hx hy ha hb k hk
    unfold flat at h
    cases hd : P.underlying t with
    | none => rw [hd] at h; cases h
    | some ty =>
      rw [hd] at h
      have hag : aggT P t = isAggT ty := by simp [aggT, hd]
      cases ty with
      | bool =>
        cases h
        obtain ⟨a, rfl⟩ := List.length_eq_one_iff.1 ha
        obtain ⟨b, rfl⟩ := List.length_eq_one_iff.1 hb
        obtain ⟨v, rfl, hv⟩ := hx.single
        obtain ⟨u, rfl, hu⟩ := hy.single
        rw [eqCells_cons] at hk
        obtain ⟨x, rfl, hk⟩ := AVal.boolK_true.1 hk
        obtain ⟨y, rfl, hk⟩ := AVal.boolK_true.1 hk
        cases hv; cases hu
        refine ⟨x == y, ?_, by simp [mkV, hag, isAggT, Op.equalIn, run_underlyingA hd]⟩
        rw [← eqBool_eq]
        rcases ifK_true.1 hk with ⟨h1, h2⟩ | ⟨h1, h2⟩ <;> rw [h1] <;> exact h2
      | int kk =>
        cases h
        obtain ⟨a, rfl⟩ := List.length_eq_one_iff.1 ha
        obtain ⟨b, rfl⟩ := List.length_eq_one_iff.1 hb
        obtain ⟨v, rfl, hv⟩ := hx.single
        obtain ⟨u, rfl, hu⟩ := hy.single
        rw [eqCells_cons] at hk
        obtain ⟨k1, x, rfl, hk2⟩ := AVal.intK_true.1 hk
        obtain ⟨k2, y, rfl, hk3⟩ := AVal.intK_true.1 hk2
        clear hk hk2
        cases hv; cases hu
        rcases ifK_true.1 hk3 with ⟨hkk, hk4⟩ | ⟨_, hk4⟩
        · have hkk := kindCode_inj (Nat.eq_of_beq_eq_true hkk)
          subst hkk
          refine ⟨x == y, ?_, by simp [mkV, hag, isAggT, Op.equalIn, run_underlyingA hd]⟩
          rw [show (x == y) = eqI x y by rw [eqI_eq, Bool.eq_iff_iff]; simp]
          rcases ifK_true.1 hk4 with ⟨h1, h2⟩ | ⟨h1, h2⟩ <;> rw [h1] <;> exact h2
        · cases hk4
      | string =>
        cases h
        obtain ⟨a, rfl⟩ := List.length_eq_one_iff.1 ha
        obtain ⟨b, rfl⟩ := List.length_eq_one_iff.1 hb
        obtain ⟨v, rfl, hv⟩ := hx.single
        obtain ⟨u, rfl, hu⟩ := hy.single
        rw [eqCells_cons] at hk
        obtain ⟨x, rfl, hk⟩ := AVal.strK_true.1 hk
        obtain ⟨y, rfl, hk⟩ := AVal.strK_true.1 hk
        cases hv; cases hu
        refine ⟨x == y, ?_, ?_⟩
        · rw [← eqBytes_eq]
          rcases ifK_true.1 hk with ⟨h1, h2⟩ | ⟨h1, h2⟩ <;> rw [h1] <;> exact h2
        · have := run_equalIn_string w D t ⟨x.toArray⟩ ⟨y.toArray⟩ hd
          rw [toList_arr, toList_arr] at this
          simpa [mkV, hag, isAggT] using this
      | struct fs =>
        simp only at h
        split at h
        · cases h
        · rename_i hsh
          have hfo : P.fieldsOf t = fs := by simp [Program.fieldsOf, hd]
          have hmk : ∀ l, mkV P t l = .agg l.toArray := fun l => by simp [mkV, hag, isAggT]
          rw [hmk, hmk]
          have := eqFields_ok (P := P) (ι := ι) (w := w) (D := D) rfl (fun t' ks' h' => eqOk_flat d t' ks' h' D (by omega)) hx hy fs.toList 0 ks h (by omega) (by omega) k (by simpa using hk)
          obtain ⟨e, he, hr⟩ := this
          refine ⟨e, he, ?_⟩
          rw [run_equalIn_struct w D t xs.toArray ys.toArray (by rw [hfo]; exact hd) (by simpa using hsh), hfo]
          exact hr
      | array len e =>
        simp only at h
        split at h
        · rename_i l hl
          split at h
          · rename_i hs
            cases h
            have hmk : ∀ l, mkV P t l = .agg l.toArray := fun l => by simp [mkV, hag, isAggT]
            rw [hmk, hmk]
            have hlen : (List.replicate len l).flatten.length = len * l.length := by simp
            rw [hlen] at ha hb
            obtain ⟨q, hq, hr⟩ := eqElems_ok hl hs (eqOk_flat d e l hl D (by omega)) hx hy len 0 (by simpa using ha) (by simpa using hb) k (by simpa using hk)
            exact ⟨q, hq, by rw [run_equalIn_array D t e len l.length _ _ hd hs]; exact hr⟩
          · cases h
        · cases h
      | _ => cases h
end
end Go.AM
