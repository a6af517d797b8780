/- The abstract machine's operations hold of the model's, part 2: numbers, strings, equality, fields and indexes. -/
import Derived.Test.YtoipnedbpjfeiaaDoorAmOps1
import Derived.IntWalk
set_option linter.all false
set_option linter.unusedSectionVars false
set_option linter.unusedSimpArgs false
set_option linter.unusedVariables false
namespace Go.AM
section
variable {P : Program} {ι : Ren} {s : St} {w : World} {K : VK}

/-! ### Numbers -/
theorem inI64_true {n : Int} (h : inI64 n = true) : IntKind.wrap .i64 n = n := by
  have hb : -9223372036854775808 ≤ n ∧ n ≤ 9223372036854775807 := by
    cases n with
    | ofNat m =>
      have : m ≤ 9223372036854775807 := Nat.le_of_ble_eq_true h
      simp only [Int.ofNat_eq_natCast]
      omega
    | negSucc m =>
      have : m ≤ 9223372036854775807 := Nat.le_of_ble_eq_true h
      rw [Int.negSucc_eq]
      omega
  exact IntWalk.i64_in n (by omega)
theorem wrapF_eq (k : IntKind) (n : Int) : wrapF k n = k.wrap n := by
  cases k <;> try rfl
  show (@Bool.rec (fun _ => Int) (IntKind.wrap .i64 n) n (inI64 n)) = _
  cases h : inI64 n with
  | false => rfl
  | true => exact (inI64_true h).symm
theorem eqI_eq (x y : Int) : eqI x y = decide (x = y) := by
  cases x with
  | ofNat a => cases y with
    | ofNat b => show Nat.beq a b = _; rw [Bool.eq_iff_iff, Nat.beq_eq]; simp only [decide_eq_true_eq, Int.ofNat_eq_natCast]; omega
    | negSucc b => show false = _; simp
  | negSucc a => cases y with
    | ofNat b => show false = _; simp
    | negSucc b => show Nat.beq a b = _; rw [Bool.eq_iff_iff]; simp [Nat.beq_eq]
theorem ltI_eq (x y : Int) : ltI x y = decide (x < y) := by
  cases x with
  | ofNat a => cases y with
    | ofNat b => show Nat.ble (a + 1) b = _; rw [Bool.eq_iff_iff, Nat.ble_eq]; simp; omega
    | negSucc b => show false = _; rw [eq_comm, decide_eq_false_iff_not]; simp only [Int.ofNat_eq_natCast]; omega
  | negSucc a => cases y with
    | ofNat b => show true = _; rw [eq_comm, decide_eq_true_eq]; simp only [Int.ofNat_eq_natCast]; omega
    | negSucc b => show Nat.ble (b + 1) a = _; rw [Bool.eq_iff_iff, Nat.ble_eq]; simp; omega
theorem notB_eq (b : Bool) : notB b = !b := by cases b <;> rfl
theorem eqBool_eq (a b : Bool) : eqBool a b = (a == b) := by cases a <;> cases b <;> rfl
theorem boolV_fine {b : Bool} (h : boolV b s K = true) (hw : WRel P ι s w) : FineV P ι w K (.ok (.bool b) w) := by
  cases b
  · exact .same hw (.bool false) h
  · exact .same hw (.bool true) h
theorem intV_fine {k : IntKind} {n : Int} (h : intV k n s K = true) (hw : WRel P ι s w) : FineV P ι w K (.ok (.int k n) w) := by
  unfold intV at h
  rw [intK_eq] at h
  exact .same hw (.int k n) h
theorem kindCode_inj {j k : IntKind} (h : kindCode j = kindCode k) : j = k := by cases j <;> cases k <;> first | rfl | (simp [kindCode] at h)
theorem intBin_fine {op : BinOp} {k j : IntKind} {a b : Int} (h : intBin op k a b s K = true) (hw : WRel P ι s w) (hk : isShift op = false → k = j) (t : TypeId) :
    FineV P ι w K ((binOp op t (.int k a) (.int j b)).run P w) := by
  cases op with
  | add => cases hk rfl; have h : intV k (wrapF k (a + b)) s K = true := h; rw [wrapF_eq] at h; simp only [binOp, ne_eq, not_true_eq_false, if_false]; exact intV_fine h hw
  | sub => cases hk rfl; have h : intV k (wrapF k (a - b)) s K = true := h; rw [wrapF_eq] at h; simp only [binOp, ne_eq, not_true_eq_false, if_false]; exact intV_fine h hw
  | mul => cases hk rfl; have h : intV k (wrapF k (a * b)) s K = true := h; rw [wrapF_eq] at h; simp only [binOp, ne_eq, not_true_eq_false, if_false]; exact intV_fine h hw
  | quo =>
    cases hk rfl
    have h : ifK (eqI b 0) (fail 3) (intV k (k.wrap (a.tdiv b)) s K) = true := h
    rcases ifK_true.1 h with ⟨_, h⟩ | ⟨h0, h⟩
    · cases h
    · rw [eqI_eq, decide_eq_false_iff_not] at h0
      simp only [binOp, ne_eq, not_true_eq_false, if_false, Op.intDiv, h0]
      exact intV_fine h hw
  | rem =>
    cases hk rfl
    have h : ifK (eqI b 0) (fail 3) (intV k (a.tmod b) s K) = true := h
    rcases ifK_true.1 h with ⟨_, h⟩ | ⟨h0, h⟩
    · cases h
    · rw [eqI_eq, decide_eq_false_iff_not] at h0
      simp only [binOp, ne_eq, not_true_eq_false, if_false, Op.intDiv, h0]
      exact intV_fine h hw
  | and => cases hk rfl; simp only [binOp, ne_eq, not_true_eq_false, if_false]; exact intV_fine h hw
  | or => cases hk rfl; simp only [binOp, ne_eq, not_true_eq_false, if_false]; exact intV_fine h hw
  | xor => cases hk rfl; simp only [binOp, ne_eq, not_true_eq_false, if_false]; exact intV_fine h hw
  | andNot => cases hk rfl; simp only [binOp, ne_eq, not_true_eq_false, if_false]; exact intV_fine h hw
  | shl =>
    have h : ifK (ltI b 0) (fail 4) (intV k (k.wrap (a * 2 ^ min b.toNat k.bits)) s K) = true := h
    rcases ifK_true.1 h with ⟨_, h⟩ | ⟨h0, h⟩
    · cases h
    · rw [ltI_eq, decide_eq_false_iff_not] at h0
      simp only [binOp, Op.shift, h0, if_false]
      exact intV_fine h hw
  | shr =>
    have h : ifK (ltI b 0) (fail 4) (intV k (a.fdiv (2 ^ min b.toNat k.bits)) s K) = true := h
    rcases ifK_true.1 h with ⟨_, h⟩ | ⟨h0, h⟩
    · cases h
    · rw [ltI_eq, decide_eq_false_iff_not] at h0
      simp only [binOp, Op.shift, h0, if_false]
      exact intV_fine h hw
  | eql =>
    cases hk rfl
    have h : boolV (eqI a b) s K = true := h
    rw [eqI_eq] at h
    simp only [binOp, ne_eq, not_true_eq_false, if_false, Op.intCmp, Sem.run_pure]
    rw [show (a == b) = decide (a = b) by rw [Bool.eq_iff_iff]; simp]
    exact boolV_fine h hw
  | neq =>
    cases hk rfl
    have h : boolV (notB (eqI a b)) s K = true := h
    rw [eqI_eq, notB_eq] at h
    simp only [binOp, ne_eq, not_true_eq_false, if_false, Op.intCmp, Sem.run_pure]
    rw [show (a != b) = !decide (a = b) by rw [Bool.eq_iff_iff]; simp]
    exact boolV_fine h hw
  | lss =>
    cases hk rfl
    have h : boolV (ltI a b) s K = true := h
    rw [ltI_eq] at h
    simp only [binOp, ne_eq, not_true_eq_false, if_false, Op.intCmp, Sem.run_pure]
    exact boolV_fine h hw
  | leq =>
    cases hk rfl
    have h : boolV (notB (ltI b a)) s K = true := h
    rw [ltI_eq, notB_eq] at h
    simp only [binOp, ne_eq, not_true_eq_false, if_false, Op.intCmp, Sem.run_pure]
    rw [show decide (a ≤ b) = !decide (b < a) by rw [Bool.eq_iff_iff]; simp]
    exact boolV_fine h hw
  | gtr =>
    cases hk rfl
    have h : boolV (ltI b a) s K = true := h
    rw [ltI_eq] at h
    simp only [binOp, ne_eq, not_true_eq_false, if_false, Op.intCmp, Sem.run_pure]
    exact boolV_fine h hw
  | geq =>
    cases hk rfl
    have h : boolV (notB (ltI a b)) s K = true := h
    rw [ltI_eq, notB_eq] at h
    simp only [binOp, ne_eq, not_true_eq_false, if_false, Op.intCmp, Sem.run_pure]
    rw [show decide (a ≥ b) = !decide (a < b) by rw [Bool.eq_iff_iff]; simp]
    exact boolV_fine h hw
theorem opUn_fine {op : UnOp} {x : Option AVal} {v : Value} (h : opUn op x s K = true) (hw : WRel P ι s w) (hx : ORl ι x v) : FineV P ι w K ((Op.unary op v).run P w) := by
  obtain ⟨y, hy, h⟩ := optK_true.1 h
  have hr := hx _ hy
  cases op with
  | neg =>
    obtain ⟨k, n, rfl, h⟩ := AVal.intK_true.1 h
    cases hr
    have h : intV k (wrapF k (0 - n)) s K = true := h
    rw [wrapF_eq] at h
    exact intV_fine h hw
  | xor =>
    obtain ⟨k, n, rfl, h⟩ := AVal.intK_true.1 h
    cases hr
    exact intV_fine h hw
  | not =>
    obtain ⟨b, rfl, h'⟩ := AVal.boolK_true.1 h
    cases hr
    rw [notB_eq] at h'
    exact boolV_fine h' hw
  | plus => cases h

/-! ### Strings -/
theorem toList_arr (l : List UInt8) : (⟨l.toArray⟩ : ByteArray).toList = l := by
  have : ∀ b : ByteArray, b.toList = b.data.toList := fun b => by
    exact ByteArray.toList_eq b
  rw [this]
theorem size_arr (l : List UInt8) : (⟨l.toArray⟩ : ByteArray).size = l.length := by simp [ByteArray.size]
theorem eqBytes_eq (x y : List UInt8) : eqBytes x y = (x == y) := by
  induction x generalizing y with
  | nil => cases y <;> rfl
  | cons a x ih => cases y with
    | nil => rfl
    | cons b y =>
      show ifK (Nat.beq a.toNat b.toNat) (eqBytes x y) false = _
      rw [ih, Bool.eq_iff_iff, ifK_true, Nat.beq_eq]
      simp only [beq_iff_eq, List.cons.injEq, Bool.false_eq_true, and_false, or_false]
      exact ⟨fun ⟨h, e⟩ => ⟨UInt8.toNat_inj.1 h, e⟩, fun ⟨h, e⟩ => ⟨congrArg UInt8.toNat h, e⟩⟩
theorem ltBytes_eq (x y : List UInt8) : ltBytes x y = Op.bytesLess x y := by
  induction x generalizing y with
  | nil => cases y <;> rfl
  | cons a x ih => cases y with
    | nil => rfl
    | cons b y =>
      show ifK (Nat.ble (a.toNat + 1) b.toNat) true (ifK (Nat.beq a.toNat b.toNat) (ltBytes x y) false) = _
      rw [ih, Bool.eq_iff_iff, ifK_true, ifK_true, Nat.ble_eq, Nat.beq_eq]
      simp only [Op.bytesLess, Bool.or_eq_true, Bool.and_eq_true, decide_eq_true_eq, beq_iff_eq, UInt8.lt_iff_toNat_lt]
      rw [← UInt8.toNat_inj]
      constructor
      · rintro (⟨h, _⟩ | ⟨_, (⟨h1, h2⟩ | ⟨_, h2⟩)⟩)
        · exact .inl (by omega)
        · exact .inr ⟨h1, h2⟩
        · cases h2
      · rintro (h | ⟨h1, h2⟩)
        · exact .inl ⟨by omega, trivial⟩
        · refine .inr ⟨?_, .inl ⟨h1, h2⟩⟩
          cases hb : Nat.ble (a.toNat + 1) b.toNat with
          | false => rfl
          | true => rw [Nat.ble_eq] at hb; omega
/-- An order on bytes is total: one is less, or both are equal, or the other is less. -/
theorem less_total (x y : List UInt8) : (Op.bytesLess x y || x == y) = !Op.bytesLess y x := by
  induction x generalizing y with
  | nil => cases y <;> simp [Op.bytesLess]
  | cons a x ih => cases y with
    | nil => simp [Op.bytesLess]
    | cons b y =>
      simp only [Op.bytesLess]
      have := ih y
      rcases Nat.lt_trichotomy a.toNat b.toNat with h | h | h
      · have h1 : a < b := UInt8.lt_iff_toNat_lt.2 h
        have h2 : ¬ b < a := fun h' => by have := UInt8.lt_iff_toNat_lt.1 h'; omega
        have h3 : (b == a) = false := by rw [beq_eq_false_iff_ne]; rintro rfl; omega
        simp [h1, h2, h3]
      · have h0 : a = b := UInt8.toNat_inj.1 h
        subst h0
        have h2 : ¬ a < a := fun h' => by have := UInt8.lt_iff_toNat_lt.1 h'; omega
        simp only [h2, decide_false, Bool.false_or, beq_self_eq_true, Bool.true_and]
        rw [← this]
        congr 1
        rw [Bool.eq_iff_iff]; simp
      · have h1 : b < a := UInt8.lt_iff_toNat_lt.2 h
        have h2 : ¬ a < b := fun h' => by have := UInt8.lt_iff_toNat_lt.1 h'; omega
        have h3 : (a == b) = false := by rw [beq_eq_false_iff_ne]; rintro rfl; omega
        simp [h1, h2, h3]
theorem strBin_fine {op : BinOp} {a b : List UInt8} (h : strBin op a b s K = true) (hw : WRel P ι s w) (t : TypeId) :
    FineV P ι w K ((binOp op t (.string ⟨a.toArray⟩) (.string ⟨b.toArray⟩)).run P w) := by
  cases op with
  | add =>
    have h : (lenK a 0 fun n => lenK b 0 fun m => ifK (Nat.ble (Nat.add n m) 9223372036854775807) (appK a b fun l => K (.str l) s) (fail 5)) = true := h
    rw [lenK_eq, lenK_eq] at h
    rcases ifK_true.1 h with ⟨hb, h⟩ | ⟨_, h⟩
    · rw [appK_eq] at h
      have hle : a.length + b.length ≤ 9223372036854775807 := by have := Nat.le_of_ble_eq_true hb; simpa using this
      simp only [binOp, Op.stringOp, size_arr]
      rw [if_neg (by have : IntKind.max .i64 = 9223372036854775807 := by decide
                     rw [this]; omega)]
      refine .same hw ?_ h
      have : (⟨a.toArray⟩ ++ ⟨b.toArray⟩ : ByteArray) = ⟨(a ++ b).toArray⟩ := by
        apply ByteArray.ext
        simp [ByteArray.data_append]
      rw [this]
      exact .str _
    · cases h
  | eql =>
    have h : boolV (eqBytes a b) s K = true := h
    rw [eqBytes_eq] at h
    simp only [binOp, Op.stringOp, toList_arr]
    exact boolV_fine h hw
  | neq =>
    have h : boolV (notB (eqBytes a b)) s K = true := h
    rw [eqBytes_eq, notB_eq] at h
    simp only [binOp, Op.stringOp, toList_arr]
    exact boolV_fine h hw
  | lss =>
    have h : boolV (ltBytes a b) s K = true := h
    rw [ltBytes_eq] at h
    simp only [binOp, Op.stringOp, toList_arr]
    exact boolV_fine h hw
  | leq =>
    have h : boolV (notB (ltBytes b a)) s K = true := h
    rw [ltBytes_eq, notB_eq] at h
    simp only [binOp, Op.stringOp, toList_arr, less_total]
    exact boolV_fine h hw
  | gtr =>
    have h : boolV (ltBytes b a) s K = true := h
    rw [ltBytes_eq] at h
    simp only [binOp, Op.stringOp, toList_arr, less_total, Bool.not_not]
    exact boolV_fine h hw
  | geq =>
    have h : boolV (notB (ltBytes a b)) s K = true := h
    rw [ltBytes_eq, notB_eq] at h
    simp only [binOp, Op.stringOp, toList_arr]
    exact boolV_fine h hw
  | _ => cases h

/-! ### Fields and indexes -/
theorem opExtract_fine {x : Option AVal} {v : Value} {i : Nat} (h : opExtract x i s K = true) (hw : WRel P ι s w) (hx : ORl ι x v) : FineV P ι w K ((Instr.extract v i).run P w) := by
  obtain ⟨y, hy, h⟩ := optK_true.1 h
  obtain ⟨l, rfl, h⟩ := AVal.tupK_true.1 h
  obtain ⟨a, ha, h⟩ := nthK_true.1 h
  have hr := hx _ hy
  cases hr with
  | tup hl =>
    obtain ⟨u, hu, hru⟩ := hl.get ha
    simp at hu
    simp only [Instr.extract, hu]
    exact .same hw hru h
theorem opFieldAddr_fine {t : TypeId} {x : Option AVal} {v : Value} {i : Nat} (h : opFieldAddr P t x i s K = true) (hw : WRel P ι s w) (hx : ORl ι x v) : FineV P ι w K ((Instr.fieldAt t v i).run P w) := by
  obtain ⟨fo, hfo, h⟩ := optK_true.1 h
  obtain ⟨y, hy, h⟩ := optK_true.1 h
  obtain ⟨b, off, rfl, h'⟩ := AVal.ptrK_true.1 h
  rw [natK_eq] at h'
  have hr := hx _ hy
  cases hr with
  | ptr hb =>
    unfold fieldOff at hfo
    split at hfo
    · rename_i fs hd
      split at hfo
      · rename_i f hf
        split at hfo
        · rename_i n hn
          cases hfo
          simp only [Instr.fieldAt, Instr.sureAddr, Sem.run_bind, run_underlyingA hd, Result.andThen_ok, hf, Sem.run_pure, fieldPlace, run_sizeOfA hn, Nat.succ_ne_zero, if_false, add_eq]
          exact .same hw (by rw [Nat.add_assoc]; exact .ptr hb) h'
        · cases hfo
      · cases hfo
    · cases hfo
/-- A part of an aggregate. -/
theorem part_fine {t : TypeId} {n : Option Nat} {l : List AVal} {c : Array Value} {off : Nat} {k : AVal → Bool} (hn : loadSz P t = some n) (hl : VRels ι l c.toList) (hs : ∀ x ∈ l, x.scalar = true)
    (h : partK n l off k = true) : ∃ v a, (part t c off).run P w = .ok v w ∧ VRel ι a v ∧ k a = true := by
  obtain ⟨d, m, hd, hm, rfl⟩ := loadSz_some hn
  simp only [part, Sem.run_bind, run_isAggA hd, Result.andThen_ok]
  cases hg : isAggT d with
  | false =>
    rw [hg] at h
    rcases partK_seg h with ⟨_, a, ha, hk⟩ | ⟨m', hm', _⟩
    · obtain ⟨v, hv, hrv⟩ := hl.get ha
      simp at hv
      exact ⟨v, a, by simp [hv], hrv, hk⟩
    · simp at hm'
  | true =>
    rw [hg] at h
    rcases partK_seg h with ⟨hf, _⟩ | ⟨m', hm', hlen, hk⟩
    · simp at hf
    · simp at hm'; subst hm'
      refine ⟨.agg (c.extract off (off + m)), _, by simp [run_sizeOfA hm], VRel.agg ?_ (fun x hx => hs x (mem_seg hx)), hk⟩
      have := (hl.drop off).take m
      rwa [show (c.extract off (off + m)).toList = (c.toList.drop off).take m by simp [Array.toList_extract]]
theorem opField_fine {t : TypeId} {x : Option AVal} {v : Value} {i : Nat} (h : opField P t x i s K = true) (hw : WRel P ι s w) (hx : ORl ι x v) : FineV P ι w K ((Instr.field t v i).run P w) := by
  obtain ⟨f, hfo, h⟩ := optK_true.1 h
  obtain ⟨y, hy, h⟩ := optK_true.1 h
  obtain ⟨l, rfl, h⟩ := AVal.aggK_true.1 h
  have hr := hx _ hy
  cases hr with
  | agg hl hs =>
    unfold fieldVal at hfo
    split at hfo
    · rename_i fs hd
      split at hfo
      · rename_i f' hf
        cases hz : loadSz P f'.type with
        | none => rw [hz] at hfo; cases hfo
        | some n =>
          rw [hz] at hfo; cases hfo
          obtain ⟨u, a, hu, hru, hk⟩ := part_fine (w := w) hz hl hs h
          simp only [Instr.field, Sem.run_bind, run_underlyingA hd, Result.andThen_ok, hf, asAgg, Sem.run_pure, hu]
          exact .same hw hru hk
      · cases hfo
    · cases hfo
theorem slcInfo_some {t : TypeId} {e : Nat × Nat} (h : slcInfo P t = some e) : ∃ el i, P.underlying t = some (.slice el) ∧ P.info? el = some i ∧ e = (i.size, i.bytes) := by
  unfold slcInfo slcElem at h
  cases hd : P.underlying t with
  | none => rw [hd] at h; cases h
  | some d =>
    rw [hd] at h
    cases d <;> simp at h
    rename_i el
    obtain ⟨i, hi, rfl⟩ := h
    exact ⟨el, i, rfl, hi, rfl⟩
theorem arrInfo_some {t : TypeId} {e : Nat × Nat} (h : arrInfo P t = some e) : ∃ n el, P.underlying t = some (.array n el) ∧ tySize P el = some e.2 ∧ e.1 = n := by
  unfold arrInfo at h
  cases hd : P.underlying t with
  | none => rw [hd] at h; cases h
  | some d =>
    rw [hd] at h
    cases d <;> simp at h
    rename_i n el
    obtain ⟨m, hm, rfl⟩ := h
    exact ⟨n, el, rfl, hm, rfl⟩
theorem tyKind_slc {t : TypeId} (h : tyKind P t = .slc) : ∃ e, P.underlying t = some (.slice e) := by
  unfold tyKind at h
  split at h <;> first | (cases h; done) | skip
  rename_i e he
  exact ⟨e, he⟩
theorem tyKind_arr {t : TypeId} (h : tyKind P t = .arr) : ∃ n e, P.underlying t = some (.array n e) := by
  unfold tyKind at h
  split at h <;> first | (cases h; done) | skip
  rename_i n e he
  exact ⟨n, e, he⟩
theorem tyKind_str {t : TypeId} (h : tyKind P t = .str) : P.underlying t = some .string := by
  unfold tyKind at h
  split at h <;> first | (cases h; done) | assumption
theorem tyKind_map {t : TypeId} (h : tyKind P t = .map) : ∃ k e, P.underlying t = some (.map k e) := by
  unfold tyKind at h
  split at h <;> first | (cases h; done) | skip
  rename_i k e he
  exact ⟨k, e, he⟩
theorem tySize_info {t : TypeId} {i : TypeInfo} (h : P.info? t = some i) : tySize P t = some i.size := by simp [tySize, h]
theorem opIndexAddr_fine {t : TypeId} {x i : Option AVal} {v vi : Value} (h : opIndexAddr P t x i s K = true) (hw : WRel P ι s w) (hx : ORl ι x v) (hi : ORl ι i vi) : FineV P ι w K ((Instr.indexAt t v vi).run P w) := by
  obtain ⟨y, hy, h⟩ := optK_true.1 h
  obtain ⟨z, hz, h⟩ := optK_true.1 h
  obtain ⟨k, n, rfl, h⟩ := AVal.intK_true.1 h
  obtain ⟨m, rfl, h⟩ := idxK_true.1 h
  have hrx := hx _ hy
  have hri := hi _ hz
  cases hri
  cases hk : tyKind P t with
  | slc =>
    rw [hk] at h
    obtain ⟨e, he, h⟩ := optK_true.1 h
    obtain ⟨b, off, len, cap, rfl, h⟩ := AVal.sliceK_true.1 h
    obtain ⟨el, inf, hd, hel, rfl⟩ := slcInfo_some he
    rcases ifK_true.1 h with ⟨hlt, h⟩ | ⟨_, h⟩
    · rw [natK_eq] at h
      have hlt : m < len := Nat.le_of_ble_eq_true hlt
      have hbase : ∃ p o c, v = .slice (some ⟨p.blk, o, none⟩) len c ∧ ι b = some p ∧ o = p.off + off := by
        cases hrx with
        | slice hb => exact ⟨_, _, _, rfl, hb, rfl⟩
        | opn hb he' hc hbd ha => exact ⟨_, _, _, rfl, hb, ha (by omega)⟩
        | empty => omega
      obtain ⟨p, o, c, rfl, hb, rfl⟩ := hbase
      simp only [Instr.indexAt, asIntOf, Sem.run_bind, Sem.run_pure, Result.andThen_ok, run_underlyingA hd]
      have hc2 : (0 : Int) ≤ (m : Int) ∧ (m : Int) < (len : Int) := by omega
      simp only [hc2, and_self, if_true, run_sizeOfA (tySize_info hel), Sem.run_bind, Result.andThen_ok, Sem.run_pure, Int.toNat_natCast, add_eq]
      refine .same hw (by rw [Nat.add_assoc]; exact .ptr hb) ?_
      exact h
    · cases h
  | arr =>
    rw [hk] at h
    obtain ⟨e, he, h⟩ := optK_true.1 h
    obtain ⟨b, off, rfl, h⟩ := AVal.ptrK_true.1 h
    obtain ⟨len, el, hd, hsz, he1⟩ := arrInfo_some he
    rcases ifK_true.1 h with ⟨hlt, h⟩ | ⟨_, h⟩
    · rw [natK_eq] at h
      have hlt : m < len := by have := Nat.le_of_ble_eq_true hlt; omega
      cases hrx with
      | ptr hb =>
        simp only [Instr.indexAt, asIntOf, Sem.run_bind, Sem.run_pure, Result.andThen_ok, run_underlyingA hd, Instr.sureAddr]
        have hc2 : (0 : Int) ≤ (m : Int) ∧ (m : Int) < (len : Int) := by omega
        simp only [hc2, and_self, if_true, run_sizeOfA hsz, Sem.run_bind, Result.andThen_ok, Sem.run_pure, Int.toNat_natCast, add_eq]
        exact .same hw (by rw [Nat.add_assoc]; exact .ptr hb) h
    · cases h
  | _ => rw [hk] at h; cases h
theorem opIndex_fine {t : TypeId} {x i : Option AVal} {v vi : Value} (h : opIndex P t x i s K = true) (hw : WRel P ι s w) (hx : ORl ι x v) (hi : ORl ι i vi) : FineV P ι w K ((Instr.index t v vi).run P w) := by
  obtain ⟨y, hy, h⟩ := optK_true.1 h
  obtain ⟨z, hz, h⟩ := optK_true.1 h
  obtain ⟨k, n, rfl, h⟩ := AVal.intK_true.1 h
  obtain ⟨m, rfl, h⟩ := idxK_true.1 h
  have hrx := hx _ hy
  have hri := hi _ hz
  cases hri
  cases hk : tyKind P t with
  | str =>
    rw [hk] at h
    obtain ⟨l, rfl, h⟩ := AVal.strK_true.1 h
    obtain ⟨c, hc, h⟩ := nthK_true.1 h
    rw [natK_eq] at h
    cases hrx
    simp only [Instr.index, asIntOf, Sem.run_bind, Sem.run_pure, Result.andThen_ok, run_underlyingA (tyKind_str hk)]
    have hget : (⟨l.toArray⟩ : ByteArray)[m]? = some c := by
      have hlt : m < l.length := (List.getElem?_eq_some_iff.1 hc).1
      rw [getElem?_pos (⟨l.toArray⟩ : ByteArray) m (by rw [size_arr]; exact hlt)]
      rw [List.getElem?_eq_getElem hlt] at hc
      exact hc
    simp only [Int.natCast_nonneg, if_true, Int.toNat_natCast, hget]
    exact .same hw (.int _ _) h
  | arr =>
    rw [hk] at h
    obtain ⟨e, he, h⟩ := optK_true.1 h
    obtain ⟨l, rfl, h⟩ := AVal.aggK_true.1 h
    rcases ifK_true.1 h with ⟨hlt, h⟩ | ⟨_, h⟩
    · cases hrx with
      | agg hl hs =>
        unfold arrVal at he
        obtain ⟨len, el, hd⟩ := tyKind_arr hk
        rw [hd] at he
        simp only [Option.bind_eq_some_iff, Option.map_eq_some_iff] at he
        obtain ⟨lz, hlz, sz, hsz, rfl⟩ := he
        have hlt : m < len := Nat.le_of_ble_eq_true hlt
        obtain ⟨u, a, hu, hru, hk'⟩ := part_fine (w := w) hlz hl hs h
        simp only [Instr.index, asIntOf, Sem.run_bind, Sem.run_pure, Result.andThen_ok, run_underlyingA hd]
        have hc2 : (0 : Int) ≤ (m : Int) ∧ (m : Int) < (len : Int) := by omega
        simp only [hc2, and_self, if_true, run_sizeOfA hsz, Sem.run_bind, Result.andThen_ok, Int.toNat_natCast]
        exact hu ▸ .same hw hru hk'
    · cases h
  | _ => rw [hk] at h; cases h
end
end Go.AM
