/- The abstract machine's operations hold of the model's, part 8: least and greatest, clearing, conversions, function values, maps. -/
import Derived.Test.YtoipnedbpjfeiaaDoorAmOps7
import Derived.Laws.IdiomStrings
set_option linter.all false
set_option linter.unusedSectionVars false
set_option linter.unusedSimpArgs false
set_option linter.unusedVariables false
namespace Go.AM
section
variable {P : Program} {ι : Ren} {s : St} {w : World} {K : VK}

theorem valsK_true {ρ : Operand → Option AVal} {ρc : Operand → Value} : ∀ (l : List Operand) (k : List AVal → Bool), valsK ρ l k = true → (∀ x ∈ l, ORl ι (ρ x) (ρc x)) → ∃ as, VRels ι as (l.map ρc) ∧ k as = true
  | [], k, h, _ => ⟨[], .nil, h⟩
  | x :: l, k, h, hρ => by
    obtain ⟨v, hv, h⟩ := optK_true.1 h
    obtain ⟨as, h1, h2⟩ := valsK_true l _ h (fun y hy => hρ y (List.mem_cons_of_mem _ hy))
    exact ⟨v :: as, .cons (hρ x (List.mem_cons_self ..) v hv) h1, h2⟩
theorem mnmxK_ok (mx : Bool) : ∀ (l : List AVal) (us : List Value) (x : AVal) (v : Value) (k : AVal → Bool), mnmxK mx l x k = true → VRels ι l us → VRel ι x v →
    ∃ a r, (us.foldlM (if mx then Builtin.max2 else Builtin.min2) v).run P w = .ok r w ∧ VRel ι a r ∧ k a = true
  | [], us, x, v, k, h, hl, hx => by
    cases hl
    obtain ⟨kd, n, rfl, h⟩ := AVal.intK_true.1 h
    exact ⟨_, v, rfl, hx, h⟩
  | y :: l, us, x, v, k, h, hl, hx => by
    cases hl with
    | cons hy hl =>
    rename_i u us
    obtain ⟨kd, n, rfl, h1⟩ := AVal.intK_true.1 h
    obtain ⟨kd', m, rfl, h2⟩ := AVal.intK_true.1 h1
    cases hx; cases hy
    rcases ifK_true.1 h2 with ⟨rfl, h3⟩ | ⟨rfl, h3⟩
    · rcases ifK_true.1 h3 with ⟨hc, h4⟩ | ⟨hc, h4⟩
      · rw [ltI_eq] at hc
        have hc : n < m := of_decide_eq_true hc
        obtain ⟨a, r, e1, e2, e3⟩ := mnmxK_ok true l us _ _ k h4 hl (.int kd m)
        refine ⟨a, r, ?_, e2, e3⟩
        simp only [List.foldlM_cons, Sem.run_bind, if_true, Builtin.max2, Sem.run_pure, Result.andThen_ok, gt_iff_lt, hc]
        simpa using e1
      · rw [ltI_eq] at hc
        have hc : ¬ n < m := of_decide_eq_false hc
        obtain ⟨a, r, e1, e2, e3⟩ := mnmxK_ok true l us _ _ k h4 hl (.int kd n)
        refine ⟨a, r, ?_, e2, e3⟩
        simp only [List.foldlM_cons, Sem.run_bind, if_true, Builtin.max2, Sem.run_pure, Result.andThen_ok, gt_iff_lt, hc, if_false]
        simpa using e1
    · rcases ifK_true.1 h3 with ⟨hc, h4⟩ | ⟨hc, h4⟩
      · rw [ltI_eq] at hc
        have hc : m < n := of_decide_eq_true hc
        obtain ⟨a, r, e1, e2, e3⟩ := mnmxK_ok false l us _ _ k h4 hl (.int kd m)
        refine ⟨a, r, ?_, e2, e3⟩
        simp only [List.foldlM_cons, Sem.run_bind, Bool.false_eq_true, if_false, Builtin.min2, Sem.run_pure, Result.andThen_ok, hc, if_true]
        simpa using e1
      · rw [ltI_eq] at hc
        have hc : ¬ m < n := of_decide_eq_false hc
        obtain ⟨a, r, e1, e2, e3⟩ := mnmxK_ok false l us _ _ k h4 hl (.int kd n)
        refine ⟨a, r, ?_, e2, e3⟩
        simp only [List.foldlM_cons, Sem.run_bind, Bool.false_eq_true, if_false, Builtin.min2, Sem.run_pure, Result.andThen_ok, hc]
        simpa using e1
theorem opMin_fine {ts : Array TypeId} {ty : TypeId} {l : List AVal} {us : Array Value} (h : opMnmx false l s K = true) (hw : WRel P ι s w) (hl : VRels ι l us.toList) : FineV P ι w K ((Builtin.min_ ts ty us).run P w) := by
  cases l with
  | nil => cases h
  | cons x l =>
    generalize hu : us.toList = ul at hl
    cases hl with
    | cons hx hl =>
      obtain ⟨a, r, e1, e2, e3⟩ := mnmxK_ok (P := P) (w := w) false l _ x _ _ h hl hx
      simp only [Builtin.min_, hu]
      simp only [Bool.false_eq_true, if_false] at e1
      rw [e1]
      exact .same hw e2 e3
theorem opMax_fine {ts : Array TypeId} {ty : TypeId} {l : List AVal} {us : Array Value} (h : opMnmx true l s K = true) (hw : WRel P ι s w) (hl : VRels ι l us.toList) : FineV P ι w K ((Builtin.max_ ts ty us).run P w) := by
  cases l with
  | nil => cases h
  | cons x l =>
    generalize hu : us.toList = ul at hl
    cases hl with
    | cons hx hl =>
      obtain ⟨a, r, e1, e2, e3⟩ := mnmxK_ok (P := P) (w := w) true l _ x _ _ h hl hx
      simp only [Builtin.max_, hu]
      simp only [if_true] at e1
      rw [e1]
      exact .same hw e2 e3

theorem opClear_fine {ts : Array TypeId} {ty : TypeId} {x : Option AVal} {vx : Value} (h : opClear P ts x s K = true) (hw : WRel P ι s w) (hx : ORl ι x vx) : FineV P ι w K ((Builtin.clear_ ts ty #[vx]).run P w) := by
  obtain ⟨e, he, h1⟩ := optK_true.1 h
  obtain ⟨a, ha, h2⟩ := optK_true.1 h1
  have hr := hx _ ha
  unfold clearInfo at he
  split at he
  · rename_i t ht
    split at he
    · rename_i el hd
      split at he
      · rename_i n zs hn hzs
        split at he
        · rename_i hnz
          cases he
          cases a with
          | slice b off n c =>
            rcases hr.slice_inv with ⟨p, o, c', hb, rfl, hsr⟩ | ⟨rfl, rfl, ad, rfl⟩
            rotate_left
            · simp only [Builtin.clear_, ht, List.getElem?_toArray, List.getElem?_cons_zero, Sem.run_bind, run_underlyingA hd, Result.andThen_ok, Sem.run_pure]
              exact .same hw (.tup .nil) h2
            have h3 : ifK (Nat.beq n 0) (K (.tup []) s) (repK n zs [] fun vs => writeK b off vs s fun s => K (.tup []) s) = true := h2
            rcases ifK_true.1 h3 with ⟨h0, h4⟩ | ⟨h0, h4⟩
            · have h0 : n = 0 := Nat.eq_of_beq_eq_true h0
              subst h0
              simp only [Builtin.clear_, ht, List.getElem?_toArray, List.getElem?_cons_zero, Sem.run_bind, run_underlyingA hd, Result.andThen_ok, Sem.run_pure]
              exact .same hw (.tup .nil) h4
            · have h0 : n ≠ 0 := by intro e; subst e; cases h0
              have ho : o = p.off + off := by
                cases hsr with
                | lim ho => exact ho
                | opn _ _ _ hao => exact hao (by omega)
              subst ho
              rw [repK_eq, List.append_nil] at h4
              obtain ⟨z, hz, hzr, hzs'⟩ := run_zeroCells (P := P) (ι := ι) (w := w) hzs
              obtain ⟨s', w', e1, e2, e3, e4⟩ := writeK_ok h4 hb hw (hzr.rep n) (rep_scalars hzs' n)
              have hl := hzr.length
              simp at hl
              have hrun : (Builtin.clear_ ts ty #[.slice (some ⟨p.blk, p.off + off, none⟩) n c']).run P w = .ok (.tuple #[]) w' := by
                simp only [Builtin.clear_, ht, List.getElem?_toArray, List.getElem?_cons_zero, Sem.run_bind, run_underlyingA hd, Result.andThen_ok, hz]
                have : Builtin.zeroCells z.cells n = (Array.range (n * zs.length)).map (z.cells[· % z.cells.size]!) := by rw [hl]; rfl
                rw [this, e1]
                rfl
              rw [hrun]
              exact ⟨_, w', ι, s', _, rfl, e3, e2, .tup .nil, e4⟩
          | nilSlice =>
            cases hr
            simp only [Builtin.clear_, ht, List.getElem?_toArray, List.getElem?_cons_zero, Sem.run_bind, run_underlyingA hd, Result.andThen_ok, Sem.run_pure]
            exact .same hw (.tup .nil) h2
          | _ => cases h2
        · cases he
      · cases he
    · rename_i kt vt hd
      cases he
      obtain ⟨b, rfl, h3⟩ := AVal.mapK_true.1 h2
      obtain ⟨es, clock, hes, h4⟩ := mapK_true.1 h3
      cases hr with
      | map hb =>
        obtain ⟨o, ho, hro⟩ := hw.objs _ _ hb
        rw [hes] at ho; cases ho
        cases hro with
        | map hobj hl hee hrw =>
          rename_i p es'
          have hlt : p.blk < w.heap.size := hw.bound _ _ hb
          rw [putK_eq] at h4
          obtain ⟨g1, g2⟩ := hw.update (w' := { w with heap := w.heap.setIfInBounds p.blk (.map #[] clock) }) (.map [] clock) hb hes rfl hrw (by simp)
            (fun k hk => by simp [Array.getElem?_setIfInBounds_ne hk.symm]) rfl rfl (.map (es' := #[]) (by simp [hlt]) rfl (fun i e h => by simp at h) hrw)
          have hgo : (getObj p.blk).run P w = .ok (.map es' clock) w := by simp [getObj, Sem.run, hobj]
          simp only [Builtin.clear_, ht, List.getElem?_toArray, List.getElem?_cons_zero, Sem.run_bind, run_underlyingA hd, Result.andThen_ok, hgo,
            setObj_run (P := P) (o := .map #[] clock) hobj (by intro c t f e; cases e), Sem.run_pure]
          exact ⟨_, _, ι, _, _, rfl, g2, g1, .tup .nil, h4⟩
    · cases he
  · cases he
theorem ofBytesK_true : ∀ (l : List AVal) (us : List Value) (k : List UInt8 → Bool), ofBytesK l k = true → VRels ι l us → ∃ ns : List Int, us = ns.map (Value.int .u8) ∧ k (ns.map fun n => UInt8.ofNat n.toNat) = true
  | [], us, k, h, hv => by cases hv; exact ⟨[], rfl, h⟩
  | x :: l, us, k, h, hv => by
    cases hv with
    | cons hx hl =>
      obtain ⟨kd, n, rfl, h1⟩ := AVal.intK_true.1 h
      rcases ifK_true.1 h1 with ⟨hk, h2⟩ | ⟨_, h2⟩
      · obtain ⟨ns, rfl, h3⟩ := ofBytesK_true l _ _ h2 hl
        cases hx
        have : kd = .u8 := by cases kd <;> first | rfl | cases hk
        subst this
        exact ⟨n :: ns, rfl, h3⟩
      · cases h2
theorem push_all : ∀ (ns : List Int) (r : ByteArray), ns.foldl (fun r n => r.push (UInt8.ofNat n.toNat)) r = ⟨r.data ++ (ns.map fun n => UInt8.ofNat n.toNat).toArray⟩
  | [], r => by simp
  | n :: ns, r => by
    simp only [List.foldl_cons, List.map_cons]
    rw [push_all ns]
    simp [ByteArray.push]
theorem opConvert_fine {a b : TypeId} {x : Option AVal} {vx : Value} (h : opConvert P a b x s K = true) (hw : WRel P ι s w) (hx : ORl ι x vx) : FineV P ι w K ((convert a b vx).run P w) := by
  obtain ⟨x', hx', h1⟩ := optK_true.1 h
  have hr := hx _ hx'
  unfold convKind at h1
  split at h1
  · rename_i k1 k hs hd
    obtain ⟨kd, n, rfl, h2⟩ := AVal.intK_true.1 h1
    cases hr
    rw [wrapF_eq] at h2
    simp only [convert, Sem.run_bind, run_underlyingA hs, run_underlyingA hd, Result.andThen_ok, Conv.intToInt, Sem.run_pure]
    exact intV_fine h2 hw
  · rename_i hs hd
    obtain ⟨l, rfl, h2⟩ := AVal.strK_true.1 h1
    cases hr
    simp only [convert, Sem.run_bind, run_underlyingA hs, run_underlyingA hd, Result.andThen_ok, Sem.run_pure]
    exact .same hw (.str _) h2
  · rename_i e hs hd
    split at h1
    · rename_i he
      obtain ⟨l, rfl, h2⟩ := AVal.strK_true.1 h1
      rw [lenK_eq, bytesK_eq, Nat.zero_add] at h2
      rcases ifK_true.1 h2 with ⟨hn, h3⟩ | ⟨_, h3⟩
      · cases hr
        rw [run_bytes_of_string w a b e _ hs hd he]
        unfold growK at h3
        rw [allocK_eq] at h3
        have hsz : (⟨l.toArray⟩ : ByteArray).size = l.length := size_arr l
        have hg := grownCap_ge (w := w) (need := l.length) (old := 0) (e := e)
        rw [hsz]
        generalize grownCap w l.length 0 e = cap at hg ⊢
        have hrow : (bytesRow ⟨l.toArray⟩ cap).size = cap := by simp [bytesRow, hsz]; omega
        have hd0 := hw.drawn (w.drawn + 1)
        obtain ⟨g1, g2⟩ := hd0.alloc (.cells (l.map fun c => .int .u8 (c.toNat : Int)) false) (.cells (bytesRow ⟨l.toArray⟩ cap) e ((bytesRow ⟨l.toArray⟩ cap).size, (bytesRow ⟨l.toArray⟩ cap).size + 1)) ⟨w.heap.size, 0, cap, false⟩ rfl rfl
          (ORel.cells (p := ⟨w.heap.size, 0, cap, false⟩) (c := bytesRow ⟨l.toArray⟩ cap) (t := e) (fr := ((bytesRow ⟨l.toArray⟩ cap).size, (bytesRow ⟨l.toArray⟩ cap).size + 1)) (by simp) hrow (by simp [hrow]; omega)
            (fun i a e => by
              obtain ⟨v, hv, hr⟩ := (bytes_rel (ι := Ren.set ι s.next ⟨w.heap.size, 0, cap, false⟩) l).get e
              refine ⟨v, ?_, hr⟩
              simp only [List.getElem?_map, Option.map_eq_some_iff] at hv
              obtain ⟨c, hc, rfl⟩ := hv
              have hi := (List.getElem?_eq_some_iff.1 hc).1
              have hcc := (List.getElem?_eq_some_iff.1 hc).2
              rw [Nat.zero_add, bytesRow_at _ _ _ (by simpa using hi)]
              simp [← hcc])
            (fun x hx => by obtain ⟨c, _, rfl⟩ := List.mem_map.1 hx; rfl) (fun _ i hi => by omega))
        refine ⟨_, _, _, _, _, rfl, (Ext.drawn ι w _).trans g2, g1, ?_, h3⟩
        exact VRel.opn (p := ⟨w.heap.size, 0, cap, false⟩) (Ren.set_same _ _ _) (by decide) hg (.inr (by simp)) (fun _ => rfl)
      · cases h3
    · cases h1
  · rename_i e hs hd
    split at h1
    · rename_i he
      obtain ⟨cs, us, n, hv, hsc, hl, hl2, hfc, _, h2⟩ := srcK_ok h1 hw hr
      obtain ⟨ns, rfl, h3⟩ := ofBytesK_true _ _ _ h2 hv
      have hf := hfc w.drawn
      cases x' with
      | str l =>
        cases hr
        simp only [convert, Sem.run_bind, run_underlyingA hs, run_underlyingA hd, Result.andThen_ok, Sem.run_pure]
        have hf : (Builtin.firstCells 1 n (.string ⟨l.toArray⟩)).run P w = .ok (ns.map (Value.int .u8)).toArray w := hf
        have hn : n = l.length := by
          have := hl2 w
          simp [Builtin.lenOf, size_arr] at this
          exact this.symm
        subst hn
        have hns : ns = l.map fun c => (c.toNat : Int) := by
          simp only [Builtin.firstCells, Sem.run_pure] at hf
          injection hf with e1 _
          have e2 := congrArg Array.toList e1
          have e3 : (l.map fun c => Value.int .u8 (c.toNat : Int)) = ns.map (Value.int .u8) := by
            have e5 : (ns.map (Value.int .u8)).toArray.toList = ns.map (Value.int .u8) := by simp
            rw [← e5, ← e2]
            simp [ByteArray.data_extract, List.take_of_length_le]
          have e4 := congrArg (List.map (fun v : Value => match v with | .int _ n => n | _ => 0)) e3
          simpa [Function.comp_def] using e4.symm
        subst hns
        have : ((l.map fun c => (c.toNat : Int)).map fun n => UInt8.ofNat n.toNat) = l := by simp [Function.comp_def]
        rw [this] at h3
        exact .same hw (.str _) h3
      | slice bb off len c =>
        rcases hr.slice_inv with ⟨p, o, c', hb, rfl, hsr⟩ | ⟨rfl, rfl, ad, rfl⟩
        rotate_left
        · have hn : n = 0 := by
            have := hl2 w
            simp [Builtin.lenOf] at this
            exact this.symm
          subst hn
          have hf : (loadCells ad 0).run P w = .ok (ns.map (Value.int .u8)).toArray w := hf
          rw [run_convert_bytes_string w a b e _ _ _ hs he hd, run_bytesToString w _ _ _ ns hf, push_all]
          have he0 : ByteArray.empty.data = #[] := rfl
          rw [he0]
          simp only [Array.empty_append]
          exact .same hw (.str _) h3
        have hn : n = len := by
          have := hl2 w
          simp [Builtin.lenOf] at this
          exact this.symm
        subst hn
        have hf : (loadCells ⟨p.blk, o, none⟩ n).run P w = .ok (ns.map (Value.int .u8)).toArray w := by
          have : (loadCells ⟨p.blk, o, none⟩ (n * 1)).run P w = .ok (ns.map (Value.int .u8)).toArray w := hf
          rwa [Nat.mul_one] at this
        rw [run_convert_bytes_string w a b e _ _ _ hs he hd, run_bytesToString w _ _ _ ns hf, push_all]
        have he0 : ByteArray.empty.data = #[] := rfl
        rw [he0]
        simp only [Array.empty_append]
        exact .same hw (.str _) h3
      | nilSlice =>
        cases hr
        rw [run_convert_bytes_string w a b e _ _ _ hs he hd]
        have hn : n = 0 := by
          have := hl2 w
          simp [Builtin.lenOf] at this
          exact this.symm
        subst hn
        have : ns = [] := by
          have := hv.length
          simp [hl] at this
          exact List.eq_nil_of_length_eq_zero this.symm
        subst this
        simp only [Conv.bytesToString, Sem.run_pure]
        exact .same hw (.str _) h3
      | _ => cases h1
    · cases h1
  · cases h1
theorem opMakeMap_fine {t : TypeId} (h : (allocK (.map [] 0) s fun b s => K (.map b) s) = true) (hw : WRel P ι s w) : FineV P ι w K ((Instr.makeMap t none).run P w) := by
  rw [allocK_eq] at h
  obtain ⟨g1, g2⟩ := hw.alloc (.map [] 0) (.map #[] 0) ⟨w.heap.size, 0, 0, false⟩ rfl rfl (.map (es' := #[]) (by simp) rfl (fun i e h => by simp at h) rfl)
  refine ⟨_, _, _, _, _, ?_, g2, g1, VRel.map (p := ⟨w.heap.size, 0, 0, false⟩) (Ren.set_same _ _ _), h⟩
  simp [Instr.makeMap]
end
end Go.AM
