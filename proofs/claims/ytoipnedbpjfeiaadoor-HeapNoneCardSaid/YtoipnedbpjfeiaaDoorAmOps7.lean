/- The abstract machine's operations hold of the model's, part 7: copies, lengths, least and greatest, clearing, conversions, function values. -/
import Derived.Test.YtoipnedbpjfeiaaDoorAmOps6
set_option linter.all false
set_option linter.unusedSectionVars false
set_option linter.unusedSimpArgs false
set_option linter.unusedVariables false
namespace Go.AM
section
variable {P : Program} {ι : Ren} {s : St} {w : World} {K : VK}

theorem dstLen_true {x : AVal} {v : Value} {k : Nat → Bool} (h : dstLen x k = true) (hx : VRel ι x v) : ∃ n, k n = true ∧ ((∃ b m c, v = .slice b n c ∧ m = n) ∨ ∃ l, v = .string l) ∧ ∀ w, (Builtin.lenOf v).run P w = .ok n w := by
  cases x with
  | str l =>
    cases hx
    have h : lenK l 0 k = true := h
    rw [lenK_eq, Nat.zero_add] at h
    exact ⟨_, h, .inr ⟨_, rfl⟩, fun w => by simp [Builtin.lenOf, size_arr]⟩
  | slice b o n c =>
    rcases hx.slice_inv with ⟨p, o', c', hb, rfl, hs⟩ | ⟨rfl, rfl, ad, rfl⟩
    · exact ⟨n, h, .inl ⟨_, _, _, rfl, rfl⟩, fun w => by simp [Builtin.lenOf]⟩
    · exact ⟨0, h, .inl ⟨_, _, _, rfl, rfl⟩, fun w => by simp [Builtin.lenOf]⟩
  | nilSlice => cases hx; exact ⟨0, h, .inl ⟨_, _, _, rfl, rfl⟩, fun w => by simp [Builtin.lenOf]⟩
  | _ => cases h
theorem slLen_true {x : AVal} {v : Value} {k : Nat → Bool} (h : slLen x k = true) (hx : VRel ι x v) : ∃ b m c, v = .slice b m c ∧ k m = true ∧ (b = none → m = 0) := by
  cases x with
  | slice b o n c =>
    rcases hx.slice_inv with ⟨p, o', c', hb, rfl, hs⟩ | ⟨rfl, rfl, ad, rfl⟩
    · exact ⟨_, n, _, rfl, h, fun h => by cases h⟩
    · exact ⟨_, 0, _, rfl, h, fun h => by cases h⟩
  | nilSlice => cases hx; exact ⟨_, 0, _, rfl, h, fun _ => rfl⟩
  | _ => cases h
theorem opCopy_fine {ts : Array TypeId} {ty : TypeId} {x y : Option AVal} {vx vy : Value} (h : opCopy P ts x y s K = true) (hw : WRel P ι s w) (hx : ORl ι x vx) (hy : ORl ι y vy) :
    FineV P ι w K ((Builtin.copy_ ts ty #[vx, vy]).run P w) := by
  obtain ⟨es, he, h⟩ := optK_true.1 h
  obtain ⟨x', hx', h⟩ := optK_true.1 h
  obtain ⟨y', hy', h⟩ := optK_true.1 h
  have hrx := hx _ hx'
  have hry := hy _ hy'
  obtain ⟨base, m, cap, rfl, h, hbn⟩ := slLen_true h hrx
  obtain ⟨n, h1, hvy, hn⟩ := dstLen_true (P := P) h hry
  rw [natK_eq] at h1
  unfold copyInfo at he
  cases ht : ts[0]? with
  | none => rw [ht] at he; cases he
  | some t =>
    rw [ht] at he
    simp only [Option.map_eq_some_iff] at he
    obtain ⟨e, hs, rfl⟩ := he
    obtain ⟨el, inf, hd, hel, rfl⟩ := slcInfo_some hs
    have hsz : (sizeOf el).run P w = .ok inf.size w := by simp [sizeOf, run_typeInfoA hel]
    rcases ifK_true.1 h1 with ⟨hk, h2⟩ | ⟨hk, h2⟩
    · have hk : Nat.min n m = 0 := Nat.eq_of_beq_eq_true hk
      have hfc : (Builtin.firstCells inf.size 0 vy).run P w = .ok #[] w := by
        rcases hvy with ⟨b, m', c, rfl, _⟩ | ⟨l, rfl⟩
        · cases b <;> simp [Builtin.firstCells, loadCells, loadCellsFrom]
        · simp only [Builtin.firstCells, Sem.run_pure]
          congr 1
          simp [ByteArray.data_extract]
      have hrun : (Builtin.copy_ ts ty #[.slice base m cap, vy]).run P w = .ok (goInt 0) w := by
        simp only [Builtin.copy_, ht, List.getElem?_toArray, List.getElem?_cons_zero, List.getElem?_cons_succ, Sem.run_bind, run_underlyingA hd, Result.andThen_ok, hn, hsz, hk, hfc]
        cases base <;> simp [storeCells]
      rw [hrun]
      exact .same hw (.int _ _) h2
    · obtain ⟨cs, us, n', hv, hsc, hl, hl2, hfc, hft, h3⟩ := srcK_ok h2 hw hry
      have hnn : n' = n := by
        have e1 := hl2 w
        rw [hn w] at e1
        cases e1; rfl
      subst hnn
      have hft' := hft (Nat.min n' m) w.drawn (Nat.min_le_left _ _)
      obtain ⟨htl, h4⟩ := takeK_true.1 h3
      cases x' with
      | slice b off len c =>
        rcases hrx.slice_inv with ⟨p, o, c', hb, heq, hsr⟩ | ⟨rfl, rfl, ad, heq⟩
        rotate_left
        · cases heq
          simp at hk
        cases heq
        have hm : m ≠ 0 := by
          rintro rfl
          simp at hk
        have ho : o = p.off + off := by
          cases hsr with
          | lim ho => exact ho
          | opn _ _ _ ha => exact ha (by omega)
        subst ho
        have h4 : writeK b off (cs.take (Nat.mul (Nat.min n' m) inf.size)) s (fun s => K (.int .i64 (.ofNat (Nat.min n' m))) s) = true := h4
        obtain ⟨s', w', e1, e2, e3, e4⟩ := writeK_ok h4 hb hw (hv.take _) (fun x hx => hsc x (List.mem_of_mem_take hx))
        have hrun : (Builtin.copy_ ts ty #[.slice (some ⟨p.blk, p.off + off, none⟩) m cap, vy]).run P w = .ok (goInt (Nat.min n' m)) w' := by
          simp only [Builtin.copy_, ht, List.getElem?_toArray, List.getElem?_cons_zero, List.getElem?_cons_succ, Sem.run_bind, run_underlyingA hd, Result.andThen_ok, hn, hsz]
          have : (Builtin.firstCells inf.size (n'.min m) vy).run P w = .ok (us.take (n'.min m * inf.size)).toArray w := hft'
          rw [this]
          simp only [Result.andThen_ok]
          have e1 : (storeCells ⟨p.blk, p.off + off, none⟩ (us.take (n'.min m * inf.size))).run P w = .ok () w' := e1
          simp [e1]
        rw [hrun]
        exact ⟨_, w', ι, s', _, rfl, e3, e2, .int _ _, e4⟩
      | _ => cases h4
theorem lenInfo_some {ts : Array TypeId} {e : TK × Nat} (h : lenInfo P ts = some e) : ∃ t d, ts[0]? = some t ∧ P.underlying t = some d ∧
    ((d = .string ∧ e = (.str, 0)) ∨ (∃ el, d = .slice el ∧ e = (.slc, 0)) ∨ (∃ k v, d = .map k v ∧ e = (.map, 0)) ∨ (∃ n el, d = .array n el ∧ e = (.arr, n)) ∨ ∃ a n el, d = .pointer a ∧ P.underlying a = some (.array n el) ∧ e = (.arr, n)) := by
  unfold lenInfo at h
  split at h
  · rename_i t ht
    split at h
    · rename_i hd; cases h; exact ⟨t, _, ht, hd, .inl ⟨rfl, rfl⟩⟩
    · rename_i el hd; cases h; exact ⟨t, _, ht, hd, .inr (.inl ⟨el, rfl, rfl⟩)⟩
    · rename_i k v hd; cases h; exact ⟨t, _, ht, hd, .inr (.inr (.inl ⟨k, v, rfl, rfl⟩))⟩
    · rename_i n el hd; cases h; exact ⟨t, _, ht, hd, .inr (.inr (.inr (.inl ⟨n, el, rfl, rfl⟩)))⟩
    · rename_i a hd
      split at h
      · rename_i n el ha; cases h; exact ⟨t, _, ht, hd, .inr (.inr (.inr (.inr ⟨a, n, el, rfl, ha, rfl⟩)))⟩
      · cases h
    · cases h
  · cases h
theorem opLen_fine {ts : Array TypeId} {ty : TypeId} {x : Option AVal} {vx : Value} (h : opLen P ts x s K = true) (hw : WRel P ι s w) (hx : ORl ι x vx) : FineV P ι w K ((Builtin.len_ ts ty #[vx]).run P w) := by
  obtain ⟨e, he, h⟩ := optK_true.1 h
  obtain ⟨a, ha, h⟩ := optK_true.1 h
  have hr := hx _ ha
  obtain ⟨t, d, ht, hd, hcase⟩ := lenInfo_some he
  rcases hcase with ⟨rfl, rfl⟩ | ⟨el, rfl, rfl⟩ | ⟨k, v, rfl, rfl⟩ | ⟨n, el, rfl, rfl⟩ | ⟨ar, n, el, rfl, har, rfl⟩
  · obtain ⟨l, rfl, h'⟩ := AVal.strK_true.1 h
    rw [lenK_eq, Nat.zero_add] at h'
    cases hr
    simp only [Builtin.len_, ht, List.getElem?_toArray, List.getElem?_cons_zero, Sem.run_bind, run_underlyingA hd, Result.andThen_ok, size_arr, Sem.run_pure]
    exact .same hw (.int _ _) h'
  · cases a with
    | slice b o n c =>
      rcases hr.slice_inv with ⟨p, o', c', hb, rfl, hs⟩ | ⟨rfl, rfl, ad, rfl⟩
      rotate_left
      · simp only [Builtin.len_, ht, List.getElem?_toArray, List.getElem?_cons_zero, Sem.run_bind, run_underlyingA hd, Result.andThen_ok, Sem.run_pure]
        exact .same hw (.int _ _) h
      simp only [Builtin.len_, ht, List.getElem?_toArray, List.getElem?_cons_zero, Sem.run_bind, run_underlyingA hd, Result.andThen_ok, Sem.run_pure]
      exact .same hw (.int _ _) h
    | nilSlice =>
      cases hr
      simp only [Builtin.len_, ht, List.getElem?_toArray, List.getElem?_cons_zero, Sem.run_bind, run_underlyingA hd, Result.andThen_ok, Sem.run_pure]
      exact .same hw (.int _ _) h
    | _ => cases h
  · cases a with
    | map b =>
      obtain ⟨es, c, hes, h⟩ := mapK_true.1 h
      rw [lenK_eq, Nat.zero_add] at h
      cases hr with
      | map hb =>
        obtain ⟨o, ho, hr⟩ := hw.objs _ _ hb
        rw [hes] at ho; cases ho
        cases hr with
        | map hobj hl he hro =>
          rename_i p es'
          have hgo : (getObj p.blk).run P w = .ok (.map es' c) w := by simp [getObj, Sem.run, hobj]
          simp only [Builtin.len_, ht, List.getElem?_toArray, List.getElem?_cons_zero, Sem.run_bind, run_underlyingA hd, Result.andThen_ok, hgo, Sem.run_pure]
          rw [← hl]
          exact .same hw (.int _ _) h
    | nilMap =>
      cases hr
      simp only [Builtin.len_, ht, List.getElem?_toArray, List.getElem?_cons_zero, Sem.run_bind, run_underlyingA hd, Result.andThen_ok, Sem.run_pure]
      exact .same hw (.int _ _) h
    | _ => cases h
  · have h : natV n s K = true := h
    unfold natV at h
    rw [natK_eq] at h
    have : (Builtin.len_ ts ty #[vx]).run P w = .ok (goInt n) w := by
      simp only [Builtin.len_, ht, List.getElem?_toArray, List.getElem?_cons_zero, Sem.run_bind, run_underlyingA hd, Result.andThen_ok]
      cases vx <;> rfl
    rw [this]
    exact .same hw (.int _ _) h
  · have h : natV n s K = true := h
    unfold natV at h
    rw [natK_eq] at h
    have : (Builtin.len_ ts ty #[vx]).run P w = .ok (goInt n) w := by
      simp only [Builtin.len_, ht, List.getElem?_toArray, List.getElem?_cons_zero, Sem.run_bind, run_underlyingA hd, Result.andThen_ok]
      cases vx <;> simp [run_underlyingA har]
    rw [this]
    exact .same hw (.int _ _) h
end
end Go.AM
