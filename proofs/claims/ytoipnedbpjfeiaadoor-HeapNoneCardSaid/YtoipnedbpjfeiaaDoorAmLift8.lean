/-
  PROVED: called with any operation (a kind, a name, a list of kids, three numbers, a tree of nodes) and either Boolean, HeapNone returns true and leaves its input reading as it did.
  CONDITIONS: the given card's own (the row 'heapNoneRow', its tie, nothing beside).
-/
import Derived.Test.YtoipnedbpjfeiaaDoorAmOpen8
import Derived.LaidMore
import Derived.Lay
import Derived.Test.YtoipnedbpjfeiaaDoorCards
set_option linter.all false
set_option linter.unusedSectionVars false
set_option linter.unusedSimpArgs false
set_option linter.unusedVariables false
open Go Go.AM
namespace Go.Proofs.YtoipnedbpjfeiaaDoor
set_option maxRecDepth 100000
open Go.ChangeShapes Go.WideShapes Go.ChangeAt Go.RowKit Go.WideElems
theorem own8 : ownKnob Tryd.prog.godebug = none := by kernel_rfl
theorem laidOut8 : laidOutB Tryd.prog = true := by kernel_rfl
theorem keptBut_same {w w' : World} {may : MemPlace → Prop} (h1 : w'.os = w.os) (h2 : w'.output = w.output) (h : ∀ i, i < w.heap.size → w'.heap[i]? = w.heap[i]?) : w.keptBut w' may := by
  refine ⟨h1, h2, fun i hi => ?_⟩
  have := h i hi
  rw [this]
  split
  · rename_i e1 e2
    rw [e1] at e2
    cases e2
    exact ⟨rfl, rfl, rfl, fun _ _ => rfl⟩
  · rename_i e1 e2
    rw [e1] at e2
    cases e2
    exact .inr ⟨rfl, rfl⟩
  · rfl
theorem sameAt_same {w w' : World} (h : ∀ i, i < w.heap.size → w'.heap[i]? = w.heap[i]?) {p : MemPlace} (hp : p.block < w.heap.size) : w.sameAt w' p := by
  cases p with
  | cell b off =>
    show w'.cell? ⟨b, off, none⟩ = w.cell? ⟨b, off, none⟩
    unfold World.cell?
    rw [h b hp]
  | map b => exact h b hp
theorem lifted (os : Os) (started : os.Started) (H : Type) (enc : TypeId × Value → H) :
    ReturnsInHanded {} Tryd.checked os 8 .any (fun w args => (Rows.heapNoneSpec.pre enc Tryd.prog Tryd.f8 [] false w args ∧ laidMetH Tryd.prog Rows.heapNoneRow.laid w) ∧ sizedMet enc Tryd.prog Tryd.f8 (OpenSpec.ofChange Rows.heapNoneSpec) false w args)
      (Rows.heapNoneSpec.post enc Tryd.prog Tryd.f8 false true false false) := by
  refine returnsInHanded_of_change_and (C := Tryd.checked) (X := fun w _ => laidMetH Tryd.prog Rows.heapNoneRow.laid w) (fun _ _ _ hh h => h.of_heap hh) own8 started (by kernel_rfl) Tryd.func8
    (ChangeSpec.witness_shaped (enc := enc) (C := Tryd.checked) (os := os) (X := fun w _ => laidMetH Tryd.prog Rows.heapNoneRow.laid w) false (World.laidAll Tryd.prog os Rows.heapNoneRow.laid) #[.agg #[.int .i64 0, .string ⟨#[]⟩, .slice none 0 0, .int .i64 0, .int .i64 0, .int .i64 0, .slice none 0 0, .int .i64 0], .bool false] 8 (World.laidAll_os _ _ _)
      (World.shaped_of_ZipB (by kernel_rfl) (by kernel_rfl)) (by kernel_rfl) (by kernel_rfl) (by kernel_rfl)
      (by rw [MakeChecks.laidMetH_plain _ _ _ (by kernel_rfl)]; exact laidMet_laidAll _ (by kernel_rfl) (by kernel_rfl))) ?_
  intro W base args ds gs before hval0 hW _ _ _ _
  have hval : ∀ (j : Nat) t v, Tryd.f8.params[j]? = some t → args[j]? = some v → Value.okWide Tryd.prog W .any base t v := hval0
  have hW' := hW
  obtain ⟨p, q, hA0, hV, rfl, hfz, hnd⟩ := hW
  have hA : DataW.TrodAll enc Tryd.prog W 0 (fun _ => true) true Tryd.f8.params.toList args.toList ds p := hA0
  rw [Tryd.params8] at hA hval
  obtain ⟨v0, v1, d0, d1, p0, p1, rfl, rfl, rfl, h0, h1⟩ := trodAll_two hA
  obtain ⟨rfl, rfl⟩ := trodVars_none hV
  obtain ⟨cs, rfl, _⟩ := okWide_struct Tryd.underlying73 (hval 0 73 v0 rfl rfl)
  obtain ⟨mb, rfl, rfl, rfl⟩ := open_bool Tryd.underlying4 (hval 1 4 v1 rfl rfl) h1
  clear hA0 hval0
  simp only [List.append_nil] at hW'
  obtain ⟨N, hN⟩ := big_ex W
  obtain ⟨fuel, hf⟩ := h0
  obtain ⟨l, hl, hop⟩ := open_op hN (cs := cs.toList) hf
  obtain ⟨hr1, hr2⟩ := convs_rel hl
  have hvs : VRels (renW W N) [.agg l, .bool mb] (#[Value.agg cs, Value.bool mb] : Array Value).toList := .cons (.agg hr1 hr2) (.cons (.bool _) .nil)
  refine (wpCall_sound mixed (law_walk (mb := mb) stW_wf hop) (wrel_W Tryd.prog hN.1) hvs).mono ?_
  rintro e w' ⟨u, ι', s', a, rfl, he, _, hv, rfl⟩
  cases hv
  have hkeep : ∀ i, i < W.heap.size → w'.heap[i]? = W.heap[i]? := by
    intro i hi
    refine he.keep i hi ?_
    intro b p hb hro
    unfold renW at hb
    split at hb
    · cases hb
      cases hro
    · cases hb
  have hlt : ∀ x ∈ p0, x.block < W.heap.size := fun x hx => by simpa using hW'.lt x hx
  refine ⟨_, rfl, [d0, .lit (.bool mb)], [], p0, [], p0, [], hW', ?_, ?_, rfl, keptBut_same he.os he.out hkeep, fun h => by cases h⟩
  · exact trodAll_mk1 (shut_bool Tryd.underlying4 _)
  · have := trodAll_mk2 (Trod_stays (sp' := fun b => decide (b < W.heap.size)) laidOut8 (by kernel_rfl) (of_decide_eq_true (by kernel_rfl)) ⟨fuel, hf⟩ (fun x hx => sameAt_same hkeep (hlt x hx)) (fun x hx => by simpa using hlt x hx)) (shut_bool (w := w') (spare := fun b => decide (b < W.heap.size)) (held := true) (base := 0) (enc := enc) Tryd.underlying4 mb)
    rw [List.append_nil] at this
    exact this
theorem heapNone_said : Rows.HeapNoneSaid :=
  OpenClaim.holds_of_wide 8 Tryd.f8 rfl rfl rfl rfl rfl rfl rfl ⟨rfl, rfl, rfl, rfl, rfl⟩ rfl rfl rfl rfl rfl (by kernel_rfl) Tryd.func8 (by kernel_rfl)
    (of_decide_eq_true (by kernel_rfl)) (by unfold Func.isWrapper; first | (rw [if_pos (by decide +kernel)]; kernel_rfl) | (rw [if_neg (by decide +kernel)]; exact ⟨rfl, rfl⟩))
    (fun os started H enc _ => lifted os started H enc)
/-- THE TIED CARD. -/
theorem heapNone_card : Rows.HeapNoneCardSaid :=
  Claim7.holds_tied_plain_at .later [] [.data, .pinned] true (true, "9023314de9299c16d382e7236f99f48cb97dfdf88915ffd4e1ca1249b0db7e12") false
    heapNone_said (fun _ h => by cases h) (by kernel_rfl) (fun _ h => by cases h) heapNone_row_tie rfl ⟨rfl, rfl⟩ (by kernel_rfl) rfl
    (fun f fn hf hfn => by
      obtain rfl : f = 8 := Option.some.inj ((show Tryd.prog.funcNamed "roundelay/roundelaylaw23.HeapNone" = some 8 by kernel_rfl).symm.trans hf) |>.symm
      obtain rfl : fn = Tryd.f8 := (Option.some.inj (Tryd.func8.symm.trans hfn)).symm
      exact ⟨by kernel_rfl, fun j t ht => by
        rw [Tryd.params8] at ht
        have hm : t ∈ [73, 4] := by simpa using Array.mem_of_getElem? ht
        have hall : ([73, 4].all fun u => !Tryd.prog.wantsStandIn u) = true := by kernel_rfl
        exact (show Tryd.prog.wantsStandIn t = false by simpa using List.all_eq_true.1 hall t hm)⟩)
    (by kernel_rfl)
end Go.Proofs.YtoipnedbpjfeiaaDoor
