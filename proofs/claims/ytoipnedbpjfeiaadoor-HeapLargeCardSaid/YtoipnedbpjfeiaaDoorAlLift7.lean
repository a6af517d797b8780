/-
  PROVED: called with any row of Booleans and any byte, HeapLarge returns true and leaves its input reading as it did.
  CONDITIONS: the given card's own (the row 'heapLargeRow', its tie, nothing beside).
-/
import Derived.LaidMore
import Derived.Lay
import Derived.Test.YtoipnedbpjfeiaaDoorCards
import Derived.Test.YtoipnedbpjfeiaaDoorAl09
set_option linter.all false
set_option linter.unusedSectionVars false
set_option linter.unusedSimpArgs false
set_option linter.unusedVariables false
open Go Go.AM
namespace Go.Proofs.YtoipnedbpjfeiaaDoor
set_option maxRecDepth 100000
open Go.ChangeShapes Go.WideShapes Go.ChangeAt Go.RowKit Go.WideElems
theorem own8 : ownKnob Tryd.prog.godebug = none := by kernel_rfl
theorem laidOut8 : laidOutB Tryd.prog = true := by kernel_rfl
theorem keptBut_same {w w' : World} {may : MemPlace → Prop} (h1 : w'.os = w.os) (h2 : w'.output = w.output) (h : ∀ i, i < w.heap.size → w'.heap[i]? = w.heap[i]?) : w.keptBut w' may := by
  refine ⟨h1, h2, fun i hi => ?_⟩
  have := h i hi
  rw [this]
  split
  · rename_i e1 e2
    rw [e1] at e2
    cases e2
    exact ⟨rfl, rfl, rfl, fun _ _ => rfl⟩
  · rename_i e1 e2
    rw [e1] at e2
    cases e2
    exact .inr ⟨rfl, rfl⟩
  · rfl
theorem sameAt_same {w w' : World} (h : ∀ i, i < w.heap.size → w'.heap[i]? = w.heap[i]?) {p : MemPlace} (hp : p.block < w.heap.size) : w.sameAt w' p := by
  cases p with
  | cell b off =>
    show w'.cell? ⟨b, off, none⟩ = w.cell? ⟨b, off, none⟩
    unfold World.cell?
    rw [h b hp]
  | map b => exact h b hp
theorem lifted7 (os : Os) (started : os.Started) (H : Type) (enc : TypeId × Value → H) :
    ReturnsInHanded {} Tryd.checked os 7 .any (fun w args => (Rows.heapLargeSpec.pre enc Tryd.prog Tryd.f7 [] false w args ∧ laidMetH Tryd.prog Rows.heapLargeRow.laid w) ∧ sizedMet enc Tryd.prog Tryd.f7 (OpenSpec.ofChange Rows.heapLargeSpec) false w args)
      (Rows.heapLargeSpec.post enc Tryd.prog Tryd.f7 false true false false) := by
  refine returnsInHanded_of_change_and (C := Tryd.checked) (X := fun w _ => laidMetH Tryd.prog Rows.heapLargeRow.laid w) (fun _ _ _ hh h => h.of_heap hh) own8 started (by kernel_rfl) Tryd.func7
    (ChangeSpec.witness_shaped (enc := enc) (C := Tryd.checked) (os := os) (X := fun w _ => laidMetH Tryd.prog Rows.heapLargeRow.laid w) false (World.laidAll Tryd.prog os Rows.heapLargeRow.laid) #[.slice none 0 0, .int .u8 0] 8 (World.laidAll_os _ _ _)
      (World.shaped_of_ZipB (by kernel_rfl) (by kernel_rfl)) (by kernel_rfl) (by kernel_rfl) (by kernel_rfl)
      (by rw [MakeChecks.laidMetH_plain _ _ _ (by kernel_rfl)]; exact laidMet_laidAll _ (by kernel_rfl) (by kernel_rfl))) ?_
  intro W base args ds gs before hval0 hW _ _ _ _
  have hval : ∀ (j : Nat) t v, Tryd.f7.params[j]? = some t → args[j]? = some v → Value.okWide Tryd.prog W .any base t v := hval0
  have hW' := hW
  obtain ⟨p, q, hA0, hV, rfl, hfz, hnd⟩ := hW
  have hA : DataW.TrodAll enc Tryd.prog W 0 (fun _ => true) true Tryd.f7.params.toList args.toList ds p := hA0
  rw [Tryd.params7] at hA hval
  obtain ⟨v0, v1, d0, d1, p0, p1, rfl, rfl, rfl, h0, h1⟩ := trodAll_two hA
  obtain ⟨rfl, rfl⟩ := trodVars_none hV
  have hcl := Ztu Tryd.underlying22 (hval 0 22 v0 rfl rfl)
  obtain ⟨k, rfl, rfl, rfl, hk⟩ := open_int Tryd.underlying5 (hval 1 5 v1 rfl rfl) h1
  have hk' : 0 ≤ k ∧ k ≤ 255 := by
    have hk2 := hk
    rw [Lit.wf, Bool.and_eq_true, decide_eq_true_eq, decide_eq_true_eq] at hk2
    exact hk2
  obtain ⟨tm, rfl⟩ : ∃ n : Nat, k = (n : Int) := ⟨k.toNat, by omega⟩
  clear hA0 hval0
  simp only [List.append_nil] at hW'
  obtain ⟨N, hN⟩ := big_ex W
  obtain ⟨fuel, hf⟩ := h0
  obtain ⟨v, a, bs, hv, hc, hrow⟩ := Zrb hN hf
  rw [hcl] at hv
  cases hv
  have hvs : VRels (renW W N) [a, .int .u8 tm] (#[v0, Value.int .u8 tm] : Array Value).toList := .cons (Zg1 hc).1 (.cons (.int _ _) .nil)
  refine (Zmw mixed (Zrm Ztc hrow (by omega)) (wrel_W Tryd.prog hN.1) hvs).mono ?_
  rintro e w' ⟨u, ι', s', a', rfl, he, _, hv, rfl⟩
  cases hv
  have hkeep : ∀ i, i < W.heap.size → w'.heap[i]? = W.heap[i]? := by
    intro i hi
    refine he.keep i hi ?_
    intro b p hb hro
    unfold renW at hb
    split at hb
    · cases hb
      cases hro
    · cases hb
  have hlt : ∀ x ∈ p0, x.block < W.heap.size := fun x hx => by simpa using hW'.lt x hx
  refine ⟨_, rfl, [d0, .lit (.int .u8 tm)], [], p0, [], p0, [], hW', ?_, ?_, rfl, keptBut_same he.os he.out hkeep, fun h => by cases h⟩
  · exact trodAll_mk1 (shut_bool Tryd.underlying4 _)
  · have := trodAll_mk2 (Trod_stays (sp' := fun b => decide (b < W.heap.size)) laidOut8 (by kernel_rfl) (of_decide_eq_true (by kernel_rfl)) ⟨fuel, hf⟩ (fun x hx => sameAt_same hkeep (hlt x hx)) (fun x hx => by simpa using hlt x hx)) (shut_int (w := w') (spare := fun b => decide (b < W.heap.size)) (held := true) (base := 0) (enc := enc) Tryd.underlying5 hk)
    rw [List.append_nil] at this
    exact this
theorem heapLarge_said : Rows.HeapLargeSaid :=
  OpenClaim.holds_of_wide 7 Tryd.f7 rfl rfl rfl rfl rfl rfl rfl ⟨rfl, rfl, rfl, rfl, rfl⟩ rfl rfl rfl rfl rfl (by kernel_rfl) Tryd.func7 (by kernel_rfl)
    (of_decide_eq_true (by kernel_rfl)) (by unfold Func.isWrapper; first | (rw [if_pos (by decide +kernel)]; kernel_rfl) | (rw [if_neg (by decide +kernel)]; exact ⟨rfl, rfl⟩))
    (fun os started H enc _ => lifted7 os started H enc)
/-- THE TIED CARD. -/
theorem heapLarge_card : Rows.HeapLargeCardSaid :=
  Claim7.holds_tied_plain_at .later [] [.data, .pinned] true (true, "9023314de9299c16d382e7236f99f48cb97dfdf88915ffd4e1ca1249b0db7e12") false
    heapLarge_said (fun _ h => by cases h) (by kernel_rfl) (fun _ h => by cases h) heapLarge_row_tie rfl ⟨rfl, rfl⟩ (by kernel_rfl) rfl
    (fun f fn hf hfn => by
      obtain rfl : f = 7 := Option.some.inj ((show Tryd.prog.funcNamed "roundelay/roundelaylaw23.HeapLarge" = some 7 by kernel_rfl).symm.trans hf) |>.symm
      obtain rfl : fn = Tryd.f7 := (Option.some.inj (Tryd.func7.symm.trans hfn)).symm
      exact ⟨by kernel_rfl, fun j t ht => by
        rw [Tryd.params7] at ht
        have hm : t ∈ [22, 5] := by simpa using Array.mem_of_getElem? ht
        have hall : ([22, 5].all fun u => !Tryd.prog.wantsStandIn u) = true := by kernel_rfl
        exact (show Tryd.prog.wantsStandIn t = false by simpa using List.all_eq_true.1 hall t hm)⟩)
    (by kernel_rfl)
end Go.Proofs.YtoipnedbpjfeiaaDoor
