/-
  PROVED: called with any row of bytes, HeapHeld returns true and leaves its input reading as it did.
  CONDITIONS: the given card's own (the row 'heapHeldRow', its tie, nothing beside).
-/
import Derived.LaidMore
import Derived.Lay
import Derived.Test.YtoipnedbpjfeiaaDoorCards
import Derived.Test.YtoipnedbpjfeiaaDoorAu09
set_option linter.all false
set_option linter.unusedSectionVars false
set_option linter.unusedSimpArgs false
set_option linter.unusedVariables false
open Go Go.AM
namespace Go.Proofs.YtoipnedbpjfeiaaDoor
set_option maxRecDepth 100000
open Go.ChangeShapes Go.WideShapes Go.ChangeAt Go.RowKit Go.WideElems
theorem bytesIn_row {s : St} {v : AVal} {bs : List UInt8} (h : Zqj s v (bs.map fun b => .int .u8 (b.toNat : Int))) : Z3o s (fun _ => False) v (bs.map fun b => (b.toNat : Int)) := by
  rcases h with ⟨h1, h2⟩ | ⟨b, o, c, cs, rfl, h2, h3, h4, h5⟩
  · exact .inl ⟨h1, by simpa using h2⟩
  · refine .inr ⟨b, o, c, cs, by simp, fun h => h, h2, h3, by simpa using h4, fun i k hk => h5 i _ ?_⟩
    rw [List.getElem?_map] at hk ⊢
    cases hb : bs[i]? with
    | none => rw [hb] at hk; cases hk
    | some x => rw [hb] at hk; cases hk; rfl
theorem own8 : ownKnob Tryd.prog.godebug = none := by kernel_rfl
theorem laidOut8 : laidOutB Tryd.prog = true := by kernel_rfl
theorem keptBut_same {w w' : World} {may : MemPlace → Prop} (h1 : w'.os = w.os) (h2 : w'.output = w.output) (h : ∀ i, i < w.heap.size → w'.heap[i]? = w.heap[i]?) : w.keptBut w' may := by
  refine ⟨h1, h2, fun i hi => ?_⟩
  have := h i hi
  rw [this]
  split
  · rename_i e1 e2
    rw [e1] at e2
    cases e2
    exact ⟨rfl, rfl, rfl, fun _ _ => rfl⟩
  · rename_i e1 e2
    rw [e1] at e2
    cases e2
    exact .inr ⟨rfl, rfl⟩
  · rfl
theorem sameAt_same {w w' : World} (h : ∀ i, i < w.heap.size → w'.heap[i]? = w.heap[i]?) {p : MemPlace} (hp : p.block < w.heap.size) : w.sameAt w' p := by
  cases p with
  | cell b off =>
    show w'.cell? ⟨b, off, none⟩ = w.cell? ⟨b, off, none⟩
    unfold World.cell?
    rw [h b hp]
  | map b => exact h b hp
theorem lifted5 (os : Os) (started : os.Started) (H : Type) (enc : TypeId × Value → H) :
    ReturnsInHanded {} Tryd.checked os 5 .any (fun w args => (Rows.heapHeldSpec.pre enc Tryd.prog Tryd.f5 [] false w args ∧ laidMetH Tryd.prog Rows.heapHeldRow.laid w) ∧ sizedMet enc Tryd.prog Tryd.f5 (OpenSpec.ofChange Rows.heapHeldSpec) false w args)
      (Rows.heapHeldSpec.post enc Tryd.prog Tryd.f5 false true false false) := by
  refine returnsInHanded_of_change_and (C := Tryd.checked) (X := fun w _ => laidMetH Tryd.prog Rows.heapHeldRow.laid w) (fun _ _ _ hh h => h.of_heap hh) own8 started (by kernel_rfl) Tryd.func5
    (ChangeSpec.witness_shaped (enc := enc) (C := Tryd.checked) (os := os) (X := fun w _ => laidMetH Tryd.prog Rows.heapHeldRow.laid w) false (World.laidAll Tryd.prog os Rows.heapHeldRow.laid) #[.slice none 0 0] 8 (World.laidAll_os _ _ _)
      (World.shaped_of_ZipB (by kernel_rfl) (by kernel_rfl)) (by kernel_rfl) (by kernel_rfl) (by kernel_rfl)
      (by rw [MakeChecks.laidMetH_plain _ _ _ (by kernel_rfl)]; exact laidMet_laidAll _ (by kernel_rfl) (by kernel_rfl))) ?_
  intro W base args ds gs before hval0 hW _ _ _ _
  have hval : ∀ (j : Nat) t v, Tryd.f5.params[j]? = some t → args[j]? = some v → Value.okWide Tryd.prog W .any base t v := hval0
  have hW' := hW
  obtain ⟨p, q, hA0, hV, rfl, hfz, hnd⟩ := hW
  have hA : DataW.TrodAll enc Tryd.prog W 0 (fun _ => true) true Tryd.f5.params.toList args.toList ds p := hA0
  rw [Tryd.params5] at hA hval
  obtain ⟨v0, d0, rfl, rfl, h0⟩ := trodAll_one hA
  obtain ⟨rfl, rfl⟩ := trodVars_none hV
  have hcl0 := Zuq Tryd.underlying35 (hval 0 35 v0 rfl rfl)
  clear hA0 hval0
  simp only [List.append_nil] at hW'
  obtain ⟨N, hN⟩ := big_ex W
  obtain ⟨fuel, hf⟩ := h0
  obtain ⟨u0, a0, bs0, hv0, hc0, hr0⟩ := Zrv hN hf
  rw [hcl0] at hv0
  cases hv0
  have hvs : VRels (renW W N) [a0] (#[v0] : Array Value).toList := .cons (Zey hc0).1 .nil
  refine (Zoo mixed (Zto (Q := fun v _ => v = .bool true) Zus (bytesIn_row hr0) (fun _ => rfl)) (wrel_W Tryd.prog hN.1) hvs).mono ?_
  rintro e w' ⟨u, ι', s', a', rfl, he, _, hv, rfl⟩
  cases hv
  have hkeep : ∀ i, i < W.heap.size → w'.heap[i]? = W.heap[i]? := by
    intro i hi
    refine he.keep i hi ?_
    intro b p hb hro
    unfold renW at hb
    split at hb
    · cases hb
      cases hro
    · cases hb
  have hlt : ∀ x ∈ p, x.block < W.heap.size := fun x hx => by simpa using hW'.lt x hx
  refine ⟨_, rfl, [d0], [], p, [], p, [], hW', ?_, ?_, rfl, keptBut_same he.os he.out hkeep, fun h => by cases h⟩
  · exact trodAll_mk1 (shut_bool Tryd.underlying4 _)
  · have := trodAll_mk1 (Trod_stays (sp' := fun b => decide (b < W.heap.size)) laidOut8 (by kernel_rfl) (of_decide_eq_true (by kernel_rfl)) ⟨fuel, hf⟩ (fun x hx => sameAt_same hkeep (hlt x hx)) (fun x hx => by simpa using hlt x hx))
    exact this
theorem heapHeld_said : Rows.HeapHeldSaid :=
  OpenClaim.holds_of_wide 5 Tryd.f5 rfl rfl rfl rfl rfl rfl rfl ⟨rfl, rfl, rfl, rfl, rfl⟩ rfl rfl rfl rfl rfl (by kernel_rfl) Tryd.func5 (by kernel_rfl)
    (of_decide_eq_true (by kernel_rfl)) (by unfold Func.isWrapper; first | (rw [if_pos (by decide +kernel)]; kernel_rfl) | (rw [if_neg (by decide +kernel)]; exact ⟨rfl, rfl⟩))
    (fun os started H enc _ => lifted5 os started H enc)
/-- THE TIED CARD. -/
theorem heapHeld_card : Rows.HeapHeldCardSaid :=
  Claim7.holds_tied_plain_at .later [] [.data, .pinned] true (true, "9023314de9299c16d382e7236f99f48cb97dfdf88915ffd4e1ca1249b0db7e12") false
    heapHeld_said (fun _ h => by cases h) (by kernel_rfl) (fun _ h => by cases h) heapHeld_row_tie rfl ⟨rfl, rfl⟩ (by kernel_rfl) rfl
    (fun f fn hf hfn => by
      obtain rfl : f = 5 := Option.some.inj ((show Tryd.prog.funcNamed "roundelay/roundelaylaw23.HeapHeld" = some 5 by kernel_rfl).symm.trans hf) |>.symm
      obtain rfl : fn = Tryd.f5 := (Option.some.inj (Tryd.func5.symm.trans hfn)).symm
      exact ⟨by kernel_rfl, fun j t ht => by
        rw [Tryd.params5] at ht
        have hm : t ∈ [35] := by simpa using Array.mem_of_getElem? ht
        have hall : ([35].all fun u => !Tryd.prog.wantsStandIn u) = true := by kernel_rfl
        exact (show Tryd.prog.wantsStandIn t = false by simpa using List.all_eq_true.1 hall t hm)⟩)
    (by kernel_rfl)
end Go.Proofs.YtoipnedbpjfeiaaDoor
