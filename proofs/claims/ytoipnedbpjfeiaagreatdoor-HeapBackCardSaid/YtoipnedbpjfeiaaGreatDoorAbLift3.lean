/-
  PROVED: called with any row of bytes and any steps, HeapBack returns true and leaves its input reading as it did.
  CONDITIONS: the given card's own (the row 'heapBackRow', its tie, nothing beside).
-/
import Derived.LaidMore
import Derived.Lay
import Derived.Test.YtoipnedbpjfeiaaGreatDoorCards
import Derived.Test.YtoipnedbpjfeiaaGreatDoorAb10
set_option linter.all false
set_option linter.unusedSectionVars false
set_option linter.unusedSimpArgs false
set_option linter.unusedVariables false
open Go Go.AM
namespace Go.Proofs.YtoipnedbpjfeiaaGreatDoor
set_option maxRecDepth 100000
open Go.ChangeShapes Go.WideShapes Go.ChangeAt Go.RowKit Go.WideElems
theorem bytesIn_row {s : St} {v : AVal} {bs : List UInt8} (h : Zrp s v (bs.map fun b => .int .u8 (b.toNat : Int))) : Z36 s (fun _ => False) v (bs.map fun b => (b.toNat : Int)) := by
  rcases h with ⟨h1, h2⟩ | ⟨b, o, c, cs, rfl, h2, h3, h4, h5⟩
  · exact .inl ⟨h1, by simpa using h2⟩
  · refine .inr ⟨b, o, c, cs, by simp, fun h => h, h2, h3, by simpa using h4, fun i k hk => h5 i _ ?_⟩
    rw [List.getElem?_map] at hk ⊢
    cases hb : bs[i]? with
    | none => rw [hb] at hk; cases hk
    | some x => rw [hb] at hk; cases hk; rfl
theorem own8 : ownKnob Tryz.prog.godebug = none := by kernel_rfl
theorem laidOut8 : laidOutB Tryz.prog = true := by kernel_rfl
theorem keptBut_same {w w' : World} {may : MemPlace → Prop} (h1 : w'.os = w.os) (h2 : w'.output = w.output) (h : ∀ i, i < w.heap.size → w'.heap[i]? = w.heap[i]?) : w.keptBut w' may := by
  refine ⟨h1, h2, fun i hi => ?_⟩
  have := h i hi
  rw [this]
  split
  · rename_i e1 e2
    rw [e1] at e2
    cases e2
    exact ⟨rfl, rfl, rfl, fun _ _ => rfl⟩
  · rename_i e1 e2
    rw [e1] at e2
    cases e2
    exact .inr ⟨rfl, rfl⟩
  · rfl
theorem sameAt_same {w w' : World} (h : ∀ i, i < w.heap.size → w'.heap[i]? = w.heap[i]?) {p : MemPlace} (hp : p.block < w.heap.size) : w.sameAt w' p := by
  cases p with
  | cell b off =>
    show w'.cell? ⟨b, off, none⟩ = w.cell? ⟨b, off, none⟩
    unfold World.cell?
    rw [h b hp]
  | map b => exact h b hp
theorem lifted3 (os : Os) (started : os.Started) (H : Type) (enc : TypeId × Value → H) :
    ReturnsInHanded {} Tryz.checked os 3 .any (fun w args => (Rows.heapBackSpec.pre enc Tryz.prog Tryz.f3 [] false w args ∧ laidMetH Tryz.prog Rows.heapBackRow.laid w) ∧ sizedMet enc Tryz.prog Tryz.f3 (OpenSpec.ofChange Rows.heapBackSpec) false w args)
      (Rows.heapBackSpec.post enc Tryz.prog Tryz.f3 false true false false) := by
  refine returnsInHanded_of_change_and (C := Tryz.checked) (X := fun w _ => laidMetH Tryz.prog Rows.heapBackRow.laid w) (fun _ _ _ hh h => h.of_heap hh) own8 started (by kernel_rfl) Tryz.func3
    (ChangeSpec.witness_shaped (enc := enc) (C := Tryz.checked) (os := os) (X := fun w _ => laidMetH Tryz.prog Rows.heapBackRow.laid w) false (World.laidAll Tryz.prog os Rows.heapBackRow.laid) #[.slice none 0 0, .slice none 0 0] 8 (World.laidAll_os _ _ _)
      (World.shaped_of_ZipB (by kernel_rfl) (by kernel_rfl)) (by kernel_rfl) (by kernel_rfl) (by kernel_rfl)
      (by rw [MakeChecks.laidMetH_plain _ _ _ (by kernel_rfl)]; exact laidMet_laidAll _ (by kernel_rfl) (by kernel_rfl))) ?_
  intro W base args ds gs before hval0 hW _ _ _ _
  have hval : ∀ (j : Nat) t v, Tryz.f3.params[j]? = some t → args[j]? = some v → Value.okWide Tryz.prog W .any base t v := hval0
  have hW' := hW
  obtain ⟨p, q, hA0, hV, rfl, hfz, hnd⟩ := hW
  have hA : DataW.TrodAll enc Tryz.prog W 0 (fun _ => true) true Tryz.f3.params.toList args.toList ds p := hA0
  rw [Tryz.params3] at hA hval
  obtain ⟨v0, v1, d0, d1, p0, p1, rfl, rfl, rfl, h0, h1⟩ := trodAll_two hA
  obtain ⟨rfl, rfl⟩ := trodVars_none hV
  have hcl0 := Zm6 Tryz.underlying22 (hval 0 22 v0 rfl rfl)
  have hcl1 := Zm6 Tryz.underlying23 (hval 1 23 v1 rfl rfl)
  clear hA0 hval0
  simp only [List.append_nil] at hW'
  obtain ⟨N, hN⟩ := big_ex W
  obtain ⟨fuel0, hf0⟩ := h0
  obtain ⟨fuel1, hf1⟩ := h1
  obtain ⟨u0, a0, bs0, hv0, hc0, hr0⟩ := Zt2 hN hf0
  rw [hcl0] at hv0
  cases hv0
  obtain ⟨u1, a1, os1, hv1, hc1, hr1⟩ := Zxi hN hf1
  rw [hcl1] at hv1
  cases hv1
  have hvs : VRels (renW W N) [a0, a1] (#[v0, v1] : Array Value).toList := .cons (Zcf hc0).1 (.cons (Zcf hc1).1 .nil)
  refine (Zp4 mixed (Zty (Q := fun v _ => v = .bool true) Zoz (bytesIn_row hr0) hr1 (fun _ => rfl)) (wrel_W Tryz.prog hN.1) hvs).mono ?_
  rintro e w' ⟨u, ι', s', a', rfl, he, _, hv, rfl⟩
  cases hv
  have hkeep : ∀ i, i < W.heap.size → w'.heap[i]? = W.heap[i]? := by
    intro i hi
    refine he.keep i hi ?_
    intro b p hb hro
    unfold renW at hb
    split at hb
    · cases hb
      cases hro
    · cases hb
  have hlt : ∀ x ∈ p0 ++ p1, x.block < W.heap.size := fun x hx => by simpa using hW'.lt x hx
  refine ⟨_, rfl, [d0, d1], [], p0 ++ p1, [], p0 ++ p1, [], hW', ?_, ?_, rfl, keptBut_same he.os he.out hkeep, fun h => by cases h⟩
  · exact trodAll_mk1 (shut_bool Tryz.underlying4 _)
  · have k0 : ∀ x ∈ p0, x.block < W.heap.size := fun x hx => hlt x (List.mem_append_left _ hx)
    have k1 : ∀ x ∈ p1, x.block < W.heap.size := fun x hx => hlt x (List.mem_append_right _ hx)
    have := trodAll_mk2 (Trod_stays (sp' := fun b => decide (b < W.heap.size)) laidOut8 (by kernel_rfl) (of_decide_eq_true (by kernel_rfl)) ⟨fuel0, hf0⟩ (fun x hx => sameAt_same hkeep (k0 x hx)) (fun x hx => by simpa using k0 x hx))
      (Trod_stays (sp' := fun b => decide (b < W.heap.size)) laidOut8 (by kernel_rfl) (of_decide_eq_true (by kernel_rfl)) ⟨fuel1, hf1⟩ (fun x hx => sameAt_same hkeep (k1 x hx)) (fun x hx => by simpa using k1 x hx))
    exact this
theorem heapBack_said : Rows.HeapBackSaid :=
  OpenClaim.holds_of_wide 3 Tryz.f3 rfl rfl rfl rfl rfl rfl rfl ⟨rfl, rfl, rfl, rfl, rfl⟩ rfl rfl rfl rfl rfl (by kernel_rfl) Tryz.func3 (by kernel_rfl)
    (of_decide_eq_true (by kernel_rfl)) (by unfold Func.isWrapper; first | (rw [if_pos (by decide +kernel)]; kernel_rfl) | (rw [if_neg (by decide +kernel)]; exact ⟨rfl, rfl⟩))
    (fun os started H enc _ => lifted3 os started H enc)
/-- THE TIED CARD. -/
theorem heapBack_card : Rows.HeapBackCardSaid :=
  Claim7.holds_tied_plain_at .later [] [.data, .pinned] true (true, "bc61e1f983868ed0027301d642444ac4963a4584af9c243b1fb3dfad974aea64") false
    heapBack_said (fun _ h => by cases h) (by kernel_rfl) (fun _ h => by cases h) heapBack_row_tie rfl ⟨rfl, rfl⟩ (by kernel_rfl) rfl
    (fun f fn hf hfn => by
      obtain rfl : f = 3 := Option.some.inj ((show Tryz.prog.funcNamed "roundelay/roundelaylaw23.HeapBack" = some 3 by kernel_rfl).symm.trans hf) |>.symm
      obtain rfl : fn = Tryz.f3 := (Option.some.inj (Tryz.func3.symm.trans hfn)).symm
      exact ⟨by kernel_rfl, fun j t ht => by
        rw [Tryz.params3] at ht
        have hm : t ∈ [22, 23] := by simpa using Array.mem_of_getElem? ht
        have hall : ([22, 23].all fun u => !Tryz.prog.wantsStandIn u) = true := by kernel_rfl
        exact (show Tryz.prog.wantsStandIn t = false by simpa using List.all_eq_true.1 hall t hm)⟩)
    (by kernel_rfl)
end Go.Proofs.YtoipnedbpjfeiaaGreatDoor
