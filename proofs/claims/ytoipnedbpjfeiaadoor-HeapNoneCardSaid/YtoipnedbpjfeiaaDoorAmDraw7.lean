/- The abstract machine's answers hold of the model: regions that are drawn, and calls. -/
import Derived.Test.YtoipnedbpjfeiaaDoorAmDraw6
set_option linter.all false
set_option linter.unusedSectionVars false
set_option linter.unusedSimpArgs false
set_option linter.unusedVariables false
namespace Go.AM
variable [Orc] [OrcOk]
theorem rows_get {ops : Array Oper} {masks : List Nat} (hl : masks.length = ops.size) {i : Nat} (hi : i < ops.size) : (i, opAt ops i, maskAt masks i) ∈ allRows ops.toList masks := by
  unfold allRows
  refine List.mem_map.2 ⟨((opAt ops i, i), maskAt masks i), ?_, rfl⟩
  refine List.mem_of_getElem? (i := i) ?_
  rw [List.getElem?_zip_eq_some]
  refine ⟨?_, ?_⟩
  · rw [List.getElem?_zipIdx]
    simp [opAt_get hi]
  · unfold maskAt
    rw [List.getD_eq_getElem?_getD]
    rw [List.getElem?_eq_getElem (by omega)]
    rfl
theorem TmpsOk.of {ops : Array Oper} {masks : List Nat} (hl : masks.length = ops.size) (h : tmpsOk ops (allRows ops.toList masks) = true) : TmpsOk ops masks := by
  have key : ∀ i j, i < ops.size → j < ops.size → i ≠ j → ∀ d, dstAt ops i = some d → dstAt ops j ≠ some d ∧ (d ∈ readsAt ops j → Anc masks j i ∨ Anc masks i j) := by
    intro i j hi hj hne d hd
    have h1 := List.all_eq_true.1 (List.all_eq_true.1 h _ (rows_get hl hi)) _ (rows_get hl hj)
    simp only [Bool.or_eq_true, beq_iff_eq, Bool.and_eq_true] at h1
    rcases h1 with h1 | ⟨h1, _⟩
    · exact absurd h1 hne
    · rw [show (opAt ops i).dst = some d from hd] at h1
      simp only [Bool.and_eq_true, bne_iff_ne, ne_eq, Bool.or_eq_true, Bool.not_eq_true'] at h1
      refine ⟨h1.1, fun hm => ?_⟩
      rcases h1.2 with (h2 | h2) | h2
      · simp at h2
        exact absurd hm h2
      · exact .inl h2
      · exact .inr h2
  refine ⟨fun i j d hi hj e e' => ?_, fun i j d hi hj hne e hm => (key i j hi hj hne d e).2 hm⟩
  by_cases hne : i = j
  · exact hne
  · exact absurd e' (key i j hi hj hne d e).1
theorem countP_one : ∀ (l : List Nat) (p q : Nat → Bool) (i : Nat), l.Nodup → i ∈ l → (∀ j ∈ l, j ≠ i → p j = q j) → p i = true → q i = false → l.countP p = l.countP q + 1
  | [], p, q, i, _, hi, _, _, _ => by cases hi
  | x :: l, p, q, i, hn, hi, h, hp, hq => by
    obtain ⟨hx, hn⟩ := List.nodup_cons.1 hn
    by_cases e : x = i
    · subst e
      rw [List.countP_cons_of_pos hp, List.countP_cons_of_neg (by simp [hq])]
      congr 1
      exact List.countP_congr fun j hj => by rw [h j (by simp [hj]) (fun e => hx (e ▸ hj))]
    · have hi : i ∈ l := by
        rcases List.mem_cons.1 hi with e' | hi
        · exact absurd e'.symm e
        · exact hi
      have ih := countP_one l p q i hn hi (fun j hj => h j (by simp [hj])) hp hq
      have hxx := h x (by simp) e
      cases hpx : p x with
      | true => rw [List.countP_cons_of_pos hpx, List.countP_cons_of_pos (by rw [← hxx]; exact hpx), ih]
      | false => rw [List.countP_cons_of_neg (by simp [hpx]), List.countP_cons_of_neg (by rw [← hxx]; simp [hpx]), ih]
section
variable {P : Program} {rec : RecT} {ops : Array Oper} {masks : List Nat} {tree : PT AVal} {fi : FI} {k : PT AVal → St → Bool} {a0 : Act} {ι0 : Ren} {w0 : World} {F : Fence} {m n0 : Nat} {Q : Exit → Act → World → Prop}
theorem Inv.final {pre : List Nat} {vals : Nat → AVal} {nm : Nat → Option Pos} {T : St} {L : Nat → Prop} {ι : Ren} {a : Act} {w : World} {pl : List PItem} {done : Nat} (h : Inv P rec ops masks tree fi k a0 ι0 w0 pre vals nm T L ι a w pl done)
    (hset : pl = [] ∨ ∃ i cs r, pl = .eff i cs :: r) (hall : ∀ j, j < ops.size → L j) (h0 : ∀ t v, PT.get (posOf t) tree = some v → t ∈ fi.ps ∧ ∃ u, a0.tmps[t]? = some u ∧ VRel ι0 v u) (hsz : fi.ntmps ≤ a0.tmps.size)
    (hdf : DefInv n0 ι0 w0 a0.defers) (hnz : n0 ≤ w0.heap.size) (hQ : ∀ ι' tree' s' a' w', Ext ι0 w0 ι' w' → Here P n0 fi ι' tree' s' a' w' → k tree' s' = true → Q .normal a' w') : Q .normal a w := by
  rcases hset with rfl | ⟨i, cs, r, rfl⟩
  · have hk : commitK (commitPlan fi.ps (pre.map (dstAt ops)) []) (pre.map vals) tree (fun tree => k tree T) = true := h.cont
    have hloc : LocRel ι (pre.map (dstAt ops)) (pre.map vals) tree a.tmps := by
      refine ⟨by simp, fun t d v e1 e2 => ?_, fun t v e1 e2 => ?_⟩
      · obtain ⟨j, h1, h2⟩ := idxOf_map pre e1
        have hv : vals j = v := by simpa [h1] using e2
        rw [← hv]
        exact h.t1 j (hall j (h.lt j (List.mem_of_getElem? h1))) t h2
      · obtain ⟨_, u, h1, h2⟩ := h0 t v e2
        exact ⟨u, (h.t2 t fun j hj => idxOf_map_none pre e1 j (h.sub j hj)).trans h1, h2.mono h.ext.le⟩
    obtain ⟨tree', h1, h2⟩ := hloc.commit (n := fi.ntmps) (by rw [h.size]; exact hsz) (fun t v e => (h0 t v e).1) hk
    exact hQ ι tree' T a w h.ext ⟨h.wr, h2, h.defs ▸ hdf.ext h.ext, Nat.le_trans hnz h.ext.size⟩ h1
  · have hpl := h.plan
    simp only [planOk, Bool.and_eq_true] at hpl
    obtain ⟨hlt, hn, _, _⟩ := stepOk_some h.bits h.lt hpl.1.1.1
    exact absurd (h.sub i (hall i hlt)) hn
theorem any_order (hs : Sound P rec) (hF : ∀ f, F.fn f) (hd : F.depth = none) (hA : AncOk ops.toList masks) (ht : TmpsOk ops masks) (hds : ∀ i, i < ops.size → ∀ d, dstAt ops i = some d → d < a0.tmps.size)
    (h0 : ∀ t v, PT.get (posOf t) tree = some v → t ∈ fi.ps ∧ ∃ u, a0.tmps[t]? = some u ∧ VRel ι0 v u) (hsz : fi.ntmps ≤ a0.tmps.size)
    (hdf : DefInv n0 ι0 w0 a0.defers) (hnz : n0 ≤ w0.heap.size) (hQ : ∀ ι' tree' s' a' w', Ext ι0 w0 ι' w' → Here P n0 fi ι' tree' s' a' w' → k tree' s' = true → Q .normal a' w') :
    ∀ (fuel : Nat) (listed : Array Bool) (a : Act) (w : World) (pre : List Nat) (vals : Nat → AVal) (nm : Nat → Option Pos) (T : St) (L : Nat → Prop) (ι : Ren) (pl : List PItem) (done : Nat),
      Inv P rec ops masks tree fi k a0 ι0 w0 pre vals nm T L ι a w pl done → (pl = [] ∨ ∃ i cs r, pl = .eff i cs :: r) → listed.size = ops.size → (∀ j, j < ops.size → (listed.getD j false = true ↔ L j)) →
      (List.range ops.size).countP (fun j => !listed.getD j false) = fuel → wpAnyIn F m P .any ops Q fuel listed a w := by
  intro fuel
  induction fuel with
  | zero =>
    intro listed a w pre vals nm T L ι pl done h hset hls hL hcnt
    have hall : ∀ j, j < ops.size → listed.getD j false = true := by
      intro j hj
      have := List.countP_eq_zero.1 hcnt j (by simpa using hj)
      simpa using this
    refine ⟨?_, h.final hset (fun j hj => (hL j hj).1 (hall j hj)) h0 hsz hdf hnz hQ⟩
    refine List.eq_nil_iff_forall_not_mem.2 fun j hj => ?_
    obtain ⟨h1, o, ho, _⟩ := mem_ready.1 hj
    have hjlt := (Array.getElem?_eq_some_iff.1 ho).1
    have h2 := hall j hjlt
    rw [Array.getD_eq_getD_getElem?] at h1 h2
    rw [Array.getElem?_eq_getElem (by omega)] at h1 h2
    simp at h1 h2
    rw [h1] at h2; cases h2
  | succ fuel ih =>
    intro listed a w pre vals nm T L ι pl done h hset hls hL hcnt
    have hget : ∀ j, j < ops.size → listed.getD j true = listed.getD j false := fun j hj => by
      rw [Array.getD_eq_getD_getElem?, Array.getD_eq_getD_getElem?, Array.getElem?_eq_getElem (by omega)]
      rfl
    refine ⟨fun hnil => ?_, fun i hi => ?_⟩
    · exfalso
      have hall : ∀ j, j < ops.size → listed.getD j false = true := by
        intro j
        induction j using Nat.strongRecOn with
        | _ j ihj =>
          intro hj
          cases hlj : listed.getD j false with
          | true => rfl
          | false =>
            exfalso
            have : j ∈ Region.ready .any ops listed := mem_ready.2 ⟨by rw [hget j hj]; exact hlj, opAt ops j, opAt_get hj, fun e he hb => by
              have := hA.back j (opAt ops j) (by simpa using opAt_get hj) e he hb
              exact ihj e.on this (by omega)⟩
            rw [hnil] at this
            cases this
      have : (List.range ops.size).countP (fun j => !listed.getD j false) = 0 := List.countP_eq_zero.2 fun j hj => by
        rw [hall j (by simpa using hj)]; simp
      omega
    · obtain ⟨h1, o, ho, hedges⟩ := mem_ready.1 hi
      have hilt := (Array.getElem?_eq_some_iff.1 ho).1
      have hoi : opAt ops i = o := by
        have := opAt_get hilt
        rw [ho] at this
        exact (Option.some.inj this).symm
      have hLi : ¬ L i := fun e => by
        have := (hL i hilt).2 e
        rw [← hget i hilt, h1] at this
        cases this
      have hanc : ∀ j, Anc masks i j → L j := by
        intro j hj
        obtain ⟨e, he, hb, h2⟩ := hA.anc i o (by simpa using ho) j hj
        have hlt := hA.back i o (by simpa using ho) e he hb
        have hLe : L e.on := (hL e.on (by omega)).1 (hedges e he hb)
        rcases h2 with rfl | h2
        · exact hLe
        · exact h.lanc e.on hLe j h2
      have hset' : ∀ j, j < ops.size → ((listed.setIfInBounds i true).getD j false = true ↔ L j ∨ j = i) := by
        intro j hj
        by_cases e : j = i
        · subst e
          rw [Array.getD_eq_getD_getElem?, Array.getElem?_setIfInBounds_self_of_lt (by omega)]
          simp
        · rw [Array.getD_eq_getD_getElem?, Array.getElem?_setIfInBounds_ne (Ne.symm e), ← Array.getD_eq_getD_getElem?, hL j hj]
          simp [e]
      have hcnt' : (List.range ops.size).countP (fun j => !(listed.setIfInBounds i true).getD j false) = fuel := by
        have := countP_one (List.range ops.size) (fun j => !listed.getD j false) (fun j => !(listed.setIfInBounds i true).getD j false) i List.nodup_range (by simpa using hilt) (fun j hj e => by
            show (!listed.getD j false) = !(listed.setIfInBounds i true).getD j false
            rw [Array.getD_eq_getD_getElem?, Array.getD_eq_getD_getElem?, Array.getElem?_setIfInBounds_ne (Ne.symm e)]) (by rw [← hget i hilt, h1]; rfl) (by
            rw [Array.getD_eq_getD_getElem?, Array.getElem?_setIfInBounds_self_of_lt (by omega)]; rfl)
        omega
      have h0' : ∀ t v, PT.get (posOf t) tree = some v → ∃ u, a0.tmps[t]? = some u ∧ VRel ι0 v u := fun t v e => (h0 t v e).2
      by_cases hip : i ∈ pre
      · have hgo : ∀ ι' a' w', Inv P rec ops masks tree fi k a0 ι0 w0 pre vals nm T (fun j => L j ∨ j = i) ι' a' w' pl done → wpAnyIn F m P .any ops Q fuel (listed.setIfInBounds i true) a' w' := fun ι' a' w' h' =>
          ih _ a' w' pre vals nm T _ ι' pl done h' hset (by simpa using hls) hset' hcnt'
        rcases Nat.lt_or_ge (cls P ops i) 2 with hc | hc
        · exact step_calm hs hF hd h ht (hds i hilt) h0' hip hLi hanc (Nat.le_of_lt_succ hc) hgo
        · rcases Nat.lt_or_ge 2 (cls P ops i) with hc' | hc'
          · exact absurd (h.effs i hip hc') hLi
          · exact step_make hF h ht (hds i hilt) h0' hip hLi hanc (Nat.le_antisymm hc' hc) hgo
      · rcases hset with rfl | ⟨i', cs, r, rfl⟩
        · have := h.plan
          simp only [planOk] at this
          have := List.all_eq_true.1 this i (by simpa using hilt)
          exact absurd ((h.bits i).1 this) hip
        · have hpl := h.plan
          simp only [planOk, Bool.and_eq_true] at hpl
          obtain ⟨_, hn', _, _⟩ := stepOk_some h.bits h.lt hpl.1.1.1
          have h2 := List.all_eq_true.1 hpl.1.1.2 i (by simpa using hilt)
          simp only [Bool.and_eq_true, Bool.or_eq_true, beq_iff_eq] at h2
          have hii : i = i' := by
            rcases h2.1.1 with (h3 | h3) | h3
            · exact absurd ((h.bits i).1 h3) hip
            · exact h3
            · exact absurd (h.sub i' (hanc i' h3)) hn'
          subst hii
          refine step_eff hs hF hd h ht (hds i hilt) h0' hanc fun vals' T' ι' a' w' h' => ?_
          obtain ⟨pre2, vals2, nm2, T2, pl2, done2, h'', hset''⟩ := h'.settle ht
          exact ih _ a' w' pre2 vals2 nm2 T2 _ ι' pl2 done2 h'' hset'' (by simpa using hls) hset' hcnt'
/-- **DRAWN REGIONS HOLD.** -/
theorem draw_sound (hm : P.follows .mixedOrders = true) (hs : Sound P rec) : DrawSound P rec := by
  intro id ops n0 fi tree s k F m ι a w h hfo hF hd hr hh
  obtain ⟨l, hl, h1⟩ := optK_true.1 h
  rcases ifK_true.1 h1 with ⟨hdst, h2⟩ | ⟨_, h2⟩
  · have hl : drawPlan P ops = some l := hl
    unfold drawPlan at hl
    split at hl
    · rename_i masks hmasks
      simp only at hl
      split at hl
      · rename_i hok
        cases hl
        simp only [Bool.and_eq_true] at hok
        have hA := ancs_of hmasks
        have ht := TmpsOk.of (by rw [hA.len]; simp) hok.1
        refine wpIn_region_any hm ?_
        have h0 : ∀ t v, PT.get (posOf t) tree = some v → t ∈ fi.ps ∧ ∃ u, a.tmps[t]? = some u ∧ VRel ι v u := hh.tr.get
        have hinv : Inv P rec ops masks tree fi k a ι w [] (fun _ => .tup []) (fun _ => none) s (fun _ => False) ι a { w with drawn := w.drawn + 1 } (planGo P ops masks (allRows ops.toList masks) ops.size 0) 0 := by
          refine ⟨hh.wr.drawn _, Ext.drawn ι w _, rfl, rfl, fun i h => h.elim, fun i h => (by cases h), fun i h => (by cases h), fun i h => h.elim, fun i h => h.elim, fun t _ => rfl, fun i h => (by cases h), fun i h => (by cases h), fun i h => (by cases h),
            fun i h => (by cases h), fun i q e => (by cases e), fun j => by simp, hok.2, h2⟩
        obtain ⟨pre2, vals2, nm2, T2, pl2, done2, h'', hset''⟩ := hinv.settle ht
        refine any_order (n0 := n0) hs hF hd hA ht (fun i hi d e => ?_) h0 hh.tr.size hh.df hh.nz (fun ι' tree' s' a' w' he hh' hk => ⟨.normal, tree', s', ι', rfl, he, hh', hk⟩) ops.size _ a _ pre2 vals2 nm2 T2 _ ι pl2 done2 h'' hset'' (by simp) (fun j hj => ?_) ?_
        · exact Nat.lt_of_lt_of_le (dstsOk_lt hdst (opAt ops i) (List.mem_of_getElem? (i := i) (by simpa using opAt_get hi)) d e) hh.tr.size
        · rw [Array.getD_eq_getD_getElem?]
          simp [hj]
        · have : ∀ j ∈ List.range ops.size, (!(Array.replicate ops.size false).getD j false) = true := fun j hj => by
            rw [Array.getD_eq_getD_getElem?]
            have : j < ops.size := by simpa using hj
            simp [this]
          rw [List.countP_eq_length.2 this]
          simp
      · cases hl
    · cases hl
  · cases h2
end
/-- **THE ABSTRACT MACHINE's RUNS HOLD OF THE MODEL.** -/
theorem run_sound {P : Program} (hm : P.follows .mixedOrders = true) {n : Nat} {f : FuncId} {args : List AVal} {us : Array Value} {s : St} {w : World} {ι : Ren} {K : VK} (h : run P n f args s K = true) (hw : WRel P ι s w) (hv : VRels ι args us.toList) :
    Calls P f us w (CallEnd P ι w K) := by
  refine (callsIn_wide (n := 0)).1 ?_
  have := callF_sound (F := Fence.wide) (m := 0) (exec_sound (fun rec hs => draw_sound hm hs) n) h (fun _ => trivial) rfl hw hv
  simpa using this
end Go.AM
