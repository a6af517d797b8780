/- HeapNone: the walk of the law. -/
import Derived.Test.YtoipnedbpjfeiaaDoorAmHNone2
set_option linter.all false
set_option linter.unusedSectionVars false
set_option linter.unusedSimpArgs false
set_option linter.unusedVariables false
open Go Go.AM
namespace Go.Proofs
set_option maxRecDepth 100000
theorem OpVal.keep {s s' : St} {v : AVal} (h : OpVal s v) (k : Keeps s s') : OpVal s' v := by
  obtain ⟨kk, nm, kids, a, b, c, nodes, r, n, m, rfl, hn, hno, hm⟩ := h.ex
  exact ⟨kk, nm, kids, a, b, c, nodes, r, n, m, rfl, hn, hno.keep k, hm⟩
theorem eq8 (k : IntKind) (a : Int) : eqVal 8 (.int k a) (.int k a) = true := by
  simp [eqVal]
theorem law_rest {fr : FI} {s : St} {t : PT AVal} {p : Pos} {k : Int} {nm : List UInt8} {kids nodes h : AVal} {a b c r : Int} {Q : Ex → PT AVal → St → Prop} (hw : s.Wf) (hp : s.Old p) (hc : s.cells p = some [.int .i64 k, .str nm, kids, .int .i64 a, .int .i64 b, .int .i64 c, nodes, .int .i64 r])
    (hh : NoHeap s h) (h2 : PT.get (posOf 2) t = some (.ptr p 0)) (h5 : PT.get (posOf 5) t = some h) (hkt : ∀ l, ¬ kids = .tup l) (hnd : ∀ l, ¬ nodes = .tup l) (hQ : ∀ t s', PT.get (posOf 4) t = some (.bool true) → Q .ret t s') : wp Tryd.prog c8_15 fr t s Q := by
  have hcc := hh.cells
  have hnt := hh.ntup
  refine wp_seq_region ?_
  simp [hc, h2, h5]
  refine wpCallV_fn ?_
  refine make_none hw hh fun s0 k0 => ?_
  simp
  have kk0 := k0
  have hw0 := kk0.wf hw
  have hp0 := kk0.old hp
  have hc0 := (kk0.cells hp).trans hc
  have hh0 := hh.keep kk0
  refine wp_seq_region ?_
  simp [hc0, h2, h5]
  refine wpCallV_fn ?_
  refine put_none hw0 hh0 fun s1 k1 => ?_
  simp
  have kk1 := k1
  have hw1 := kk1.wf hw0
  have hp1 := kk1.old hp0
  have hc1 := (kk1.cells hp0).trans hc0
  have hh1 := hh0.keep kk1
  refine wp_seq_region ?_
  simp [hc1, h2, h5]
  refine wpCallV_fn ?_
  refine get_none hw1 hh1 fun s2 k2 => ?_
  simp
  have kk2 := k2.trans ((Keeps.alloc s2 (.cells [.nilSlice, .int .i64 0] false)).put (.cells [.nilSlice, .int .i64 0] false) (not_old_next _) (old_alloc_next _ _))
  have hw2 := kk2.wf hw1
  have hp2 := kk2.old hp1
  have hc2 := (kk2.cells hp1).trans hc1
  have hh2 := hh1.keep kk2
  refine wp_seq_region ?_
  simp [hc2, h2, h5]
  refine wpCallV_fn ?_
  refine find_none hw2 hh2 fun s3 k3 => ?_
  simp
  have kk3 := k3
  have hw3 := kk3.wf hw2
  have hp3 := kk3.old hp2
  have hc3 := (kk3.cells hp2).trans hc2
  have hh3 := hh2.keep kk3
  refine wp_seq_region ?_
  simp [hc3, h2, h5]
  refine wpCallV_fn ?_
  refine alike_none hw3 hh3 fun s4 k4 => ?_
  simp
  have kk4 := k4
  have hw4 := kk4.wf hw3
  have hp4 := kk4.old hp3
  have hc4 := (kk4.cells hp3).trans hc3
  have hh4 := hh3.keep kk4
  refine wp_seq_region ?_
  simp [hc4, h2, h5]
  refine wpCallV_fn ?_
  refine held_none hw4 hh4 fun s5 k5 => ?_
  simp
  have kk5 := k5
  have hw5 := kk5.wf hw4
  have hp5 := kk5.old hp4
  have hc5 := (kk5.cells hp4).trans hc4
  have hh5 := hh4.keep kk5
  refine wp_seq_region ?_
  simp [hc5, h2, h5]
  refine wpCallV_fn ?_
  refine merge_none hw5 hh5 fun s6 k6 => ?_
  simp
  have kk6 := k6
  have hw6 := kk6.wf hw5
  have hp6 := kk6.old hp5
  have hc6 := (kk6.cells hp5).trans hc5
  have hh6 := hh5.keep kk6
  refine wp_seq_region ?_
  simp [hc6, h2, h5]
  refine wpCallV_fn ?_
  refine sweep_none hw6 hh6 fun s7 k7 => ?_
  simp
  have kk7 := k7
  have hw7 := kk7.wf hw6
  have hp7 := kk7.old hp6
  have hc7 := (kk7.cells hp6).trans hc6
  have hh7 := hh6.keep kk7
  refine wp_seq_region ?_
  simp [hc7, h2, h5]
  refine wpCallV_fn ?_
  refine pack_none hw7 hh7 fun s8 k8 => ?_
  simp
  have kk8 := k8
  have hw8 := kk8.wf hw7
  have hp8 := kk8.old hp7
  have hc8 := (kk8.cells hp7).trans hc7
  have hh8 := hh7.keep kk8
  refine wp_seq_region ?_
  simp [hc8, h2, h5]
  refine wpCallV_fn ?_
  refine tight_none hw8 hh8 fun s9 k9 => ?_
  simp
  have kk9 := k9
  have hw9 := kk9.wf hw8
  have hp9 := kk9.old hp8
  have hc9 := (kk9.cells hp8).trans hc8
  have hh9 := hh8.keep kk9
  refine wp_seq_region ?_
  simp [hc9, h2, h5]
  refine wpCallV_fn ?_
  refine save_none hw9 hh9 fun s10 k10 => ?_
  simp
  have kk10 := k10
  have hw10 := kk10.wf hw9
  have hp10 := kk10.old hp9
  have hc10 := (kk10.cells hp9).trans hc9
  have hh10 := hh9.keep kk10
  refine AM.wp_seq ?_
  refine wp_seq_region ?_
  simp [hc10, h2, h5]
  refine wpCallV_fn ?_
  refine tie_none hw10 hh10 fun s11 k11 => ?_
  have hw11 := k11.wf hw10
  have hp11 := k11.old hp10
  have hc11 := (k11.cells hp10).trans hc10
  have hh11 := hh10.keep k11
  simp [hc11, h2, h5, eq8]
  refine wpCallV_fn ?_
  refine hold_none hw11 hh11 fun s12 k12 => ?_
  have hw12 := k12.wf hw11
  have hp12 := k12.old hp11
  have hc12 := (k12.cells hp11).trans hc11
  have hh12 := hh11.keep k12
  simp [hc12, h2, h5, eq8]
  refine wpCallV_fn ?_
  refine drop_none hw12 hh12 fun s13 k13 => ?_
  have hw13 := k13.wf hw12
  have hp13 := k13.old hp12
  have hc13 := (k13.cells hp12).trans hc12
  have hh13 := hh12.keep k13
  simp [hc13, h2, h5, eq8]
  refine wpCallV_fn ?_
  refine back_none hw13 hh13 fun s14 k14 => ?_
  have hw14 := k14.wf hw13
  have hp14 := k14.old hp13
  have hc14 := (k14.cells hp13).trans hc13
  have hh14 := hh13.keep k14
  simp [hc14, h2, h5, eq8, hw14]
  have hcs : (s14.alloc (.cells [.int .i64 6, .int .i64 6, .int .i64 6, .int .i64 6, .int .i64 6, .int .i64 6, .int .i64 6, .int .i64 6, .int .i64 6, .int .i64 6, .int .i64 6, .int .i64 6, .int .i64 6, .int .i64 6, .int .i64 6] false)).cells s14.next = some [.int .i64 6, .int .i64 6, .int .i64 6, .int .i64 6, .int .i64 6, .int .i64 6, .int .i64 6, .int .i64 6, .int .i64 6, .int .i64 6, .int .i64 6, .int .i64 6, .int .i64 6, .int .i64 6, .int .i64 6] := by simp
  have hw15 := wf_alloc (.cells [.int .i64 6, .int .i64 6, .int .i64 6, .int .i64 6, .int .i64 6, .int .i64 6, .int .i64 6, .int .i64 6, .int .i64 6, .int .i64 6, .int .i64 6, .int .i64 6, .int .i64 6, .int .i64 6, .int .i64 6] false) hw14
  have hh15 := hh14.keep (Keeps.alloc s14 (.cells [.int .i64 6, .int .i64 6, .int .i64 6, .int .i64 6, .int .i64 6, .int .i64 6, .int .i64 6, .int .i64 6, .int .i64 6, .int .i64 6, .int .i64 6, .int .i64 6, .int .i64 6, .int .i64 6, .int .i64 6] false))
  generalize s14.alloc (.cells [.int .i64 6, .int .i64 6, .int .i64 6, .int .i64 6, .int .i64 6, .int .i64 6, .int .i64 6, .int .i64 6, .int .i64 6, .int .i64 6, .int .i64 6, .int .i64 6, .int .i64 6, .int .i64 6, .int .i64 6] false) = S at hcs hw15 hh15 ⊢
  generalize s14.next = B at hcs ⊢
  have hcs : ∃ L : List AVal, S.cells B = some L ∧ L.length = 15 ∧ ∀ (i : Nat) (hi : i < L.length), L[i] = .int .i64 6 := by
    refine ⟨_, hcs, rfl, fun i hi => ?_⟩
    have hi : i < 15 := hi
    have : i = 0 ∨ i = 1 ∨ i = 2 ∨ i = 3 ∨ i = 4 ∨ i = 5 ∨ i = 6 ∨ i = 7 ∨ i = 8 ∨ i = 9 ∨ i = 10 ∨ i = 11 ∨ i = 12 ∨ i = 13 ∨ i = 14 := by omega
    rcases this with rfl | rfl | rfl | rfl | rfl | rfl | rfl | rfl | rfl | rfl | rfl | rfl | rfl | rfl | rfl <;> rfl
  obtain ⟨L, hcs, hlen, hel⟩ := hcs
  refine AM.wp_block ?_
  refine AM.wp_loop (fun n t s' => ∃ i : Nat, i ≤ 15 ∧ n = 15 - i ∧ PT.get (posOf 138) t = some (.slice B 0 15 (.lim 15)) ∧ PT.get (posOf 139) t = some (.int .i64 15) ∧ PT.get (posOf 140) t = some (.int .i64 i) ∧ PT.get (posOf 5) t = some h ∧ s' = S) 15 ⟨0, by simp, by simp, by simp, by simp, by simp, by simp [h5], rfl⟩ ?_
  rintro n t s' ⟨i, hi, rfl, h38, h39, h40, h5, rfl⟩
  refine wp_seq_region ?_
  simp [h39, h40]
  refine AM.wp_seq ?_
  refine AM.wp_condP ?_
  by_cases hlt : (i : Int) < 15
  · simp [hlt]
    refine AM.wp_skip ?_
    simp
    have hwr : IntKind.wrap .i64 ((i : Int) + 1) = ((i + 1 : Nat) : Int) := by rw [IntWalk.i64_in _ (by omega)]; omega
    have hlt' : i < 15 := by omega
    refine AM.wp_seq ?_
    refine AM.wp_block ?_
    refine wp_seq_region ?_
    simp [h38, h40, hlt, hlt', hel, hcs, hlen, show i + 1 ≤ 15 by omega]
    refine wp_seq_region ?_
    simp
    refine AM.wp_condP ?_
    simp
    refine AM.wp_skip ?_
    simp
    refine AM.wp_region ?_
    simp [h40, hwr]
    refine ⟨15 - (i + 1), by omega, i + 1, by omega, by omega, h38, h39, ?_, h5⟩
    simp
  · simp [hlt]
    refine AM.wp_exit ?_
    simp
    refine wp_seq_region ?_
    simp
    refine wpCallV_fn ?_
    refine new_wp hw15 (by decide) (by decide) ?_
    simp
    have kA := Keeps.alloc s' (.cells [.bool false, .str [], .nilSlice, .int .i64 0, .bool false, .str [], .nilSlice, .int .i64 0, .bool false, .str [], .nilSlice, .int .i64 0] false)
    have hwA := kA.wf hw15
    have hhA := hh15.keep kA
    generalize s'.alloc (.cells [.bool false, .str [], .nilSlice, .int .i64 0, .bool false, .str [], .nilSlice, .int .i64 0, .bool false, .str [], .nilSlice, .int .i64 0] false) = A at kA hwA hhA ⊢
    have kC := Keeps.alloc A (.cells [.slice s'.next 0 3 (.lim 3), .nilSlice] false)
    have hwC := kC.wf hwA
    have hhC := hhA.keep kC
    have hcC : (A.alloc (.cells [.slice s'.next 0 3 (.lim 3), .nilSlice] false)).cells A.next = some [.slice s'.next 0 3 (.lim 3), .nilSlice] := by simp
    have hoC : (A.alloc (.cells [.slice s'.next 0 3 (.lim 3), .nilSlice] false)).Old A.next := old_alloc_next _ _
    generalize A.alloc (.cells [.slice s'.next 0 3 (.lim 3), .nilSlice] false) = C at kC hwC hhC hcC hoC ⊢
    generalize A.next = N at hcC hoC ⊢
    refine wp_seq_region ?_
    simp [h5]
    refine wpCallV_fn ?_
    refine size_none hwC hhC fun D kD => ?_
    have hwD := kD.wf hwC
    have hhD := hhC.keep kD
    have hcD := (kD.cells hoC).trans hcC
    have hoD := kD.old hoC
    simp [h5]
    refine wpCallV_fn ?_
    refine free_none hwD hhD fun E kE => ?_
    have hwE := kE.wf hwD
    have hhE := hhD.keep kE
    have hcE := (kE.cells hoD).trans hcD
    simp [h5]
    refine wpCallV_fn ?_
    refine same_left hhE ?_
    simp [h5]
    refine wpCallV_fn ?_
    refine same_right (n := 3) hcE rfl (by decide) hhE ?_
    simp [h5]
    refine wpCallV_fn ?_
    refine same_left hhE ?_
    simp [h5]
    refine wpCallV_fn ?_
    refine wpCall_orc orc_awake ?_
    simp
    refine AM.wp_ret ?_
    exact hQ _ _ (by simp)
theorem law_walk {s : St} {v : AVal} {mb : Bool} (hw : s.Wf) (ho : OpVal s v) : wpCall Tryd.prog 8 [v, .bool mb] s fun r _ => r = .bool true := by
  have ho' := ho
  obtain ⟨k, nm, kids, a, b, c, nodes, r, n, m, rfl, hn, hno, hm⟩ := ho.ex
  have hkt : ∀ l, ¬ kids = .tup l := by
    rintro l rfl
    cases hn
  have hnd : ∀ l, ¬ nodes = .tup l := by
    rintro l rfl
    have := hno.len
    cases this
  refine wpCall_of (orc_ne (by decide)) fi8 rfl (by decide) rfl ?_
  refine wp_seq_region ?_
  simp
  refine AM.wp_seq ?_
  refine wp_seq_region ?_
  simp
  refine wpCallV_fn ?_
  refine big_wp (wf_alloc _ hw) (ho'.keep (Keeps.alloc _ _)) fun big s1 hk1 => ?_
  simp
  refine AM.wp_condP ?_
  cases big with
  | true =>
    simp
    refine wp_seq_region ?_
    simp
    refine wpCallV_fn ?_
    refine wpCall_orc orc_awake ?_
    simp
    refine AM.wp_ret ?_
    simp
  | false =>
  simp
  refine AM.wp_skip ?_
  simp
  have hw1 : s1.Wf := hk1.wf (wf_alloc _ hw)
  have hp1 := hk1.old (old_alloc_next s (.cells [.int .i64 k, .str nm, kids, .int .i64 a, .int .i64 b, .int .i64 c, nodes, .int .i64 r] false))
  have hc1 : s1.cells s.next = some [.int .i64 k, .str nm, kids, .int .i64 a, .int .i64 b, .int .i64 c, nodes, .int .i64 r] := (hk1.cells (old_alloc_next _ _)).trans (by simp)
  refine wp_seq_region ?_
  simp
  refine AM.wp_seq ?_
  refine wp_seq_region ?_
  simp
  refine AM.wp_condP ?_
  cases mb with
  | true =>
    simp
    refine AM.wp_region ?_
    simp
    refine law_rest (p := s.next) (h := .ptr (s1.next) 0) (wf_alloc _ hw1) ((Keeps.alloc _ _).old hp1) (((Keeps.alloc _ _).cells hp1).trans hc1) (.inr ⟨_, _, _, _, rfl, old_alloc_next _ _, by simp; rfl, rfl, rfl⟩) (by simp) (by simp) hkt hnd fun t s' h4 => ?_
    simp [h4]
  | false =>
    simp
    refine AM.wp_skip ?_
    simp
    refine law_rest (p := s.next) (h := .nilPtr) hw1 hp1 hc1 (.inl rfl) (by simp) (by simp) hkt hnd fun t s' h4 => ?_
    simp [h4]
end Go.Proofs
