/- HeapNone: the walk of the methods at what is no heap. -/
import Derived.Test.YtoipnedbpjfeiaaDoorAmCodes8
import Derived.Test.YtoipnedbpjfeiaaDoorAmBase8
set_option linter.all false
set_option linter.unusedSectionVars false
set_option linter.unusedSimpArgs false
set_option linter.unusedVariables false
open Go Go.AM
namespace Go.Proofs
set_option maxRecDepth 100000
def NoHeap (s : St) (h : AVal) : Prop := h = .nilPtr ∨ ∃ b o cs v, h = .ptr b o ∧ s.Old b ∧ s.cells b = some cs ∧ cs[o]? = some v ∧ slcLen v = some 0
theorem NoHeap.keep {s s' : St} {h : AVal} (hn : NoHeap s h) (k : Keeps s s') : NoHeap s' h := by
  rcases hn with rfl | ⟨b, o, cs, v, rfl, h1, h2, h3, h4⟩
  · exact .inl rfl
  · exact .inr ⟨b, o, cs, v, rfl, k.old h1, (k.cells h1).trans h2, h3, h4⟩
theorem none_wp {s : St} {h : AVal} {Q : AVal → St → Prop} (hn : NoHeap s h) (q : Q (.bool true) s) : wpCall Tryd.prog 43 [h] s Q := by
  rcases hn with rfl | ⟨b, o, cs, v, rfl, h1, h2, h3, h4⟩
  · refine wpCall_of (orc_ne (by decide)) fi43 rfl (by decide) rfl ?_
    refine wp_seq_region ?_
    simp
    refine wp_seq_region ?_
    simp
    refine AM.wp_ret ?_
    simpa
  · refine wpCall_of (orc_ne (by decide)) fi43 rfl (by decide) rfl ?_
    refine wp_seq_region ?_
    simp
    refine wp_seq_region ?_
    simp [h2, h3, h4]
    refine AM.wp_ret ?_
    simpa
theorem NoHeap.cells {s : St} {h : AVal} (hn : NoHeap s h) : h.cells = [h] := by
  rcases hn with rfl | ⟨b, o, cs, v, rfl, h1, h2, h3, h4⟩ <;> rfl
theorem NoHeap.ntup {s : St} {h : AVal} (hn : NoHeap s h) : ∀ t, ¬ h = .tup t := by
  rcases hn with rfl | ⟨b, o, cs, v, rfl, h1, h2, h3, h4⟩ <;> simp
@[simp] theorem ls42 : loadSz Tryd.prog 42 = some (some 2) := by kernel_rfl
@[simp] theorem ls4 : loadSz Tryd.prog 4 = some none := by kernel_rfl
@[simp] theorem ls25 : loadSz Tryd.prog 25 = some none := by kernel_rfl
theorem make_none {s : St} {h a0 a1 : AVal} {Q : AVal → St → Prop} (hw : s.Wf) (hn : NoHeap s h) (q : ∀ s', Keeps s s' → Q (.tup [.int .i64 0, .int .i64 6]) s') : wpCall Tryd.prog 11 [h, a0, a1] s Q := by
  refine wpCall_of (orc_ne (by decide)) fi11 rfl (by decide) rfl ?_
  have hcc := hn.cells
  have hnt := hn.ntup
  repeat (first
    | refine wp_seq_region ?_
    | refine AM.wp_seq ?_
    | refine AM.wp_block ?_
    | refine AM.wp_scope ?_
    | refine AM.wp_ret ?_
    | refine AM.wp_condP ?_
    | refine AM.wp_skip ?_
    | refine AM.wp_region ?_
    | (refine wpCallV_fn ?_; simp only [List.nil_append, List.append_nil]; refine none_wp hn ?_)) <;> try simp [hcc, hnt, hw]
  exact q _ (Keeps.refl _)
theorem tie_none {s : St} {h a0 a1 a2 : AVal} {Q : AVal → St → Prop} (hw : s.Wf) (hn : NoHeap s h) (q : ∀ s', Keeps s s' → Q (.int .i64 6) s') : wpCall Tryd.prog 12 [h, a0, a1, a2] s Q := by
  refine wpCall_of (orc_ne (by decide)) fi12 rfl (by decide) rfl ?_
  have hcc := hn.cells
  have hnt := hn.ntup
  repeat (first
    | refine wp_seq_region ?_
    | refine AM.wp_seq ?_
    | refine AM.wp_block ?_
    | refine AM.wp_scope ?_
    | refine AM.wp_ret ?_
    | refine AM.wp_condP ?_
    | refine AM.wp_skip ?_
    | refine AM.wp_region ?_
    | (refine wpCallV_fn ?_; simp only [List.nil_append, List.append_nil]; refine none_wp hn ?_)) <;> try simp [hcc, hnt, hw]
  exact q _ (Keeps.refl _)
theorem merge_none {s : St} {h : AVal} {Q : AVal → St → Prop} (hw : s.Wf) (hn : NoHeap s h) (q : ∀ s', Keeps s s' → Q (.tup [.int .i64 0, .int .i64 6]) s') : wpCall Tryd.prog 13 [h] s Q := by
  refine wpCall_of (orc_ne (by decide)) fi13 rfl (by decide) rfl ?_
  have hcc := hn.cells
  have hnt := hn.ntup
  repeat (first
    | refine wp_seq_region ?_
    | refine AM.wp_seq ?_
    | refine AM.wp_block ?_
    | refine AM.wp_scope ?_
    | refine AM.wp_ret ?_
    | refine AM.wp_condP ?_
    | refine AM.wp_skip ?_
    | refine AM.wp_region ?_
    | (refine wpCallV_fn ?_; simp only [List.nil_append, List.append_nil]; refine none_wp (hn.keep (Keeps.alloc _ _)) ?_)) <;> try simp [hcc, hnt, hw]
  exact q _ (Keeps.alloc _ _)
theorem size_none {s : St} {h : AVal} {Q : AVal → St → Prop} (hw : s.Wf) (hn : NoHeap s h) (q : ∀ s', Keeps s s' → Q (.int .i64 0) s') : wpCall Tryd.prog 14 [h] s Q := by
  refine wpCall_of (orc_ne (by decide)) fi14 rfl (by decide) rfl ?_
  have hcc := hn.cells
  have hnt := hn.ntup
  repeat (first
    | refine wp_seq_region ?_
    | refine AM.wp_seq ?_
    | refine AM.wp_block ?_
    | refine AM.wp_scope ?_
    | refine AM.wp_ret ?_
    | refine AM.wp_condP ?_
    | refine AM.wp_skip ?_
    | refine AM.wp_region ?_
    | (refine wpCallV_fn ?_; simp only [List.nil_append, List.append_nil]; refine none_wp hn ?_)) <;> try simp [hcc, hnt, hw]
  exact q _ (Keeps.refl _)
theorem free_none {s : St} {h : AVal} {Q : AVal → St → Prop} (hw : s.Wf) (hn : NoHeap s h) (q : ∀ s', Keeps s s' → Q (.int .i64 0) s') : wpCall Tryd.prog 18 [h] s Q := by
  refine wpCall_of (orc_ne (by decide)) fi18 rfl (by decide) rfl ?_
  have hcc := hn.cells
  have hnt := hn.ntup
  repeat (first
    | refine wp_seq_region ?_
    | refine AM.wp_seq ?_
    | refine AM.wp_block ?_
    | refine AM.wp_scope ?_
    | refine AM.wp_ret ?_
    | refine AM.wp_condP ?_
    | refine AM.wp_skip ?_
    | refine AM.wp_region ?_
    | (refine wpCallV_fn ?_; simp only [List.nil_append, List.append_nil]; refine none_wp hn ?_)) <;> try simp [hcc, hnt, hw]
  exact q _ (Keeps.refl _)
theorem put_none {s : St} {h : AVal} {l : List AVal} {Q : AVal → St → Prop} (hw : s.Wf) (hn : NoHeap s h) (q : ∀ s', Keeps s s' → Q (.tup [.int .i64 0, .int .i64 6]) s') : wpCall Tryd.prog 19 [h, .agg l] s Q := by
  refine wpCall_of (orc_ne (by decide)) fi19 rfl (by decide) rfl ?_
  have hcc := hn.cells
  have hnt := hn.ntup
  repeat (first
    | refine wp_seq_region ?_
    | refine AM.wp_seq ?_
    | refine AM.wp_block ?_
    | refine AM.wp_scope ?_
    | refine AM.wp_ret ?_
    | refine AM.wp_condP ?_
    | refine AM.wp_skip ?_
    | refine AM.wp_region ?_
    | (refine wpCallV_fn ?_; simp only [List.nil_append, List.append_nil]; refine none_wp (hn.keep (Keeps.alloc _ _)) ?_)) <;> try simp [hcc, hnt, hw]
  exact q _ (Keeps.alloc _ _)
theorem find_none {s : St} {h : AVal} {l : List AVal} {Q : AVal → St → Prop} (hw : s.Wf) (hn : NoHeap s h) (q : ∀ s', Keeps s s' → Q (.tup [.int .i64 0, .int .i64 6]) s') : wpCall Tryd.prog 20 [h, .agg l] s Q := by
  refine wpCall_of (orc_ne (by decide)) fi20 rfl (by decide) rfl ?_
  have hcc := hn.cells
  have hnt := hn.ntup
  repeat (first
    | refine wp_seq_region ?_
    | refine AM.wp_seq ?_
    | refine AM.wp_block ?_
    | refine AM.wp_scope ?_
    | refine AM.wp_ret ?_
    | refine AM.wp_condP ?_
    | refine AM.wp_skip ?_
    | refine AM.wp_region ?_
    | (refine wpCallV_fn ?_; simp only [List.nil_append, List.append_nil]; refine none_wp (hn.keep (Keeps.alloc _ _)) ?_)) <;> try simp [hcc, hnt, hw]
  exact q _ (Keeps.alloc _ _)
theorem get_none {s : St} {h a0 : AVal} {Q : AVal → St → Prop} (hw : s.Wf) (hn : NoHeap s h) (q : ∀ s', Keeps s s' → Q (.tup [.agg [.nilSlice, .int .i64 0], .int .i64 6]) s') : wpCall Tryd.prog 22 [h, a0] s Q := by
  refine wpCall_of (orc_ne (by decide)) fi22 rfl (by decide) rfl ?_
  have hcc := hn.cells
  have hnt := hn.ntup
  repeat (first
    | refine wp_seq_region ?_
    | refine AM.wp_seq ?_
    | refine AM.wp_block ?_
    | refine AM.wp_scope ?_
    | refine AM.wp_ret ?_
    | refine AM.wp_condP ?_
    | refine AM.wp_skip ?_
    | refine AM.wp_region ?_
    | (refine wpCallV_fn ?_; simp only [List.nil_append, List.append_nil]; refine none_wp (hn.keep (Keeps.alloc _ _)) ?_)) <;> try simp [hcc, hnt, hw]
  exact q _ ((Keeps.alloc _ _).put _ (not_old_next _) (old_alloc_next _ _))
theorem tight_none {s : St} {h : AVal} {Q : AVal → St → Prop} (hw : s.Wf) (hn : NoHeap s h) (q : ∀ s', Keeps s s' → Q (.tup [.bool false, .int .i64 6]) s') : wpCall Tryd.prog 25 [h] s Q := by
  refine wpCall_of (orc_ne (by decide)) fi25 rfl (by decide) rfl ?_
  have hcc := hn.cells
  have hnt := hn.ntup
  repeat (first
    | refine wp_seq_region ?_
    | refine AM.wp_seq ?_
    | refine AM.wp_block ?_
    | refine AM.wp_scope ?_
    | refine AM.wp_ret ?_
    | refine AM.wp_condP ?_
    | refine AM.wp_skip ?_
    | refine AM.wp_region ?_
    | (refine wpCallV_fn ?_; simp only [List.nil_append, List.append_nil]; refine none_wp (hn.keep ((Keeps.alloc _ _).trans (Keeps.alloc _ _))) ?_)) <;> try simp [hcc, hnt, hw]
  exact q _ ((((Keeps.alloc _ _).allocs _).put _ (not_old_next _) (by simp)).put _ (not_old_alloc _ _) (by simp))
theorem hold_none {s : St} {h a0 : AVal} {Q : AVal → St → Prop} (hw : s.Wf) (hn : NoHeap s h) (q : ∀ s', Keeps s s' → Q (.int .i64 6) s') : wpCall Tryd.prog 27 [h, a0] s Q := by
  refine wpCall_of (orc_ne (by decide)) fi27 rfl (by decide) rfl ?_
  have hcc := hn.cells
  have hnt := hn.ntup
  repeat (first
    | refine wp_seq_region ?_
    | refine AM.wp_seq ?_
    | refine AM.wp_block ?_
    | refine AM.wp_scope ?_
    | refine AM.wp_ret ?_
    | refine AM.wp_condP ?_
    | refine AM.wp_skip ?_
    | refine AM.wp_region ?_
    | (refine wpCallV_fn ?_; simp only [List.nil_append, List.append_nil]; refine none_wp hn ?_)) <;> try simp [hcc, hnt, hw]
  exact q _ (Keeps.refl _)
theorem sweep_none {s : St} {h : AVal} {Q : AVal → St → Prop} (hw : s.Wf) (hn : NoHeap s h) (q : ∀ s', Keeps s s' → Q (.tup [.int .i64 0, .int .i64 6]) s') : wpCall Tryd.prog 29 [h] s Q := by
  refine wpCall_of (orc_ne (by decide)) fi29 rfl (by decide) rfl ?_
  have hcc := hn.cells
  have hnt := hn.ntup
  repeat (first
    | refine wp_seq_region ?_
    | refine AM.wp_seq ?_
    | refine AM.wp_block ?_
    | refine AM.wp_scope ?_
    | refine AM.wp_ret ?_
    | refine AM.wp_condP ?_
    | refine AM.wp_skip ?_
    | refine AM.wp_region ?_
    | (refine wpCallV_fn ?_; simp only [List.nil_append, List.append_nil]; refine none_wp hn ?_)) <;> try simp [hcc, hnt, hw]
  exact q _ (Keeps.refl _)
theorem drop_none {s : St} {h a0 : AVal} {Q : AVal → St → Prop} (hw : s.Wf) (hn : NoHeap s h) (q : ∀ s', Keeps s s' → Q (.int .i64 6) s') : wpCall Tryd.prog 31 [h, a0] s Q := by
  refine wpCall_of (orc_ne (by decide)) fi31 rfl (by decide) rfl ?_
  have hcc := hn.cells
  have hnt := hn.ntup
  repeat (first
    | refine wp_seq_region ?_
    | refine AM.wp_seq ?_
    | refine AM.wp_block ?_
    | refine AM.wp_scope ?_
    | refine AM.wp_ret ?_
    | refine AM.wp_condP ?_
    | refine AM.wp_skip ?_
    | refine AM.wp_region ?_
    | (refine wpCallV_fn ?_; simp only [List.nil_append, List.append_nil]; refine none_wp hn ?_)) <;> try simp [hcc, hnt, hw]
  exact q _ (Keeps.refl _)
theorem save_none {s : St} {h : AVal} {Q : AVal → St → Prop} (hw : s.Wf) (hn : NoHeap s h) (q : ∀ s', Keeps s s' → Q (.tup [.int .i64 0, .int .i64 6]) s') : wpCall Tryd.prog 36 [h] s Q := by
  refine wpCall_of (orc_ne (by decide)) fi36 rfl (by decide) rfl ?_
  have hcc := hn.cells
  have hnt := hn.ntup
  repeat (first
    | refine wp_seq_region ?_
    | refine AM.wp_seq ?_
    | refine AM.wp_block ?_
    | refine AM.wp_scope ?_
    | refine AM.wp_ret ?_
    | refine AM.wp_condP ?_
    | refine AM.wp_skip ?_
    | refine AM.wp_region ?_
    | (refine wpCallV_fn ?_; simp only [List.nil_append, List.append_nil]; refine none_wp hn ?_)) <;> try simp [hcc, hnt, hw]
  exact q _ (Keeps.refl _)
theorem pack_none {s : St} {h : AVal} {Q : AVal → St → Prop} (hw : s.Wf) (hn : NoHeap s h) (q : ∀ s', Keeps s s' → Q (.tup [.nilSlice, .int .i64 6]) s') : wpCall Tryd.prog 37 [h] s Q := by
  refine wpCall_of (orc_ne (by decide)) fi37 rfl (by decide) rfl ?_
  have hcc := hn.cells
  have hnt := hn.ntup
  repeat (first
    | refine wp_seq_region ?_
    | refine AM.wp_seq ?_
    | refine AM.wp_block ?_
    | refine AM.wp_scope ?_
    | refine AM.wp_ret ?_
    | refine AM.wp_condP ?_
    | refine AM.wp_skip ?_
    | refine AM.wp_region ?_
    | (refine wpCallV_fn ?_; simp only [List.nil_append, List.append_nil]; refine none_wp (hn.keep (Keeps.alloc _ _)) ?_)) <;> try simp [hcc, hnt, hw]
  exact q _ (Keeps.alloc _ _)
theorem held_none {s : St} {h : AVal} {Q : AVal → St → Prop} (hw : s.Wf) (hn : NoHeap s h) (q : ∀ s', Keeps s s' → Q (.tup [.nilSlice, .int .i64 6]) s') : wpCall Tryd.prog 38 [h] s Q := by
  refine wpCall_of (orc_ne (by decide)) fi38 rfl (by decide) rfl ?_
  have hcc := hn.cells
  have hnt := hn.ntup
  repeat (first
    | refine wp_seq_region ?_
    | refine AM.wp_seq ?_
    | refine AM.wp_block ?_
    | refine AM.wp_scope ?_
    | refine AM.wp_ret ?_
    | refine AM.wp_condP ?_
    | refine AM.wp_skip ?_
    | refine AM.wp_region ?_
    | (refine wpCallV_fn ?_; simp only [List.nil_append, List.append_nil]; refine none_wp hn ?_)) <;> try simp [hcc, hnt, hw]
  exact q _ (Keeps.refl _)
theorem back_none {s : St} {h a0 : AVal} {Q : AVal → St → Prop} (hw : s.Wf) (hn : NoHeap s h) (q : ∀ s', Keeps s s' → Q (.int .i64 6) s') : wpCall Tryd.prog 40 [h, a0] s Q := by
  refine wpCall_of (orc_ne (by decide)) fi40 rfl (by decide) rfl ?_
  have hcc := hn.cells
  have hnt := hn.ntup
  repeat (first
    | refine wp_seq_region ?_
    | refine AM.wp_seq ?_
    | refine AM.wp_block ?_
    | refine AM.wp_scope ?_
    | refine AM.wp_ret ?_
    | refine AM.wp_condP ?_
    | refine AM.wp_skip ?_
    | refine AM.wp_region ?_
    | (refine wpCallV_fn ?_; simp only [List.nil_append, List.append_nil]; refine none_wp hn ?_)) <;> try simp [hcc, hnt, hw]
  exact q _ (Keeps.refl _)
theorem alike_none {s : St} {h a0 a1 : AVal} {Q : AVal → St → Prop} (hw : s.Wf) (hn : NoHeap s h) (q : ∀ s', Keeps s s' → Q (.tup [.bool false, .int .i64 6]) s') : wpCall Tryd.prog 42 [h, a0, a1] s Q := by
  refine wpCall_of (orc_ne (by decide)) fi42 rfl (by decide) rfl ?_
  have hcc := hn.cells
  have hnt := hn.ntup
  repeat (first
    | refine wp_seq_region ?_
    | refine AM.wp_seq ?_
    | refine AM.wp_block ?_
    | refine AM.wp_scope ?_
    | refine AM.wp_ret ?_
    | refine AM.wp_condP ?_
    | refine AM.wp_skip ?_
    | refine AM.wp_region ?_
    | (refine wpCallV_fn ?_; simp only [List.nil_append, List.append_nil]; refine none_wp hn ?_)) <;> try simp [hcc, hnt, hw]
  exact q _ (Keeps.refl _)
theorem some_wp {s : St} {b : Pos} {c : List AVal} {v : AVal} {n : Nat} {Q : AVal → St → Prop} (h1 : s.cells b = some (v :: c)) (h2 : slcLen v = some n) (h3 : n ≠ 0) (q : Q (.bool false) s) : wpCall Tryd.prog 43 [.ptr b 0] s Q := by
  refine wpCall_of (orc_ne (by decide)) fi43 rfl (by decide) rfl ?_
  refine wp_seq_region ?_
  simp
  refine wp_seq_region ?_
  simp [h1, h2, h3]
  refine AM.wp_ret ?_
  simpa
theorem new_wp {s : St} {n : Int} {Q : AVal → St → Prop} (hw : s.Wf) (h1 : 1 ≤ n) (h2 : n ≤ 400)
    (q : Q (.tup [.ptr (s.alloc (.cells (List.replicate n.toNat [.bool false, .str [], .nilSlice, .int .i64 0]).flatten false)).next 0, .int .i64 0])
      ((s.alloc (.cells (List.replicate n.toNat [.bool false, .str [], .nilSlice, .int .i64 0]).flatten false)).alloc (.cells [.slice s.next 0 n.toNat (.lim n.toNat), .nilSlice] false))) : wpCall Tryd.prog 10 [.int .i64 n] s Q := by
  refine wpCall_of (orc_ne (by decide)) fi10 rfl (by decide) rfl ?_
  have h3 : ¬ n < 1 := by omega
  have h4 : ¬ 400 < n := by omega
  have h5 : 0 ≤ n := by omega
  have h6 : n.toNat * 56 ≤ smallB := by unfold smallB; omega
  have h7 : n.toNat ≤ smallB := by unfold smallB; omega
  repeat (first
    | refine wp_seq_region ?_
    | refine AM.wp_seq ?_
    | refine AM.wp_block ?_
    | refine AM.wp_scope ?_
    | refine AM.wp_ret ?_
    | refine AM.wp_condP ?_
    | refine AM.wp_skip ?_
    | refine AM.wp_region ?_
    | (refine wpCallV_fn ?_; simp only [List.nil_append, List.append_nil]; refine none_wp hn ?_)) <;> try simp [h3, h4, h5, h6, h7]

  exact q
theorem same_left {s : St} {h k : AVal} {Q : AVal → St → Prop} (hn : NoHeap s h) (q : Q (.bool false) s) : wpCall Tryd.prog 35 [h, k] s Q := by
  refine wpCall_of (orc_ne (by decide)) fi35 rfl (by decide) rfl ?_
  repeat (first
    | refine wp_seq_region ?_
    | refine AM.wp_seq ?_
    | refine AM.wp_block ?_
    | refine AM.wp_scope ?_
    | refine AM.wp_ret ?_
    | refine AM.wp_condP ?_
    | refine AM.wp_skip ?_
    | refine AM.wp_region ?_
    | (refine wpCallV_fn ?_; simp only [List.nil_append, List.append_nil]; refine none_wp hn ?_)) <;> try simp 

  exact q
theorem same_right {s : St} {b : Pos} {c : List AVal} {v h : AVal} {n : Nat} {Q : AVal → St → Prop} (h1 : s.cells b = some (v :: c)) (h2 : slcLen v = some n) (h3 : n ≠ 0) (hn : NoHeap s h) (q : Q (.bool false) s) : wpCall Tryd.prog 35 [.ptr b 0, h] s Q := by
  refine wpCall_of (orc_ne (by decide)) fi35 rfl (by decide) rfl ?_
  repeat (first
    | refine wp_seq_region ?_
    | refine AM.wp_seq ?_
    | refine AM.wp_block ?_
    | refine AM.wp_scope ?_
    | refine AM.wp_ret ?_
    | refine AM.wp_condP ?_
    | refine AM.wp_skip ?_
    | refine AM.wp_region ?_
    | (refine wpCallV_fn ?_; simp only [List.nil_append, List.append_nil]; refine none_wp hn ?_)
    | (refine wpCallV_fn ?_; simp only [List.nil_append, List.append_nil]; refine some_wp h1 h2 h3 ?_)) <;> try simp 
  exact q
theorem node_wp {s : St} {nm : List UInt8} {kv : AVal} {n : Nat} {Q : AVal → St → Prop} (hw : s.Wf) (hk : slcLen kv = some n) (q : ∀ b s', Keeps s s' → Q (.bool b) s') : wpCall Tryd.prog 102 [.agg [.str nm, kv]] s Q := by
  refine wpCall_of (orc_ne (by decide)) fi102 rfl (by decide) rfl ?_
  refine wp_seq_region ?_
  simp
  refine wp_seq_region ?_
  by_cases hc : (12 : Int) < n
  · simp [hk, hc]
    refine AM.wp_ret ?_
    simp
    exact q _ _ (Keeps.alloc _ _)
  · simp [hk, hc]
    refine AM.wp_ret ?_
    simp
    exact q _ _ (Keeps.alloc _ _)
/-- A row of nodes. -/
def NodesOK (s : St) (v : AVal) (m : Nat) : Prop := (slcLen v = some 0 ∧ m = 0) ∨ ∃ p o c cs, v = .slice p o m c ∧ s.Old p ∧ s.cells p = some cs ∧ o + m * 2 ≤ cs.length ∧ ∀ i, i < m → ∃ nm kv n, (cs.drop (o + i * 2)).take 2 = [.str nm, kv] ∧ slcLen kv = some n
theorem NodesOK.keep {s s' : St} {v : AVal} {m : Nat} (h : NodesOK s v m) (k : Keeps s s') : NodesOK s' v m := by
  rcases h with h | ⟨p, o, c, cs, h1, h2, h3, h4⟩
  · exact .inl h
  · exact .inr ⟨p, o, c, cs, h1, k.old h2, (k.cells h2).trans h3, h4⟩
theorem NodesOK.len {s : St} {v : AVal} {m : Nat} (h : NodesOK s v m) : slcLen v = some m := by
  rcases h with ⟨h1, rfl⟩ | ⟨p, o, c, cs, rfl, h2, h3, h4⟩
  · exact h1
  · rfl
theorem index_wp {s : St} {v : AVal} {m : Nat} {Q : AVal → St → Prop} (hw : s.Wf) (hm : m ≤ 2 ^ 63 - 1) (hn : NodesOK s v m) (q : ∀ i s', Keeps s s' → Q (.int .i64 i) s') : wpCall Tryd.prog 115 [v, .fn 102 [] []] s Q := by
  refine wpCall_of (orc_ne (by decide)) fi115 rfl (by decide) rfl ?_
  refine wp_seq_region ?_
  simp
  refine AM.wp_seq ?_
  refine wp_seq_region ?_
  simp [hn.len]
  refine AM.wp_block ?_
  refine AM.wp_loop (fun n t s' => ∃ i : Nat, i ≤ m ∧ n = m - i ∧ PT.get (posOf 0) t = some v ∧ PT.get (posOf 1) t = some (.fn 102 [] []) ∧ PT.get (posOf 7) t = some (.int .i64 m) ∧ PT.get (posOf 8) t = some (.int .i64 i) ∧ Keeps s s') m ⟨0, by simp, by simp, by simp, by simp, by simp, by simp, Keeps.refl s⟩ ?_
  rintro n t s' ⟨i, hi, rfl, h0, h1, h7, h8, hk⟩
  refine wp_seq_region ?_
  simp [h7, h8]
  refine AM.wp_seq ?_
  refine AM.wp_condP ?_
  by_cases hlt : i < m
  · simp [hlt]
    refine AM.wp_skip ?_
    simp
    rcases hn.keep hk with ⟨_, rfl⟩ | ⟨p, o, c, cs, rfl, hp, hcs, hlen, hel⟩
    · omega
    obtain ⟨nm, kv, kn, htk, hkv⟩ := hel i hlt
    have hwr : IntKind.wrap .i64 ((i : Int) + 1) = ((i + 1 : Nat) : Int) := by rw [IntWalk.i64_in _ (by omega)]; omega
    refine AM.wp_seq ?_
    refine AM.wp_block ?_
    refine wp_seq_region ?_
    simp [h8]
    refine wp_seq_region ?_
    simp [h0, h1, hlt, hcs, htk, show o + i * 2 + 2 ≤ cs.length by omega]
    refine wpCallV_fn ?_
    refine node_wp (hk.wf hw) hkv fun b s2 hk2 => ?_
    simp
    refine AM.wp_condP ?_
    cases b with
    | true =>
      simp
      refine wp_seq_region ?_
      simp
      refine AM.wp_ret ?_
      simp
      exact q _ _ (hk.trans hk2)
    | false =>
      simp
      refine AM.wp_skip ?_
      simp
      refine AM.wp_region ?_
      simp [h8, hwr]
      exact ⟨m - (i + 1), by omega, i + 1, by omega, by omega, h0, h1, h7, by simp, hk.trans hk2⟩
  · simp [hlt]
    refine AM.wp_exit ?_
    simp
    refine wp_seq_region ?_
    simp
    refine AM.wp_ret ?_
    simp
    exact q _ _ hk
theorem contains_wp {s : St} {v : AVal} {m : Nat} {Q : AVal → St → Prop} (hw : s.Wf) (hm : m ≤ 2 ^ 63 - 1) (hn : NodesOK s v m) (q : ∀ b s', Keeps s s' → Q (.bool b) s') : wpCall Tryd.prog 101 [v, .fn 102 [] []] s Q := by
  refine wpCall_of (orc_ne (by decide)) fi101 rfl (by decide) rfl ?_
  refine wp_seq_region ?_
  simp
  refine wp_seq_region ?_
  simp
  refine wpCallV_fn ?_
  refine index_wp hw hm hn fun i s' hk => ?_
  simp
  refine AM.wp_ret ?_
  simp
  exact q _ _ hk
theorem great_wp {s : St} {v : AVal} {m : Nat} {r : Int} {Q : AVal → St → Prop} (hw : s.Wf) (hm : m ≤ 2 ^ 63 - 1) (hn : NodesOK s v m) (q : ∀ b s', Keeps s s' → Q (.bool b) s') : wpCall Tryd.prog 83 [.agg [v, .int .i64 r]] s Q := by
  refine wpCall_of (orc_ne (by decide)) fi83 rfl (by decide) rfl ?_
  refine wp_seq_region ?_
  simp
  refine wp_seq_region ?_
  by_cases hc : (68 : Int) < m
  · simp [hn.len, hc]
    refine AM.wp_ret ?_
    simp
    exact q _ _ (Keeps.alloc _ _)
  · simp [hn.len, hc]
    refine wpCallV_fn ?_
    refine contains_wp (wf_alloc _ hw) hm (hn.keep (Keeps.alloc _ _)) fun b s' hk => ?_
    simp [hc]
    refine AM.wp_ret ?_
    simp
    exact q _ _ ((Keeps.alloc _ _).trans hk)
/-- What is done. -/
structure OpVal (s : St) (v : AVal) : Prop where
  ex : ∃ k nm kids a b c nodes r n m, v = .agg [.int .i64 k, .str nm, kids, .int .i64 a, .int .i64 b, .int .i64 c, nodes, .int .i64 r] ∧ slcLen kids = some n ∧ NodesOK s nodes m ∧ m ≤ 2 ^ 63 - 1
theorem big_wp {s : St} {v : AVal} {Q : AVal → St → Prop} (hw : s.Wf) (ho : OpVal s v) (q : ∀ b s', Keeps s s' → Q (.bool b) s') : wpCall Tryd.prog 41 [v] s Q := by
  obtain ⟨k, nm, kids, a, b, c, nodes, r, n, m, rfl, hn, hno, hm⟩ := ho.ex
  refine wpCall_of (orc_ne (by decide)) fi41 rfl (by decide) rfl ?_
  refine wp_seq_region ?_
  simp
  refine wp_seq_region ?_
  by_cases hc : (40 : Int) < nm.length
  · simp [hn, hc]
    refine AM.wp_ret ?_
    simp
    exact q _ _ (Keeps.alloc _ _)
  · by_cases hd : (9 : Int) < n
    · simp [hn, hc, hd]
      refine AM.wp_ret ?_
      simp
      exact q _ _ (Keeps.alloc _ _)
    · simp [hn, hc, hd]
      refine wpCallV_fn ?_
      refine great_wp (wf_alloc _ hw) hm (hno.keep (Keeps.alloc _ _)) fun b s' hk => ?_
      simp [hc, hd]
      refine AM.wp_ret ?_
      simp
      exact q _ _ ((Keeps.alloc _ _).trans hk)
end Go.Proofs
