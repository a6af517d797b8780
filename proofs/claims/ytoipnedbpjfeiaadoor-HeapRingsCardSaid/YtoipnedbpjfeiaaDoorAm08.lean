/- Parts of the proof: Cls7, Mrg4, Wrap, Mov3, Mrg5, Per, Ring1, Ring2, Open3, Ring3, Ring4, MinSym, Ring5. -/
import Derived.Test.YtoipnedbpjfeiaaDoorChecked
import Derived.Test.YtoipnedbpjfeiaaDoorTie
import Derived.ProofKit
import Derived.Test.YtoipnedbpjfeiaaDoorAm07
set_option linter.all false
set_option linter.unusedSectionVars false
set_option linter.unusedSimpArgs false
set_option linter.unusedVariables false
section
/- classes, in plain: how many classes there are, when the rounds end, and what has one class then. -/
open Go Go.AM
namespace Go.Proofs
/-- How many new values a function takes along a list, behind some elements. -/
def news {α κ : Type} [DecidableEq κ] (f : α → κ) : List α → List α → Nat
  | _, [] => 0
  | E, a :: L => (if E.any (fun e => decide (f e = f a)) = true then 0 else 1) + news f (E ++ [a]) L
theorem news_le {α κ : Type} [DecidableEq κ] (f : α → κ) : ∀ (L E : List α), news f E L ≤ L.length
  | [], E => Nat.le_refl _
  | a :: L, E => by
    have := news_le f L (E ++ [a])
    simp only [news, List.length_cons]
    split <;> omega
theorem any_of {α κ : Type} [DecidableEq κ] {f : α → κ} {E : List α} {a : α} : E.any (fun e => decide (f e = f a)) = true ↔ ∃ e ∈ E, f e = f a := by
  simp
theorem news_mono {α κ μ : Type} [DecidableEq κ] [DecidableEq μ] {f : α → κ} {g : α → μ} : ∀ (L E : List α), (∀ a ∈ E ++ L, ∀ b ∈ E ++ L, f a = f b → g a = g b) → news g E L ≤ news f E L
  | [], E, _ => Nat.le_refl _
  | a :: L, E, h => by
    have ih := news_mono (f := f) (g := g) L (E ++ [a]) (by simpa using h)
    have h1 : E.any (fun e => decide (f e = f a)) = true → E.any (fun e => decide (g e = g a)) = true := by
      rw [any_of, any_of]
      rintro ⟨e, he, hf⟩
      exact ⟨e, he, h e (by simp [he]) a (by simp) hf⟩
    simp only [news]
    by_cases hf : E.any (fun e => decide (f e = f a)) = true
    · rw [if_pos hf, if_pos (h1 hf)]; omega
    · rw [if_neg hf]
      split <;> omega
/-- Where a function that parts more takes as many values it parts no more. -/
theorem news_same {α κ μ : Type} [DecidableEq κ] [DecidableEq μ] {f : α → κ} {g : α → μ} : ∀ (L E : List α), (∀ a ∈ E ++ L, ∀ b ∈ E ++ L, f a = f b → g a = g b) → news g E L = news f E L →
    (∀ a ∈ E, ∀ b ∈ E, g a = g b → f a = f b) → ∀ a ∈ E ++ L, ∀ b ∈ E ++ L, g a = g b → f a = f b
  | [], E, _, _, hE => by simpa using hE
  | a :: L, E, h, he, hE => by
    have hm := news_mono (f := f) (g := g) L (E ++ [a]) (by simpa using h)
    have h1 : E.any (fun e => decide (f e = f a)) = true → E.any (fun e => decide (g e = g a)) = true := by
      rw [any_of, any_of]
      rintro ⟨e, he, hf⟩
      exact ⟨e, he, h e (by simp [he]) a (by simp) hf⟩
    simp only [news] at he
    have hkey : news g (E ++ [a]) L = news f (E ++ [a]) L ∧ (E.any (fun e => decide (g e = g a)) = true → E.any (fun e => decide (f e = f a)) = true) := by
      by_cases hf : E.any (fun e => decide (f e = f a)) = true
      · rw [if_pos hf, if_pos (h1 hf)] at he
        exact ⟨by omega, fun _ => hf⟩
      · rw [if_neg hf] at he
        by_cases hg : E.any (fun e => decide (g e = g a)) = true
        · rw [if_pos hg] at he
          omega
        · rw [if_neg hg] at he
          exact ⟨by omega, fun h => (hg h).elim⟩
    obtain ⟨e1, e2⟩ := hkey
    rw [any_of, any_of] at e2
    have hone : ∀ x ∈ E, g x = g a → f x = f a := by
      intro x hx hg
      obtain ⟨e, he, hf⟩ := e2 ⟨x, hx, hg⟩
      have := h e (by simp [he]) a (by simp) hf
      rw [← hf]
      exact hE x hx e he (hg.trans this.symm)
    have ih := news_same (f := f) (g := g) L (E ++ [a]) (by simpa using h) e1 (by
      intro x hx y hy hg
      simp at hx hy
      rcases hx with hx | rfl
      · rcases hy with hy | rfl
        · exact hE x hx y hy hg
        · exact hone x hx hg
      · rcases hy with hy | rfl
        · exact (hone y hy hg.symm).symm
        · rfl)
    simpa using ih
theorem fold_news {now : List Int} {nds : List (List UInt8 × List Int)} : ∀ (L E : List Nat) (x : List Key × List Int), (∀ k, k ∈ x.1 ↔ ∃ e ∈ E, keyA now nds e = k) →
    (L.foldl (stepA now nds) x).1.length = x.1.length + news (keyA now nds) E L
  | [], E, x, _ => rfl
  | a :: L, E, x, h => by
    rw [List.foldl_cons, fold_news L (E ++ [a]) (stepA now nds x a)]
    · show (addK x.1 (keyA now nds a)).length + _ = _
      simp only [news]
      by_cases hm : keyA now nds a ∈ x.1
      · have h2 := (any_of (f := keyA now nds) (E := E) (a := a)).2 ((h _).1 hm)
        rw [if_pos h2]
        unfold addK
        rw [if_pos hm]
        omega
      · have h2 : ¬ E.any (fun e => decide (keyA now nds e = keyA now nds a)) = true := fun hh => hm ((h _).2 (any_of.1 hh))
        rw [if_neg h2]
        unfold addK
        rw [if_neg hm]
        simp
        omega
    · intro k
      show k ∈ addK x.1 (keyA now nds a) ↔ _
      unfold addK
      split
      · rename_i hm
        rw [h]
        constructor
        · rintro ⟨e, he, hk⟩
          exact ⟨e, by simp [he], hk⟩
        · rintro ⟨e, he, hk⟩
          simp at he
          rcases he with he | rfl
          · exact ⟨e, he, hk⟩
          · obtain ⟨e', he', hk'⟩ := (h _).1 hm
            exact ⟨e', he', hk'.trans hk⟩
      · simp only [List.mem_append, List.mem_singleton]
        rw [h]
        constructor
        · rintro (⟨e, he, hk⟩ | rfl)
          · exact ⟨e, .inl he, hk⟩
          · exact ⟨a, .inr rfl, rfl⟩
        · rintro ⟨e, he | rfl, hk⟩
          · exact .inl ⟨e, he, hk⟩
          · exact .inr hk.symm
theorem cntI_news (nds : List (List UInt8 × List Int)) (L : List Nat) (r : Nat) : cntI nds L (r + 1) = news (keyA (nowI nds L r) nds) [] L := by
  show (roundF (nowI nds L r) nds L).1.length = _
  unfold roundF
  rw [fold_news L [] _ (by simp)]
  simp
/-- A graph's part that is closed. -/
structure Closed (nds : List (List UInt8 × List Int)) (L : List Nat) : Prop where
  lt : ∀ a ∈ L, a < nds.length
  kids : ∀ a ∈ L, ∀ x, nds[a]? = some x → x.2.length ≤ 4 ∧ ∀ k ∈ x.2, k.toNat ∈ L
/-- Two nodes unfold alike, so deep. -/
def sim (nds : List (List UInt8 × List Int)) : Nat → Nat → Nat → Prop
  | 0, _, _ => True
  | r + 1, a, b => ∃ x y, nds[a]? = some x ∧ nds[b]? = some y ∧ x.1 = y.1 ∧ x.2.length = y.2.length ∧ ∀ (j : Nat) (k m : Int), x.2[j]? = some k → y.2[j]? = some m → sim nds r k.toNat m.toNat
section
variable {nds : List (List UInt8 × List Int)} {L : List Nat} (hC : Closed nds L)
include hC
theorem now_sim : ∀ (r a b : Nat), a ∈ L → b ∈ L → ((nowI nds L r)[a]? = (nowI nds L r)[b]? ↔ sim nds r a b)
  | 0, a, b, ha, hb => by simp [nowI, sim, hC.lt a ha, hC.lt b hb]
  | r + 1, a, b, ha, hb => by
    have hna := hC.lt a ha
    have hnb := hC.lt b hb
    have hx : nds[a]? = some nds[a] := List.getElem?_eq_getElem hna
    have hy : nds[b]? = some nds[b] := List.getElem?_eq_getElem hnb
    obtain ⟨h4, hkx⟩ := hC.kids a ha _ hx
    obtain ⟨h4', hky⟩ := hC.kids b hb _ hy
    show (roundF (nowI nds L r) nds L).2[a]? = (roundF (nowI nds L r) nds L).2[b]? ↔ _
    rw [round_eq ha hb hna hnb, key_iff hx hy h4]
    have hj : ∀ (j : Nat) (k m : Int), nds[a].2[j]? = some k → nds[b].2[j]? = some m →
        ((((nds[a].2[j]?).bind fun k => (nowI nds L r)[k.toNat]?).getD 0 = ((nds[b].2[j]?).bind fun k => (nowI nds L r)[k.toNat]?).getD 0) ↔ sim nds r k.toNat m.toNat) := by
      intro j k m hk hm
      have mk := hkx k (List.mem_of_getElem? hk)
      have mm := hky m (List.mem_of_getElem? hm)
      rw [hk, hm, ← now_sim r _ _ mk mm]
      simp only [Option.bind_some]
      have lx : k.toNat < (nowI nds L r).length := by rw [nowI_len]; exact hC.lt _ mk
      have ly : m.toNat < (nowI nds L r).length := by rw [nowI_len]; exact hC.lt _ mm
      rw [List.getElem?_eq_getElem lx, List.getElem?_eq_getElem ly]
      simp
    constructor
    · rintro ⟨e1, e2, e3⟩
      refine ⟨_, _, hx, hy, e1, e2, fun j k m hk hm => (hj j k m hk hm).1 (e3 j ?_)⟩
      exact (List.getElem?_eq_some_iff.1 hk).1
    · rintro ⟨x, y, hx', hy', e1, e2, e3⟩
      rw [hx] at hx'
      rw [hy] at hy'
      cases hx'
      cases hy'
      refine ⟨e1, e2, fun j hj' => ?_⟩
      have gk : nds[a].2[j]? = some nds[a].2[j] := List.getElem?_eq_getElem hj'
      have gm : nds[b].2[j]? = some (nds[b].2[j]'(by omega)) := List.getElem?_eq_getElem (by omega)
      exact (hj j _ _ gk gm).2 (e3 j _ _ gk gm)
theorem key_sim (r a b : Nat) (ha : a ∈ L) (hb : b ∈ L) : keyA (nowI nds L r) nds a = keyA (nowI nds L r) nds b ↔ sim nds (r + 1) a b := by
  rw [← now_sim hC (r + 1) a b ha hb]
  exact (round_eq ha hb (hC.lt a ha) (hC.lt b hb)).symm
theorem sim_less {r a b : Nat} (ha : a ∈ L) (hb : b ∈ L) (h : sim nds (r + 1) a b) : sim nds r a b :=
  (now_sim hC r a b ha hb).1 (nowI_refines hC.lt hC.kids r a b ha hb ((now_sim hC (r + 1) a b ha hb).2 h))
theorem sim_down {r m a b : Nat} (ha : a ∈ L) (hb : b ∈ L) (hm : m ≤ r) (h : sim nds r a b) : sim nds m a b := by
  induction r with
  | zero =>
    have : m = 0 := by omega
    subst this
    exact h
  | succ r ih =>
    rcases Nat.lt_or_ge m (r + 1) with h1 | h1
    · exact ih (by omega) (sim_less hC ha hb h)
    · have : m = r + 1 := by omega
      subst this
      exact h
theorem cntI_mono (r : Nat) : cntI nds L r ≤ cntI nds L (r + 1) := by
  cases r with
  | zero => exact Nat.zero_le _
  | succ r =>
    rw [cntI_news, cntI_news]
    refine news_mono L [] fun a ha b hb h => ?_
    simp at ha hb
    exact (key_sim hC r a b ha hb).2 (sim_less hC ha hb ((key_sim hC (r + 1) a b ha hb).1 h))
theorem cntI_max (r : Nat) : cntI nds L r ≤ L.length := by
  cases r with
  | zero => exact Nat.zero_le _
  | succ r => rw [cntI_news]; exact news_le _ _ _
theorem cntI_grows : ∀ (r : Nat), (∀ m, m < r → cntI nds L (m + 1) ≠ cntI nds L m) → r ≤ cntI nds L r
  | 0, _ => Nat.zero_le _
  | r + 1, h => by
    have h1 := cntI_grows r fun m hm => h m (by omega)
    have h2 := cntI_mono hC r
    have h3 := h r (by omega)
    omega
/-- The rounds end. -/
theorem rounds_end : ∃ R, cntI nds L (R + 1) = cntI nds L R ∧ ∀ r, r < R → cntI nds L (r + 1) ≠ cntI nds L r := by
  have hex : ∃ R, R ≤ L.length ∧ cntI nds L (R + 1) = cntI nds L R := by
    refine Classical.byContradiction fun hn => ?_
    have h1 := cntI_grows hC (L.length + 1) fun m hm he => hn ⟨m, by omega, he⟩
    have h2 := cntI_max hC (L.length + 1)
    omega
  obtain ⟨R, _, hR⟩ := hex
  revert hR
  refine Nat.strongRecOn (motive := fun R => cntI nds L (R + 1) = cntI nds L R → _) R fun n ih hn => ?_
  by_cases h : ∃ r, r < n ∧ cntI nds L (r + 1) = cntI nds L r
  · obtain ⟨r, hr, he⟩ := h
    exact ih r hr he
  · exact ⟨n, hn, fun r hr he => h ⟨r, hr, he⟩⟩
theorem sim_stays {R : Nat} (hE : cntI nds L (R + 1) = cntI nds L R) : ∀ (d a b : Nat), a ∈ L → b ∈ L → sim nds R a b → sim nds (R + d) a b
  | 0, a, b, _, _, h => h
  | d + 1, a, b, ha, hb, h => by
    have hone : ∀ a b, a ∈ L → b ∈ L → sim nds R a b → sim nds (R + 1) a b := by
      intro a b ha hb h
      cases R with
      | zero =>
        have h0 : cntI nds L (0 + 1) = 0 := hE
        rw [cntI_news] at h0
        cases L with
        | nil => cases ha
        | cons c L => simp [news] at h0
      | succ r =>
        rw [cntI_news, cntI_news] at hE
        have := news_same (f := keyA (nowI nds L (r + 1)) nds) (g := keyA (nowI nds L r) nds) L [] (by
          intro a ha b hb h
          simp at ha hb
          exact (key_sim hC r a b ha hb).2 (sim_less hC ha hb ((key_sim hC (r + 1) a b ha hb).1 h))) hE.symm (by simp) a (by simpa using ha) b (by simpa using hb)
        exact (key_sim hC (r + 1) a b ha hb).1 (this ((key_sim hC r a b ha hb).2 h))
    have h1 := hone a b ha hb h
    obtain ⟨x, y, hx, hy, e1, e2, e3⟩ := h1
    refine ⟨x, y, hx, hy, e1, e2, fun j k m hk hm => ?_⟩
    exact sim_stays hE d _ _ ((hC.kids a ha x hx).2 k (List.mem_of_getElem? hk)) ((hC.kids b hb y hy).2 m (List.mem_of_getElem? hm)) (e3 j k m hk hm)
/-- Two nodes have one class in the end iff they unfold alike. -/
theorem class_alike {R : Nat} (hE : cntI nds L (R + 1) = cntI nds L R) {a b : Nat} (ha : a ∈ L) (hb : b ∈ L) : (nowI nds L (R + 1))[a]? = (nowI nds L (R + 1))[b]? ↔ ∀ r, sim nds r a b := by
  rw [now_sim hC (R + 1) a b ha hb]
  constructor
  · intro h r
    have h1 := sim_stays hC hE r a b ha hb (sim_less hC ha hb h)
    exact sim_down hC ha hb (by omega) h1
  · intro h
    exact h _
end
/-- What is not listed has no class. -/
theorem fold_other {now : List Int} {nds : List (List UInt8 × List Int)} : ∀ (L : List Nat) (x : List Key × List Int) (a : Nat), a ∉ L → (L.foldl (stepA now nds) x).2[a]? = x.2[a]?
  | [], x, a, _ => rfl
  | b :: L, x, a, h => by
    simp at h
    rw [List.foldl_cons, fold_other L _ a h.2]
    show (x.2.set b _)[a]? = _
    rw [List.getElem?_set_ne (fun e => h.1 e.symm)]
theorem now_other (nds : List (List UInt8 × List Int)) (L : List Nat) (r a : Nat) (ha : a < nds.length) (h : a ∉ L) : (nowI nds L (r + 1))[a]? = some (-1) := by
  show (roundF (nowI nds L r) nds L).2[a]? = _
  unfold roundF
  rw [fold_other L _ a h]
  simp [ha]
theorem now_listed (nds : List (List UInt8 × List Int)) (L : List Nat) (r a : Nat) (ha : a < nds.length) (h : a ∈ L) : ∃ n : Nat, (nowI nds L (r + 1))[a]? = some (n : Int) :=
  ⟨_, round_at h ha⟩
end Go.Proofs
end
section
/- Merge: what it is made of, in plain and in parts. -/
open Go Go.AM
namespace Go.Proofs
set_option maxRecDepth 100000
/-! ### In plain -/
open Classical in
/-- The classes at the end. -/
noncomputable def clsF (nds : List (List UInt8 × List Int)) (L : List Nat) : List Int := if h : Closed nds L then nowI nds L (Classical.choose (rounds_end h) + 1) else []
theorem clsF_eq {nds : List (List UInt8 × List Int)} {L : List Nat} (h : Closed nds L) : ∃ R, clsF nds L = nowI nds L (R + 1) ∧ cntI nds L (R + 1) = cntI nds L R ∧ ∀ r, r < R → cntI nds L (r + 1) ≠ cntI nds L r := by
  refine ⟨Classical.choose (rounds_end h), ?_, Classical.choose_spec (rounds_end h)⟩
  unfold clsF
  rw [dif_pos h]
def graphOf (cs : List CV) : List (List UInt8 × List Int) := cs.map fun c => if c.taken = true then (c.name, c.kids) else ([], [])
def listTo (cs : List CV) (i : Nat) : List Nat := (List.range i).filter fun j => takesC cs (j : Int)
theorem takesC_nat {cs : List CV} {j : Nat} {c : CV} (h : cs[j]? = some c) : takesC cs (j : Int) = c.taken := by
  unfold takesC
  simp [h]
theorem listTo_next {cs : List CV} {i : Nat} {c : CV} (h : cs[i]? = some c) (hc : c.taken = true) : listTo cs (i + 1) = listTo cs i ++ [i] := by
  unfold listTo
  rw [List.range_succ, List.filter_append]
  simp [takesC_nat h, hc]
theorem listTo_skip {cs : List CV} {i : Nat} {c : CV} (h : cs[i]? = some c) (hc : c.taken = false) : listTo cs (i + 1) = listTo cs i := by
  unfold listTo
  rw [List.range_succ, List.filter_append]
  simp [takesC_nat h, hc]
theorem mem_listTo {cs : List CV} {i a : Nat} : a ∈ listTo cs i ↔ a < i ∧ takesC cs (a : Int) = true := by
  unfold listTo
  simp
/-- A heap's cells are right: cells that are taken have cells below that are taken. -/
structure HOk (cs : List CV) : Prop where
  kids4 : ∀ c ∈ cs, c.kids.length ≤ 4
  kids : ∀ c ∈ cs, c.taken = true → ∀ k ∈ c.kids, takesC cs k = true
theorem graphOf_get {cs : List CV} {a : Nat} {c : CV} (h : cs[a]? = some c) : (graphOf cs)[a]? = some (if c.taken = true then (c.name, c.kids) else ([], [])) := by
  unfold graphOf
  rw [List.getElem?_map, h]
  rfl
theorem graphOf_len (cs : List CV) : (graphOf cs).length = cs.length := by simp [graphOf]
theorem HOk.closed {cs : List CV} (h : HOk cs) : Closed (graphOf cs) (listTo cs cs.length) := by
  refine ⟨fun a ha => ?_, fun a ha x hx => ?_⟩
  · rw [graphOf_len]
    exact (mem_listTo.1 ha).1
  · obtain ⟨h1, h2⟩ := mem_listTo.1 ha
    have hc : cs[a]? = some cs[a] := List.getElem?_eq_getElem h1
    rw [takesC_nat hc] at h2
    rw [graphOf_get hc, if_pos h2] at hx
    cases hx
    refine ⟨h.kids4 _ (List.getElem_mem h1), fun k hk => ?_⟩
    have h3 := h.kids _ (List.getElem_mem h1) h2 k hk
    obtain ⟨h0, d, hd, ht, hlt⟩ := takesC_some h3
    rw [mem_listTo]
    refine ⟨hlt, ?_⟩
    rw [takesC_nat hd]
    exact ht
theorem HOk.graph_kids {cs : List CV} (h : HOk cs) : ∀ (a : Nat) nd, (graphOf cs)[a]? = some nd → nd.2.length ≤ 4 ∧ ∀ k ∈ nd.2, 0 ≤ k ∧ k < (graphOf cs).length := by
  intro a nd hnd
  have h1 : a < cs.length := by have := (List.getElem?_eq_some_iff.1 hnd).1; rwa [graphOf_len] at this
  have hc : cs[a]? = some cs[a] := List.getElem?_eq_getElem h1
  rw [graphOf_get hc] at hnd
  by_cases ht : cs[a].taken = true
  · rw [if_pos ht] at hnd
    cases hnd
    refine ⟨h.kids4 _ (List.getElem_mem h1), fun k hk => ?_⟩
    obtain ⟨h0, d, hd, _, hlt⟩ := takesC_some (h.kids _ (List.getElem_mem h1) ht k hk)
    rw [graphOf_len]
    exact ⟨h0, by omega⟩
  · rw [if_neg ht] at hnd
    cases hnd
    exact ⟨by simp, by simp⟩
def moveC (cls : List Int) (cs : List CV) : List CV := cs.map fun c => if c.taken = true then { c with kids := c.kids.map (toC cls) } else c
def addH (x : List CV) (k : Nat) (d : Int) : List CV := match x[k]? with
  | some c => x.set k { c with held := IntKind.wrap .i64 (c.held + d) }
  | none => x
def heldTo (cls : List Int) (cs : List CV) : Nat → List CV
  | 0 => moveC cls cs
  | i + 1 => match cs[i]? with
    | some c => if c.taken = true ∧ toC cls (i : Int) ≠ (i : Int) then addH (heldTo cls cs i) (toC cls (i : Int)).toNat c.held else heldTo cls cs i
    | none => heldTo cls cs i
def goneTo (cls : List Int) (cs : List CV) (i : Nat) : List Int := ((listTo cs i).filter fun (j : Nat) => decide (toC cls (j : Int) ≠ (j : Int))).map fun (j : Nat) => (j : Int)
def freeV : CV := ⟨false, [], [], 0⟩
def relC (cs : List CV) (gone : List Int) : List CV := gone.foldl (fun l k => l.set k.toNat freeV) cs
/-- What Merge answers, and the cells behind it. -/
noncomputable def mergeF (cs : List CV) : Int × Int × List CV :=
  if (heldTo (clsF (graphOf cs) (listTo cs cs.length)) cs cs.length).any (fun c => decide (1000 < c.held)) = true then (0, 12, cs)
  else ((goneTo (clsF (graphOf cs) (listTo cs cs.length)) cs cs.length).length, 0, relC (heldTo (clsF (graphOf cs) (listTo cs cs.length)) cs cs.length) (goneTo (clsF (graphOf cs) (listTo cs cs.length)) cs cs.length))
theorem addH_len (x : List CV) (k : Nat) (d : Int) : (addH x k d).length = x.length := by
  unfold addH
  split <;> simp
theorem heldTo_len (cls : List Int) (cs : List CV) : ∀ i, (heldTo cls cs i).length = cs.length
  | 0 => by simp [heldTo, moveC]
  | i + 1 => by
    unfold heldTo
    split
    · split
      · rw [addH_len, heldTo_len cls cs i]
      · exact heldTo_len cls cs i
    · exact heldTo_len cls cs i
theorem relC_len : ∀ (gone : List Int) (cs : List CV), (relC cs gone).length = cs.length
  | [], cs => rfl
  | k :: r, cs => by
    show (relC (cs.set k.toNat freeV) r).length = _
    rw [relC_len r]
    simp
/-- Where a cell goes is the least cell of its class. -/
theorem toC_spec {cls : List Int} {i : Nat} {c : Int} (h : cls[i]? = some c) : ∃ j : Nat, toC cls (i : Int) = j ∧ j ≤ i ∧ cls[j]? = some c ∧ ∀ j' d, j' < j → cls[j']? = some d → d ≠ c := by
  have hex : ∃ j, j ≤ i ∧ cls[j]? = some c ∧ ∀ j' d, j' < j → cls[j']? = some d → d ≠ c := by
    revert h
    refine Nat.strongRecOn (motive := fun i => cls[i]? = some c → ∃ j, j ≤ i ∧ cls[j]? = some c ∧ ∀ j' d, j' < j → cls[j']? = some d → d ≠ c) i fun n ih h => ?_
    by_cases hl : ∃ j, j < n ∧ cls[j]? = some c
    · obtain ⟨j, h1, h2⟩ := hl
      obtain ⟨j', h3, h4⟩ := ih j h1 h2
      exact ⟨j', by omega, h4⟩
    · exact ⟨n, Nat.le_refl _, h, fun j' d hj hd e => hl ⟨j', hj, by rw [hd, e]⟩⟩
  obtain ⟨j, h1, h2, h3⟩ := hex
  refine ⟨j, ?_, h1, h2, h3⟩
  unfold toC
  simp only [Int.toNat_natCast, h]
  exact firstI_of (fun j' d hj hd => by simpa using fun e : c = d => h3 j' d hj hd e.symm) h2 (by simp)
theorem goneTo_next {cls : List Int} {cs : List CV} {i : Nat} {c : CV} (h : cs[i]? = some c) (ht : c.taken = true) (hn : toC cls (i : Int) ≠ (i : Int)) : goneTo cls cs (i + 1) = goneTo cls cs i ++ [(i : Int)] := by
  unfold goneTo
  rw [listTo_next h ht, List.filter_append]
  simp [hn]
theorem goneTo_stay {cls : List Int} {cs : List CV} {i : Nat} {c : CV} (h : cs[i]? = some c) (ht : c.taken = true) (hn : toC cls (i : Int) = (i : Int)) : goneTo cls cs (i + 1) = goneTo cls cs i := by
  unfold goneTo
  rw [listTo_next h ht, List.filter_append]
  simp [hn]
theorem goneTo_skip {cls : List Int} {cs : List CV} {i : Nat} {c : CV} (h : cs[i]? = some c) (ht : c.taken = false) : goneTo cls cs (i + 1) = goneTo cls cs i := by
  unfold goneTo
  rw [listTo_skip h ht]
theorem goneTo_mem {cls : List Int} {cs : List CV} {i : Nat} {k : Int} : k ∈ goneTo cls cs i ↔ 0 ≤ k ∧ k < i ∧ takesC cs k = true ∧ toC cls k ≠ k := by
  unfold goneTo
  simp only [List.mem_map, List.mem_filter, mem_listTo, decide_eq_true_eq]
  constructor
  · rintro ⟨j, ⟨⟨h1, h2⟩, h3⟩, rfl⟩
    exact ⟨by omega, by omega, h2, h3⟩
  · rintro ⟨h0, h1, h2, h3⟩
    have e : ((k.toNat : Nat) : Int) = k := by omega
    exact ⟨k.toNat, ⟨⟨by omega, by rw [e]; exact h2⟩, by rw [e]; exact h3⟩, e⟩
theorem goneTo_len (cls : List Int) (cs : List CV) (i : Nat) : (goneTo cls cs i).length ≤ i := by
  unfold goneTo listTo
  rw [List.length_map]
  refine Nat.le_trans (List.length_filter_le _ _) (Nat.le_trans (List.length_filter_le _ _) (by simp))
/-! ### As they lie -/
theorem nds_rcs {cs : List CV} {V : List AVal} (h : V.length = cs.length) : ndsOf (rcs cs V) (kidsOf cs) = graphOf cs := by
  refine List.ext_getElem? fun j => ?_
  by_cases hj : j < cs.length
  · have h1 : cs[j]? = some cs[j] := List.getElem?_eq_getElem hj
    have h2 : V[j]? = some (V[j]'(by omega)) := List.getElem?_eq_getElem (by omega)
    rw [graphOf_get h1]
    unfold ndsOf kidsOf
    simp [rcs_get h1 h2, h1]
  · rw [List.getElem?_eq_none (by simp [ndsOf, rcs_len h]; omega), List.getElem?_eq_none (by rw [graphOf_len]; omega)]
theorem tak_rcs {cs : List CV} {V : List AVal} (h : V.length = cs.length) (i : Nat) : takI (rcs cs V) i = listTo cs i := by
  unfold takI listTo
  refine List.filter_congr fun j _ => ?_
  by_cases hj : j < cs.length
  · have h1 : cs[j]? = some cs[j] := List.getElem?_eq_getElem hj
    have h2 : V[j]? = some (V[j]'(by omega)) := List.getElem?_eq_getElem (by omega)
    rw [rcs_get h1 h2, takesC_nat h1]
  · have h1 : cs[j]? = none := List.getElem?_eq_none (by omega)
    have h2 : (rcs cs V)[j]? = none := List.getElem?_eq_none (by rw [rcs_len h]; omega)
    rw [h2]
    unfold takesC
    simp [h1]
theorem rcs_move (cls : List Int) (cs : List CV) (V : List AVal) : rcs (moveC cls cs) V = rcs cs V := by
  unfold rcs moveC
  rw [List.zipWith_map_left]
  congr 1
  funext d kv
  split <;> rfl
theorem any_rcs : ∀ {cs : List CV} {V : List AVal}, V.length = cs.length → (rcs cs V).any (fun c => decide (1000 < c.held)) = cs.any (fun c => decide (1000 < c.held))
  | [], V, _ => by simp [rcs]
  | c :: cs, [], h => by simp at h
  | c :: cs, v :: V, h => by
    have := any_rcs (cs := cs) (V := V) (by simpa using h)
    simp [rcs] at this ⊢
    rw [this]
theorem encs_lay3 : ∀ (l : List RC) (i : Nat) (c : RC) (d : Int), l[i]? = some c → lay (encs l) (i * 4 + 3) [.int .i64 d] = encs (l.set i { c with held := d })
  | [], i, c, d, h => by simp at h
  | e :: l, 0, c, d, h => by
    simp at h
    subst h
    have e1 : encs (e :: l) = e.enc ++ encs l := rfl
    have e2 : encs ((e :: l).set 0 { e with held := d }) = (RC.enc { e with held := d }) ++ encs l := rfl
    rw [e1, e2]
    simp [lay, RC.enc]
  | e :: l, i + 1, c, d, h => by
    have e1 : encs (e :: l) = e.enc ++ encs l := rfl
    have e2 : encs ((e :: l).set (i + 1) { c with held := d }) = e.enc ++ encs (l.set i { c with held := d }) := rfl
    have ih := encs_lay3 l i c d (by simpa using h)
    have hd : e.enc.length = 4 := rfl
    have e3 : (i + 1) * 4 + 3 = e.enc.length + (i * 4 + 3) := by rw [hd]; omega
    rw [e1, e2, ← ih]
    unfold lay
    rw [e3, List.take_length_add_append, Nat.add_assoc, List.drop_length_add_append]
    simp
theorem rcs_held {cs : List CV} {V : List AVal} {k : Nat} {c : CV} {kv : AVal} (hc : cs[k]? = some c) (hv : V[k]? = some kv) (d : Int) : (rcs cs V).set k { taken := c.taken, name := c.name, kv := kv, held := IntKind.wrap .i64 (c.held + d) } = rcs (addH cs k d) V := by
  unfold addH
  rw [hc]
  simp only
  have hV : V.set k kv = V := by
    refine List.ext_getElem? fun x => ?_
    rw [List.getElem?_set]
    by_cases e : k = x
    · subst e
      rw [if_pos rfl, hv, if_pos (List.getElem?_eq_some_iff.1 hv).1]
    · rw [if_neg e]
  have := rcs_set (cs := cs) (V := V) (i := k) (d := { c with held := IntKind.wrap .i64 (c.held + d) }) (kv := kv)
  rw [hV] at this
  exact this
theorem cpI_rcs {cs : List CV} {V : List AVal} {kvs : Nat → AVal} (h : V.length = cs.length) : cpI (rcs cs V) kvs cs.length = rcs cs ((List.range cs.length).map kvs) := by
  refine List.ext_getElem? fun j => ?_
  by_cases hj : j < cs.length
  · have h1 : cs[j]? = some cs[j] := List.getElem?_eq_getElem hj
    have h2 : V[j]? = some (V[j]'(by omega)) := List.getElem?_eq_getElem (by omega)
    have h3 : ((List.range cs.length).map kvs)[j]? = some (kvs j) := by rw [List.getElem?_map, List.getElem?_range hj]; rfl
    rw [cpI_get (rcs_get h1 h2), rcs_get h1 h3]
    simp [hj]
  · rw [List.getElem?_eq_none (by rw [cpI_len, rcs_len h]; omega), List.getElem?_eq_none (by rw [rcs_len (by simp)]; omega)]
/-- Cells that are made free lose their rows. -/
theorem rel_rows : ∀ (gone : List Int) {cs : List CV} {V : List AVal} {m : Lets}, V.length = cs.length → RowsR (cs.map CV.kids) V m → (∀ k ∈ gone, 0 ≤ k ∧ k < cs.length) →
    ∃ V' m' d, rel (rcs cs V) gone = rcs (relC cs gone) V' ∧ RowsR ((relC cs gone).map CV.kids) V' m' ∧ m.Perm (m' ++ d)
  | [], cs, V, m, _, h, _ => ⟨V, m, [], rfl, h, by simp⟩
  | k :: gone, cs, V, m, hV, h, hin => by
    obtain ⟨h0, h1⟩ := hin k (by simp)
    have hlt : k.toNat < cs.length := by omega
    obtain ⟨kv, m1, m2, g1, g2, g3, g4⟩ := h.at (i := k.toNat) (ks := cs[k.toNat].kids) (by rw [List.getElem?_map, List.getElem?_eq_getElem hlt]; rfl)
    have h2 := g4 [] .nilSlice [] (.inl ⟨rfl, rfl, rfl⟩)
    have h3 : (cs.map CV.kids).set k.toNat [] = (cs.set k.toNat freeV).map CV.kids := by rw [List.map_set]; rfl
    rw [h3] at h2
    obtain ⟨V', m', d, e1, e2, e3⟩ := rel_rows gone (cs := cs.set k.toNat freeV) (V := V.set k.toNat .nilSlice) (by simpa using hV) h2 (fun k' hk' => by simpa using hin k' (by simp [hk']))
    refine ⟨V', m', d ++ m1, ?_, e2, ?_⟩
    · rw [← show rcs (relC (cs.set k.toNat freeV) gone) V' = rcs (relC cs (k :: gone)) V' from rfl, ← e1]
      show rel ((rcs cs V).set k.toNat freeC) gone = _
      have := rcs_set (cs := cs) (V := V) (i := k.toNat) (d := freeV) (kv := .nilSlice)
      rw [← this]
      rfl
    · refine g3.trans ?_
      refine (List.perm_append_comm (l₁ := m1) (l₂ := m2)).trans ?_
      rw [← List.append_assoc]
      exact (by simpa using e3 : m2.Perm (m' ++ d)).append (List.Perm.refl m1)
end Go.Proofs
end
section
/- Contracts again, said of blocks that lie apart. -/
open Go Go.AM
namespace Go.Proofs
set_option maxRecDepth 100000
theorem KidV.ints {s : St} {kv : AVal} {ks : List Int} (h : KidV s kv ks) (hw : s.Wf) : IntsAt s kv ks := by
  rcases h with h | ⟨q, c, rfl, h⟩
  · exact .inl h
  · exact .inr ⟨q, 0, c, _, rfl, old_own hw h, own_cells h, by simp, fun i k hk => by simp [hk]⟩
theorem ints_own {s : St} {b : Pos} {ks : List Int} (hw : s.Wf) (h : s.own b = some (ints ks)) (c : Cap) : IntsAt s (.slice b 0 ks.length c) ks := KidV.ints (.inr ⟨b, c, rfl, h⟩) hw
/-- A row that grows. -/
def GrowR (lv : AVal) (g : List Int) (m : Lets) : Prop := (g = [] ∧ lv = .nilSlice ∧ m = []) ∨ ∃ q, g ≠ [] ∧ lv = .slice q 0 g.length (.opn 1) ∧ m = [(q, C (ints g))]
theorem GrowR.len {lv : AVal} {g : List Int} {m : Lets} (h : GrowR lv g m) : slcLen lv = some g.length := by
  rcases h with ⟨rfl, rfl, _⟩ | ⟨q, _, rfl, _⟩ <;> rfl
theorem GrowR.ntup {lv : AVal} {g : List Int} {m : Lets} (h : GrowR lv g m) : ∀ t, ¬ lv = .tup t := by
  rintro t rfl
  have := h.len
  cases this
theorem GrowR.cells {lv : AVal} {g : List Int} {m : Lets} (h : GrowR lv g m) : lv.cells = [lv] := by
  rcases h with ⟨rfl, rfl, _⟩ | ⟨q, _, rfl, _⟩ <;> rfl
theorem GrowR.row {lv : AVal} {g : List Int} {m : Lets} (h : GrowR lv g m) : RowR lv g m := by
  rcases h with ⟨h1, rfl, h2⟩ | ⟨q, h1, h2, h3⟩
  · exact .inl ⟨h1, rfl, h2⟩
  · exact .inr ⟨q, _, h1, h2, h3⟩
theorem RowR.kid {s : St} {kv : AVal} {ks : List Int} {m : Lets} (h : RowR kv ks m) (ho : ∀ x ∈ m, s.obj x.1 = some x.2) : KidV s kv ks := by
  rcases h with ⟨h1, h2, h3⟩ | ⟨q, c, h1, h2, rfl⟩
  · exact .inl ⟨h2, h1⟩
  · exact .inr ⟨q, c, h2, own_of_obj (ho (q, C (ints ks)) (by simp))⟩
section
variable {s0 s : St} {W : Pos → Prop} {m r : Lets}
theorem Ctx.chg0 {b : Pos} {x y : AObj} (h : Ctx s0 W ((b, x) :: m) s) {s' : St} (k : Same [b] s s') (hy : s'.obj b = some y) : Ctx s0 W ((b, y) :: m) s' := by
  have hn := h.nodup
  rw [List.map_cons, List.nodup_cons] at hn
  refine (h.tail.same k ?_ ?_).add hy (h.free (b, x) (by simp)) hn.1
  · intro c hc ho
    simp at hc
    subst hc
    exact h.free (c, x) (by simp) ho
  · intro z hz hb
    simp at hb
    exact hn.1 (List.mem_map.2 ⟨z, hz, hb⟩)
theorem Ctx.chg {b : Pos} {x y : AObj} (h : Ctx s0 W m s) (i : Nat) (hi : m[i]? = some (b, x)) {s' : St} (k : Same [b] s s') (hy : s'.obj b = some y) : Ctx s0 W (m.set i (b, y)) s' :=
  ((h.perm (perm_to_front m i _ hi)).chg0 k hy).perm (set_perm m i _ _ hi)
theorem ctx_app {pre mg : Lets} {lv : AVal} {g : List Int} {x : Int} {Q : AVal → St → Prop} (h : Ctx s0 W (pre ++ (mg ++ r)) s) (hg : GrowR lv g mg) (hs : g.length ≤ 1000)
    (q : ∀ lv' mg' s', GrowR lv' (g ++ [x]) mg' → Ctx s0 W (pre ++ (mg' ++ r)) s' → Q lv' s') : appP (1, 8) lv [.int .i64 x] 1 s Q := by
  rcases hg with ⟨rfl, rfl, rfl⟩ | ⟨b, hne, rfl, rfl⟩
  · simp only [appP, growP]
    rw [if_neg (by decide)]
    refine ⟨by unfold smallB; omega, ?_⟩
    have := h.alloc (C [.int .i64 x])
    refine q (.slice s.next 0 1 (.opn 1)) [(s.next, C (ints [x]))] _ (.inr ⟨_, by simp, rfl, rfl⟩) (this.perm ?_)
    simp only [List.nil_append]
    exact List.perm_middle.symm
  · have hb : s.own b = some (ints g) := own_of_obj (h.own (b, C (ints g)) (by simp))
    have hl : g.length ≠ 0 := by simpa using hne
    have h1 : Ctx s0 W ((b, C (ints g)) :: (pre ++ r)) s := h.perm (by simp)
    have h2 := (h1.put0 .dead).tail.alloc (C (ints g ++ [.int .i64 x]))
    simp only [appP, growP]
    rw [if_neg (by decide)]
    refine ⟨trivial, ?_⟩
    rw [hb]
    simp only [withO]
    rw [if_neg hl, if_neg (by simp)]
    refine ⟨by simp, by unfold smallB; omega, ?_⟩
    have ht : List.take (g.length * 1) (List.drop 0 (ints g)) = ints g := by rw [List.drop_zero]; exact List.take_of_length_le (by simp)
    rw [ht]
    have hi : ints g ++ [AVal.int .i64 x] = ints (g ++ [x]) := by simp [ints]
    rw [hi] at h2 ⊢
    have hn : (s.put b .dead).next = s.next := rfl
    refine q (.slice s.next 0 (g.length + 1) (.opn 1)) [(s.next, C (ints (g ++ [x])))] _ (.inr ⟨_, by simp, by simp, rfl⟩) (h2.perm ?_)
    rw [hn]
    exact List.perm_middle.symm
/-- A range over the cells that are taken. -/
theorem range_taken_c {fr : FI} {t : PT AVal} {Q : Ex → PT AVal → St → Prop} {f : RO} {k k' : Nat} {b : MCode} {fi : FInfo} {p B : Pos} {l : List RC} {n : Nat} {m0 : Lets} (J : Nat → Lets → Prop) (hn : l.length = n) (hl : n ≤ 400)
    (hx : getO t [] f = some (.fn 87 [] [.ptr B 0])) (hr : fr.round = none) (hfi : funInfo Tryd.prog fr.fn = some fi) (hpl : paramPlan fi.ps fi.ntmps [k] = some [some (posOf k)])
    (hp : ∀ i m s', J i m → Ctx s0 W m s' → s'.Old p ∧ s'.cells p = some (encs l))
    (hskip : ∀ i c m, l[i]? = some c → c.taken = false → J i m → J (i + 1) m)
    (hbody : ∀ (i : Nat) c s1 m Lb X (Wx : Ex → PT AVal → St → Prop), l[i]? = some c → c.taken = true → J i m → Ctx s0 W ((Lb, X) :: (B, C [.slice p 0 n (.lim n)]) :: m) s1 →
      (∀ t s2 m', J (i + 1) m' → Ctx s0 W ((Lb, X) :: (B, C [.slice p 0 n (.lim n)]) :: m') s2 → Wx .normal t s2) →
      wp Tryd.prog b { fn := fr.fn, ntmps := fi.ntmps, ps := fi.ps, round := some Lb } (PT.set (posOf k') (.int .i64 i) (PT.set (posOf k) (.int .i64 i) t)) s1 Wx)
    (h0 : J 0 m0) (hc : Ctx s0 W ((B, C [.slice p 0 n (.lim n)]) :: m0) s) (q : ∀ s' m, J n m → Ctx s0 W m s' → Q .normal t s') :
    wp Tryd.prog (.range f [k] (.region [.run none (.move (.per (posOf k)))] [some (posOf k')]) b) fr t s Q := by
  subst hn
  refine AM.wp_range hx (fun l0 e => by rw [hr] at e; cases e) ?_
  have c0 := hc.alloc (.loop { state := .ready, pending := none, fn := fr.fn, tm := t, params := [k], assign := .region [.run none (.move (.per (posOf k)))] [some (posOf k')], body := b })
  generalize s.alloc (.loop { state := .ready, pending := none, fn := fr.fn, tm := t, params := [k], assign := .region [.run none (.move (.per (posOf k)))] [some (posOf k')], body := b }) = sA at c0 ⊢
  generalize s.next = Lb at c0 ⊢
  refine taken_iter (p := p) (I := fun i s' => ∃ m, J i m ∧ Ctx s0 W ((Lb, .loop { state := .ready, pending := none, fn := fr.fn, tm := t, params := [k], assign := .region [.run none (.move (.per (posOf k)))] [some (posOf k')], body := b }) :: (B, C [.slice p 0 l.length (.lim l.length)]) :: m) s') hl (by simp) ?_ ?_ ?_ ?_ ⟨m0, h0, c0⟩ ?_
  · rintro i s' ⟨m, hj, hc⟩
    obtain ⟨a, b⟩ := hp i m s' hj hc.tail.tail
    exact ⟨hc.wf, a, hc.oi 1 rfl, b, hc.c 1 rfl⟩
  · rintro i s' s'' ⟨m, hj, hc⟩ hk
    exact ⟨m, hj, hc.keeps hk⟩
  · rintro i c s' hci hct ⟨m, hj, hc⟩
    exact ⟨m, hskip i c m hci hct hj, hc⟩
  · rintro i c s' R hci hct ⟨m, hj, hc⟩ hR
    refine wpCallV_yld (pl := [some (posOf k)]) (tree := PT.set (posOf k) (.int .i64 i) t) (hc.x 0 rfl) hfi hpl rfl rfl ?_
    refine AM.wp_region ?_
    simp
    refine ⟨_, hc.x 0 rfl, rfl, ?_⟩
    refine hbody i c _ m Lb _ _ hci hct hj (hc.put 0 rfl _) fun t2 s2 m' hj' hc' => ?_
    refine ⟨_, hc'.x 0 rfl, ?_⟩
    exact hR _ ⟨m', hj', hc'.put 0 rfl _⟩
  · rintro s2 ⟨m, hj, hc⟩
    refine ⟨_, hc.x 0 rfl, rfl, ?_⟩
    exact q _ m hj (hc.put 0 rfl _).tail.tail
end
theorem graph_w {s : St} {p : Pos} {l : List RC} {n : Nat} {K : Nat → List Int} {Q : AVal → St → Prop} (hn : l.length = n) (hw : s.Wf) (hp : s.Old p) (hc : s.cells p = some (encs l)) (hl : n ≤ 400) (hK : ∀ j c, l[j]? = some c → IntsAt s c.kv (K j))
    (q : ∀ pn lv s', Keeps s s' → NodesG s' pn (ndsOf l K) → IntsAt s' lv ((takI l n).map fun (a : Nat) => (a : Int)) → Q (.tup [.slice pn 0 n (.lim n), lv]) s') : wpCall Tryd.prog 50 [.agg [.slice p 0 n (.lim n)]] s Q := by
  subst hn
  exact graph_wp hw hp hc hl hK q
theorem classes_w {s : St} {p : Pos} {nds : List (List UInt8 × List Int)} {n : Nat} {c0 : Cap} {Lv : AVal} {L : List Nat} {Q : AVal → St → Prop}
    (hnl : nds.length = n) (hw : s.Wf) (hN : NodesG s p nds) (hn : n ≤ 1000) (hL : IntsAt s Lv (L.map fun (a : Nat) => (a : Int))) (hLl : L.length ≤ 1000) (hC : Closed nds L)
    (hkids : ∀ (a : Nat) nd, nds[a]? = some nd → nd.2.length ≤ 4 ∧ ∀ k ∈ nd.2, 0 ≤ k ∧ k < nds.length)
    (q : ∀ Bx s', Keeps s s' → ¬ s.Old Bx → s'.own Bx = some (ints (clsF nds L)) → Q (.slice Bx 0 n (.lim n)) s') : wpCall Tryd.prog 49 [.slice p 0 n c0, Lv] s Q := by
  subst hnl
  obtain ⟨R, h1, h2, h3⟩ := clsF_eq hC
  rw [h1] at q
  exact classes_wp hw hN hn hL hC.lt hLl hkids h3 h2 q
theorem clsF_len {nds : List (List UInt8 × List Int)} {L : List Nat} (h : Closed nds L) : (clsF nds L).length = nds.length := by
  obtain ⟨R, h1, _⟩ := clsF_eq h
  rw [h1, nowI_len]
theorem own_w {s : St} {p : Pos} {l : List RC} {n : Nat} {K : Nat → List Int} {Q : AVal → St → Prop} (hn : l.length = n) (hw : s.Wf) (hp : s.Old p) (hc : s.cells p = some (encs l)) (h1 : 1 ≤ n) (hl : n ≤ 400) (hK : ∀ j c, l[j]? = some c → IntsAt s c.kv (K j) ∧ (K j).length ≤ 1000)
    (q : ∀ pn kvs s', Keeps s s' → ¬ s.Old pn → s'.own pn = some (encs (cpI l kvs n)) → OwnK s s' pn K kvs n → Q (.agg [.slice pn 0 n (.lim n)]) s') : wpCall Tryd.prog 51 [.agg [.slice p 0 n (.lim n)]] s Q := by
  subst hn
  exact own_wp hw hp hc h1 hl hK q
theorem moves_w {s : St} {p Bc : Pos} {l : List RC} {n : Nat} {K : Nat → List Int} {cv : AVal} {cls : List Int} {qs : List Pos} {Q : AVal → St → Prop} (hn : l.length = n) (hw : s.Wf) (hp : s.Old p) (hc : s.cells p = some (encs l)) (hl : n ≤ 400) (hcl : cls.length ≤ 1000)
    (hK : ∀ j c, l[j]? = some c → KidV s c.kv (K j) ∧ (K j).length ≤ 1000 ∧ (c.taken = true → ∀ k ∈ K j, 0 ≤ k ∧ k < cls.length))
    (hqs : ∀ j c q cp, l[j]? = some c → c.kv = .slice q 0 (K j).length cp → K j ≠ [] → q ∈ qs) (hpq : p ∉ qs) (hqo : ∀ q ∈ qs, s.Old q)
    (hsep : ∀ j j' c c' q cp cp', l[j]? = some c → l[j']? = some c' → c.kv = .slice q 0 (K j).length cp → c'.kv = .slice q 0 (K j').length cp' → K j ≠ [] → K j' ≠ [] → j = j')
    (hcv : ∀ s', Same qs s s' → s'.cells Bc = some [cv] ∧ IntsAt s' cv cls)
    (q : ∀ s', Same qs s s' → (∀ j c, l[j]? = some c → KidV s' c.kv (if c.taken = true then (K j).map (toC cls) else K j)) → Q (.tup []) s') :
    wpCall Tryd.prog 54 [.agg [.fn 52 [] [.ptr Bc 0]], .agg [.slice p 0 n (.lim n)]] s Q := by
  subst hn
  exact moves_wp hw hp hc hl hcl hK hqs hpq hqo hsep hcv q
theorem over_w {s : St} {p : Pos} {l : List RC} {n : Nat} {Q : AVal → St → Prop} (hn : l.length = n) (hp : s.Old p) (hc : s.cells p = some (encs l)) (hl : n ≤ 400)
    (q : ∀ s', Keeps s s' → Q (.bool (l.any fun c => decide (1000 < c.held))) s') : wpCall Tryd.prog 56 [.slice p 0 n (.lim n), .fn 57 [] []] s Q := by
  subst hn
  exact over_wp hp hc hl q
theorem release_w {s : St} {p : Pos} {l : List RC} {n : Nat} {v : AVal} {gone : List Int} {Q : AVal → St → Prop} (hn : l.length = n) (hw : s.Wf) (hp : s.own p = some (encs l)) (hmax : gone.length ≤ 1000) (hin : ∀ k ∈ gone, 0 ≤ k ∧ k < n)
    (hv : ∀ s', Same [p] s s' → IntsAt s' v gone) (q : ∀ s', Same [p] s s' → s'.own p = some (encs (rel l gone)) → Q (.tup []) s') : wpCall Tryd.prog 58 [.agg [.slice p 0 n (.lim n)], v] s Q := by
  subst hn
  exact release_wp hw hp hmax (by simpa using hin) hv q
end Go.Proofs
end
section
/- moves, of blocks that lie apart. -/
open Go Go.AM
namespace Go.Proofs
set_option maxRecDepth 100000
theorem kidsOf_get {cs : List CV} {j : Nat} {d : CV} (h : cs[j]? = some d) : kidsOf cs j = d.kids := by unfold kidsOf; rw [h]
theorem kids_map {cs : List CV} {j : Nat} {ks : List Int} (h : (cs.map CV.kids)[j]? = some ks) : j < cs.length ∧ kidsOf cs j = ks := by
  rw [List.getElem?_map] at h
  cases hd : cs[j]? with
  | none => rw [hd] at h; cases h
  | some d =>
    rw [hd] at h
    cases h
    exact ⟨(List.getElem?_eq_some_iff.1 hd).1, kidsOf_get hd⟩
theorem kids_at {cs : List CV} {j : Nat} (h : j < cs.length) : (cs.map CV.kids)[j]? = some (kidsOf cs j) := by
  rw [List.getElem?_map, List.getElem?_eq_getElem h, kidsOf_get (List.getElem?_eq_getElem h)]
  rfl
theorem range_map {α : Type} {n j : Nat} {f : Nat → α} (h : j < n) : ((List.range n).map f)[j]? = some (f j) := by
  rw [List.getElem?_map, List.getElem?_range h]
  rfl
theorem own_rows {s0 s : St} {pn : Pos} {cs : List CV} {kvs : Nat → AVal} (h : OwnK s0 s pn (kidsOf cs) kvs cs.length) :
    ∃ m, RowsR (cs.map CV.kids) ((List.range cs.length).map kvs) m ∧ (∀ x ∈ m, s.obj x.1 = some x.2) ∧ (m.map (·.1)).Nodup ∧ ∀ x ∈ m, ¬ s0.Old x.1 ∧ x.1 ≠ pn := by
  obtain ⟨m, h1, h2, h3, h4⟩ := rows_of (s := s) (cs.map CV.kids) ((List.range cs.length).map kvs) (by simp) (fun i ks kv hk hv => by
    obtain ⟨hi, e⟩ := kids_map hk
    rw [range_map hi] at hv
    cases hv
    rw [← e]
    exact h.kid i hi) (fun i j ks ks' q c c' hk hk' hn hn' hv hv' => by
    obtain ⟨hi, e⟩ := kids_map hk
    obtain ⟨hj, e'⟩ := kids_map hk'
    rw [range_map hi] at hv
    rw [range_map hj] at hv'
    rw [← e] at hv hn
    rw [← e'] at hv' hn'
    exact h.sep i j q c c' hi hj hn hn' (Option.some.inj hv) (Option.some.inj hv'))
  refine ⟨m, h1, h2, h3, fun x hx => ?_⟩
  obtain ⟨i, ks, c, e1, e2, e3⟩ := h4 x hx
  obtain ⟨hi, e⟩ := kids_map e1
  rw [range_map hi] at e3
  rw [← e] at e2 e3
  exact h.fresh i x.1 c hi (Option.some.inj e3) e2
theorem RowsR.sep : ∀ {K : List (List Int)} {V : List AVal} {m : Lets}, RowsR K V m → (m.map (·.1)).Nodup → ∀ {i j : Nat} {ks ks' : List Int} {q : Pos} {c c' : Cap}, K[i]? = some ks → K[j]? = some ks' → ks ≠ [] → ks' ≠ [] →
    V[i]? = some (AVal.slice q 0 ks.length c) → V[j]? = some (AVal.slice q 0 ks'.length c') → i = j
  | [], _, _, _, _, i, _, _, _, _, _, _, h, _, _, _, _, _ => by simp at h
  | _ :: _, [], _, h, _, _, _, _, _, _, _, _, _, _, _, _, _, _ => h.elim
  | k :: K, v :: V, m, ⟨m1, m2, h1, h2, h3⟩, hn, i, j, ks, ks', q, c, c', hi, hj, hne, hne', vi, vj => by
    have hn2 : ((m1 ++ m2).map (·.1)).Nodup := ((h1.map (·.1)).nodup_iff).1 hn
    rw [List.map_append, List.nodup_append] at hn2
    have key : ∀ (x : Nat) (ks : List Int) (c : Cap), K[x]? = some ks → ks ≠ [] → V[x]? = some (AVal.slice q 0 ks.length c) → q ∈ m2.map (·.1) := by
      intro x ks c hx hne vx
      obtain ⟨kv, g1, g2⟩ := h3.each hx
      rw [vx] at g1
      cases g1
      rcases g2 with ⟨e, _⟩ | ⟨q', c', _, e, e3⟩
      · exact (hne e).elim
      · cases e
        exact List.mem_map.2 ⟨_, e3, rfl⟩
    have key0 : ∀ (ks : List Int) (c : Cap), k = ks → ks ≠ [] → v = AVal.slice q 0 ks.length c → q ∈ m1.map (·.1) := by
      intro ks c hx hne vx
      subst hx vx
      rcases h2 with ⟨e, _⟩ | ⟨q', c', _, e, rfl⟩
      · exact (hne e).elim
      · cases e
        simp
    match i, j with
    | 0, 0 => rfl
    | 0, j + 1 =>
      exact (hn2.2.2 q (key0 ks c (by simpa using hi) hne (by simpa using vi)) q (key j ks' c' (by simpa using hj) hne' (by simpa using vj)) rfl).elim
    | i + 1, 0 =>
      exact (hn2.2.2 q (key0 ks' c' (by simpa using hj) hne' (by simpa using vj)) q (key i ks c (by simpa using hi) hne (by simpa using vi)) rfl).elim
    | i + 1, j + 1 =>
      have := RowsR.sep h3 hn2.2.1 (i := i) (j := j) (by simpa using hi) (by simpa using hj) hne hne' (by simpa using vi) (by simpa using vj)
      omega
theorem Ctx.lose {s0 s s' : St} {W : Pos → Prop} {m r : Lets} (h : Ctx s0 W (m ++ r) s) (k : Same (m.map (·.1)) s s') : Ctx s0 W r s' := by
  have hn := h.nodup
  rw [List.map_append, List.nodup_append] at hn
  refine (h.sub (List.sublist_append_right _ _)).same k ?_ ?_
  · intro b hb ho
    obtain ⟨x, hx, rfl⟩ := List.mem_map.1 hb
    exact h.free x (List.mem_append_left _ hx) ho
  · intro x hx hb
    exact hn.2.2 _ hb _ (List.mem_map.2 ⟨x, hx, rfl⟩) rfl
theorem moveC_len (cls : List Int) (cs : List CV) : (moveC cls cs).length = cs.length := by simp [moveC]
theorem moveC_get {cls : List Int} {cs : List CV} {i : Nat} {c : CV} (h : cs[i]? = some c) : (moveC cls cs)[i]? = some (if c.taken = true then { c with kids := c.kids.map (toC cls) } else c) := by simp [moveC, h]
theorem moves_c {s0 s : St} {W : Pos → Prop} {pn B4 Bx : Pos} {cs : List CV} {V : List AVal} {cls : List Int} {mk r : Lets} {cp : Cap} {Q : AVal → St → Prop} (h : Ctx s0 W (mk ++ r) s) (hR : RowsR (cs.map CV.kids) V mk) (hO : HOk cs) (hcl : cls.length = cs.length) (h4 : cs.length ≤ 400)
    (hpn : (pn, C (encs (rcs cs V))) ∈ r) (hB4 : (B4, C [.slice Bx 0 cs.length cp]) ∈ r) (hBx : (Bx, C (ints cls)) ∈ r)
    (q : ∀ mk' s', RowsR ((moveC cls cs).map CV.kids) V mk' → Ctx s0 W (mk' ++ r) s' → Q (.tup []) s') :
    wpCall Tryd.prog 54 [.agg [.fn 52 [] [.ptr B4 0]], .agg [.slice pn 0 cs.length (.lim cs.length)]] s Q := by
  have hV : V.length = cs.length := by simpa using hR.len
  have hl := rcs_len hV
  have hn := h.nodup
  rw [List.map_append, List.nodup_append] at hn
  have hget : ∀ j c, (rcs cs V)[j]? = some c → ∃ (hj : j < cs.length), V[j]? = some c.kv ∧ c.taken = cs[j].taken ∧ c = ⟨cs[j].taken, cs[j].name, c.kv, cs[j].held⟩ := by
    intro j c hc
    have hlt : j < cs.length := by have := (List.getElem?_eq_some_iff.1 hc).1; rwa [hl] at this
    have hv : V[j]? = some (V[j]'(by omega)) := List.getElem?_eq_getElem (by omega)
    rw [rcs_get (List.getElem?_eq_getElem hlt) hv] at hc
    cases hc
    exact ⟨hlt, hv, rfl, rfl⟩
  have hrow : ∀ j c, (rcs cs V)[j]? = some c → (kidsOf cs j = [] ∧ slcLen c.kv = some 0) ∨ ∃ q cp, kidsOf cs j ≠ [] ∧ c.kv = .slice q 0 (kidsOf cs j).length cp ∧ (q, C (ints (kidsOf cs j))) ∈ mk := by
    intro j c hc
    obtain ⟨hj, hv, _⟩ := hget j c hc
    obtain ⟨kv, g1, g2⟩ := hR.each (kids_at hj)
    rw [hv] at g1
    cases g1
    exact g2
  refine moves_w (K := kidsOf cs) (cls := cls) (cv := .slice Bx 0 cs.length cp) (qs := mk.map (·.1)) hl h.wf (h.ob (List.mem_append_right _ hpn)) (own_cells (own_of_obj (h.own _ (List.mem_append_right _ hpn)))) h4 (by omega) ?_ ?_ ?_ ?_ ?_ ?_ ?_
  · intro j c hc
    obtain ⟨hj, hv, ht, _⟩ := hget j c hc
    have hko := kidsOf_get (List.getElem?_eq_getElem hj)
    refine ⟨?_, ?_, ?_⟩
    · rcases hrow j c hc with ⟨e1, e2⟩ | ⟨q, cp, e1, e2, e3⟩
      · exact .inl ⟨e2, e1⟩
      · exact .inr ⟨q, cp, e2, own_of_obj (h.own _ (List.mem_append_left _ e3))⟩
    · rw [hko]
      have := hO.kids4 _ (List.getElem_mem hj)
      omega
    · intro hct k hk
      rw [hko] at hk
      obtain ⟨h0, d, _, _, hlt⟩ := takesC_some (hO.kids _ (List.getElem_mem hj) (ht ▸ hct) k hk)
      exact ⟨h0, by omega⟩
  · intro j c q cp hc hkv hne
    rcases hrow j c hc with ⟨e1, e2⟩ | ⟨q', cp', e1, e2, e3⟩
    · exact (hne e1).elim
    · rw [hkv] at e2
      cases e2
      exact List.mem_map.2 ⟨_, e3, rfl⟩
  · exact fun hm => hn.2.2 _ hm _ (List.mem_map.2 ⟨_, hpn, rfl⟩) rfl
  · intro q hq
    obtain ⟨x, hx, rfl⟩ := List.mem_map.1 hq
    exact h.ob (List.mem_append_left _ hx)
  · intro j j' c c' q cp cp' hc hc' hkv hkv' hne hne'
    obtain ⟨hj, hv, _⟩ := hget j c hc
    obtain ⟨hj', hv', _⟩ := hget j' c' hc'
    rw [hkv] at hv
    rw [hkv'] at hv'
    exact hR.sep hn.1 (kids_at hj) (kids_at hj') hne hne' hv hv'
  · intro s' hS
    have h' := h.lose hS
    have e : cls.length = cs.length := hcl
    refine ⟨own_cells (own_of_obj (h'.own _ hB4)), ?_⟩
    rw [← hcl]
    exact ints_own h'.wf (own_of_obj (h'.own _ hBx)) _
  · intro s' hS hk
    have h' := h.lose hS
    have hlast : ∀ (i : Nat) (ks : List Int) (qq : Pos) (c : Cap), ((moveC cls cs).map CV.kids)[i]? = some ks → ks ≠ [] → V[i]? = some (AVal.slice qq 0 ks.length c) → ∃ hi : i < cs.length, kidsOf cs i ≠ [] ∧ ks.length = (kidsOf cs i).length ∧ qq ∈ mk.map (·.1) := by
      intro i ks qq c hks hne hv
      obtain ⟨hi, e⟩ := kids_map hks
      rw [moveC_len] at hi
      have hm := moveC_get (cls := cls) (List.getElem?_eq_getElem hi)
      have e2 := kidsOf_get hm
      rw [e] at e2
      have e3 := kidsOf_get (List.getElem?_eq_getElem hi)
      have hlen : ks.length = (kidsOf cs i).length := by
        rw [e2, e3]
        split <;> simp
      have hne' : kidsOf cs i ≠ [] := by
        intro e0
        rw [e0] at hlen
        exact hne (List.length_eq_zero_iff.1 hlen)
      refine ⟨hi, hne', hlen, ?_⟩
      rcases hrow i _ (rcs_get (List.getElem?_eq_getElem hi) hv) with ⟨e1, _⟩ | ⟨q', cp', _, e5, e6⟩
      · exact (hne' e1).elim
      · have : q' = qq := (AVal.slice.inj e5).1.symm
        subst this
        exact List.mem_map.2 ⟨_, e6, rfl⟩
    obtain ⟨mk', r1, r2, r3, r4⟩ := rows_of (s := s') ((moveC cls cs).map CV.kids) V (by simp [hV, moveC_len]) (fun i ks kv hks hv => by
      obtain ⟨hi, e⟩ := kids_map hks
      rw [moveC_len] at hi
      have := hk i _ (rcs_get (List.getElem?_eq_getElem hi) hv)
      rw [kidsOf_get (moveC_get (List.getElem?_eq_getElem hi))] at e
      rw [← e]
      rw [kidsOf_get (List.getElem?_eq_getElem hi)] at this
      have e2 : (if cs[i].taken = true then { cs[i] with kids := cs[i].kids.map (toC cls) } else cs[i]).kids = if cs[i].taken = true then cs[i].kids.map (toC cls) else cs[i].kids := by split <;> rfl
      rw [e2]
      exact this) (fun i j ks ks' qq c c' hks hks' hne hne' hv hv' => by
      obtain ⟨hi, n1, l1, _⟩ := hlast i ks qq c hks hne hv
      obtain ⟨hj, n2, l2, _⟩ := hlast j ks' qq c' hks' hne' hv'
      rw [l1] at hv
      rw [l2] at hv'
      exact hR.sep hn.1 (kids_at hi) (kids_at hj) n1 n2 hv hv')
    refine q mk' s' r1 (h'.addL r2 r3 ?_ ?_)
    · intro x hx ho
      obtain ⟨i, ks, c, e1, e2, e3⟩ := r4 x hx
      obtain ⟨_, _, _, hm⟩ := hlast i ks x.1 c e1 e2 e3
      obtain ⟨y, hy, e⟩ := List.mem_map.1 hm
      rw [← e] at ho ⊢
      exact h.free y (List.mem_append_left _ hy) ho
    · intro x hx hr
      obtain ⟨i, ks, c, e1, e2, e3⟩ := r4 x hx
      obtain ⟨_, _, _, hm⟩ := hlast i ks x.1 c e1 e2 e3
      exact hn.2.2 _ hm _ hr rfl
end Go.Proofs
end
section
/- The contract of Merge. -/
open Go Go.AM
namespace Go.Proofs
set_option maxRecDepth 100000
theorem Ctx.apart {s0 s : St} {W : Pos → Prop} {m : Lets} (h : Ctx s0 W m s) {b : Pos} {x : AObj} (i : Nat) (hi : m[i]? = some (b, x)) {y : Pos × AObj} (hy : y ∈ m.drop (i + 1)) : b ≠ y.1 := by
  obtain ⟨j, hj⟩ := List.getElem?_of_mem hy
  rw [List.getElem?_drop] at hj
  exact h.ne i (i + 1 + j) hi (x' := y.2) hj (by omega)
theorem addH_kids (x : List CV) (k : Nat) (d : Int) : (addH x k d).map CV.kids = x.map CV.kids := by
  unfold addH
  split
  · rename_i c hc
    rw [List.map_set]
    refine List.ext_getElem? fun j => ?_
    rw [List.getElem?_set]
    split
    · rename_i e
      subst e
      have := (List.getElem?_eq_some_iff.1 hc).1
      rw [if_pos (by simpa using this), List.getElem?_map, hc]
      rfl
    · rfl
  · rfl
theorem heldTo_kids (cls : List Int) (cs : List CV) : ∀ i, (heldTo cls cs i).map CV.kids = (moveC cls cs).map CV.kids
  | 0 => rfl
  | i + 1 => by
    unfold heldTo
    split
    · split
      · rw [addH_kids, heldTo_kids cls cs i]
      · exact heldTo_kids cls cs i
    · exact heldTo_kids cls cs i
theorem merge_c {s0 s : St} {W : Pos → Prop} {hb : Pos} {vs : AVal} {cs : List CV} {m r : Lets} {Q : AVal → St → Prop} (hH : HeapR hb vs cs m) (h : Ctx s0 W (m ++ r) s) (hO : HOk cs)
    (q : ∀ m' s', HeapR hb vs (mergeF cs).2.2 m' → Ctx s0 W (m' ++ r) s' → Q (.tup [.int .i64 (mergeF cs).1, .int .i64 (mergeF cs).2.1]) s') : wpCall Tryd.prog 13 [.ptr hb 0] s Q := by
  obtain ⟨p, V, mr, hc, hR, hV, h1, h4⟩ := open_heap hH h
  have hl := rcs_len hV
  have hno : cs.length ≠ 0 := by omega
  have hKi : ∀ {s' : St}, (∀ x ∈ mr, s'.obj x.1 = some x.2) → s'.Wf → ∀ j c, (rcs cs V)[j]? = some c → IntsAt s' c.kv (kidsOf cs j) ∧ (kidsOf cs j).length ≤ 1000 := by
    intro s' hob hw j c hj
    have hlt : j < cs.length := by have := (List.getElem?_eq_some_iff.1 hj).1; rwa [hl] at this
    have hd : cs[j]? = some cs[j] := List.getElem?_eq_getElem hlt
    obtain ⟨kv, g1, g2⟩ := hR.each (i := j) (ks := cs[j].kids) (by rw [List.getElem?_map, hd]; rfl)
    rw [rcs_get hd g1] at hj
    cases hj
    have hko : kidsOf cs j = cs[j].kids := by unfold kidsOf; rw [hd]
    rw [hko]
    refine ⟨KidV.ints ?_ hw, by have := hO.kids4 _ (List.getElem_mem hlt); omega⟩
    rcases g2 with ⟨e1, e2⟩ | ⟨q, c, e1, e2, e3⟩
    · exact .inl ⟨e2, e1⟩
    · exact .inr ⟨q, c, e2, own_of_obj (hob _ e3)⟩
  have hcell : ∀ {i : Nat} {c : RC}, (rcs cs V)[i]? = some c → ∃ d : CV, cs[i]? = some d ∧ c.taken = d.taken ∧ c.held = d.held := by
    intro i c hc
    have hlt : i < cs.length := by have := (List.getElem?_eq_some_iff.1 hc).1; rwa [hl] at this
    rw [rcs_get (List.getElem?_eq_getElem hlt) (List.getElem?_eq_getElem (show i < V.length by omega))] at hc
    cases hc
    exact ⟨_, List.getElem?_eq_getElem hlt, rfl, rfl⟩
  refine wpCall_of (orc_ne (by decide)) fi13 rfl (by decide) rfl ?_
  refine wp_seq_region ?_
  simp
  have c1 := hc.alloc (C [.ptr hb 0])
  generalize s.alloc (.cells [.ptr hb 0] false) = s1 at c1 ⊢
  generalize s.next = B1 at c1 ⊢
  refine AM.wp_seq ?_
  refine wp_seq_region ?_
  simp [c1.c 0 rfl]
  refine wpCallV_fn ?_
  refine some_wp (c1.c 1 rfl) rfl hno ?_
  simp
  refine AM.wp_condP ?_
  simp
  refine AM.wp_skip ?_
  simp
  refine wp_seq_region ?_
  simp [c1.c 0 rfl, c1.c 1 rfl]
  refine wpCallV_fn ?_
  refine graph_w (K := kidsOf cs) hl c1.wf (c1.oi 2 rfl) (c1.c 2 rfl) h4 (fun j c hj => (hKi (fun x hx => c1.own x (by simp [hx])) c1.wf j c hj).1) fun pn0 lv s2 k2 hN hL => ?_
  rw [nds_rcs hV] at hN
  rw [tak_rcs hV] at hL
  have c2 := c1.keeps k2
  simp
  refine wpCallV_fn ?_
  refine classes_w (graphOf_len cs) c2.wf hN (by omega) hL (by have : (listTo cs cs.length).length ≤ cs.length := Nat.le_trans (List.length_filter_le _ _) (by simp); omega) hO.closed hO.graph_kids fun Bx s3 k3 hBx hox => ?_
  have hcl := clsF_len hO.closed
  rw [graphOf_len] at hcl
  simp only [mergeF] at q
  generalize clsF (graphOf cs) (listTo cs cs.length) = cls at hox hcl q ⊢
  have c3 := c2.made k3 hBx (St.obj_of_own hox)
  simp
  have c4 := (c3.alloc (C [.nilSlice])).put 0 rfl (C [.slice Bx 0 cs.length (.lim cs.length)])
  simp only [List.set_cons_zero] at c4
  generalize (s3.alloc (.cells [.nilSlice] false)).put s3.next (.cells [.slice Bx 0 cs.length (.lim cs.length)] false) = s4 at c4 ⊢
  generalize s3.next = B4 at c4 ⊢
  refine wp_seq_region ?_
  simp [c4.c 2 rfl, c4.c 3 rfl]
  refine wpCallV_fn ?_
  refine own_w (K := kidsOf cs) hl c4.wf (c4.oi 4 rfl) (c4.c 4 rfl) h1 h4 (hKi (fun x hx => c4.own x (by simp [hx])) c4.wf) fun pn kvs s5 k5 hpn hopn hOwn => ?_
  rw [cpI_rcs hV] at hopn
  obtain ⟨mk, hRk, hok, hnk, hfk⟩ := own_rows hOwn
  generalize (List.range cs.length).map kvs = V' at hRk hopn ⊢
  have hV' : V'.length = cs.length := by simpa using hRk.len
  clear hOwn
  -- what is old now lies behind the new rows
  have c5 := (c4.made k5 hpn (St.obj_of_own hopn)).addL (m := mk) hok hnk (fun x hx ho => ((hfk x hx).1 (c4.old ho)).elim) (fun x hx => by
    rw [List.map_cons, List.mem_cons]
    rintro (e | hm)
    · exact (hfk x hx).2 e
    · obtain ⟨y, hy, e⟩ := List.mem_map.1 hm
      exact (hfk x hx).1 (e ▸ c4.ob hy))
  clear hok hnk hfk hpn hopn k5
  have c5 := c5.perm (m' := ((pn, C (encs (rcs cs V'))) :: (B4, C [.slice Bx 0 cs.length (.lim cs.length)]) :: (Bx, C (ints cls)) :: (B1, C [.ptr hb 0]) :: (hb, C [.slice p 0 cs.length (.lim cs.length), vs]) :: (p, C (encs (rcs cs V))) :: (mk ++ (mr ++ r)))) (by
    have := List.perm_append_comm (l₁ := mk) (l₂ := [(pn, C (encs (rcs cs V'))), (B4, C [.slice Bx 0 cs.length (.lim cs.length)]), (Bx, C (ints cls)), (B1, C [.ptr hb 0]), (hb, C [.slice p 0 cs.length (.lim cs.length), vs]), (p, C (encs (rcs cs V)))])
    have := this.append (List.Perm.refl (mr ++ r))
    simpa using this)
  simp
  have c6 := (c5.alloc (C [.nilSlice])).put 0 rfl (C [.slice pn 0 cs.length (.lim cs.length)])
  simp only [List.set_cons_zero] at c6
  generalize (s5.alloc (.cells [.nilSlice] false)).put s5.next (.cells [.slice pn 0 cs.length (.lim cs.length)] false) = s6 at c6 ⊢
  generalize s5.next = B5 at c6 ⊢
  refine wp_seq_region ?_
  simp
  have c7 := (c6.alloc (C [.nilFn])).put 0 rfl (C [.fn 52 [] [.ptr B4 0]])
  simp only [List.set_cons_zero] at c7
  generalize (s6.alloc (.cells [.nilFn] false)).put s6.next (.cells [.fn 52 [] [.ptr B4 0]] false) = s7 at c7 ⊢
  generalize s6.next = B6 at c7 ⊢
  refine wp_seq_region ?_
  simp [c7.c 0 rfl, c7.c 1 rfl]
  have c7 := c7.perm (m' := mk ++ ((B6, C [.fn 52 [] [.ptr B4 0]]) :: (B5, C [.slice pn 0 cs.length (.lim cs.length)]) :: (pn, C (encs (rcs cs V'))) :: (B4, C [.slice Bx 0 cs.length (.lim cs.length)]) :: (Bx, C (ints cls)) :: (B1, C [.ptr hb 0]) :: (hb, C [.slice p 0 cs.length (.lim cs.length), vs]) :: (p, C (encs (rcs cs V))) :: (mr ++ r))) (by
    have := List.perm_append_comm (l₂ := mk) (l₁ := [(B6, C [.fn 52 [] [.ptr B4 0]]), (B5, C [.slice pn 0 cs.length (.lim cs.length)]), (pn, C (encs (rcs cs V'))), (B4, C [.slice Bx 0 cs.length (.lim cs.length)]), (Bx, C (ints cls)), (B1, C [.ptr hb 0]), (hb, C [.slice p 0 cs.length (.lim cs.length), vs]), (p, C (encs (rcs cs V)))])
    have := this.append (List.Perm.refl (mr ++ r))
    simpa using this)
  refine wpCallV_fn ?_
  refine moves_c (pn := pn) (Bx := Bx) (cp := .lim cs.length) (cls := cls) c7 hRk hO hcl h4 (by simp) (by simp) (by simp) fun mk2 s8 hR2 c8 => ?_
  have hV2 : V'.length = cs.length := hV'
  have c8 := c8.perm (m' := (B6, C [.fn 52 [] [.ptr B4 0]]) :: (B5, C [.slice pn 0 cs.length (.lim cs.length)]) :: (pn, C (encs (rcs cs V'))) :: (B4, C [.slice Bx 0 cs.length (.lim cs.length)]) :: (Bx, C (ints cls)) :: (B1, C [.ptr hb 0]) :: (hb, C [.slice p 0 cs.length (.lim cs.length), vs]) :: (p, C (encs (rcs cs V))) :: (mk2 ++ (mr ++ r))) (by
    have := List.perm_append_comm (l₁ := mk2) (l₂ := [(B6, C [.fn 52 [] [.ptr B4 0]]), (B5, C [.slice pn 0 cs.length (.lim cs.length)]), (pn, C (encs (rcs cs V'))), (B4, C [.slice Bx 0 cs.length (.lim cs.length)]), (Bx, C (ints cls)), (B1, C [.ptr hb 0]), (hb, C [.slice p 0 cs.length (.lim cs.length), vs]), (p, C (encs (rcs cs V)))])
    have := this.append (List.Perm.refl (mr ++ r))
    simpa using this)
  clear c7 hRk
  simp
  refine wp_seq_region ?_
  simp
  have c9 := c8.alloc (C [.nilSlice])
  generalize s8.alloc (.cells [.nilSlice] false) = s9 at c9 ⊢
  generalize s8.next = B7 at c9 ⊢
  refine AM.wp_seq ?_
  refine wp_seq_region ?_
  simp [c9.c 6 rfl, c9.c 7 rfl]
  refine wpCallV_fn ?_
  refine taken_wp fun BB hBB => ?_
  have c10 := c9.alloc (C [.slice p 0 cs.length (.lim cs.length)])
  rw [← hBB] at c10
  generalize s9.alloc (.cells [.slice p 0 cs.length (.lim cs.length)] false) = s10 at c10 ⊢
  simp
  refine AM.wp_block ?_
  refine range_taken_c (B := BB) (p := p) (l := rcs cs V) (J := fun i m => ∃ lv mg, GrowR lv (goneTo cls cs i) mg ∧ m = (B7, C [lv]) :: (B6, C [.fn 52 [] [.ptr B4 0]]) :: (B5, C [.slice pn 0 cs.length (.lim cs.length)]) :: (pn, C (encs (rcs (heldTo cls cs i) V'))) :: (B4, C [.slice Bx 0 cs.length (.lim cs.length)]) :: (Bx, C (ints cls)) :: (B1, C [.ptr hb 0]) :: (hb, C [.slice p 0 cs.length (.lim cs.length), vs]) :: (p, C (encs (rcs cs V))) :: (mg ++ (mk2 ++ (mr ++ r))))
    hl h4 (by simp) rfl fi13 rfl ?_ ?_ ?_ ⟨.nilSlice, [], .inl ⟨rfl, rfl, rfl⟩, rfl⟩ (by
      have e : rcs (heldTo cls cs 0) V' = rcs cs V' := rcs_move cls cs V'
      rw [e]
      exact c10) ?_
  · rintro i m s' ⟨lv, mg, hg, rfl⟩ hc'
    exact ⟨hc'.oi 8 rfl, hc'.c 8 rfl⟩
  · rintro i c m hci hct ⟨lv, mg, hg, rfl⟩
    obtain ⟨d, hd, ht, _⟩ := hcell hci
    rw [ht] at hct
    exact ⟨lv, mg, by rw [goneTo_skip hd hct]; exact hg, by simp [heldTo, hd, hct]⟩
  · rintro i c s' m Lb X Wx hci hct ⟨lv, mg, hg, rfl⟩ hc' hW
    obtain ⟨d, hd, ht, hh⟩ := hcell hci
    rw [ht] at hct
    have hi : i < cs.length := (List.getElem?_eq_some_iff.1 hd).1
    obtain ⟨cc, hcc⟩ : ∃ cc, cls[i]? = some cc := ⟨_, List.getElem?_eq_getElem (by omega)⟩
    obtain ⟨j, hj, hji, hcj, _⟩ := toC_spec hcc
    have e : firstI (fun d => decide (cc = d)) cls = (j : Int) := by rw [← hj]; unfold toC; simp [hcc]
    refine AM.wp_block ?_
    refine wp_seq_region ?_
    simp [hc'.c 3 rfl]
    refine wpCallV_fn ?_
    refine merge1_wp (cls := cls) (c := cc) (hc'.c 6 rfl) (by have := ints_own hc'.wf (hc'.o 7 rfl) (.lim cs.length); rw [hcl] at this; exact this) (by omega) (by omega) (by simpa using hcc) ?_
    rw [e]
    simp
    refine wp_seq_region ?_
    simp
    refine AM.wp_condP ?_
    by_cases hij : j = i
    · subst hij
      simp
      refine AM.wp_skip ?_
      simp
      refine hW _ _ _ ⟨lv, mg, ?_, rfl⟩ ?_
      · rw [goneTo_stay hd hct hj]
        exact hg
      · have : heldTo cls cs (j + 1) = heldTo cls cs j := by simp [heldTo, hd, hj]
        rw [this]
        exact hc'
    · have hij' : ¬ (j : Int) = (i : Int) := by omega
      have hne : toC cls (i : Int) ≠ (i : Int) := by rw [hj]; exact hij'
      simp [hij, hij']
      refine wp_seq_region ?_
      have hjl : j < cs.length := by omega
      obtain ⟨x, hx⟩ : ∃ x, (heldTo cls cs i)[j]? = some x := ⟨_, List.getElem?_eq_getElem (by rw [heldTo_len]; omega)⟩
      obtain ⟨v, hv⟩ : ∃ v, V'[j]? = some v := ⟨_, List.getElem?_eq_getElem (by omega)⟩
      have hxr := rcs_get hx hv
      have hg3 : (encs (rcs (heldTo cls cs i) V'))[j * 4 + 3]? = some (.int .i64 x.held) := encs_get _ j 3 _ hxr (by decide)
      have hg4 : (encs (rcs cs V))[i * 4 + 3]? = some (.int .i64 c.held) := encs_get _ i 3 _ hci (by decide)
      have hlay := encs_lay3 _ j _ (IntKind.wrap .i64 (x.held + c.held)) hxr
      rw [hh] at hlay hg4
      rw [rcs_held hx hv] at hlay
      have hstep : heldTo cls cs (i + 1) = addH (heldTo cls cs i) j d.held := by simp [heldTo, hd, hct, hj, hij']
      rw [← hstep] at hlay
      have hle : j * 4 + 3 + 1 ≤ (encs (rcs (heldTo cls cs i) V')).length := by rw [encs_len, rcs_len (by rw [heldTo_len]; exact hV2), heldTo_len]; omega
      simp [lay] at hlay
      simp [hc'.c 4 rfl, hc'.c 8 rfl, hc'.c 9 rfl, hc'.c 10 rfl, hc'.o 5 rfl, hc'.c 5 rfl, hjl, hi, hg3, hg4, hle, eq8_slice]
      rw [hlay]
      have d1 := hc'.put 5 rfl (C (encs (rcs (heldTo cls cs (i + 1)) V')))
      simp only [List.set_cons_succ, List.set_cons_zero] at d1
      generalize s'.put pn (.cells (encs (rcs (heldTo cls cs (i + 1)) V')) false) = sA at d1 ⊢
      refine AM.wp_region ?_
      have d2 := d1.alloc (C [.int .i64 i])
      have hlt := hg.ntup
      simp [d1.c 2 rfl, opP_append, srcP, hlt, hg.cells]
      generalize sA.alloc (.cells [.int .i64 i] false) = sB at d2 ⊢
      generalize sA.next = T at d2 ⊢
      have hgl := goneTo_len cls cs i
      refine ctx_app (pre := [(T, C [.int .i64 i]), (Lb, X), (BB, C [.slice p 0 cs.length (.lim cs.length)]), (B7, C [lv]), (B6, C [.fn 52 [] [.ptr B4 0]]), (B5, C [.slice pn 0 cs.length (.lim cs.length)]), (pn, C (encs (rcs (heldTo cls cs (i + 1)) V'))), (B4, C [.slice Bx 0 cs.length (.lim cs.length)]), (Bx, C (ints cls)), (B1, C [.ptr hb 0]), (hb, C [.slice p 0 cs.length (.lim cs.length), vs]), (p, C (encs (rcs cs V)))]) d2 hg (by omega) fun lv' mg' sC hg' d3 => ?_
      simp at d3
      rw [← goneTo_next hd hct hne] at hg'
      simp [hg'.ntup, hg'.cells, d3.o 3 rfl]
      have d4 := (d3.put 3 rfl (C [lv'])).tail
      exact hW _ _ _ ⟨lv', mg', hg', rfl⟩ d4
  · rintro s' m ⟨lv, mg, hg, rfl⟩ hc'
    simp
    have hlh : (rcs (heldTo cls cs cs.length) V').length = cs.length := by rw [rcs_len (by rw [heldTo_len]; exact hV2), heldTo_len]
    refine AM.wp_seq ?_
    refine wp_seq_region ?_
    simp [hc'.c 2 rfl]
    refine wpCallV_fn ?_
    refine over_w hlh (hc'.oi 3 rfl) (hc'.c 3 rfl) h4 fun s11 k11 => ?_
    rw [any_rcs (by rw [heldTo_len]; exact hV2)]
    have c11 := hc'.keeps k11
    have hperm : ∀ (pre x : Lets), (pre ++ (mg ++ (mk2 ++ x))).Perm ((mg ++ (mk2 ++ pre)) ++ x) := by
      intro pre x
      have h1 := List.perm_append_comm (l₁ := pre) (l₂ := mg ++ mk2)
      have h2 := h1.append (List.Perm.refl x)
      simpa using h2
    cases hov : (heldTo cls cs cs.length).any (fun c => decide (1000 < c.held)) with
    | true =>
      rw [hov] at q
      simp at q
      simp
      refine AM.wp_condP ?_
      simp
      refine wp_seq_region ?_
      simp
      refine AM.wp_ret ?_
      simp
      refine q _ _ (shut_heap (p := p) hR h1 h4) (c11.sub ?_)
      refine List.Sublist.trans ?_ (List.drop_sublist 7 _)
      refine List.Sublist.cons_cons _ (List.Sublist.cons_cons _ ?_)
      rw [← List.append_assoc, ← List.append_assoc]
      exact (List.sublist_append_right (mg ++ mk2) (mr ++ r)).trans (by simp)
    | false =>
      rw [hov] at q
      simp at q
      simp
      refine AM.wp_condP ?_
      simp
      refine AM.wp_skip ?_
      simp
      have hglen := goneTo_len cls cs cs.length
      have hgin : ∀ k ∈ goneTo cls cs cs.length, 0 ≤ k ∧ k < cs.length := fun k hk => by
        obtain ⟨a, b, _⟩ := goneTo_mem.1 hk
        exact ⟨a, b⟩
      refine wp_seq_region ?_
      simp [c11.c 2 rfl, c11.c 0 rfl]
      refine wpCallV_fn ?_
      refine release_w hlh c11.wf (c11.o 3 rfl) (by omega) hgin (fun s' hS => ?_) fun s12 hS hpn2 => ?_
      · have hmg : Ctx s0 W mg s' := (c11.sub (m' := mg) (by
          refine List.Sublist.trans ?_ (List.drop_sublist 9 _)
          exact List.sublist_append_left _ _)).same hS (fun b hb ho => by
            simp at hb
            subst hb
            exact c11.free _ (List.mem_of_getElem? (i := 3) rfl) ho) (fun x hx hb => by
            simp at hb
            exact c11.apart 3 rfl (y := x) (by simp [hx]) hb.symm)
        exact (hg.row.kid fun x hx => hmg.own x hx).ints hmg.wf
      · have c12 := c11.chg 3 rfl hS (St.obj_of_own hpn2)
        simp only [List.set_cons_succ, List.set_cons_zero] at c12
        obtain ⟨V3, m3, dd, e1, e2, e3⟩ := rel_rows (goneTo cls cs cs.length) (cs := heldTo cls cs cs.length) (V := V') (m := mk2) (by rw [heldTo_len]; exact hV2) (by rw [heldTo_kids]; exact hR2) (by rw [heldTo_len]; exact hgin)
        rw [e1] at c12
        simp
        refine wp_seq_region ?_
        simp [c12.c 6 rfl, c12.c 2 rfl, c12.o 7 rfl]
        have c13 := c12.put 7 rfl (C [.slice pn 0 cs.length (.lim cs.length), vs])
        simp only [List.set_cons_succ, List.set_cons_zero] at c13
        generalize s12.put hb (.cells [.slice pn 0 cs.length (.lim cs.length), vs] false) = s13 at c13 ⊢
        refine wp_seq_region ?_
        simp [c13.c 0 rfl, hg.len]
        refine AM.wp_ret ?_
        simp
        have hlen : (relC (heldTo cls cs cs.length) (goneTo cls cs cs.length)).length = cs.length := by rw [relC_len, heldTo_len]
        refine q _ _ (shut_heap (p := pn) e2 (by omega) (by omega)) ?_
        rw [hlen]
        have c14 := c13.sub (m' := (pn, C (encs (rcs (relC (heldTo cls cs cs.length) (goneTo cls cs cs.length)) V3))) :: (hb, C [.slice pn 0 cs.length (.lim cs.length), vs]) :: (mk2 ++ r)) (.cons _ (.cons _ (.cons _ (.cons_cons _ (.cons _ (.cons _ (.cons _ (.cons_cons _ (.cons _
          (List.Sublist.trans ((List.Sublist.refl mk2).append (List.sublist_append_right mr r)) (List.sublist_append_right mg _)))))))))))
        have c15 := c14.perm ((List.Perm.swap _ _ _).trans (List.Perm.cons _ (List.Perm.cons _ (e3.append (List.Perm.refl r)))))
        exact c15.sub (.cons_cons _ (.cons_cons _ ((List.sublist_append_left m3 dd).append (List.Sublist.refl r))))
end Go.Proofs
end
section
/- Rows that are turned: the least turn by which a row stays the same. -/
namespace Go.Proofs
/-- The row is the same when it is turned so far. -/
def Turn (n : Nat) (f : Nat → Bool) (d : Nat) : Prop := ∀ x, f ((x + d) % n) = f (x % n)
theorem turn_all (n : Nat) (f : Nat → Bool) : Turn n f n := fun x => by rw [Nat.add_mod_right]
theorem turn_sub {n : Nat} {f : Nat → Bool} {a b : Nat} (ha : Turn n f a) (hb : Turn n f b) (h : a ≤ b) : Turn n f (b - a) := fun x => by
  have h1 := ha (x + (b - a))
  rw [show x + (b - a) + a = x + b by omega] at h1
  rw [← h1]
  exact hb x
theorem turn_mul {n : Nat} {f : Nat → Bool} {a : Nat} (ha : Turn n f a) : ∀ k, Turn n f (k * a)
  | 0 => fun x => by simp
  | k + 1 => fun x => by
    rw [show x + (k + 1) * a = (x + k * a) + a by rw [Nat.add_mul]; omega, ha (x + k * a)]
    exact turn_mul ha k x
/-- What the law looks for: the least divisor by which the row stays the same. -/
structure Least (n : Nat) (f : Nat → Bool) (p : Nat) : Prop where
  pos : 0 < p
  le : p ≤ n
  turn : Turn n f p
  min : ∀ d, 0 < d → d < p → n % d = 0 → ¬ Turn n f d
/-- No lesser turn at all. -/
theorem Least.none {n : Nat} {f : Nat → Bool} {p : Nat} (h : Least n f p) : ∀ d, 0 < d → d < p → ¬ Turn n f d := by
  intro d
  induction d using Nat.strongRecOn with
  | _ d ih =>
    intro hd hlt ht
    -- the least turn of all divides n
    have hdiv : ∀ m, Turn n f m → m % d = 0 := by
      intro m hm
      refine Classical.byContradiction fun hne => ?_
      have h1 : Turn n f (m - m / d * d) := turn_sub (turn_mul ht _) hm (Nat.div_mul_le_self m d)
      have h2 : m - m / d * d = m % d := by have := Nat.div_add_mod m d; rw [Nat.mul_comm] at this; omega
      rw [h2] at h1
      have h3 := Nat.mod_lt m hd
      exact ih (m % d) h3 (by omega) (by omega) h1
    exact h.min d hd hlt (hdiv n (turn_all n f)) ht
theorem Least.divides {n : Nat} {f : Nat → Bool} {p : Nat} (h : Least n f p) {d : Nat} (hd : Turn n f d) : d % p = 0 := by
  refine Classical.byContradiction fun hne => ?_
  have h1 : Turn n f (d - d / p * p) := turn_sub (turn_mul h.turn _) hd (Nat.div_mul_le_self d p)
  have h2 : d - d / p * p = d % p := by have := Nat.div_add_mod d p; rw [Nat.mul_comm] at this; omega
  rw [h2] at h1
  exact h.none (d % p) (by omega) (Nat.mod_lt d h.pos) h1
/-- Two places read the same way round iff they lie so many turns apart. -/
theorem same_iff {n : Nat} {f : Nat → Bool} {p : Nat} (h : Least n f p) {i j : Nat} (hj : j < n) (hij : i ≤ j) : (∀ t, f ((i + t) % n) = f ((j + t) % n)) ↔ (j - i) % p = 0 := by
  have hn : 0 < n := by omega
  constructor
  · intro hs
    refine h.divides fun x => ?_
    -- x = i + t, round the ring
    have h1 := hs (x + (n - i))
    have h2 : (i + (x + (n - i))) % n = x % n := by rw [show i + (x + (n - i)) = x + n by omega, Nat.add_mod_right]
    have h3 : (j + (x + (n - i))) % n = (x + (j - i)) % n := by rw [show j + (x + (n - i)) = x + (j - i) + n by omega, Nat.add_mod_right]
    rw [h2, h3] at h1
    exact h1.symm
  · intro hm t
    have h1 : (j - i) = (j - i) / p * p := by have := Nat.div_add_mod (j - i) p; rw [Nat.mul_comm] at this; omega
    have h2 := turn_mul h.turn ((j - i) / p) (i + t)
    rw [← h1, show i + t + (j - i) = j + t by omega] at h2
    exact h2.symm
end Go.Proofs
end
section
/- The law of rings, in plain. -/
open Go Go.AM
namespace Go.Proofs
set_option maxRecDepth 100000
theorem clsF_alike {nds : List (List UInt8 × List Int)} {L : List Nat} (h : Closed nds L) {a b : Nat} (ha : a ∈ L) (hb : b ∈ L) : (clsF nds L)[a]? = (clsF nds L)[b]? ↔ ∀ r, sim nds r a b := by
  obtain ⟨R, h1, h2, _⟩ := clsF_eq h
  rw [h1]
  exact class_alike h h2 ha hb
theorem heldTo_taken (cls : List Int) (cs : List CV) : ∀ i, (heldTo cls cs i).map CV.taken = cs.map CV.taken
  | 0 => by
    simp only [heldTo, moveC, List.map_map]
    refine List.map_congr_left fun c _ => ?_
    simp only [Function.comp]
    split <;> rfl
  | i + 1 => by
    have hadd : ∀ (x : List CV) (k : Nat) (d : Int), (addH x k d).map CV.taken = x.map CV.taken := by
      intro x k d
      unfold addH
      split
      · rename_i c hc
        rw [List.map_set]
        refine List.ext_getElem? fun j => ?_
        rw [List.getElem?_set]
        split
        · rename_i e
          subst e
          have := (List.getElem?_eq_some_iff.1 hc).1
          rw [if_pos (by simpa using this), List.getElem?_map, hc]
          rfl
        · rfl
      · rfl
    unfold heldTo
    split
    · split
      · rw [hadd, heldTo_taken cls cs i]
      · exact heldTo_taken cls cs i
    · exact heldTo_taken cls cs i
theorem heldTo_zero (cls : List Int) (cs : List CV) (h : ∀ c ∈ cs, c.held = 0) : ∀ i, ∀ c ∈ heldTo cls cs i, c.held = 0
  | 0 => by
    intro c hc
    simp only [heldTo, moveC, List.mem_map] at hc
    obtain ⟨d, hd, rfl⟩ := hc
    have := h d hd
    split <;> exact this
  | i + 1 => by
    intro c hc
    unfold heldTo at hc
    split at hc
    · rename_i d hd
      split at hc
      · unfold addH at hc
        split at hc
        · rename_i x hx
          rcases List.mem_or_eq_of_mem_set hc with hc | rfl
          · exact heldTo_zero cls cs h i c hc
          · have h1 := heldTo_zero cls cs h i x (List.mem_of_getElem? hx)
            have h2 := h d (List.mem_of_getElem? hd)
            simp [h1, h2]
            decide
        · exact heldTo_zero cls cs h i c hc
      · exact heldTo_zero cls cs h i c hc
    · exact heldTo_zero cls cs h i c hc
theorem sizeF_taken (cs : List CV) : sizeF cs = (cs.map CV.taken).countP id := by
  unfold sizeF
  rw [List.countP_map]
  rfl
theorem size_set : ∀ (cs : List CV) (k : Nat) (c : CV), cs[k]? = some c → c.taken = true → sizeF (cs.set k freeV) + 1 = sizeF cs
  | [], k, c, h, _ => by simp at h
  | d :: cs, 0, c, h, ht => by
    simp at h
    subst h
    simp [sizeF, List.countP_cons, ht, freeV]
  | d :: cs, k + 1, c, h, ht => by
    have := size_set cs k c (by simpa using h) ht
    simp only [sizeF, List.set_cons_succ, List.countP_cons] at this ⊢
    omega
theorem size_rel : ∀ (gone : List Int) (cs : List CV), gone.Nodup → (∀ k ∈ gone, takesC cs k = true) → sizeF (relC cs gone) + gone.length = sizeF cs
  | [], cs, _, _ => rfl
  | k :: gone, cs, hn, hk => by
    rw [List.nodup_cons] at hn
    obtain ⟨h0, c, hc, ht, hlt⟩ := takesC_some (hk k (by simp))
    have ih := size_rel gone (cs.set k.toNat freeV) hn.2 (fun j hj => by
      have h1 := hk j (by simp [hj])
      obtain ⟨g0, d, hd, htd, _⟩ := takesC_some h1
      have hne : k.toNat ≠ j.toNat := fun e => hn.1 (by
        have : k = j := by omega
        rw [this]
        exact hj)
      unfold takesC
      rw [List.getElem?_set_ne hne, hd]
      simp [g0, htd])
    have h2 := size_set cs k.toNat c hc ht
    show sizeF (relC (cs.set k.toNat freeV) gone) + (gone.length + 1) = _
    omega
theorem goneTo_nodup (cls : List Int) (cs : List CV) (i : Nat) : (goneTo cls cs i).Nodup := by
  unfold goneTo listTo
  refine List.Pairwise.map _ (fun a b h => ?_) (((List.nodup_range).filter _).filter _)
  intro e
  exact h (by omega)
/-! ### The ring -/
def nmOf (b : Bool) : List UInt8 := if b = true then [117] else [115]
def ringCells (bs : List Bool) : List CV := ⟨true, [97], [], 0⟩ :: bs.mapIdx fun j b => ⟨true, nmOf b, [(((j + 1) % bs.length + 1 : Nat) : Int)], 0⟩
def rowF (bs : List Bool) (x : Nat) : Bool := (bs[x]?).getD false
theorem ring_len (bs : List Bool) : (ringCells bs).length = bs.length + 1 := by simp [ringCells]
theorem ring_zero (bs : List Bool) : (ringCells bs)[0]? = some ⟨true, [97], [], 0⟩ := rfl
theorem ring_get {bs : List Bool} {i : Nat} (h : i < bs.length) : (ringCells bs)[i + 1]? = some ⟨true, nmOf (rowF bs i), [(((i + 1) % bs.length + 1 : Nat) : Int)], 0⟩ := by
  unfold ringCells rowF
  rw [List.getElem?_cons_succ, List.getElem?_mapIdx, List.getElem?_eq_getElem h]
  rfl
theorem ring_all (bs : List Bool) : ∀ c ∈ ringCells bs, c.taken = true ∧ c.held = 0 ∧ c.kids.length ≤ 1 ∧ ∀ k ∈ c.kids, takesC (ringCells bs) k = true := by
  intro c hc
  obtain ⟨i, hi⟩ := List.getElem?_of_mem hc
  have hlt := (List.getElem?_eq_some_iff.1 hi).1
  rw [ring_len] at hlt
  cases i with
  | zero =>
    rw [ring_zero] at hi
    cases hi
    simp
  | succ i =>
    rw [ring_get (by omega)] at hi
    cases hi
    refine ⟨rfl, rfl, by simp, fun k hk => ?_⟩
    simp only [List.mem_singleton] at hk
    subst hk
    have hm : (i + 1) % bs.length < bs.length := Nat.mod_lt _ (by omega)
    exact takesC_nat (ring_get hm)
theorem ring_ok (bs : List Bool) : HOk (ringCells bs) := ⟨fun c hc => by have := (ring_all bs c hc).2.2.1; omega, fun c hc _ => (ring_all bs c hc).2.2.2⟩
theorem ring_list (bs : List Bool) (i : Nat) : i ∈ listTo (ringCells bs) (ringCells bs).length ↔ i ≤ bs.length := by
  rw [mem_listTo, ring_len]
  constructor
  · rintro ⟨h, _⟩
    omega
  · intro h
    refine ⟨by omega, ?_⟩
    have hc : (ringCells bs)[i]? = some ((ringCells bs)[i]'(by rw [ring_len]; omega)) := List.getElem?_eq_getElem _
    rw [takesC_nat hc]
    exact (ring_all bs _ (List.getElem_mem _)).1
theorem ring_node0 (bs : List Bool) : (graphOf (ringCells bs))[0]? = some ([97], []) := rfl
theorem ring_node {bs : List Bool} {i : Nat} (h : i < bs.length) : (graphOf (ringCells bs))[i + 1]? = some (nmOf (rowF bs i), [(((i + 1) % bs.length + 1 : Nat) : Int)]) := by
  rw [graphOf_get (ring_get h)]
  rfl
theorem nm_inj {a b : Bool} (h : nmOf a = nmOf b) : a = b := by
  cases a <;> cases b <;> first | rfl | (simp [nmOf] at h)
theorem ring_sim (bs : List Bool) : ∀ (r i j : Nat), i < bs.length → j < bs.length → (sim (graphOf (ringCells bs)) r (i + 1) (j + 1) ↔ ∀ t, t < r → rowF bs ((i + t) % bs.length) = rowF bs ((j + t) % bs.length))
  | 0, i, j, _, _ => by simp [sim]
  | r + 1, i, j, hi, hj => by
    have hn : 0 < bs.length := by omega
    have mi : (i + 1) % bs.length < bs.length := Nat.mod_lt _ hn
    have mj : (j + 1) % bs.length < bs.length := Nat.mod_lt _ hn
    have ih := ring_sim bs r _ _ mi mj
    have hsh : ∀ (i t : Nat), ((i + 1) % bs.length + t) % bs.length = (i + (t + 1)) % bs.length := by
      intro i t
      rw [Nat.mod_add_mod]
      congr 1
      omega
    constructor
    · rintro ⟨x, y, hx, hy, e1, e2, e3⟩
      rw [ring_node hi] at hx
      rw [ring_node hj] at hy
      cases hx
      cases hy
      have h1 := e3 0 _ _ rfl rfl
      simp only [Int.toNat_natCast] at h1
      have h2 := ih.1 h1
      intro t ht
      cases t with
      | zero =>
        rw [Nat.add_zero, Nat.add_zero, Nat.mod_eq_of_lt hi, Nat.mod_eq_of_lt hj]
        exact nm_inj e1
      | succ t =>
        have := h2 t (by omega)
        rw [hsh, hsh] at this
        exact this
    · intro h
      refine ⟨_, _, ring_node hi, ring_node hj, ?_, rfl, ?_⟩
      · have := h 0 (by omega)
        rw [Nat.add_zero, Nat.add_zero, Nat.mod_eq_of_lt hi, Nat.mod_eq_of_lt hj] at this
        show nmOf _ = nmOf _
        rw [this]
      · intro x k m hk hm
        have hx : x = 0 := by
          have := (List.getElem?_eq_some_iff.1 hk).1
          simp at this
          omega
        subst hx
        have hk : (((i + 1) % bs.length + 1 : Nat) : Int) = k := by simpa using hk
        have hm : (((j + 1) % bs.length + 1 : Nat) : Int) = m := by simpa using hm
        rw [← hk, ← hm, Int.toNat_natCast, Int.toNat_natCast]
        refine ih.2 fun t ht => ?_
        rw [hsh, hsh]
        exact h (t + 1) (by omega)
theorem ring_apart (bs : List Bool) {i : Nat} (h : i < bs.length) : ¬ sim (graphOf (ringCells bs)) 1 0 (i + 1) := by
  rintro ⟨x, y, hx, hy, e1, e2, _⟩
  rw [ring_node0] at hx
  rw [ring_node h] at hy
  cases hx
  cases hy
  simp at e2
section
variable {bs : List Bool} {p : Nat} (hp : Least bs.length (rowF bs) p)
include hp
theorem ring_to (i : Nat) (hi : i < bs.length) : toC (clsF (graphOf (ringCells bs)) (listTo (ringCells bs) (ringCells bs).length)) ((i + 1 : Nat) : Int) = ((i + 1 : Nat) : Int) ↔ i < p := by
  have hC := (ring_ok bs).closed
  have hlen := clsF_len hC
  have hrl := ring_len bs
  rw [graphOf_len] at hlen
  have hal := fun {a b : Nat} (ha : a ≤ bs.length) (hb : b ≤ bs.length) => clsF_alike hC ((ring_list bs a).2 ha) ((ring_list bs b).2 hb)
  generalize clsF (graphOf (ringCells bs)) (listTo (ringCells bs) (ringCells bs).length) = cls at hlen hal ⊢
  obtain ⟨c, hc⟩ : ∃ c, cls[i + 1]? = some c := ⟨_, List.getElem?_eq_getElem (by omega)⟩
  obtain ⟨j, hj, hji, hcj, hmin⟩ := toC_spec hc
  rw [hj]
  have hij : ∀ (i j : Nat), i ≤ j → j < bs.length → (cls[i + 1]? = cls[j + 1]? ↔ (j - i) % p = 0) := by
    intro i j hij hj
    rw [hal (by omega) (by omega), ← same_iff hp hj hij]
    constructor
    · intro h t
      exact (ring_sim bs (t + 1) i j (by omega) hj).1 (h (t + 1)) t (by omega)
    · intro h r
      exact (ring_sim bs r i j (by omega) hj).2 fun t _ => h t
  constructor
  · intro e
    have e : j = i + 1 := by omega
    subst e
    refine Classical.byContradiction fun hlt => ?_
    have h1 := (hij (i - p) i (by omega) hi).2 (by rw [show i - (i - p) = p by omega, Nat.mod_self])
    have hpp := hp.pos
    exact hmin (i - p + 1) c (by omega) (h1.trans hc) rfl
  · intro hlt
    refine Classical.byContradiction fun hne => ?_
    have hne : j ≠ i + 1 := fun e => hne (by rw [e])
    cases j with
    | zero =>
      have h1 : cls[0]? = cls[i + 1]? := hcj.trans hc.symm
      exact ring_apart bs hi ((hal (by omega) (by omega)).1 h1 1)
    | succ j =>
      have h1 := (hij j i (by omega) hi).1 (hcj.trans hc.symm)
      rw [Nat.mod_eq_of_lt (by omega)] at h1
      omega
theorem ring_zero_to : toC (clsF (graphOf (ringCells bs)) (listTo (ringCells bs) (ringCells bs).length)) 0 = 0 := by
  have hC := (ring_ok bs).closed
  have hlen := clsF_len hC
  have hrl := ring_len bs
  rw [graphOf_len] at hlen
  obtain ⟨c, hc⟩ : ∃ c, (clsF (graphOf (ringCells bs)) (listTo (ringCells bs) (ringCells bs).length))[0]? = some c := ⟨_, List.getElem?_eq_getElem (by omega)⟩
  obtain ⟨j, hj, hji, _⟩ := toC_spec hc
  have : j = 0 := by omega
  subst this
  exact hj
theorem range_count (p : Nat) : ∀ m, ((List.range m).filter fun j => decide (p < j)).length = m - (p + 1)
  | 0 => by simp
  | m + 1 => by
    rw [List.range_succ, List.filter_append, List.length_append, range_count p m]
    by_cases h : p < m
    · simp [h]
      omega
    · simp [h]
      omega
theorem ring_gone : (goneTo (clsF (graphOf (ringCells bs)) (listTo (ringCells bs) (ringCells bs).length)) (ringCells bs) (ringCells bs).length).length = bs.length - p := by
  have hto := ring_to hp
  have h0 := ring_zero_to hp
  generalize clsF (graphOf (ringCells bs)) (listTo (ringCells bs) (ringCells bs).length) = cls at hto h0 ⊢
  unfold goneTo
  rw [List.length_map]
  have e1 : listTo (ringCells bs) (ringCells bs).length = List.range (bs.length + 1) := by
    unfold listTo
    rw [ring_len]
    refine List.filter_eq_self.2 fun j hj => ?_
    have hj : j < bs.length + 1 := by simpa using hj
    have := (ring_list bs j).2 (by omega)
    rw [mem_listTo] at this
    exact this.2
  rw [e1]
  have e2 : (List.range (bs.length + 1)).filter (fun (j : Nat) => decide (toC cls (j : Int) ≠ (j : Int))) = (List.range (bs.length + 1)).filter (fun j => decide (p < j)) := by
    refine List.filter_congr fun j hj => ?_
    have hj : j < bs.length + 1 := by simpa using hj
    have hpp := hp.pos
    cases j with
    | zero =>
      have h1 : ¬ p < 0 := by omega
      simp [h0, h1]
    | succ j =>
      have h1 := hto j (by omega)
      by_cases h2 : j < p
      · have h3 : ¬ p < j + 1 := by omega
        simp only [h1.2 h2, h3]
        simp
      · have h3 : p < j + 1 := by omega
        have h4 : toC cls ((j + 1 : Nat) : Int) ≠ ((j + 1 : Nat) : Int) := fun e => h2 (h1.1 e)
        simp only [h3]
        simpa using h4
  rw [e2, range_count (bs := bs) hp]
  omega
/-- THE LAW OF RINGS. -/
theorem ring_law : (mergeF (ringCells bs)).1 = ((bs.length - p : Nat) : Int) ∧ (mergeF (ringCells bs)).2.1 = 0 ∧ sizeF (mergeF (ringCells bs)).2.2 = p + 1 := by
  have hg := ring_gone hp
  have hnd := goneTo_nodup (clsF (graphOf (ringCells bs)) (listTo (ringCells bs) (ringCells bs).length)) (ringCells bs) (ringCells bs).length
  have hz := heldTo_zero (clsF (graphOf (ringCells bs)) (listTo (ringCells bs) (ringCells bs).length)) (ringCells bs) (fun c hc => (ring_all bs c hc).2.1) (ringCells bs).length
  have ht := heldTo_taken (clsF (graphOf (ringCells bs)) (listTo (ringCells bs) (ringCells bs).length)) (ringCells bs) (ringCells bs).length
  have hmem := fun (k : Int) => goneTo_mem (cls := clsF (graphOf (ringCells bs)) (listTo (ringCells bs) (ringCells bs).length)) (cs := ringCells bs) (i := (ringCells bs).length) (k := k)
  unfold mergeF
  generalize clsF (graphOf (ringCells bs)) (listTo (ringCells bs) (ringCells bs).length) = cls at hg hnd hz ht hmem ⊢
  have hov : (heldTo cls (ringCells bs) (ringCells bs).length).any (fun c => decide (1000 < c.held)) = false := by
    rw [List.any_eq_false]
    intro c hc
    simp [hz c hc]
  rw [if_neg (by rw [hov]; decide)]
  refine ⟨by rw [hg], rfl, ?_⟩
  show sizeF (relC (heldTo cls (ringCells bs) (ringCells bs).length) (goneTo cls (ringCells bs) (ringCells bs).length)) = p + 1
  have htk : ∀ k, takesC (heldTo cls (ringCells bs) (ringCells bs).length) k = takesC (ringCells bs) k := by
    intro k
    have := congrArg (fun l => l[k.toNat]?) ht
    simp only [List.getElem?_map] at this
    unfold takesC
    cases h1 : (heldTo cls (ringCells bs) (ringCells bs).length)[k.toNat]? with
    | none =>
      cases h2 : (ringCells bs)[k.toNat]? with
      | none => rfl
      | some y => rw [h1, h2] at this; simp at this
    | some x =>
      cases h2 : (ringCells bs)[k.toNat]? with
      | none => rw [h1, h2] at this; simp at this
      | some y =>
        rw [h1, h2] at this
        have : x.taken = y.taken := by simpa using this
        simp [this]
  have h1 := size_rel _ (heldTo cls (ringCells bs) (ringCells bs).length) hnd (fun k hk => by
    rw [htk]
    exact ((hmem k).1 hk).2.2.1)
  rw [hg, sizeF_taken (heldTo cls (ringCells bs) (ringCells bs).length), ht, ← sizeF_taken] at h1
  have h2 : sizeF (ringCells bs) = bs.length + 1 := by
    unfold sizeF
    rw [List.countP_eq_length.2 fun c hc => (ring_all bs c hc).1, ring_len]
  have := hp.le
  omega
end
end Go.Proofs
end
section
/- The law of rings: how the ring comes to be. -/
open Go Go.AM
namespace Go.Proofs
set_option maxRecDepth 100000
/-- Cells that are made so far. -/
def madeC (bs : List Bool) (i : Nat) : List CV := ⟨true, [97], [], 0⟩ :: bs.mapIdx fun j b => if j < i then ⟨true, nmOf b, [0], 0⟩ else freeV
/-- Cells that are tied so far. -/
def tiedC (bs : List Bool) (i : Nat) : List CV := ⟨true, [97], [], 0⟩ :: bs.mapIdx fun j b => ⟨true, nmOf b, [if j < i then (((j + 1) % bs.length + 1 : Nat) : Int) else 0], 0⟩
theorem made_zero (bs : List Bool) : madeC bs 0 = (List.replicate (bs.length + 1) freeV).set 0 ⟨true, [97], [], 0⟩ := by
  unfold madeC
  rw [List.replicate_succ, List.set_cons_zero]
  congr 1
  refine List.ext_getElem? fun j => ?_
  rw [List.getElem?_mapIdx]
  by_cases h : j < bs.length
  · simp [h]
  · rw [List.getElem?_eq_none (by omega), List.getElem?_eq_none (by simp; omega)]
    rfl
theorem tied_zero (bs : List Bool) : madeC bs bs.length = tiedC bs 0 := by
  unfold madeC tiedC
  congr 1
  refine List.ext_getElem? fun j => ?_
  rw [List.getElem?_mapIdx, List.getElem?_mapIdx]
  by_cases h : j < bs.length
  · simp [h]
  · rw [List.getElem?_eq_none (by omega)]
    rfl
theorem tied_all (bs : List Bool) : tiedC bs bs.length = ringCells bs := by
  unfold ringCells tiedC
  congr 1
  refine List.ext_getElem? fun j => ?_
  rw [List.getElem?_mapIdx, List.getElem?_mapIdx]
  by_cases h : j < bs.length
  · simp [h]
  · rw [List.getElem?_eq_none (by omega)]
    rfl
theorem made_len (bs : List Bool) (i : Nat) : (madeC bs i).length = bs.length + 1 := by simp [madeC]
theorem tied_len (bs : List Bool) (i : Nat) : (tiedC bs i).length = bs.length + 1 := by simp [tiedC]
theorem mk_first (n : Nat) : mkF (List.replicate (n + 1) freeV) [97] [] = (0, 0, (List.replicate (n + 1) freeV).set 0 ⟨true, [97], [], 0⟩) := by
  unfold mkF
  have : freeC' (List.replicate (n + 1) freeV) = 0 := by
    unfold freeC'
    rw [List.replicate_succ, List.findIdx?_cons]
    rfl
  rw [if_neg (by simp), this]
  simp
theorem mk_next {bs : List Bool} {i : Nat} {b : Bool} (h : bs[i]? = some b) : mkF (madeC bs i) (nmOf b) [0] = (((i + 1 : Nat) : Int), 0, madeC bs (i + 1)) := by
  have hi : i < bs.length := (List.getElem?_eq_some_iff.1 h).1
  have hf : freeC' (madeC bs i) = ((i + 1 : Nat) : Int) := by
    have : (madeC bs i).findIdx? (fun c => !c.taken) = some (i + 1) := by
      rw [List.findIdx?_eq_some_iff_getElem]
      refine ⟨by rw [made_len]; omega, ?_, fun j hj => ?_⟩
      · simp [madeC, freeV]
      · cases j with
        | zero => simp [madeC]
        | succ j =>
          have : j < i := by omega
          simp [madeC, this]
    unfold freeC'
    rw [this]
  unfold mkF
  rw [if_neg (by simp [takesC, madeC]), hf, if_neg (by omega), Int.toNat_natCast]
  congr 2
  unfold madeC
  rw [List.set_cons_succ]
  congr 1
  refine List.ext_getElem? fun j => ?_
  rw [List.getElem?_set, List.getElem?_mapIdx, List.getElem?_mapIdx]
  by_cases e : i = j
  · subst e
    have hb : bs[i] = b := (List.getElem?_eq_some_iff.1 h).2
    simp [hi, hb]
  · rw [if_neg e]
    by_cases hj : j < bs.length
    · have : j < i ↔ j < i + 1 := by omega
      simp [hj, this]
    · rw [List.getElem?_eq_none (by omega)]
      rfl
theorem tie_next {bs : List Bool} {i : Nat} (hi : i < bs.length) : tieF (tiedC bs i) ((i + 1 : Nat) : Int) 0 (((i + 1) % bs.length + 1 : Nat) : Int) = (0, tiedC bs (i + 1)) := by
  have hb : bs[i]? = some bs[i] := List.getElem?_eq_getElem hi
  have hm : (i + 1) % bs.length < bs.length := Nat.mod_lt _ (by omega)
  have hget : ∀ k j, j < bs.length → (tiedC bs k)[j + 1]? = some ⟨true, nmOf (rowF bs j), [if j < k then (((j + 1) % bs.length + 1 : Nat) : Int) else 0], 0⟩ := by
    intro k j hj
    unfold tiedC rowF
    rw [List.getElem?_cons_succ, List.getElem?_mapIdx, List.getElem?_eq_getElem hj]
    rfl
  unfold tieF
  rw [if_pos]
  · rw [Int.toNat_natCast, hget i i hi]
    simp only
    congr 1
    unfold tiedC
    rw [List.set_cons_succ]
    congr 1
    refine List.ext_getElem? fun j => ?_
    rw [List.getElem?_set, List.getElem?_mapIdx, List.getElem?_mapIdx]
    by_cases e : i = j
    · subst e
      simp [hi, rowF]
    · rw [if_neg e]
      by_cases hj : j < bs.length
      · have : j < i ↔ j < i + 1 := by omega
        simp [hj, this]
      · rw [List.getElem?_eq_none (by omega)]
        rfl
  · refine ⟨?_, ?_, by omega, ?_⟩
    · rw [takesC_nat (hget i i hi)]
    · rw [takesC_nat (hget i _ hm)]
    · rw [Int.toNat_natCast, kidsOf_get (hget i i hi)]
      simp
/-- A row that is read alone. -/
def RowAt (s : St) (v : AVal) (xs : List AVal) : Prop := (slcLen v = some 0 ∧ xs = []) ∨
  ∃ b o c cs, v = .slice b o xs.length c ∧ s.Old b ∧ s.cells b = some cs ∧ o + xs.length ≤ cs.length ∧ ∀ (i : Nat) x, xs[i]? = some x → cs[o + i]? = some x
theorem RowAt.keep {s s' : St} {v : AVal} {xs : List AVal} (h : RowAt s v xs) (hk : ∀ b, s.Old b → s'.Old b ∧ s'.cells b = s.cells b) : RowAt s' v xs := by
  rcases h with h | ⟨b, o, c, cs, h1, h2, h3, h4⟩
  · exact .inl h
  · exact .inr ⟨b, o, c, cs, h1, (hk b h2).1, (hk b h2).2.trans h3, h4⟩
theorem RowAt.len {s : St} {v : AVal} {xs : List AVal} (h : RowAt s v xs) : slcLen v = some xs.length := by
  rcases h with ⟨h1, rfl⟩ | ⟨b, o, c, cs, rfl, _⟩
  · exact h1
  · rfl
theorem new_c {s0 s : St} {W : Pos → Prop} {r : Lets} {n : Int} {Q : AVal → St → Prop} (h : Ctx s0 W r s) (h1 : 1 ≤ n) (h2 : n ≤ 400)
    (q : ∀ hb m s', HeapR hb .nilSlice (List.replicate n.toNat freeV) m → Ctx s0 W (m ++ r) s' → Q (.tup [.ptr hb 0, .int .i64 0]) s') : wpCall Tryd.prog 10 [.int .i64 n] s Q := by
  refine new_wp h.wf h1 h2 ?_
  have hV : ∀ n : Nat, (List.replicate n [AVal.bool false, .str [], .nilSlice, .int .i64 0]).flatten = encs (rcs (List.replicate n freeV) (List.replicate n .nilSlice)) := by
    intro n
    simp [encs, rcs, RC.enc, freeV, List.zipWith_replicate, List.flatMap]
  have hR : ∀ n : Nat, RowsR ((List.replicate n freeV).map CV.kids) (List.replicate n .nilSlice) [] := by
    intro n
    induction n with
    | zero => rfl
    | succ n ih =>
      rw [List.replicate_succ, List.replicate_succ]
      exact ⟨[], [], List.Perm.refl _, .inl ⟨rfl, rfl, rfl⟩, ih⟩
  have c1 := h.alloc (C (List.replicate n.toNat [AVal.bool false, .str [], .nilSlice, .int .i64 0]).flatten)
  have c2 := c1.alloc (C [.slice s.next 0 n.toNat (.lim n.toNat), .nilSlice])
  refine q _ _ _ (shut_heap (p := s.next) (V := List.replicate n.toNat .nilSlice) (mr := []) (hR _) (by simp; omega) (by simp; omega)) ?_
  rw [List.length_replicate, ← hV]
  exact c2
end Go.Proofs
end
section
/- Rows of Booleans and of bytes, read as arguments. -/
open Go Go.AM
namespace Go.Proofs
set_option maxRecDepth 100000
theorem c4 : Tryd.prog.cellsOf 4 = 1 := by kernel_rfl
theorem c5 : Tryd.prog.cellsOf 5 = 1 := by kernel_rfl
theorem slc_cells {P : Program} {t e : TypeId} {w : World} {r : Reach} {base : Nat} {v : Value} (ht : P.underlying t = some (.slice e)) (h : Value.okWide P w r base t v) : v.cells.toList = [v] := by
  simp only [Value.okWide, ht, Cell.okWide] at h
  cases v <;> first | rfl | simp_all [Cell.ok]
section
variable {H : Type} {enc : TypeId × Value → H} {W : World} {N fuel : Nat} {cs : List Value} {x : DataW H × List MemPlace}
theorem row_of {α : Type} {s : St} {e : TypeId} {v : Value} {a : AVal} {elems : List (DataW H × List MemPlace)} (mk : α → AVal) (hc1 : Tryd.prog.cellsOf e = 1) (he : ∀ n vs x l, DataW.trod enc Tryd.prog W 0 (fun _ => true) true n e vs = some x → vs.mapM (convW W N) = some l → ∃ y : α, l = [mk y])
    (h : SliceW Tryd.prog enc W (fun _ => true) true N e v a elems) : ∃ ys : List α, RowAt (stW W N) a (ys.map mk) := by
  cases h with
  | nil => exact ⟨[], .inl ⟨rfl, rfl⟩⟩
  | empty => exact ⟨[], .inl ⟨rfl, rfl⟩⟩
  | @row b o len cap n _ cells hb ho hcells hlen hc0 hcap hmax hcs hel =>
    rw [hc1] at hcs
    have hone : ∀ i, i < len → ∃ y : α, cells[i]? = some (mk y) := by
      intro i hi
      obtain ⟨vs, x, l, h1, _, h3, h4⟩ := hel i hi
      obtain ⟨y, rfl⟩ := he n vs x l h1 h3
      rw [hc1, Nat.mul_one] at h4
      refine ⟨y, ?_⟩
      have := congrArg (fun l => l[0]?) h4
      simpa using this
    obtain ⟨ys, hys, hl⟩ : ∃ ys : List α, (∀ (i : Nat) (y : α), ys[i]? = some y → cells[i]? = some (mk y)) ∧ ys.length = len := by
      have key : ∀ k, k ≤ len → ∃ ys : List α, (∀ (i : Nat) (y : α), ys[i]? = some y → cells[i]? = some (mk y)) ∧ ys.length = k := by
        intro k
        induction k with
        | zero => exact fun _ => ⟨[], by simp, rfl⟩
        | succ k ih =>
          intro hk
          obtain ⟨ys, h1, h2⟩ := ih (by omega)
          obtain ⟨y, hy⟩ := hone k (by omega)
          refine ⟨ys ++ [y], fun i z hz => ?_, by simp [h2]⟩
          rw [List.getElem?_append] at hz
          split at hz
          · exact h1 i z hz
          · rename_i hi
            have : i = k := by
              have := (List.getElem?_eq_some_iff.1 hz).1
              simp at this
              omega
            subst this
            simp [h2] at hz
            subst hz
            exact hy
      exact key len (Nat.le_refl _)
    refine ⟨ys, .inr ⟨nameOf N b o, 0, .lim cap, cells, by simp [hl], ?_, hcells, by simp [hl]; omega, fun i z hz => ?_⟩⟩
    · unfold St.cells at hcells
      cases hob : (stW W N).obj (nameOf N b o) with
      | none => rw [hob] at hcells; cases hcells
      | some y => exact old_of_obj (stW_wf (w := W) (N := N)) hob
    · rw [List.getElem?_map] at hz
      cases hy : ys[i]? with
      | none => rw [hy] at hz; cases hz
      | some y =>
        rw [hy] at hz
        cases hz
        rw [Nat.zero_add]
        exact hys i y hy
theorem open_bools (hN : Big W N) (h : DataW.trod enc Tryd.prog W 0 (fun _ => true) true fuel 22 cs = some x) : ∃ v a, ∃ bs : List Bool, cs = [v] ∧ convW W N v = some a ∧ RowAt (stW W N) a (bs.map .bool) := by
  obtain ⟨v, a, elems, rfl, hs⟩ := slice_reads hN Tryd.underlying22 (by rw [c4]; decide) (fun n vs x h => by
    obtain ⟨b, rfl, _⟩ := DataW.trod_bool Tryd.underlying4 h
    exact ⟨[.bool b], rfl⟩) h
  obtain ⟨bs, hb⟩ := row_of (s := stW W N) AVal.bool c4 (fun n vs x l h1 h2 => by
    obtain ⟨b, rfl, _⟩ := DataW.trod_bool Tryd.underlying4 h1
    refine ⟨b, ?_⟩
    simp [List.mapM_cons, convW] at h2
    exact h2.symm) hs
  exact ⟨v, a, bs, rfl, hs.conv, hb⟩
theorem open_bytes (hN : Big W N) (h : DataW.trod enc Tryd.prog W 0 (fun _ => true) true fuel 35 cs = some x) : ∃ v a, ∃ bs : List UInt8, cs = [v] ∧ convW W N v = some a ∧ RowAt (stW W N) a (bs.map fun b => .int .u8 (b.toNat : Int)) := by
  obtain ⟨v, a, elems, rfl, hs⟩ := slice_reads hN Tryd.underlying35 (by rw [c5]; decide) (fun n vs x h => by
    obtain ⟨k, rfl, _, _⟩ := DataW.trod_int Tryd.underlying5 h
    exact ⟨[.int .u8 k], rfl⟩) h
  obtain ⟨bs, hb⟩ := row_of (s := stW W N) (fun b : UInt8 => AVal.int .u8 (b.toNat : Int)) c5 (fun n vs x l h1 h2 => by
    obtain ⟨k, rfl, _, hk⟩ := DataW.trod_int Tryd.underlying5 h1
    have hk : 0 ≤ k ∧ k ≤ 255 := by
      rw [Lit.wf, Bool.and_eq_true, decide_eq_true_eq, decide_eq_true_eq] at hk
      exact hk
    refine ⟨UInt8.ofNat k.toNat, ?_⟩
    have e : ((UInt8.ofNat k.toNat).toNat : Int) = k := by
      rw [UInt8.toNat_ofNat_of_lt' (by show k.toNat < 256; omega)]
      omega
    rw [e]
    simp [List.mapM_cons, convW] at h2
    exact h2.symm) hs
  exact ⟨v, a, bs, rfl, hs.conv, hb⟩
end
end Go.Proofs
end
section
/- The law of rings: the loops. -/
open Go Go.AM
namespace Go.Proofs
set_option maxRecDepth 100000
section
variable {s0 s : St} {fr : FI} {t0 : PT AVal} {hb : Pos} {m r : Lets} {v : AVal} {bs : List Bool} {xs : List AVal} {Q : Ex → PT AVal → St → Prop}
theorem fr_mono {W W' : List Nat} {t0 t : PT AVal} (h : Fr W t0 t) (hW : ∀ x ∈ W, x ∈ W') : Fr W' t0 t := fun x hx => h x fun hm => hx (hW x hm)
theorem ctx_row {W : Pos → Prop} {m : Lets} {s' : St} {v : AVal} {xs : List AVal} (h : RowAt s0 v xs) (hc : Ctx s0 (fun _ => False) m s') : RowAt s' v xs :=
  h.keep fun b hb => ⟨hc.old hb, hc.cells_old (fun h => h) hb⟩
theorem ring_make1 {i : Nat} {b : Bool} (hbi : bs[i]? = some b) (hn : bs.length ≤ 12) (h4 : PT.get (posOf 4) t0 = some (.ptr hb 0)) (h6 : PT.get (posOf 6) t0 = some (.int .i64 0)) (h7 : PT.get (posOf 7) t0 = some (.int .i64 i)) (h8 : PT.get (posOf 8) t0 = some (.str (nmOf b)))
    (hH : HeapR hb .nilSlice (madeC bs i) m) (hc : Ctx s0 (fun _ => False) (m ++ r) s)
    (q : ∀ t s' m', Fr [9, 10, 65] t0 t → HeapR hb .nilSlice (madeC bs (i + 1)) m' → Ctx s0 (fun _ => False) (m' ++ r) s' → Q .normal t s') : wp Tryd.prog c3_46 fr t0 s Q := by
  have hi : i < bs.length := (List.getElem?_eq_some_iff.1 hbi).1
  have hwr : IntKind.wrap .i64 ((i : Int) + 1) = ((i + 1 : Nat) : Int) := by rw [IntWalk.i64_in _ (by omega)]; omega
  have hmk := mk_next hbi
  refine wp_seq_region ?_
  simp [h4, h6, h8]
  have d1 := (hc.alloc (C [.int .i64 0]))
  generalize s.alloc (.cells [.int .i64 0] false) = sA at d1 ⊢
  generalize s.next = T at d1 ⊢
  refine wpCallV_fn ?_
  have d1 := d1.perm (m' := m ++ ((T, C [.int .i64 0]) :: r)) List.perm_middle.symm
  refine make_c (ks := [0]) hH d1 (by cases b <;> simp [nmOf, knownNames]) (by
    have := ints_own (ks := [0]) d1.wf (own_of_obj (d1.own (T, C [.int .i64 0]) (by simp))) (.lim 1)
    simpa using this) (by simp) fun m2 s2 hH2 hc2 => ?_
  rw [hmk] at hH2 ⊢
  simp
  refine wp_seq_region ?_
  simp [h7, hwr]
  refine AM.wp_condP ?_
  simp
  refine AM.wp_skip ?_
  refine q _ s2 m2 ?_ hH2 (hc2.sub ((List.Sublist.refl m2).append (List.sublist_cons_self _ _)))
  intro y hy
  simp at hy
  simp [hy]
theorem ring_make (hn : bs.length ≤ 12) (hrow : RowAt s0 v xs) (hxs : ∀ i, i < bs.length → xs[i]? = some (.bool (rowF bs i)))
    (h0 : PT.get (posOf 0) t0 = some v) (h3 : PT.get (posOf 3) t0 = some (.int .i64 bs.length)) (h4 : PT.get (posOf 4) t0 = some (.ptr hb 0)) (h6 : PT.get (posOf 6) t0 = some (.int .i64 0))
    (hH : HeapR hb .nilSlice (madeC bs 0) m) (hc : Ctx s0 (fun _ => False) (m ++ r) s)
    (q : ∀ t s' m', Fr [7, 8, 9, 10, 42, 43, 44, 49, 65] t0 t → HeapR hb .nilSlice (madeC bs bs.length) m' → Ctx s0 (fun _ => False) (m' ++ r) s' → Q .normal t s') : wp Tryd.prog c3_27 fr t0 s Q := by
  refine wp_seq_region ?_
  simp [h3]
  refine AM.wp_block ?_
  refine AM.wp_loop (fun k t s' => ∃ (i : Nat) (m' : Lets), i ≤ bs.length ∧ k = bs.length - i ∧ Fr [7, 8, 9, 10, 42, 43, 44, 49, 65] t0 t ∧ PT.get (posOf 42) t = some (.int .i64 bs.length) ∧ PT.get (posOf 43) t = some (.int .i64 i) ∧ HeapR hb .nilSlice (madeC bs i) m' ∧ Ctx s0 (fun _ => False) (m' ++ r) s') bs.length
    ⟨0, m, by simp, by simp, ?_, by simp, by simp, hH, hc⟩ ?_
  · intro y hy
    simp at hy
    simp [hy]
  rintro k t s' ⟨i, m', hi, rfl, hF, t42, t43, hH', hc'⟩
  refine wp_seq_region ?_
  simp [t42, t43]
  refine AM.wp_seq ?_
  refine AM.wp_condP ?_
  by_cases hlt : i < bs.length
  · have hwr : IntKind.wrap .i64 ((i : Int) + 1) = ((i + 1 : Nat) : Int) := by rw [IntWalk.i64_in _ (by omega)]; omega
    have u0 := (hF 0 (by simp)).trans h0
    have u4 := (hF 4 (by simp)).trans h4
    have u6 := (hF 6 (by simp)).trans h6
    have hrow' : RowAt s' v xs := hrow.keep fun b hb => ⟨hc'.old hb, hc'.cells_old (fun h => h) hb⟩
    have hxi := hxs i hlt
    have hxl : i < xs.length := (List.getElem?_eq_some_iff.1 hxi).1
    rcases hrow' with ⟨_, e⟩ | ⟨b, o, c, cells, rfl, hb', hcs, hle, hel⟩
    · rw [e] at hxl
      simp at hxl
    have hg := hel i _ hxi
    simp [hlt]
    refine AM.wp_skip ?_
    simp
    refine AM.wp_seq ?_
    refine AM.wp_block ?_
    refine wp_seq_region ?_
    simp [t43]
    refine wp_seq_region ?_
    simp
    refine AM.wp_seq ?_
    refine wp_seq_region ?_
    simp [u0, hxl, hcs, hg]
    refine AM.wp_condP ?_
    have hbi : bs[i]? = some (rowF bs i) := by unfold rowF; rw [List.getElem?_eq_getElem hlt]; rfl
    have hmk := mk_next hbi
    cases hbv : rowF bs i with
    | true =>
      simp
      refine AM.wp_region ?_
      simp
      refine ring_make1 (hb := hb) (b := true) (i := i) (m := m') (bs := bs) (r := r) (s0 := s0) (by rw [hbi, hbv]) hn (by simp [u4]) (by simp [u6]) (by simp) (by simp [nmOf]) hH' hc' fun t2 s2 m2 hF2 hH2 hc2 => ?_
      simp
      refine AM.wp_region ?_
      have w43 := hF2 43 (by simp)
      have w42 := hF2 42 (by simp)
      simp [t43] at w43
      simp [t42] at w42
      simp [w43, hwr]
      refine ⟨bs.length - (i + 1), by omega, i + 1, by omega, by omega, ?_, by simp [w42], by simp, m2, hH2, hc2⟩
      intro y hy
      simp at hy
      simp [hy]
      rw [hF2 y (by simp [hy])]
      simp [hy]
      exact hF y (by simp [hy])
    | false =>
      simp
      refine AM.wp_skip ?_
      simp
      refine ring_make1 (hb := hb) (b := false) (i := i) (m := m') (bs := bs) (r := r) (s0 := s0) (by rw [hbi, hbv]) hn (by simp [u4]) (by simp [u6]) (by simp) (by simp [nmOf]) hH' hc' fun t2 s2 m2 hF2 hH2 hc2 => ?_
      simp
      refine AM.wp_region ?_
      have w43 := hF2 43 (by simp)
      have w42 := hF2 42 (by simp)
      simp [t43] at w43
      simp [t42] at w42
      simp [w43, hwr]
      refine ⟨bs.length - (i + 1), by omega, i + 1, by omega, by omega, ?_, by simp [w42], by simp, m2, hH2, hc2⟩
      intro y hy
      simp at hy
      simp [hy]
      rw [hF2 y (by simp [hy])]
      simp [hy]
      exact hF y (by simp [hy])
  · simp [hlt]
    refine AM.wp_exit ?_
    simp
    have hie : i = bs.length := by omega
    subst hie
    refine q _ s' m' ?_ hH' hc'
    intro y hy
    simp at hy
    simp [hy]
    exact hF y (by simp [hy])
theorem ring_tie (hn : bs.length ≤ 12)
    (h3 : PT.get (posOf 3) t0 = some (.int .i64 bs.length)) (h4 : PT.get (posOf 4) t0 = some (.ptr hb 0))
    (hH : HeapR hb .nilSlice (tiedC bs 0) m) (hc : Ctx s0 (fun _ => False) (m ++ r) s)
    (q : ∀ t s' m', Fr [11, 67, 68, 69, 80] t0 t → HeapR hb .nilSlice (ringCells bs) m' → Ctx s0 (fun _ => False) (m' ++ r) s' → Q .normal t s') : wp Tryd.prog c3_55 fr t0 s Q := by
  refine wp_seq_region ?_
  simp [h3]
  refine AM.wp_block ?_
  refine AM.wp_loop (fun k t s' => ∃ (i : Nat) (m' : Lets), i ≤ bs.length ∧ k = bs.length - i ∧ Fr [11, 67, 68, 69, 80] t0 t ∧ PT.get (posOf 67) t = some (.int .i64 bs.length) ∧ PT.get (posOf 68) t = some (.int .i64 i) ∧ HeapR hb .nilSlice (tiedC bs i) m' ∧ Ctx s0 (fun _ => False) (m' ++ r) s') bs.length
    ⟨0, m, by simp, by simp, ?_, by simp, by simp, hH, hc⟩ ?_
  · intro y hy
    simp at hy
    simp [hy]
  rintro k t s' ⟨i, m', hi, rfl, hF, t67, t68, hH', hc'⟩
  refine wp_seq_region ?_
  simp [t67, t68]
  refine AM.wp_seq ?_
  refine AM.wp_condP ?_
  by_cases hlt : i < bs.length
  · have hwr : IntKind.wrap .i64 ((i : Int) + 1) = ((i + 1 : Nat) : Int) := by rw [IntWalk.i64_in _ (by omega)]; omega
    have hmod : (i + 1) % bs.length < bs.length := Nat.mod_lt _ (by omega)
    have hne : (bs.length : Int) ≠ 0 := by omega
    have hne' : ¬ bs = [] := by
      rintro rfl
      simp at hlt
    have htm : Int.tmod ((i + 1 : Nat) : Int) (bs.length : Int) = (((i + 1) % bs.length : Nat) : Int) := rfl
    have hwr2 : IntKind.wrap .i64 ((((i + 1) % bs.length : Nat) : Int) + 1) = (((i + 1) % bs.length + 1 : Nat) : Int) := by rw [IntWalk.i64_in _ (by omega)]; omega
    have u3 := (hF 3 (by simp)).trans h3
    have u4 := (hF 4 (by simp)).trans h4
    simp [hlt]
    refine AM.wp_skip ?_
    simp
    refine AM.wp_seq ?_
    refine AM.wp_block ?_
    refine wp_seq_region ?_
    simp [t68]
    refine wp_seq_region ?_
    simp [u3, u4, hwr, hne, hne', -Int.natCast_add, -Int.natCast_emod]
    rw [htm, hwr2]
    refine wpCallV_fn ?_
    refine tie_c hH' hc' fun m2 s2 hH2 hc2 => ?_
    rw [tie_next hlt] at hH2 ⊢
    simp
    refine AM.wp_condP ?_
    simp
    refine AM.wp_skip ?_
    simp
    refine AM.wp_region ?_
    simp [t68, hwr]
    refine ⟨bs.length - (i + 1), by omega, i + 1, by omega, by omega, ?_, by simp [t67], by simp, m2, hH2, hc2⟩
    intro y hy
    simp at hy
    simp [hy]
    exact hF y (by simp [hy])
  · simp [hlt]
    refine AM.wp_exit ?_
    simp
    have hie : i = bs.length := by omega
    subst hie
    rw [tied_all] at hH'
    refine q _ s' m' ?_ hH' hc'
    intro y hy
    simp at hy
    simp [hy]
    exact hF y (by simp [hy])
end
end Go.Proofs
end
section
/- The law of rings: the least turn is looked for. -/
open Go Go.AM
namespace Go.Proofs
set_option maxRecDepth 100000
section
variable {s0 s : St} {fr : FI} {t0 : PT AVal} {v : AVal} {bs : List Bool} {xs : List AVal} {Q : Ex → PT AVal → St → Prop}
/-- Is the row the same when it is turned so far, as far as one has looked? -/
def sameTo (bs : List Bool) (d i : Nat) : Bool := (List.range i).all fun x => rowF bs x == rowF bs ((x + d) % bs.length)
theorem sameTo_next (bs : List Bool) (d i : Nat) : sameTo bs d (i + 1) = (sameTo bs d i && (rowF bs i == rowF bs ((i + d) % bs.length))) := by
  unfold sameTo
  rw [List.range_succ, List.all_append]
  simp
theorem ring_same {d : Nat} {b0 : Bool} (hn : bs.length ≤ 12) (h1 : 1 ≤ bs.length) (hd : d ≤ 12) (hrow : RowAt s v xs) (hxs : ∀ i, i < bs.length → xs[i]? = some (.bool (rowF bs i)))
    (h0 : PT.get (posOf 0) t0 = some v) (h3 : PT.get (posOf 3) t0 = some (.int .i64 bs.length)) (h13 : PT.get (posOf 13) t0 = some (.int .i64 d)) (h14 : PT.get (posOf 14) t0 = some (.bool b0))
    (q : ∀ t, Fr [14, 15, 93, 94, 95, 97, 98, 99, 100, 101, 102, 103, 104, 105, 106, 107, 108, 109, 110, 111, 112] t0 t → PT.get (posOf 14) t = some (.bool (b0 && sameTo bs d bs.length)) → Q .normal t s) : wp Tryd.prog c3_89 fr t0 s Q := by
  refine wp_seq_region ?_
  simp [h3]
  refine AM.wp_block ?_
  refine AM.wp_loop (fun k t s' => ∃ (i : Nat), i ≤ bs.length ∧ k = bs.length - i ∧ Fr [14, 15, 93, 94, 95, 97, 98, 99, 100, 101, 102, 103, 104, 105, 106, 107, 108, 109, 110, 111, 112] t0 t ∧ PT.get (posOf 93) t = some (.int .i64 bs.length) ∧ PT.get (posOf 94) t = some (.int .i64 i) ∧ PT.get (posOf 14) t = some (.bool (b0 && sameTo bs d i)) ∧ s' = s) bs.length
    ⟨0, by simp, by simp, ?_, by simp, by simp, by simp [sameTo, h14], rfl⟩ ?_
  · intro y hy
    simp at hy
    simp [hy]
  rintro k t s' ⟨i, hi, rfl, hF, t93, t94, t14, rfl⟩
  refine wp_seq_region ?_
  simp [t93, t94]
  refine AM.wp_seq ?_
  refine AM.wp_condP ?_
  by_cases hlt : i < bs.length
  · have hwr : IntKind.wrap .i64 ((i : Int) + 1) = ((i + 1 : Nat) : Int) := by rw [IntWalk.i64_in _ (by omega)]; omega
    have hwd : IntKind.wrap .i64 ((i : Int) + (d : Int)) = ((i + d : Nat) : Int) := by rw [IntWalk.i64_in _ (by omega)]; omega
    have hmod : (i + d) % bs.length < bs.length := Nat.mod_lt _ (by omega)
    have hne : (bs.length : Int) ≠ 0 := by omega
    have hne' : ¬ bs = [] := by
      rintro rfl
      simp at hlt
    have htm : Int.tmod ((i + d : Nat) : Int) (bs.length : Int) = (((i + d) % bs.length : Nat) : Int) := rfl
    have u3 := (hF 3 (by simp)).trans h3
    have u0 := (hF 0 (by simp)).trans h0
    have u13 := (hF 13 (by simp)).trans h13
    have hxi := hxs i hlt
    have hxj := hxs _ hmod
    have hxl : i < xs.length := (List.getElem?_eq_some_iff.1 hxi).1
    have hxl2 : (i + d) % bs.length < xs.length := (List.getElem?_eq_some_iff.1 hxj).1
    rcases hrow with ⟨_, e⟩ | ⟨b, o, c, cells, rfl, hb', hcs, hle, hel⟩
    · rw [e] at hxl
      simp at hxl
    have hg := hel i _ hxi
    have hg2 := hel _ _ hxj
    simp [hlt]
    refine AM.wp_skip ?_
    simp
    refine AM.wp_seq ?_
    refine AM.wp_block ?_
    refine wp_seq_region ?_
    simp [t94]
    refine AM.wp_region ?_
    have hnx := sameTo_next bs d i
    cases hcur : (b0 && sameTo bs d i) with
    | false =>
      rw [hcur] at t14
      simp [t14]
      refine AM.wp_region ?_
      simp [t94, hwr]
      refine ⟨bs.length - (i + 1), by omega, i + 1, by omega, by omega, ?_, by simp [t93], by simp, ?_⟩
      · intro y hy
        simp at hy
        simp [hy]
        exact hF y (by simp [hy])
      · rw [hnx]
        intro hb
        rw [hb] at hcur
        have hcur : sameTo bs d i = false := by simpa using hcur
        rw [hcur]
        rfl
    | true =>
      rw [hcur] at t14
      have hi0 : (i : Int) < (xs.length : Int) := by omega
      have hj0 : (((i + d) % bs.length : Nat) : Int) < (xs.length : Int) := by omega
      simp [t14, u0, u3, u13, hxl, hcs, hg, hwd, hne', htm, hxl2, hg2, -Int.natCast_add, -Int.natCast_emod]
      refine AM.wp_region ?_
      simp [t94, hwr]
      refine ⟨bs.length - (i + 1), by omega, i + 1, by omega, by omega, ?_, by simp [t93], by simp, ?_⟩
      · intro y hy
        simp at hy
        simp [hy]
        exact hF y (by simp [hy])
      · rw [Bool.and_eq_true] at hcur
        rw [hnx, hcur.1, hcur.2]
        simp
  · simp [hlt]
    refine AM.wp_exit ?_
    simp
    have hie : i = bs.length := by omega
    subst hie
    refine q _ ?_ ?_
    · intro y hy
      simp at hy
      simp [hy]
      exact hF y (by simp [hy])
    · simp [t14]
/-- Is that a turn that the law looks for? -/
def goodB (bs : List Bool) (d : Nat) : Bool := decide (bs.length % d = 0) && sameTo bs d bs.length
theorem good_turn {bs : List Bool} {d : Nat} (h : sameTo bs d bs.length = true) : Turn bs.length (rowF bs) d := by
  intro x
  unfold sameTo at h
  by_cases h0 : bs.length = 0
  · have : bs = [] := List.length_eq_zero_iff.1 h0
    subst this
    simp [rowF]
  · have hm : x % bs.length < bs.length := Nat.mod_lt _ (by omega)
    have := (List.all_eq_true.1 h) (x % bs.length) (by simpa using hm)
    have this : rowF bs (x % bs.length) = rowF bs ((x % bs.length + d) % bs.length) := by simpa using this
    rw [this, Nat.mod_add_mod]
theorem turn_good {bs : List Bool} {d : Nat} (h : Turn bs.length (rowF bs) d) : sameTo bs d bs.length = true := by
  unfold sameTo
  refine List.all_eq_true.2 fun x hx => ?_
  have hx : x < bs.length := by simpa using hx
  have := h x
  rw [Nat.mod_eq_of_lt hx] at this
  simp [this]
theorem ring_least (hn : bs.length ≤ 12) (h1 : 1 ≤ bs.length) (hrow : RowAt s v xs) (hxs : ∀ i, i < bs.length → xs[i]? = some (.bool (rowF bs i)))
    (h0 : PT.get (posOf 0) t0 = some v) (h3 : PT.get (posOf 3) t0 = some (.int .i64 bs.length)) (h12 : PT.get (posOf 12) t0 = some (.int .i64 bs.length))
    (q : ∀ t L, Fr [12, 13, 14, 15, 86, 93, 94, 95, 97, 98, 99, 100, 101, 102, 103, 104, 105, 106, 107, 108, 109, 110, 111, 112, 114] t0 t → PT.get (posOf 12) t = some (.int .i64 (L : Nat)) → Least bs.length (rowF bs) L → Q .normal t s) : wp Tryd.prog c3_76 fr t0 s Q := by
  have hwr : IntKind.wrap .i64 ((bs.length : Int) - 1) = ((bs.length - 1 : Nat) : Int) := by rw [IntWalk.i64_in _ (by omega)]; omega
  refine wp_seq_region ?_
  simp [h3, hwr]
  refine AM.wp_block ?_
  refine AM.wp_loop (fun k t s' => ∃ (d L : Nat), d = k ∧ d < L ∧ L ≤ bs.length ∧ Fr [12, 13, 14, 15, 86, 93, 94, 95, 97, 98, 99, 100, 101, 102, 103, 104, 105, 106, 107, 108, 109, 110, 111, 112, 114] t0 t ∧ PT.get (posOf 13) t = some (.int .i64 d) ∧ PT.get (posOf 12) t = some (.int .i64 L) ∧ (L = bs.length ∨ goodB bs L = true) ∧ (∀ e, d < e → e < L → goodB bs e = false) ∧ s' = s) (bs.length - 1)
    ⟨bs.length - 1, bs.length, rfl, by omega, by omega, ?_, by simp, by simp [h12], .inl rfl, by intro e he he'; omega, rfl⟩ ?_
  · intro y hy
    simp at hy
    simp [hy]
  rintro k t s' ⟨d, L, rfl, hdL, hLn, hF, t13, t12, hL, hmin, rfl⟩
  have u3 := (hF 3 (by simp)).trans h3
  have u0 := (hF 0 (by simp)).trans h0
  refine AM.wp_seq ?_
  refine wp_seq_region ?_
  simp [t13]
  refine AM.wp_condP ?_
  by_cases hd : 0 < d
  · simp [hd]
    refine AM.wp_skip ?_
    simp
    refine AM.wp_seq ?_
    refine AM.wp_block ?_
    refine wp_seq_region ?_
    have hd0 : ¬ d = 0 := by omega
    have htm : Int.tmod (bs.length : Int) (d : Int) = ((bs.length % d : Nat) : Int) := rfl
    have hwd : IntKind.wrap .i64 ((d : Int) - 1) = ((d - 1 : Nat) : Int) := by rw [IntWalk.i64_in _ (by omega)]; omega
    simp [u3, t13, hd0, htm, -Int.natCast_emod]
    refine AM.wp_seq ?_
    refine ring_same (d := d) (b0 := decide (bs.length % d = 0)) hn h1 (by omega) hrow hxs (by simp [u0]) (by simp [u3]) (by simp [t13]) (by simp) fun t2 hF2 g14 => ?_
    have g14 : PT.get (posOf 14) t2 = some (.bool (goodB bs d)) := g14
    have g13 : PT.get (posOf 13) t2 = some (.int .i64 d) := (hF2 13 (by simp)).trans (by simp [t13])
    have g12 : PT.get (posOf 12) t2 = some (.int .i64 L) := (hF2 12 (by simp)).trans (by simp [t12])
    have hF3 : Fr [12, 13, 14, 15, 86, 93, 94, 95, 97, 98, 99, 100, 101, 102, 103, 104, 105, 106, 107, 108, 109, 110, 111, 112, 114] t0 t2 := by
      intro y hy
      simp at hy
      rw [hF2 y (by simp [hy])]
      simp [hy]
      exact hF y (by simp [hy])
    simp
    refine wp_seq_region ?_
    simp [g14]
    refine AM.wp_condP ?_
    cases hg : goodB bs d with
    | true =>
      simp
      refine AM.wp_region ?_
      simp [g13]
      refine AM.wp_region ?_
      simp [g13, hwd]
      refine ⟨d - 1, by omega, d, by omega, by omega, ?_, by simp, by simp, .inr hg, by intro e he he'; omega⟩
      intro y hy
      simp at hy
      simp [hy]
      exact hF3 y (by simp [hy])
    | false =>
      simp
      refine AM.wp_skip ?_
      simp
      refine AM.wp_region ?_
      simp [g13, hwd]
      refine ⟨d - 1, by omega, L, by omega, by omega, ?_, by simp, by simp [g12], hL, ?_⟩
      · intro y hy
        simp at hy
        simp [hy]
        exact hF3 y (by simp [hy])
      · intro e he he'
        by_cases hed : e = d
        · rw [hed]
          exact hg
        · exact hmin e (by omega) he'
  · simp [hd]
    refine AM.wp_exit ?_
    simp
    have hd0 : d = 0 := by omega
    subst hd0
    refine q _ L ?_ (by simp [t12]) ⟨hdL, hLn, ?_, ?_⟩
    · intro y hy
      simp at hy
      simp [hy]
      exact hF y (by simp [hy])
    · rcases hL with rfl | hg
      · exact turn_all _ _
      · unfold goodB at hg
        rw [Bool.and_eq_true] at hg
        exact good_turn hg.2
    · intro e he he' hm ht
      have := hmin e he he'
      unfold goodB at this
      rw [turn_good ht, hm] at this
      simp at this
end
end Go.Proofs
end
section
/- min and max of two in the symbolic layer. -/
namespace Go.AM
variable [Orc] [OrcOk]
theorem opP_mnmx2 {P : Program} {γ : RO → Option AVal} {s : St} {Q : AVal → St → Prop} {mx : Bool} {x y : RO} {k k' : IntKind} {a b : Int} (hx : γ x = some (.int k a)) (hy : γ y = some (.int k' b))
    (h : Q (.int k (if mx = true then max a b else min a b)) s) : opP P (.mnmx mx [x, y]) γ s Q := by
  refine ⟨_, _, fun rec K hK => ?_, h⟩
  show optK (γ x) (fun v => optK (γ y) fun w => opMnmx mx [v, w] s K) = true
  rw [hx, hy]
  show ifK mx (ifK (ltI a b) (K (.int k b) s) (K (.int k a) s)) (ifK (ltI b a) (K (.int k b) s) (K (.int k a) s)) = true
  rw [ltI_eq, ltI_eq]
  cases mx with
  | true =>
    simp only [if_true] at hK
    by_cases hl : a < b
    · rw [show max a b = b by omega] at hK
      simp [ifK, hl, hK]
    · rw [show max a b = a by omega] at hK
      simp [ifK, hl, hK]
  | false =>
    simp only [Bool.false_eq_true, if_false] at hK
    by_cases hl : b < a
    · rw [show min a b = b by omega] at hK
      simp [ifK, hl, hK]
    · rw [show min a b = a by omega] at hK
      simp [ifK, hl, hK]
end Go.AM
end
section
/- The law of rings: the walk. -/
open Go Go.AM
namespace Go.Proofs
set_option maxRecDepth 100000
theorem rings_walk {s : St} {v : AVal} {bs0 : List Bool} (hw : s.Wf) (hrow : RowAt s v (bs0.map .bool)) : wpCall Tryd.prog 3 [v] s fun a _ => a = .bool true := by
  have hlen := hrow.len
  rw [List.length_map] at hlen
  have hvt : ∀ t, ¬ v = .tup t := by
    rintro t rfl
    cases hlen
  obtain ⟨bs, hbs⟩ : ∃ bs, bs = bs0.take 12 := ⟨_, rfl⟩
  have hbl : bs.length = min 12 bs0.length := by rw [hbs, List.length_take]
  have hmin : min (bs0.length : Int) 12 = (bs.length : Int) := by omega
  have hn : bs.length ≤ 12 := by omega
  have hxs : ∀ i, i < bs.length → (bs0.map AVal.bool)[i]? = some (.bool (rowF bs i)) := by
    intro i hi
    have h1 : bs0[i]? = some (bs0[i]'(by omega)) := List.getElem?_eq_getElem (by omega)
    rw [List.getElem?_map, h1]
    unfold rowF
    have h2 : bs[i]? = bs0[i]? := by
      subst hbs
      rw [List.getElem?_take_of_lt (by omega)]
    rw [h2, h1]
    rfl
  refine wpCall_of (orc_ne (by decide)) fi3 rfl (by decide) rfl ?_
  refine wp_seq_region ?_
  simp
  refine wp_seq_region ?_
  simp [hlen]
  refine opP_mnmx2 (k := .i64) (k' := .i64) (a := bs0.length) (b := 12) (by simp) (by simp) ?_
  simp [hmin]
  refine AM.wp_seq ?_
  refine wp_seq_region ?_
  simp
  refine AM.wp_condP ?_
  by_cases h0 : bs = []
  · subst h0
    simp
    refine wp_seq_region ?_
    simp
    refine wpCallV_fn ?_
    refine wpCall_orc orc_awake ?_
    simp
    refine AM.wp_ret ?_
    simp
  · have h1 : 1 ≤ bs.length := by
      have : bs.length ≠ 0 := by simpa using h0
      omega
    have hwr : IntKind.wrap .i64 ((bs.length : Int) + 1) = ((bs.length + 1 : Nat) : Int) := by rw [IntWalk.i64_in _ (by omega)]; omega
    simp [h0]
    refine AM.wp_skip ?_
    simp
    refine wp_seq_region ?_
    simp [hwr, -Int.natCast_add]
    refine wpCallV_fn ?_
    have c0 := Ctx.start (fun _ => False) hw
    refine new_c c0 (by omega) (by omega) fun hb m1 s1 hH1 c1 => ?_
    rw [Int.toNat_natCast] at hH1
    simp
    refine AM.wp_seq ?_
    refine wp_seq_region ?_
    simp
    refine AM.wp_condP ?_
    simp
    refine AM.wp_skip ?_
    simp
    refine wp_seq_region ?_
    simp
    refine wpCallV_fn ?_
    refine make_c (ks := []) hH1 c1 (by simp [knownNames]) (.inl ⟨rfl, rfl⟩) (by simp) fun m2 s2 hH2 c2 => ?_
    rw [mk_first] at hH2 ⊢
    simp only at hH2
    rw [← made_zero] at hH2
    simp
    refine AM.wp_seq ?_
    refine wp_seq_region ?_
    simp
    refine AM.wp_condP ?_
    simp
    refine AM.wp_skip ?_
    simp
    refine AM.wp_seq ?_
    refine ring_make (hb := hb) (bs := bs) hn hrow hxs (by simp) (by simp) (by simp) (by simp) hH2 c2 fun t3 s3 m3 hF3 hH3 c3 => ?_
    rw [tied_zero] at hH3
    have a3 : PT.get (posOf 3) t3 = some (.int .i64 bs.length) := (hF3 3 (by simp)).trans (by simp)
    have a4 : PT.get (posOf 4) t3 = some (.ptr hb 0) := (hF3 4 (by simp)).trans (by simp)
    have a0 : PT.get (posOf 0) t3 = some v := (hF3 0 (by simp)).trans (by simp)
    simp
    refine AM.wp_seq ?_
    refine ring_tie (hb := hb) (bs := bs) hn a3 a4 hH3 c3 fun t4 s4 m4 hF4 hH4 c4 => ?_
    have b3 : PT.get (posOf 3) t4 = some (.int .i64 bs.length) := (hF4 3 (by simp)).trans a3
    have b4 : PT.get (posOf 4) t4 = some (.ptr hb 0) := (hF4 4 (by simp)).trans a4
    have b0 : PT.get (posOf 0) t4 = some v := (hF4 0 (by simp)).trans a0
    simp
    refine wp_seq_region ?_
    simp [b3]
    have hrow4 : RowAt s4 v (bs0.map .bool) := hrow.keep fun b hb => ⟨c4.old hb, c4.cells_old (fun h => h) hb⟩
    refine AM.wp_seq ?_
    refine ring_least (bs := bs) hn h1 hrow4 hxs (by simp [b0]) (by simp [b3]) (by simp) fun t5 L hF5 d12 hL => ?_
    have d3 : PT.get (posOf 3) t5 = some (.int .i64 bs.length) := (hF5 3 (by simp)).trans (by simp [b3])
    have d4 : PT.get (posOf 4) t5 = some (.ptr hb 0) := (hF5 4 (by simp)).trans (by simp [b4])
    simp
    refine wp_seq_region ?_
    simp [d4]
    refine wpCallV_fn ?_
    refine merge_c hH4 (r := []) (by simpa using c4) (ring_ok bs) fun m6 s6 hH6 c6 => ?_
    obtain ⟨l1, l2, l3⟩ := ring_law hL
    rw [l1, l2]
    have hle := hL.le
    have hwL : IntKind.wrap .i64 ((bs.length : Int) - (L : Int)) = ((bs.length - L : Nat) : Int) := by rw [IntWalk.i64_in _ (by omega)]; omega
    have hwL1 : IntKind.wrap .i64 ((L : Int) + 1) = ((L + 1 : Nat) : Int) := by rw [IntWalk.i64_in _ (by omega)]; omega
    simp
    refine wp_seq_region ?_
    simp [d3, d12, d4, hwL, hwL1]
    refine wpCallV_fn ?_
    refine size_c hH6 c6 fun s7 c7 => ?_
    rw [l3]
    simp [d12, hwL1]
    refine wpCallV_fn ?_
    refine wpCall_orc orc_awake ?_
    simp
    refine AM.wp_ret ?_
    simp
end Go.Proofs
end
