/- HeapNone: the arguments are read. -/
import Derived.Test.YtoipnedbpjfeiaaDoorAmH8
import Derived.Test.YtoipnedbpjfeiaaDoorChecked
import Derived.Test.YtoipnedbpjfeiaaDoorTie
import Derived.ProofKit
set_option linter.all false
set_option linter.unusedSectionVars false
set_option linter.unusedSimpArgs false
set_option linter.unusedVariables false
open Go Go.AM
namespace Go.Proofs
set_option maxRecDepth 100000
theorem convs_rel {W : World} {N : Nat} : ∀ {l : List Value} {a : List AVal}, l.mapM (convW W N) = some a → VRels (renW W N) a l ∧ ∀ x ∈ a, x.scalar = true
  | [], a, h => by
    simp at h
    subst h
    exact ⟨.nil, by simp⟩
  | v :: r, a, h => by
    rw [List.mapM_cons] at h
    obtain ⟨x, h1, h⟩ := Option.bind_eq_some_iff.1 h
    obtain ⟨b, h2, h⟩ := Option.bind_eq_some_iff.1 h
    cases h
    obtain ⟨h3, h4⟩ := convs_rel h2
    obtain ⟨h5, h6⟩ := convW_rel h1
    exact ⟨.cons h5 h3, by simpa [h6] using h4⟩
theorem c3 : Tryd.prog.cellsOf 3 = 1 := by kernel_rfl
theorem c9 : Tryd.prog.cellsOf 9 = 1 := by kernel_rfl
theorem c30 : Tryd.prog.cellsOf 30 = 1 := by kernel_rfl
theorem c40 : Tryd.prog.cellsOf 40 = 1 := by kernel_rfl
theorem c42 : Tryd.prog.cellsOf 42 = 2 := by kernel_rfl
theorem c65 : Tryd.prog.cellsOf 65 = 2 := by kernel_rfl
theorem c73 : Tryd.prog.cellsOf 73 = 8 := by kernel_rfl
section
variable {H : Type} {enc : TypeId × Value → H} {W : World} {N fuel : Nat} {cs : List Value} {x : DataW H × List MemPlace}
theorem get_of {α : Type} {l : List α} {n i : Nat} (h : l.length = n) (hi : i < n) : ∃ y, l[i]? = some y := ⟨_, List.getElem?_eq_getElem (by omega)⟩
theorem open_kids (hN : Big W N) (h : DataW.trod enc Tryd.prog W 0 (fun _ => true) true fuel 30 cs = some x) : ∃ v a n, cs = [v] ∧ convW W N v = some a ∧ slcLen a = some n := by
  obtain ⟨v, a, elems, rfl, hs⟩ := slice_reads hN Tryd.underlying30 (by rw [c3]; decide) (fun n vs x h => by
    obtain ⟨k, rfl, _, _⟩ := DataW.trod_int Tryd.underlying3 h
    exact ⟨[.int .i64 k], rfl⟩) h
  refine ⟨v, a, ?_⟩
  have := hs.conv
  cases hs with
  | nil => exact ⟨0, rfl, this, rfl⟩
  | empty => exact ⟨0, rfl, this, rfl⟩
  | row => exact ⟨_, rfl, this, rfl⟩
theorem open_node (hN : Big W N) (h : DataW.trod enc Tryd.prog W 0 (fun _ => true) true fuel 65 cs = some x) : ∃ nm kv n, cs.mapM (convW W N) = some [.str nm, kv] ∧ slcLen kv = some n := by
  obtain ⟨xs, n, _, _, hl, hx, hf⟩ := DataW.trod_struct Tryd.underlying65 h
  rw [c65] at hl
  match cs, hl with
  | [c0, c1], _ =>
    have h0 : DataW.trod enc Tryd.prog W 0 (fun _ => true) true n 9 (([c0, c1].drop 0).take (Tryd.prog.cellsOf 9)) = xs[0]? := hf 0 _ rfl
    have h1 : DataW.trod enc Tryd.prog W 0 (fun _ => true) true n 30 (([c0, c1].drop 1).take (Tryd.prog.cellsOf 30)) = xs[1]? := hf 1 _ rfl
    obtain ⟨y0, e0⟩ := get_of hx (show 0 < 2 by decide)
    obtain ⟨y1, e1⟩ := get_of hx (show 1 < 2 by decide)
    rw [e0, c9] at h0
    rw [e1, c30] at h1
    obtain ⟨s, e2, _, _⟩ := DataW.trod_string Tryd.underlying9 h0
    obtain ⟨v, a, m, e3, hc, hm⟩ := open_kids hN h1
    simp at e2 e3
    subst e2 e3
    exact ⟨s.data.toList, a, m, by simp [List.mapM_cons, hc]; rfl, hm⟩
theorem open_nodes (hN : Big W N) (h : DataW.trod enc Tryd.prog W 0 (fun _ => true) true fuel 40 cs = some x) : ∃ v a m, cs = [v] ∧ convW W N v = some a ∧ NodesOK (stW W N) a m ∧ m ≤ 2 ^ 63 - 1 := by
  obtain ⟨v, a, elems, rfl, hs⟩ := slice_reads hN Tryd.underlying40 (by rw [c65]; decide) (fun n vs x h => by
    obtain ⟨nm, kv, _, h1, _⟩ := open_node hN h
    exact ⟨_, h1⟩) h
  refine ⟨v, a, ?_⟩
  have := hs.conv
  cases hs with
  | nil => exact ⟨0, rfl, this, .inl ⟨rfl, rfl⟩, by decide⟩
  | empty => exact ⟨0, rfl, this, .inl ⟨rfl, rfl⟩, by decide⟩
  | row hb ho hcells hlen hc0 hcap hmax hcs hel =>
    refine ⟨_, rfl, this, .inr ⟨_, _, _, _, rfl, ?_, hcells, ?_, ?_⟩, ?_⟩
    · unfold St.cells at hcells
      cases ho : (stW W N).obj (nameOf N _ _) with
      | none =>
        rw [ho] at hcells
        cases hcells
      | some y => exact old_of_obj (stW_wf (w := W) (N := N)) ho
    · rw [c65] at hcs
      omega
    · intro i hi
      obtain ⟨vs, x, l, h1, _, h3, h4⟩ := hel i hi
      obtain ⟨nm, kv, n, h5, h6⟩ := open_node hN h1
      rw [h5] at h3
      cases h3
      rw [c65] at h4
      exact ⟨nm, kv, n, by simpa using h4, h6⟩
    · unfold maxLen at hmax
      omega
theorem open_op (hN : Big W N) (h : DataW.trod enc Tryd.prog W 0 (fun _ => true) true fuel 73 cs = some x) : ∃ l, cs.mapM (convW W N) = some l ∧ OpVal (stW W N) (.agg l) := by
  obtain ⟨xs, n, _, _, hl, hx, hf⟩ := DataW.trod_struct Tryd.underlying73 h
  rw [c73] at hl
  match cs, hl with
  | [c0, c1, c2, c3', c4, c5, c6, c7], _ =>
    have h0 : DataW.trod enc Tryd.prog W 0 (fun _ => true) true n 3 (([c0, c1, c2, c3', c4, c5, c6, c7].drop 0).take (Tryd.prog.cellsOf 3)) = xs[0]? := hf 0 _ rfl
    obtain ⟨y0, e0⟩ := get_of hx (show 0 < 7 by decide)
    rw [e0, c3] at h0
    have h1 : DataW.trod enc Tryd.prog W 0 (fun _ => true) true n 9 (([c0, c1, c2, c3', c4, c5, c6, c7].drop 1).take (Tryd.prog.cellsOf 9)) = xs[1]? := hf 1 _ rfl
    obtain ⟨y1, e1⟩ := get_of hx (show 1 < 7 by decide)
    rw [e1, c9] at h1
    have h2 : DataW.trod enc Tryd.prog W 0 (fun _ => true) true n 30 (([c0, c1, c2, c3', c4, c5, c6, c7].drop 2).take (Tryd.prog.cellsOf 30)) = xs[2]? := hf 2 _ rfl
    obtain ⟨y2, e2⟩ := get_of hx (show 2 < 7 by decide)
    rw [e2, c30] at h2
    have h3 : DataW.trod enc Tryd.prog W 0 (fun _ => true) true n 3 (([c0, c1, c2, c3', c4, c5, c6, c7].drop 3).take (Tryd.prog.cellsOf 3)) = xs[3]? := hf 3 _ rfl
    obtain ⟨y3, e3⟩ := get_of hx (show 3 < 7 by decide)
    rw [e3, c3] at h3
    have h4 : DataW.trod enc Tryd.prog W 0 (fun _ => true) true n 3 (([c0, c1, c2, c3', c4, c5, c6, c7].drop 4).take (Tryd.prog.cellsOf 3)) = xs[4]? := hf 4 _ rfl
    obtain ⟨y4, e4⟩ := get_of hx (show 4 < 7 by decide)
    rw [e4, c3] at h4
    have h5 : DataW.trod enc Tryd.prog W 0 (fun _ => true) true n 3 (([c0, c1, c2, c3', c4, c5, c6, c7].drop 5).take (Tryd.prog.cellsOf 3)) = xs[5]? := hf 5 _ rfl
    obtain ⟨y5, e5⟩ := get_of hx (show 5 < 7 by decide)
    rw [e5, c3] at h5
    have h6 : DataW.trod enc Tryd.prog W 0 (fun _ => true) true n 42 (([c0, c1, c2, c3', c4, c5, c6, c7].drop 6).take (Tryd.prog.cellsOf 42)) = xs[6]? := hf 6 _ rfl
    obtain ⟨y6, e6⟩ := get_of hx (show 6 < 7 by decide)
    rw [e6, c42] at h6
    obtain ⟨k, g0, _, _⟩ := DataW.trod_int Tryd.underlying3 h0
    obtain ⟨s, g1, _, _⟩ := DataW.trod_string Tryd.underlying9 h1
    obtain ⟨v, kids, nk, g2, gk, gl⟩ := open_kids hN h2
    obtain ⟨a, g3, _, _⟩ := DataW.trod_int Tryd.underlying3 h3
    obtain ⟨b, g4, _, _⟩ := DataW.trod_int Tryd.underlying3 h4
    obtain ⟨c, g5, _, _⟩ := DataW.trod_int Tryd.underlying3 h5
    obtain ⟨zs, n2, _, _, _, hz, hg⟩ := DataW.trod_struct Tryd.underlying42 h6
    have i0 : DataW.trod enc Tryd.prog W 0 (fun _ => true) true n2 40 (([c6, c7].drop 0).take (Tryd.prog.cellsOf 40)) = zs[0]? := hg 0 _ rfl
    have i1 : DataW.trod enc Tryd.prog W 0 (fun _ => true) true n2 3 (([c6, c7].drop 1).take (Tryd.prog.cellsOf 3)) = zs[1]? := hg 1 _ rfl
    obtain ⟨z0, f0⟩ := get_of hz (show 0 < 2 by decide)
    obtain ⟨z1, f1⟩ := get_of hz (show 1 < 2 by decide)
    rw [f0, c40] at i0
    rw [f1, c3] at i1
    obtain ⟨u, nodes, m, g6, gc, gn, gm⟩ := open_nodes hN i0
    obtain ⟨r, g7, _, _⟩ := DataW.trod_int Tryd.underlying3 i1
    simp at g0 g1 g2 g3 g4 g5 g6 g7
    subst g0 g1 g2 g3 g4 g5 g6 g7
    refine ⟨[.int .i64 k, .str s.data.toList, kids, .int .i64 a, .int .i64 b, .int .i64 c, nodes, .int .i64 r], ?_, ⟨k, _, kids, a, b, c, nodes, r, nk, m, rfl, gl, gn, gm⟩⟩
    simp [List.mapM_cons, gk, gc]
    rfl
end
end Go.Proofs
