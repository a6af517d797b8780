/- Parts of the proof: Ops6, Ops7, Ops8, Ops9, Exec1, Exec2, Exec3, Exec4, Exec5, Exec6, Exec7, Exec8, Exec9, Draw1. -/
import Derived.Laws.IdiomStrings
import Derived.RangeFuncLeaves
import Derived.Scope
import Derived.RangeFuncRecord
import Derived.TacticsIn
import Derived.OrdersIn
import Derived.Test.YtoipnedbpjfeiaaDoorAm01
set_option linter.all false
set_option linter.unusedSectionVars false
set_option linter.unusedSimpArgs false
set_option linter.unusedVariables false
section
/- The abstract machine's operations hold of the model's, part 6: appends, copies, lengths, least and greatest, clearing, conversions. -/
namespace Go.AM
section
variable {P : Program} {ι : Ren} {s : St} {w : World} {K : VK}

/-! ### What is taken -/
theorem bytesK_eq (l : List UInt8) : ∀ k : List AVal → Bool, bytesK l k = k (l.map fun c => .int .u8 (c.toNat : Int)) := by
  induction l with
  | nil => intro k; rfl
  | cons c l ih =>
    intro k
    have : bytesK (c :: l) k = natK c.toNat fun n => bytesK l fun r => k (.int .u8 (.ofNat n) :: r) := rfl
    rw [this, natK_eq, ih]
    rfl
theorem bytes_rel : ∀ (l : List UInt8), VRels ι (l.map fun c => .int .u8 (c.toNat : Int)) (l.map fun c => Value.int .u8 (c.toNat : Int))
  | [] => .nil
  | c :: l => .cons (.int _ _) (bytes_rel l)
theorem srcK_ok {es : Nat} {x : AVal} {vx : Value} {k : List AVal → Nat → Bool} (h : srcK es x s k = true) (hw : WRel P ι s w) (hx : VRel ι x vx) :
    ∃ cs us n, VRels ι cs us ∧ (∀ a ∈ cs, a.scalar = true) ∧ cs.length = n * es ∧ (∀ w', (Builtin.lenOf vx).run P w' = .ok n w') ∧ (∀ d, (Builtin.firstCells es n vx).run P { w with drawn := d } = .ok us.toArray { w with drawn := d }) ∧
      (∀ m d, m ≤ n → (Builtin.firstCells es m vx).run P { w with drawn := d } = .ok (us.take (m * es)).toArray { w with drawn := d }) ∧ k cs n = true := by
  cases x with
  | str l =>
    have h : ifK (Nat.beq es 1) (lenK l 0 fun n => bytesK l fun cs => k cs n) (fail 31) = true := h
    rcases ifK_true.1 h with ⟨he, h2⟩ | ⟨_, h⟩
    · have he : es = 1 := Nat.eq_of_beq_eq_true he
      subst he
      rw [lenK_eq, bytesK_eq, Nat.zero_add] at h2
      cases hx
      have hfc : ∀ m, m ≤ l.length → ∀ w' : World, (Builtin.firstCells 1 m (.string ⟨l.toArray⟩)).run P w' = .ok ((l.map fun c => Value.int .u8 (c.toNat : Int)).take (m * 1)).toArray w' := by
        intro m hm w'
        have e1 : (⟨l.toArray⟩ : ByteArray).extract 0 m = ⟨(l.take m).toArray⟩ := by
          apply ByteArray.ext
          simp [ByteArray.data_extract]
        simp only [Builtin.firstCells, e1, Sem.run_pure]
        simp [List.map_take]
      refine ⟨_, _, l.length, bytes_rel l, ?_, by simp, fun w' => by simp [Builtin.lenOf, size_arr], fun d => ?_, fun m d hm => hfc m hm _, h2⟩
      · intro a ha
        obtain ⟨c, _, rfl⟩ := List.mem_map.1 ha
        rfl
      · rw [hfc l.length (Nat.le_refl _), Nat.mul_one, List.take_of_length_le (by simp)]
    · cases h
  | slice b off n c =>
    rcases hx.slice_inv with ⟨p, o, cc, hb, rfl, hs⟩ | ⟨rfl, rfl, ad, rfl⟩
    rotate_left
    · refine ⟨[], [], 0, .nil, by simp, by simp, fun w' => by simp [Builtin.lenOf], fun d => by simp [Builtin.firstCells, loadCells, loadCellsFrom], fun m d hm => ?_, h⟩
      have : m = 0 := by omega
      subst this
      simp [Builtin.firstCells, loadCells, loadCellsFrom]
    have h : ifK (Nat.beq n 0) (k [] 0) (cellsK b s fun cs _ => segK cs off (Nat.mul n es) fun l => k l n) = true := h
    rcases ifK_true.1 h with ⟨h0, h⟩ | ⟨h0, h⟩
    · have h0 : n = 0 := Nat.eq_of_beq_eq_true h0
      subst h0
      refine ⟨[], [], 0, .nil, by simp, by simp, fun w' => by simp [Builtin.lenOf], fun d => by simp [Builtin.firstCells, loadCells, loadCellsFrom], fun m d hm => ?_, h⟩
      have : m = 0 := by omega
      subst this
      simp [Builtin.firstCells, loadCells, loadCellsFrom]
    · have h0 : n ≠ 0 := by intro e; subst e; cases h0
      obtain ⟨cs, ro, hc, h⟩ := cellsK_true.1 h
      obtain ⟨hle, h⟩ := segK_true.1 h
      have ho : o = p.off + off := by
        cases hs with
        | lim ho => exact ho
        | opn _ _ _ ha => exact ha (by omega)
      subst ho
      obtain ⟨ob, hob, hr⟩ := hw.objs b p hb
      rw [hc] at hob; cases hob
      obtain ⟨vs, hvs, hvl, hcell⟩ := seg_vals hr off (n * es) hle
      have hrun : ∀ m d, m ≤ n → (Builtin.firstCells es m (.slice (some ⟨p.blk, p.off + off, none⟩) n cc)).run P { w with drawn := d } = .ok (vs.take (m * es)).toArray { w with drawn := d } := by
        intro m d hm
        have hml : m * es ≤ n * es := Nat.mul_le_mul_right es hm
        have := run_loadCells_seg (P := P) (w := { w with drawn := d }) (b := p.blk) (o := p.off + off) (vs := vs.take (m * es)) (fun j v hj => by
          rw [List.getElem?_take] at hj
          split at hj
          · exact hcell j v hj
          · cases hj)
        rw [List.length_take, hvl, Nat.min_eq_left hml] at this
        exact this
      refine ⟨_, vs, n, hvs, fun a ha => hr.scalars a (mem_seg ha), ?_, fun w' => by simp [Builtin.lenOf], fun d => ?_, hrun, h⟩
      · have := hvs.length
        rw [this, hvl]
      · have := hrun n d (Nat.le_refl _)
        rwa [List.take_of_length_le (by rw [hvl]; exact Nat.le_refl _)] at this
  | nilSlice =>
    cases hx
    refine ⟨[], [], 0, .nil, by simp, by simp, fun w' => by simp [Builtin.lenOf], fun d => by simp [Builtin.firstCells], fun m d hm => by simp [Builtin.firstCells], h⟩
  | _ => cases h

/-! ### Appends -/
theorem growBy_le (n : Nat) : ∀ (r c : Nat), Builtin.growBy n r c ≤ max c (n + (n + 768) / 4)
  | 0, c => by simp [Builtin.growBy]; omega
  | r + 1, c => by
    unfold Builtin.growBy
    split
    · omega
    · have := growBy_le n r (c + (c + 768) / 4)
      omega
theorem nextcap_le {need cap : Nat} (h : cap < need) : Builtin.nextslicecap need cap ≤ 2 * need + 192 := by
  unfold Builtin.nextslicecap
  split
  · omega
  · split
    · omega
    · have := growBy_le need 4 cap
      omega
/-- The second argument is no count of zeros. -/
def NoInt (P : Program) (ts : Array TypeId) : Prop := ts[1]? = none ∨ ∃ u d, ts[1]? = some u ∧ P.underlying u = some d ∧ ∀ k, d ≠ .int k
theorem appendInfo_some {ts : Array TypeId} {e : Nat × Nat} (h : appendInfo P ts = some e) :
    ∃ t el inf zs, ts[0]? = some t ∧ P.underlying t = some (.slice el) ∧ P.info? el = some inf ∧ e = (inf.size, inf.bytes) ∧ 0 < inf.size ∧ 0 < inf.bytes ∧ inf.bytes ≤ 1048576 ∧
      zeroCells P el = some zs ∧ zs.length = inf.size ∧ NoInt P ts := by
  unfold appendInfo at h
  split at h
  · rename_i t ht
    split at h
    · rename_i es eb hs
      split at h
      · rename_i hc
        obtain ⟨h1, h2, h3, h4⟩ := hc
        obtain ⟨el, inf, hd, hel, heq⟩ := slcInfo_some hs
        cases heq
        rw [slcElem_of hd] at h4
        simp only [Option.bind_some, Option.map_eq_some_iff] at h4
        obtain ⟨zs, hz, hzl⟩ := h4
        split at h
        · rename_i u hu
          split at h
          · cases h
          · rename_i d hn hd'
            cases h
            exact ⟨t, el, inf, zs, ht, hd, hel, rfl, h1, h2, h3, hz, hzl, .inr ⟨u, d, hu, hd', fun k e => hn k e⟩⟩
          · cases h
        · rename_i hu
          cases h
          exact ⟨t, el, inf, zs, ht, hd, hel, rfl, h1, h2, h3, hz, hzl, .inl hu⟩
      · cases h
    · cases h
  · cases h
theorem noInt_match {d : TypeDesc} (h : ∀ k, d ≠ .int k) : (match d with | .int _ => true | _ => false) = false := by
  cases d <;> first | rfl | exact absurd rfl (h _)
/-- A new row that an append makes. -/
theorem grow_ok {el : TypeId} {inf : TypeInfo} {cs : List AVal} {us zs : List Value} {need nc : Nat} {k : VK} (h : growK inf.size cs need s k = true) (hw : WRel P ι s w) (hc : VRels ι cs us) (hs : ∀ x ∈ cs, x.scalar = true)
    (hl : cs.length = need * inf.size) (hz : zs.length = (nc - need) * inf.size) (hn : need ≤ nc) (he : 0 < inf.size) :
    FineV P ι w k (.ok (.slice (some ⟨w.heap.size, 0, none⟩) need nc) { w with heap := w.heap.push (.cells (us ++ zs).toArray el) }) := by
  unfold growK at h
  rw [allocK_eq] at h
  have hul := hc.length
  have hsz : (us ++ zs).toArray.size = nc * inf.size := by
    simp only [List.size_toArray, List.length_append, ← hul, hl, hz]
    rw [← Nat.add_mul]; congr 1; omega
  obtain ⟨g1, g2⟩ := hw.alloc (.cells cs false) (.cells (us ++ zs).toArray el) ⟨w.heap.size, 0, nc * inf.size, false⟩ rfl rfl
    (ORel.cells (p := ⟨w.heap.size, 0, nc * inf.size, false⟩) (c := (us ++ zs).toArray) (t := el) (fr := (0, 0)) (by simp) hsz (by simp; omega)
      (fun i a e => by
        obtain ⟨v, hv, hr⟩ := (hc.mono (Ren.le_set hw.next_none)).get e
        refine ⟨v, ?_, hr⟩
        have hlt : i < us.length := (List.getElem?_eq_some_iff.1 hv).1
        simp [List.getElem?_append_left hlt, hv]) hs (fun _ i _ => by simp))
  refine ⟨_, _, _, _, _, rfl, g2, g1, ?_, h⟩
  exact VRel.opn (p := ⟨w.heap.size, 0, nc * inf.size, false⟩) (Ren.set_same _ _ _) he hn (.inr (by simp)) (fun _ => rfl)
theorem run_app_room {ts : Array TypeId} {t el ty : TypeId} {inf : TypeInfo} {base : Option Addr} {len cap n : Nat} {vx : Value} {us : Array Value} (h0 : ts[0]? = some t) (hd : P.underlying t = some (.slice el)) (hel : P.info? el = some inf)
    (hz : NoInt P ts) (hlen : ∀ w, (Builtin.lenOf vx).run P w = .ok n w) (hfc : (Builtin.firstCells inf.size n vx).run P w = .ok us w) (hr : len + n ≤ cap) :
    (Builtin.append_ ts ty #[.slice base len cap, vx]).run P w =
      (Sem.run P (do if let some a := base then storeCells (a.add (len * inf.size)) us.toList
                     pure (.slice base (len + n) cap)) w) := by
  have hsz : (sizeOf el).run P = fun w => .ok inf.size w := funext fun w => run_sizeOfA (tySize_info hel)
  rcases hz with h1 | ⟨u, d, h1, h2, h3⟩
  · simp [Builtin.append_, h0, h1, run_underlyingA hd, run_sizeOfA (tySize_info hel), hlen, hr, hfc]
    cases base <;> rfl
  · have hm := noInt_match h3
    simp [Builtin.append_, h0, h1, run_underlyingA hd, run_underlyingA h2, run_sizeOfA (tySize_info hel), hlen, hr, hfc, hm]
    cases base <;> rfl
theorem run_app_grow {ts : Array TypeId} {t el ty : TypeId} {inf : TypeInfo} {base : Option Addr} {len cap n : Nat} {vx z : Value} {os us : Array Value} (h0 : ts[0]? = some t) (hd : P.underlying t = some (.slice el)) (hel : P.info? el = some inf)
    (hz : NoInt P ts) (hlen : ∀ w, (Builtin.lenOf vx).run P w = .ok n w) (hfo : (Builtin.firstCells inf.size len (.slice base len cap)).run P w.drew = .ok os w.drew)
    (hfc : (Builtin.firstCells inf.size n vx).run P w.drew = .ok us w.drew)
    (hzv : (zeroValue el).run P w.drew = .ok z w.drew) (hr : ¬ len + n ≤ cap) (h63 : len + n ≤ 9223372036854775807) (hfit : Builtin.nextslicecap (len + n) cap * inf.bytes ≤ 281474976710656) :
    (Builtin.append_ ts ty #[.slice base len cap, vx]).run P w =
      .ok (.slice (some ⟨w.heap.size, 0, none⟩) (len + n) (grownCap w (len + n) cap el))
        (w.drew.alloc (.cells (os ++ (us ++ Builtin.zeroCells z.cells (grownCap w (len + n) cap el - (len + n)))) el)) := by
  have h63' : ¬ (9223372036854775807 < ((len : Int) + (n : Int))) := by omega
  have h48' : ¬ (281474976710656 < Builtin.nextslicecap (len + n) cap * inf.bytes) := by omega
  have hti : ∀ w, (typeInfo el).run P w = .ok inf w := fun w => run_typeInfoA hel
  rcases hz with h1 | ⟨u, d, h1, h2, h3⟩
  · simp [Builtin.append_, h0, h1, run_underlyingA hd, run_sizeOfA (tySize_info hel), hti, hlen, hr, hfc, hfo, hzv, h63', h48', Question.forced, newRow, grownCap]
  · have hm := noInt_match h3
    simp [Builtin.append_, h0, h1, run_underlyingA hd, run_underlyingA h2, run_sizeOfA (tySize_info hel), hti, hlen, hr, hfc, hfo, hzv, hm, h63', h48', Question.forced, newRow, grownCap]
theorem grownCap_ge {w : World} {need old : Nat} {e : TypeId} : need ≤ grownCap w need old e := by
  simp [grownCap, Question.cut]
theorem zeroCells_size (z : Array Value) (n : Nat) : (Builtin.zeroCells z n).size = n * z.size := by simp [Builtin.zeroCells]
/-- An append that makes a new row. -/
theorem app_grow {ts : Array TypeId} {t el ty : TypeId} {inf : TypeInfo} {base : Option Addr} {len cap n : Nat} {vx : Value} {s' : St} {cs co : List AVal} {us os : List Value} {zs : List AVal} {k : VK}
    (h0 : ts[0]? = some t) (hd : P.underlying t = some (.slice el)) (hel : P.info? el = some inf) (hz : NoInt P ts) (he : 0 < inf.size) (hzs : zeroCells P el = some zs) (hzl : zs.length = inf.size)
    (hb : inf.bytes ≤ 1048576) (hsm : (len + n) * inf.bytes ≤ 1099511627776) (hb0 : 0 < inf.bytes)
    (hlen : ∀ w, (Builtin.lenOf vx).run P w = .ok n w) (hfo : (Builtin.firstCells inf.size len (.slice base len cap)).run P w.drew = .ok os.toArray w.drew)
    (hfc : (Builtin.firstCells inf.size n vx).run P w.drew = .ok us.toArray w.drew) (hr : ¬ len + n ≤ cap)
    (hw : WRel P ι s' w) (ho : VRels ι co os) (hu : VRels ι cs us) (hso : ∀ x ∈ co, x.scalar = true) (hsu : ∀ x ∈ cs, x.scalar = true) (hlo : co.length = len * inf.size) (hlu : cs.length = n * inf.size)
    (h : growK inf.size (co ++ cs) (len + n) s' k = true) : FineV P ι w k ((Builtin.append_ ts ty #[.slice base len cap, vx]).run P w) := by
  obtain ⟨z, hzv, hzz, _⟩ := run_zeroCells (P := P) (ι := ι) (w := w.drew) hzs
  have hneed : len + n ≤ 1099511627776 := by
    have := Nat.le_mul_of_pos_right (len + n) hb0
    omega
  have hfit : Builtin.nextslicecap (len + n) cap * inf.bytes ≤ 281474976710656 := by
    have h1 := nextcap_le (need := len + n) (cap := cap) (by omega)
    have h2 : Builtin.nextslicecap (len + n) cap * inf.bytes ≤ (2 * (len + n) + 192) * inf.bytes := Nat.mul_le_mul_right _ h1
    have h3 : (2 * (len + n) + 192) * inf.bytes = 2 * ((len + n) * inf.bytes) + 192 * inf.bytes := by rw [Nat.add_mul, Nat.mul_assoc]
    omega
  rw [run_app_grow h0 hd hel hz hlen hfo hfc hzv hr (by omega) hfit]
  have hzz' := hzz.length
  simp at hzz'
  have hg : len + n ≤ grownCap w (len + n) cap el := grownCap_ge
  have := grow_ok (P := P) (ι := ι) (w := w.drew) (inf := inf) (el := el) (cs := co ++ cs) (us := os ++ us) (zs := (Builtin.zeroCells z.cells (grownCap w (len + n) cap el - (len + n))).toList) (nc := grownCap w (len + n) cap el) h
    (hw.drawn _) (ho.append hu) (fun x hx => by rcases List.mem_append.1 hx with hx | hx; exact hso x hx; exact hsu x hx) (by simp [hlo, hlu, Nat.add_mul]) (by simp [zeroCells_size, ← hzz', hzl]) hg he
  obtain ⟨v, w', ι', s2, a, e1, e2, e3, e4, e5⟩ := this
  refine ⟨v, w', ι', s2, a, ?_, (Ext.drawn ι w _).trans e2, e3, e4, e5⟩
  rw [← e1]
  congr 2
  simp [World.alloc, World.drew]
theorem smallK_true {need eb : Nat} {x : Bool} (h : smallK need eb x = true) : need * eb ≤ 1099511627776 ∧ x = true := by
  rcases ifK_true.1 h with ⟨h1, h⟩ | ⟨_, h⟩
  · exact ⟨Nat.le_of_ble_eq_true h1, h⟩
  · cases h
/-- The cells of a slice that is not empty. -/
theorem own_cells {b : Pos} {p : Place} {off len o c es : Nat} {cap : Cap} {cs : List AVal} {ro : Bool} (hw : WRel P ι s w) (hb : ι b = some p) (hs : SRel p off len o c cap) (hc : PT.get b s.heap = some (.cells cs ro))
    (hle : off + len * es ≤ cs.length) (h0 : len ≠ 0) : ∃ os, VRels ι ((cs.drop off).take (len * es)) os ∧ os.length = len * es ∧ (∀ a ∈ (cs.drop off).take (len * es), a.scalar = true) ∧
      ∀ d, (Builtin.firstCells es len (.slice (some ⟨p.blk, o, none⟩) len c)).run P { w with drawn := d } = .ok os.toArray { w with drawn := d } := by
  have ho : o = p.off + off := by
    cases hs with
    | lim ho => exact ho
    | opn _ _ _ ha => exact ha (by omega)
  subst ho
  obtain ⟨ob, hob, hr⟩ := hw.objs b p hb
  rw [hc] at hob; cases hob
  obtain ⟨vs, hvs, hvl, hcell⟩ := seg_vals hr off (len * es) hle
  refine ⟨vs, hvs, hvl, fun a ha => hr.scalars a (mem_seg ha), fun d => ?_⟩
  have := run_loadCells_seg (P := P) (w := { w with drawn := d }) (b := p.blk) (o := p.off + off) (vs := vs) (fun j v hj => hcell j v hj)
  rw [hvl] at this
  exact this
theorem ORel.cells_inv {p : Place} {ob : AObj} {cs : List AVal} {ro : Bool} (h : ORel P ι w p ob) (e : ob = .cells cs ro) : p.ro = ro ∧ ∃ (arr : Array Value) (t : TypeId) (fr : Nat × Nat), w.heap[p.blk]? = some (.cells arr t fr) ∧
    arr.size = p.size ∧ p.off + cs.length ≤ arr.size ∧ CellsAt ι cs p.off arr ∧ (p.ro = false → ∀ i, i < arr.size → ¬ (fr.1 ≤ i ∧ i < fr.2)) := by
  cases h with
  | cells x1 x2 x3 x4 x5 x6 => cases e; exact ⟨rfl, _, _, _, x1, x2, x3, x4, x6⟩
  | _ => cases e
/-- An append whose row has room behind what is known of it: the old name is given up. -/
theorem app_open {ts : Array TypeId} {t el ty : TypeId} {inf : TypeInfo} {b : Pos} {p : Place} {off len o c n : Nat} {vy : Value} {cs co new : List AVal} {us : List Value} {zs : List AVal}
    (h0 : ts[0]? = some t) (hd : P.underlying t = some (.slice el)) (hel : P.info? el = some inf) (hz : NoInt P ts) (he : 0 < inf.size) (hzs : zeroCells P el = some zs) (hzl : zs.length = inf.size)
    (hb1 : inf.bytes ≤ 1048576) (hsm : (len + n) * inf.bytes ≤ 1099511627776) (hb0 : 0 < inf.bytes) (hlen : ∀ w, (Builtin.lenOf vy).run P w = .ok n w)
    (hfc : ∀ d, (Builtin.firstCells inf.size n vy).run P { w with drawn := d } = .ok us.toArray { w with drawn := d }) (hn : n ≠ 0)
    (hw : WRel P ι s w) (hb : ι b = some p) (hc : PT.get b s.heap = some (.cells cs false)) (hcl : len ≤ c) (hbd : c = 0 ∨ o + c * inf.size = p.size) (ha : 0 < len → o = p.off + off)
    (hco : (len = 0 ∧ co = []) ∨ (len ≠ 0 ∧ off + len * inf.size ≤ cs.length ∧ co = (cs.drop off).take (len * inf.size)))
    (hu : VRels ι new us) (hsu : ∀ x ∈ new, x.scalar = true) (hlu : new.length = n * inf.size)
    (h : growK inf.size (co ++ new) (len + n) { heap := PT.set b .dead s.heap, next := s.next } K = true) : FineV P ι w K ((Builtin.append_ ts ty #[.slice (some ⟨p.blk, o, none⟩) len c, vy]).run P w) := by
  have hsrel : SRel p off len o c (.opn inf.size) := .opn he hcl hbd ha
  have hold : ∃ os, VRels ι co os ∧ co.length = len * inf.size ∧ (∀ a ∈ co, a.scalar = true) ∧
      (Builtin.firstCells inf.size len (.slice (some ⟨p.blk, o, none⟩) len c)).run P w.drew = .ok os.toArray w.drew := by
    rcases hco with ⟨rfl, rfl⟩ | ⟨hl0, hle, rfl⟩
    · exact ⟨[], .nil, by simp, by simp, by simp [Builtin.firstCells, loadCells, loadCellsFrom]⟩
    · obtain ⟨os, g1, g2, g3, g4⟩ := own_cells (es := inf.size) hw hb hsrel hc hle hl0
      exact ⟨os, g1, by rw [g1.length, g2], g3, g4 _⟩
  obtain ⟨os, g1, g2, g3, g4⟩ := hold
  by_cases hroom : len + n ≤ c
  · rw [run_app_room h0 hd hel hz hlen (hfc w.drawn) hroom]
    obtain ⟨ob, hob, hr⟩ := hw.objs b p hb
    rw [hc] at hob
    obtain ⟨hro, arr, tt, fr, hcells, hsz, _, hat, hf⟩ := hr.cells_inv (Option.some.inj hob).symm
    replace hf := hf hro
    have hsize : o + c * inf.size = p.size := by rcases hbd with h1 | h1; omega; exact h1
    have hul := hu.length
    have hmul : (len + n) * inf.size ≤ c * inf.size := Nat.mul_le_mul_right _ hroom
    rw [Nat.add_mul] at hmul
    obtain ⟨w', c', hrun, hg, hs', hc', hz', hk, ho, hout⟩ := storeCells_ok (P := P) p.blk (o + len * inf.size) tt fr us 0 w arr hcells (hu.oneCell hsu) (by omega) (fun j hj => by
      have := hf (o + len * inf.size + 0 + j) (by omega)
      omega)
    unfold growK at h
    rw [allocK_eq] at h
    have hnn := hw.next_none
    obtain ⟨r1, r2⟩ := hw.regrow (w' := w') (q := ⟨p.blk, o, p.size, false⟩) (.cells (co ++ new) false) hb hc rfl hro rfl rfl hz' hk ho hout
      (ORel.cells (p := ⟨p.blk, o, p.size, false⟩) hg (by rw [hs', hsz]) (by simp; omega) (fun i a e => by
        rw [hc' (o + i)]
        by_cases hi : i < co.length
        · rw [if_neg (by omega)]
          rw [List.getElem?_append_left hi] at e
          rcases hco with ⟨_, rfl⟩ | ⟨hl0, hle, rfl⟩
          · simp at hi
          · rw [List.getElem?_take] at e
            split at e
            · rw [List.getElem?_drop] at e
              obtain ⟨v, hv, hrv⟩ := hat (off + i) a e
              refine ⟨v, ?_, hrv.mono (Ren.le_set hnn)⟩
              rw [ha (by omega), Nat.add_assoc]
              exact hv
            · cases e
        · rw [List.getElem?_append_right (by omega)] at e
          have hlt := (List.getElem?_eq_some_iff.1 e).1
          obtain ⟨v, hv, hrv⟩ := hu.get e
          refine ⟨v, ?_, hrv.mono (Ren.le_set hnn)⟩
          rw [if_pos (by omega), show o + i - (o + len * inf.size + 0) = i - co.length by omega]
          exact hv) (fun x hx => by rcases List.mem_append.1 hx with hx | hx; exact g3 x hx; exact hsu x hx) (fun _ i hi => hf i (by omega)))
    refine ⟨_, w', _, _, _, ?_, r2, r1, VRel.opn (p := ⟨p.blk, o, p.size, false⟩) (Ren.set_same _ _ _) he hroom (.inr hsize) (fun _ => rfl), h⟩
    simp only [add_eq, Sem.run_bind, hrun, Result.andThen_ok, Sem.run_pure]
  · have hk := hw.kill b
    exact app_grow h0 hd hel hz he hzs hzl hb1 hsm hb0 hlen g4 (hfc _) hroom hk g1 hu g3 hsu g2 hlu h
theorem opAppend_fine {ts : Array TypeId} {ty : TypeId} {x y : Option AVal} {vx vy : Value} (h : opAppend P ts x y s K = true) (hw : WRel P ι s w) (hx : ORl ι x vx) (hy : ORl ι y vy) :
    FineV P ι w K ((Builtin.append_ ts ty #[vx, vy]).run P w) := by
  obtain ⟨e, he, h⟩ := optK_true.1 h
  obtain ⟨x', hx', h⟩ := optK_true.1 h
  obtain ⟨y', hy', h⟩ := optK_true.1 h
  obtain ⟨t, el, inf, zs, h0, hd, hel, rfl, hs0, hb0, hb1, hzs, hzl, hni⟩ := appendInfo_some he
  obtain ⟨new, us, n, hu, hsu, hlu, hlen, hfc, _, h⟩ := srcK_ok h hw (hy _ hy')
  have hrx := hx _ hx'
  have hfd : (Builtin.firstCells inf.size n vy).run P w.drew = .ok us.toArray w.drew := hfc _
  have hf0 : (Builtin.firstCells inf.size n vy).run P w = .ok us.toArray w := hfc w.drawn
  cases x' with
  | nilSlice =>
    cases hrx
    have h : ifK (Nat.beq n 0) (K .nilSlice s) (smallK n inf.bytes (growK inf.size new n s K)) = true := h
    rcases ifK_true.1 h with ⟨hn, h⟩ | ⟨hn, h⟩
    · have hn : n = 0 := Nat.eq_of_beq_eq_true hn
      subst hn
      rw [run_app_room h0 hd hel hni hlen hf0 (by omega)]
      exact .same hw .nilSlice h
    · have hn : n ≠ 0 := by intro e; subst e; cases hn
      obtain ⟨hsm, h⟩ := smallK_true h
      exact app_grow h0 hd hel hni hs0 hzs hzl hb1 (by rw [Nat.zero_add]; exact hsm) hb0 hlen (os := []) (co := []) (by simp [Builtin.firstCells]) hfd (by omega) hw .nil hu (by simp) hsu (by simp) hlu (by rw [Nat.zero_add]; exact h)
  | slice b off len cap =>
    rcases hrx.slice_inv with ⟨p, o, c, hb, rfl, hs⟩ | ⟨rfl, rfl, ad, rfl⟩
    rotate_left
    · have h : (natK (Nat.add 0 n) fun need => ifK (Nat.beq n 0) (ifK (Nat.ble 0 0) (K (.slice b off 0 (.lim 0)) s) (fail 34)) (appExact inf.size inf.bytes b off 0 0 need new s K)) = true := h
      rw [natK_eq] at h
      simp only [Nat.add_eq] at h
      rcases ifK_true.1 h with ⟨hn, h⟩ | ⟨hn, h⟩
      · have hn : n = 0 := Nat.eq_of_beq_eq_true hn
        subst hn
        rw [run_app_room h0 hd hel hni hlen hf0 (by omega)]
        have hus : us = [] := by
          have := hu.length
          rw [hlu] at this
          exact List.eq_nil_of_length_eq_zero (by omega)
        subst hus
        simp only [storeCells, Sem.run_bind, Sem.run_pure, Result.andThen_ok, Nat.add_zero]
        exact .same hw .empty h
      · have hn : n ≠ 0 := by intro e; subst e; cases hn
        unfold appExact at h
        rcases ifK_true.1 h with ⟨hle, h⟩ | ⟨hle, h⟩
        · have hle : 0 + n ≤ 0 := Nat.le_of_ble_eq_true hle
          omega
        · obtain ⟨hsm, h⟩ := smallK_true h
          rcases ifK_true.1 h with ⟨hl0, h⟩ | ⟨hl0, h⟩
          · exact app_grow h0 hd hel hni hs0 hzs hzl hb1 hsm hb0 hlen (os := []) (co := []) (by simp [Builtin.firstCells, loadCells, loadCellsFrom]) hfd (by omega) hw .nil hu (by simp) hsu (by simp) hlu h
          · cases hl0
    have h : (natK (Nat.add len n) fun need => @Cap.rec (fun _ => Bool) (fun c => ifK (Nat.beq n 0) (ifK (Nat.ble len c) (K (.slice b off len (.lim c)) s) (fail 34)) (appExact inf.size inf.bytes b off len c need new s K))
          (fun es => ifK (Nat.beq n 0) (K (.slice b off len (.opn es)) s) (ifK (Nat.beq es inf.size) (appOpen inf.size inf.bytes b off len need new s K) (fail 34))) cap) = true := h
    rw [natK_eq] at h
    simp only [Nat.add_eq] at h
    have hkeep : n = 0 → len ≤ c → K (.slice b off len cap) s = true → FineV P ι w K ((Builtin.append_ ts ty #[.slice (some ⟨p.blk, o, none⟩) len c, vy]).run P w) := by
      intro hn hle hk
      subst hn
      rw [run_app_room h0 hd hel hni hlen hf0 (by omega)]
      have hus : us = [] := by
        have := hu.length
        rw [hlu] at this
        exact List.eq_nil_of_length_eq_zero (by omega)
      subst hus
      simp only [storeCells, Sem.run_bind, Sem.run_pure, Result.andThen_ok, Nat.add_zero]
      exact .same hw (hs.vrel hb) hk
    cases hs with
    | lim ho =>
      rcases ifK_true.1 h with ⟨hn, h⟩ | ⟨hn, h⟩
      · rcases ifK_true.1 h with ⟨hle, h⟩ | ⟨_, h⟩
        · exact hkeep (Nat.eq_of_beq_eq_true hn) (Nat.le_of_ble_eq_true hle) h
        · cases h
      · have hn : n ≠ 0 := by intro e; subst e; cases hn
        unfold appExact at h
        subst ho
        rcases ifK_true.1 h with ⟨hle, h⟩ | ⟨hle, h⟩
        · have hle : len + n ≤ c := Nat.le_of_ble_eq_true hle
          rw [run_app_room h0 hd hel hni hlen hf0 hle]
          obtain ⟨s', w', h1, h2, h3, h4⟩ := writeK_ok h hb hw hu hsu
          refine ⟨_, w', ι, s', _, ?_, h3, h2, VRel.slice hb, h4⟩
          simp only [Nat.add_eq, Nat.mul_eq] at h1
          simp only [add_eq, Sem.run_bind, Nat.add_assoc] at h1 ⊢
          simp [h1]
        · have hle : ¬ len + n ≤ c := by intro hh; rw [Nat.ble_eq_true_of_le hh] at hle; cases hle
          obtain ⟨hsm, h⟩ := smallK_true h
          rcases ifK_true.1 h with ⟨hl0, h⟩ | ⟨hl0, h⟩
          · have hl0 : len = 0 := Nat.eq_of_beq_eq_true hl0
            subst hl0
            exact app_grow h0 hd hel hni hs0 hzs hzl hb1 hsm hb0 hlen (os := []) (co := []) (by simp [Builtin.firstCells, loadCells, loadCellsFrom]) hfd hle hw .nil hu (by simp) hsu (by simp) hlu h
          · have hl0 : len ≠ 0 := by intro e; subst e; cases hl0
            obtain ⟨cs, ro, hc, h⟩ := cellsK_true.1 h
            obtain ⟨hseg, h⟩ := segK_true.1 h
            rw [appK_eq] at h
            simp only [Nat.mul_eq] at hseg h
            obtain ⟨os, g1, g2, g3, g4⟩ := own_cells (es := inf.size) hw hb (SRel.lim rfl) hc hseg hl0
            exact app_grow h0 hd hel hni hs0 hzs hzl hb1 hsm hb0 hlen (g4 _) hfd hle hw g1 hu g3 hsu (by rw [g1.length, g2]) hlu h
    | @opn es' hes hcl hbd ha =>
      rcases ifK_true.1 h with ⟨hn, h⟩ | ⟨hn, h⟩
      · exact hkeep (Nat.eq_of_beq_eq_true hn) hcl h
      · have hn : n ≠ 0 := by intro e; subst e; cases hn
        rcases ifK_true.1 h with ⟨hee, hA⟩ | ⟨_, h⟩
        · have hee : es' = inf.size := Nat.eq_of_beq_eq_true hee
          subst hee
          clear h
          unfold appOpen at hA
          obtain ⟨cs, ro, hc, hB⟩ := cellsK_true.1 hA
          rcases ifK_true.1 hB with ⟨_, h⟩ | ⟨hro, h⟩
          · cases h
          · subst hro
            rw [lenK_eq, Nat.zero_add] at h
            rcases ifK_true.1 h with ⟨hl1, h⟩ | ⟨hl1, h⟩
            · have hl1 : 1 ≤ len := Nat.le_of_ble_eq_true hl1
              rcases ifK_true.1 h with ⟨hin, h⟩ | ⟨_, h⟩
              · have hin : off + (len + n) * inf.size ≤ cs.length := Nat.le_of_ble_eq_true hin
                have hsize : o + c * inf.size = p.size := by rcases hbd with h1 | h1; omega; exact h1
                have hcsz : p.off + cs.length ≤ p.size := by
                  obtain ⟨ob, hob, hr⟩ := hw.objs b p hb
                  rw [hc] at hob
                  obtain ⟨_, arr, _, _, _, hsz, hln, _⟩ := hr.cells_inv (Option.some.inj hob).symm
                  omega
                have hroom : len + n ≤ c := by
                  have ho := ha (by omega)
                  have : (len + n) * inf.size ≤ c * inf.size := by omega
                  exact Nat.le_of_mul_le_mul_right this hs0
                rw [run_app_room h0 hd hel hni hlen hf0 hroom]
                have hwk : writeK b (Nat.add off (Nat.mul len inf.size)) new s (fun s => K (.slice b off (len + n) (.opn inf.size)) s) = true := by
                  unfold writeK
                  exact cellsK_true.2 ⟨cs, false, hc, ifK_true.2 (.inr ⟨rfl, h⟩)⟩
                obtain ⟨s', w', h1, h2, h3, h4⟩ := writeK_ok hwk hb hw hu hsu
                refine ⟨_, w', ι, s', _, ?_, h3, h2, VRel.opn hb hs0 hroom (.inr hsize) (fun _ => ha (by omega)), h4⟩
                simp only [Nat.add_eq, Nat.mul_eq] at h1
                rw [ha (by omega)]
                simp only [add_eq, Sem.run_bind, Nat.add_assoc] at h1 ⊢
                simp [h1]
              · obtain ⟨hsm, h⟩ := smallK_true h
                obtain ⟨hseg, h⟩ := segK_true.1 h
                rw [appK_eq, putK_eq] at h
                exact app_open h0 hd hel hni hs0 hzs hzl hb1 hsm hb0 hlen hfc hn hw hb hc hcl hbd ha (.inr ⟨by omega, hseg, rfl⟩) hu hsu hlu h
            · have hl1 : len = 0 := by
                rcases Nat.eq_zero_or_pos len with h1 | h1
                · exact h1
                · rw [Nat.ble_eq_true_of_le h1] at hl1; cases hl1
              obtain ⟨hsm, h⟩ := smallK_true h
              rw [putK_eq] at h
              exact app_open (co := []) h0 hd hel hni hs0 hzs hzl hb1 hsm hb0 hlen hfc hn hw hb hc hcl hbd ha (.inl ⟨hl1, rfl⟩) hu hsu hlu h
        · cases h
  | _ => cases h
end
end Go.AM
end
section
/- The abstract machine's operations hold of the model's, part 7: copies, lengths, least and greatest, clearing, conversions, function values. -/
namespace Go.AM
section
variable {P : Program} {ι : Ren} {s : St} {w : World} {K : VK}

theorem dstLen_true {x : AVal} {v : Value} {k : Nat → Bool} (h : dstLen x k = true) (hx : VRel ι x v) : ∃ n, k n = true ∧ ((∃ b m c, v = .slice b n c ∧ m = n) ∨ ∃ l, v = .string l) ∧ ∀ w, (Builtin.lenOf v).run P w = .ok n w := by
  cases x with
  | str l =>
    cases hx
    have h : lenK l 0 k = true := h
    rw [lenK_eq, Nat.zero_add] at h
    exact ⟨_, h, .inr ⟨_, rfl⟩, fun w => by simp [Builtin.lenOf, size_arr]⟩
  | slice b o n c =>
    rcases hx.slice_inv with ⟨p, o', c', hb, rfl, hs⟩ | ⟨rfl, rfl, ad, rfl⟩
    · exact ⟨n, h, .inl ⟨_, _, _, rfl, rfl⟩, fun w => by simp [Builtin.lenOf]⟩
    · exact ⟨0, h, .inl ⟨_, _, _, rfl, rfl⟩, fun w => by simp [Builtin.lenOf]⟩
  | nilSlice => cases hx; exact ⟨0, h, .inl ⟨_, _, _, rfl, rfl⟩, fun w => by simp [Builtin.lenOf]⟩
  | _ => cases h
theorem slLen_true {x : AVal} {v : Value} {k : Nat → Bool} (h : slLen x k = true) (hx : VRel ι x v) : ∃ b m c, v = .slice b m c ∧ k m = true ∧ (b = none → m = 0) := by
  cases x with
  | slice b o n c =>
    rcases hx.slice_inv with ⟨p, o', c', hb, rfl, hs⟩ | ⟨rfl, rfl, ad, rfl⟩
    · exact ⟨_, n, _, rfl, h, fun h => by cases h⟩
    · exact ⟨_, 0, _, rfl, h, fun h => by cases h⟩
  | nilSlice => cases hx; exact ⟨_, 0, _, rfl, h, fun _ => rfl⟩
  | _ => cases h
theorem opCopy_fine {ts : Array TypeId} {ty : TypeId} {x y : Option AVal} {vx vy : Value} (h : opCopy P ts x y s K = true) (hw : WRel P ι s w) (hx : ORl ι x vx) (hy : ORl ι y vy) :
    FineV P ι w K ((Builtin.copy_ ts ty #[vx, vy]).run P w) := by
  obtain ⟨es, he, h⟩ := optK_true.1 h
  obtain ⟨x', hx', h⟩ := optK_true.1 h
  obtain ⟨y', hy', h⟩ := optK_true.1 h
  have hrx := hx _ hx'
  have hry := hy _ hy'
  obtain ⟨base, m, cap, rfl, h, hbn⟩ := slLen_true h hrx
  obtain ⟨n, h1, hvy, hn⟩ := dstLen_true (P := P) h hry
  rw [natK_eq] at h1
  unfold copyInfo at he
  cases ht : ts[0]? with
  | none => rw [ht] at he; cases he
  | some t =>
    rw [ht] at he
    simp only [Option.map_eq_some_iff] at he
    obtain ⟨e, hs, rfl⟩ := he
    obtain ⟨el, inf, hd, hel, rfl⟩ := slcInfo_some hs
    have hsz : (sizeOf el).run P w = .ok inf.size w := by simp [sizeOf, run_typeInfoA hel]
    rcases ifK_true.1 h1 with ⟨hk, h2⟩ | ⟨hk, h2⟩
    · have hk : Nat.min n m = 0 := Nat.eq_of_beq_eq_true hk
      have hfc : (Builtin.firstCells inf.size 0 vy).run P w = .ok #[] w := by
        rcases hvy with ⟨b, m', c, rfl, _⟩ | ⟨l, rfl⟩
        · cases b <;> simp [Builtin.firstCells, loadCells, loadCellsFrom]
        · simp only [Builtin.firstCells, Sem.run_pure]
          congr 1
          simp [ByteArray.data_extract]
      have hrun : (Builtin.copy_ ts ty #[.slice base m cap, vy]).run P w = .ok (goInt 0) w := by
        simp only [Builtin.copy_, ht, List.getElem?_toArray, List.getElem?_cons_zero, List.getElem?_cons_succ, Sem.run_bind, run_underlyingA hd, Result.andThen_ok, hn, hsz, hk, hfc]
        cases base <;> simp [storeCells]
      rw [hrun]
      exact .same hw (.int _ _) h2
    · obtain ⟨cs, us, n', hv, hsc, hl, hl2, hfc, hft, h3⟩ := srcK_ok h2 hw hry
      have hnn : n' = n := by
        have e1 := hl2 w
        rw [hn w] at e1
        cases e1; rfl
      subst hnn
      have hft' := hft (Nat.min n' m) w.drawn (Nat.min_le_left _ _)
      obtain ⟨htl, h4⟩ := takeK_true.1 h3
      cases x' with
      | slice b off len c =>
        rcases hrx.slice_inv with ⟨p, o, c', hb, heq, hsr⟩ | ⟨rfl, rfl, ad, heq⟩
        rotate_left
        · cases heq
          simp at hk
        cases heq
        have hm : m ≠ 0 := by
          rintro rfl
          simp at hk
        have ho : o = p.off + off := by
          cases hsr with
          | lim ho => exact ho
          | opn _ _ _ ha => exact ha (by omega)
        subst ho
        have h4 : writeK b off (cs.take (Nat.mul (Nat.min n' m) inf.size)) s (fun s => K (.int .i64 (.ofNat (Nat.min n' m))) s) = true := h4
        obtain ⟨s', w', e1, e2, e3, e4⟩ := writeK_ok h4 hb hw (hv.take _) (fun x hx => hsc x (List.mem_of_mem_take hx))
        have hrun : (Builtin.copy_ ts ty #[.slice (some ⟨p.blk, p.off + off, none⟩) m cap, vy]).run P w = .ok (goInt (Nat.min n' m)) w' := by
          simp only [Builtin.copy_, ht, List.getElem?_toArray, List.getElem?_cons_zero, List.getElem?_cons_succ, Sem.run_bind, run_underlyingA hd, Result.andThen_ok, hn, hsz]
          have : (Builtin.firstCells inf.size (n'.min m) vy).run P w = .ok (us.take (n'.min m * inf.size)).toArray w := hft'
          rw [this]
          simp only [Result.andThen_ok]
          have e1 : (storeCells ⟨p.blk, p.off + off, none⟩ (us.take (n'.min m * inf.size))).run P w = .ok () w' := e1
          simp [e1]
        rw [hrun]
        exact ⟨_, w', ι, s', _, rfl, e3, e2, .int _ _, e4⟩
      | _ => cases h4
theorem lenInfo_some {ts : Array TypeId} {e : TK × Nat} (h : lenInfo P ts = some e) : ∃ t d, ts[0]? = some t ∧ P.underlying t = some d ∧
    ((d = .string ∧ e = (.str, 0)) ∨ (∃ el, d = .slice el ∧ e = (.slc, 0)) ∨ (∃ k v, d = .map k v ∧ e = (.map, 0)) ∨ (∃ n el, d = .array n el ∧ e = (.arr, n)) ∨ ∃ a n el, d = .pointer a ∧ P.underlying a = some (.array n el) ∧ e = (.arr, n)) := by
  unfold lenInfo at h
  split at h
  · rename_i t ht
    split at h
    · rename_i hd; cases h; exact ⟨t, _, ht, hd, .inl ⟨rfl, rfl⟩⟩
    · rename_i el hd; cases h; exact ⟨t, _, ht, hd, .inr (.inl ⟨el, rfl, rfl⟩)⟩
    · rename_i k v hd; cases h; exact ⟨t, _, ht, hd, .inr (.inr (.inl ⟨k, v, rfl, rfl⟩))⟩
    · rename_i n el hd; cases h; exact ⟨t, _, ht, hd, .inr (.inr (.inr (.inl ⟨n, el, rfl, rfl⟩)))⟩
    · rename_i a hd
      split at h
      · rename_i n el ha; cases h; exact ⟨t, _, ht, hd, .inr (.inr (.inr (.inr ⟨a, n, el, rfl, ha, rfl⟩)))⟩
      · cases h
    · cases h
  · cases h
theorem opLen_fine {ts : Array TypeId} {ty : TypeId} {x : Option AVal} {vx : Value} (h : opLen P ts x s K = true) (hw : WRel P ι s w) (hx : ORl ι x vx) : FineV P ι w K ((Builtin.len_ ts ty #[vx]).run P w) := by
  obtain ⟨e, he, h⟩ := optK_true.1 h
  obtain ⟨a, ha, h⟩ := optK_true.1 h
  have hr := hx _ ha
  obtain ⟨t, d, ht, hd, hcase⟩ := lenInfo_some he
  rcases hcase with ⟨rfl, rfl⟩ | ⟨el, rfl, rfl⟩ | ⟨k, v, rfl, rfl⟩ | ⟨n, el, rfl, rfl⟩ | ⟨ar, n, el, rfl, har, rfl⟩
  · obtain ⟨l, rfl, h'⟩ := AVal.strK_true.1 h
    rw [lenK_eq, Nat.zero_add] at h'
    cases hr
    simp only [Builtin.len_, ht, List.getElem?_toArray, List.getElem?_cons_zero, Sem.run_bind, run_underlyingA hd, Result.andThen_ok, size_arr, Sem.run_pure]
    exact .same hw (.int _ _) h'
  · cases a with
    | slice b o n c =>
      rcases hr.slice_inv with ⟨p, o', c', hb, rfl, hs⟩ | ⟨rfl, rfl, ad, rfl⟩
      rotate_left
      · simp only [Builtin.len_, ht, List.getElem?_toArray, List.getElem?_cons_zero, Sem.run_bind, run_underlyingA hd, Result.andThen_ok, Sem.run_pure]
        exact .same hw (.int _ _) h
      simp only [Builtin.len_, ht, List.getElem?_toArray, List.getElem?_cons_zero, Sem.run_bind, run_underlyingA hd, Result.andThen_ok, Sem.run_pure]
      exact .same hw (.int _ _) h
    | nilSlice =>
      cases hr
      simp only [Builtin.len_, ht, List.getElem?_toArray, List.getElem?_cons_zero, Sem.run_bind, run_underlyingA hd, Result.andThen_ok, Sem.run_pure]
      exact .same hw (.int _ _) h
    | _ => cases h
  · cases a with
    | map b =>
      obtain ⟨es, c, hes, h⟩ := mapK_true.1 h
      rw [lenK_eq, Nat.zero_add] at h
      cases hr with
      | map hb =>
        obtain ⟨o, ho, hr⟩ := hw.objs _ _ hb
        rw [hes] at ho; cases ho
        cases hr with
        | map hobj hl he hro =>
          rename_i p es'
          have hgo : (getObj p.blk).run P w = .ok (.map es' c) w := by simp [getObj, Sem.run, hobj]
          simp only [Builtin.len_, ht, List.getElem?_toArray, List.getElem?_cons_zero, Sem.run_bind, run_underlyingA hd, Result.andThen_ok, hgo, Sem.run_pure]
          rw [← hl]
          exact .same hw (.int _ _) h
    | nilMap =>
      cases hr
      simp only [Builtin.len_, ht, List.getElem?_toArray, List.getElem?_cons_zero, Sem.run_bind, run_underlyingA hd, Result.andThen_ok, Sem.run_pure]
      exact .same hw (.int _ _) h
    | _ => cases h
  · have h : natV n s K = true := h
    unfold natV at h
    rw [natK_eq] at h
    have : (Builtin.len_ ts ty #[vx]).run P w = .ok (goInt n) w := by
      simp only [Builtin.len_, ht, List.getElem?_toArray, List.getElem?_cons_zero, Sem.run_bind, run_underlyingA hd, Result.andThen_ok]
      cases vx <;> rfl
    rw [this]
    exact .same hw (.int _ _) h
  · have h : natV n s K = true := h
    unfold natV at h
    rw [natK_eq] at h
    have : (Builtin.len_ ts ty #[vx]).run P w = .ok (goInt n) w := by
      simp only [Builtin.len_, ht, List.getElem?_toArray, List.getElem?_cons_zero, Sem.run_bind, run_underlyingA hd, Result.andThen_ok]
      cases vx <;> simp [run_underlyingA har]
    rw [this]
    exact .same hw (.int _ _) h
end
end Go.AM
end
section
/- The abstract machine's operations hold of the model's, part 8: least and greatest, clearing, conversions, function values, maps. -/
namespace Go.AM
section
variable {P : Program} {ι : Ren} {s : St} {w : World} {K : VK}

theorem valsK_true {ρ : Operand → Option AVal} {ρc : Operand → Value} : ∀ (l : List Operand) (k : List AVal → Bool), valsK ρ l k = true → (∀ x ∈ l, ORl ι (ρ x) (ρc x)) → ∃ as, VRels ι as (l.map ρc) ∧ k as = true
  | [], k, h, _ => ⟨[], .nil, h⟩
  | x :: l, k, h, hρ => by
    obtain ⟨v, hv, h⟩ := optK_true.1 h
    obtain ⟨as, h1, h2⟩ := valsK_true l _ h (fun y hy => hρ y (List.mem_cons_of_mem _ hy))
    exact ⟨v :: as, .cons (hρ x (List.mem_cons_self ..) v hv) h1, h2⟩
theorem mnmxK_ok (mx : Bool) : ∀ (l : List AVal) (us : List Value) (x : AVal) (v : Value) (k : AVal → Bool), mnmxK mx l x k = true → VRels ι l us → VRel ι x v →
    ∃ a r, (us.foldlM (if mx then Builtin.max2 else Builtin.min2) v).run P w = .ok r w ∧ VRel ι a r ∧ k a = true
  | [], us, x, v, k, h, hl, hx => by
    cases hl
    obtain ⟨kd, n, rfl, h⟩ := AVal.intK_true.1 h
    exact ⟨_, v, rfl, hx, h⟩
  | y :: l, us, x, v, k, h, hl, hx => by
    cases hl with
    | cons hy hl =>
    rename_i u us
    obtain ⟨kd, n, rfl, h1⟩ := AVal.intK_true.1 h
    obtain ⟨kd', m, rfl, h2⟩ := AVal.intK_true.1 h1
    cases hx; cases hy
    rcases ifK_true.1 h2 with ⟨rfl, h3⟩ | ⟨rfl, h3⟩
    · rcases ifK_true.1 h3 with ⟨hc, h4⟩ | ⟨hc, h4⟩
      · rw [ltI_eq] at hc
        have hc : n < m := of_decide_eq_true hc
        obtain ⟨a, r, e1, e2, e3⟩ := mnmxK_ok true l us _ _ k h4 hl (.int kd m)
        refine ⟨a, r, ?_, e2, e3⟩
        simp only [List.foldlM_cons, Sem.run_bind, if_true, Builtin.max2, Sem.run_pure, Result.andThen_ok, gt_iff_lt, hc]
        simpa using e1
      · rw [ltI_eq] at hc
        have hc : ¬ n < m := of_decide_eq_false hc
        obtain ⟨a, r, e1, e2, e3⟩ := mnmxK_ok true l us _ _ k h4 hl (.int kd n)
        refine ⟨a, r, ?_, e2, e3⟩
        simp only [List.foldlM_cons, Sem.run_bind, if_true, Builtin.max2, Sem.run_pure, Result.andThen_ok, gt_iff_lt, hc, if_false]
        simpa using e1
    · rcases ifK_true.1 h3 with ⟨hc, h4⟩ | ⟨hc, h4⟩
      · rw [ltI_eq] at hc
        have hc : m < n := of_decide_eq_true hc
        obtain ⟨a, r, e1, e2, e3⟩ := mnmxK_ok false l us _ _ k h4 hl (.int kd m)
        refine ⟨a, r, ?_, e2, e3⟩
        simp only [List.foldlM_cons, Sem.run_bind, Bool.false_eq_true, if_false, Builtin.min2, Sem.run_pure, Result.andThen_ok, hc, if_true]
        simpa using e1
      · rw [ltI_eq] at hc
        have hc : ¬ m < n := of_decide_eq_false hc
        obtain ⟨a, r, e1, e2, e3⟩ := mnmxK_ok false l us _ _ k h4 hl (.int kd n)
        refine ⟨a, r, ?_, e2, e3⟩
        simp only [List.foldlM_cons, Sem.run_bind, Bool.false_eq_true, if_false, Builtin.min2, Sem.run_pure, Result.andThen_ok, hc]
        simpa using e1
theorem opMin_fine {ts : Array TypeId} {ty : TypeId} {l : List AVal} {us : Array Value} (h : opMnmx false l s K = true) (hw : WRel P ι s w) (hl : VRels ι l us.toList) : FineV P ι w K ((Builtin.min_ ts ty us).run P w) := by
  cases l with
  | nil => cases h
  | cons x l =>
    generalize hu : us.toList = ul at hl
    cases hl with
    | cons hx hl =>
      obtain ⟨a, r, e1, e2, e3⟩ := mnmxK_ok (P := P) (w := w) false l _ x _ _ h hl hx
      simp only [Builtin.min_, hu]
      simp only [Bool.false_eq_true, if_false] at e1
      rw [e1]
      exact .same hw e2 e3
theorem opMax_fine {ts : Array TypeId} {ty : TypeId} {l : List AVal} {us : Array Value} (h : opMnmx true l s K = true) (hw : WRel P ι s w) (hl : VRels ι l us.toList) : FineV P ι w K ((Builtin.max_ ts ty us).run P w) := by
  cases l with
  | nil => cases h
  | cons x l =>
    generalize hu : us.toList = ul at hl
    cases hl with
    | cons hx hl =>
      obtain ⟨a, r, e1, e2, e3⟩ := mnmxK_ok (P := P) (w := w) true l _ x _ _ h hl hx
      simp only [Builtin.max_, hu]
      simp only [if_true] at e1
      rw [e1]
      exact .same hw e2 e3

theorem opClear_fine {ts : Array TypeId} {ty : TypeId} {x : Option AVal} {vx : Value} (h : opClear P ts x s K = true) (hw : WRel P ι s w) (hx : ORl ι x vx) : FineV P ι w K ((Builtin.clear_ ts ty #[vx]).run P w) := by
  obtain ⟨e, he, h1⟩ := optK_true.1 h
  obtain ⟨a, ha, h2⟩ := optK_true.1 h1
  have hr := hx _ ha
  unfold clearInfo at he
  split at he
  · rename_i t ht
    split at he
    · rename_i el hd
      split at he
      · rename_i n zs hn hzs
        split at he
        · rename_i hnz
          cases he
          cases a with
          | slice b off n c =>
            rcases hr.slice_inv with ⟨p, o, c', hb, rfl, hsr⟩ | ⟨rfl, rfl, ad, rfl⟩
            rotate_left
            · simp only [Builtin.clear_, ht, List.getElem?_toArray, List.getElem?_cons_zero, Sem.run_bind, run_underlyingA hd, Result.andThen_ok, Sem.run_pure]
              exact .same hw (.tup .nil) h2
            have h3 : ifK (Nat.beq n 0) (K (.tup []) s) (repK n zs [] fun vs => writeK b off vs s fun s => K (.tup []) s) = true := h2
            rcases ifK_true.1 h3 with ⟨h0, h4⟩ | ⟨h0, h4⟩
            · have h0 : n = 0 := Nat.eq_of_beq_eq_true h0
              subst h0
              simp only [Builtin.clear_, ht, List.getElem?_toArray, List.getElem?_cons_zero, Sem.run_bind, run_underlyingA hd, Result.andThen_ok, Sem.run_pure]
              exact .same hw (.tup .nil) h4
            · have h0 : n ≠ 0 := by intro e; subst e; cases h0
              have ho : o = p.off + off := by
                cases hsr with
                | lim ho => exact ho
                | opn _ _ _ hao => exact hao (by omega)
              subst ho
              rw [repK_eq, List.append_nil] at h4
              obtain ⟨z, hz, hzr, hzs'⟩ := run_zeroCells (P := P) (ι := ι) (w := w) hzs
              obtain ⟨s', w', e1, e2, e3, e4⟩ := writeK_ok h4 hb hw (hzr.rep n) (rep_scalars hzs' n)
              have hl := hzr.length
              simp at hl
              have hrun : (Builtin.clear_ ts ty #[.slice (some ⟨p.blk, p.off + off, none⟩) n c']).run P w = .ok (.tuple #[]) w' := by
                simp only [Builtin.clear_, ht, List.getElem?_toArray, List.getElem?_cons_zero, Sem.run_bind, run_underlyingA hd, Result.andThen_ok, hz]
                have : Builtin.zeroCells z.cells n = (Array.range (n * zs.length)).map (z.cells[· % z.cells.size]!) := by rw [hl]; rfl
                rw [this, e1]
                rfl
              rw [hrun]
              exact ⟨_, w', ι, s', _, rfl, e3, e2, .tup .nil, e4⟩
          | nilSlice =>
            cases hr
            simp only [Builtin.clear_, ht, List.getElem?_toArray, List.getElem?_cons_zero, Sem.run_bind, run_underlyingA hd, Result.andThen_ok, Sem.run_pure]
            exact .same hw (.tup .nil) h2
          | _ => cases h2
        · cases he
      · cases he
    · rename_i kt vt hd
      cases he
      obtain ⟨b, rfl, h3⟩ := AVal.mapK_true.1 h2
      obtain ⟨es, clock, hes, h4⟩ := mapK_true.1 h3
      cases hr with
      | map hb =>
        obtain ⟨o, ho, hro⟩ := hw.objs _ _ hb
        rw [hes] at ho; cases ho
        cases hro with
        | map hobj hl hee hrw =>
          rename_i p es'
          have hlt : p.blk < w.heap.size := hw.bound _ _ hb
          rw [putK_eq] at h4
          obtain ⟨g1, g2⟩ := hw.update (w' := { w with heap := w.heap.setIfInBounds p.blk (.map #[] clock) }) (.map [] clock) hb hes rfl hrw (by simp)
            (fun k hk => by simp [Array.getElem?_setIfInBounds_ne hk.symm]) rfl rfl (.map (es' := #[]) (by simp [hlt]) rfl (fun i e h => by simp at h) hrw)
          have hgo : (getObj p.blk).run P w = .ok (.map es' clock) w := by simp [getObj, Sem.run, hobj]
          simp only [Builtin.clear_, ht, List.getElem?_toArray, List.getElem?_cons_zero, Sem.run_bind, run_underlyingA hd, Result.andThen_ok, hgo,
            setObj_run (P := P) (o := .map #[] clock) hobj (by intro c t f e; cases e), Sem.run_pure]
          exact ⟨_, _, ι, _, _, rfl, g2, g1, .tup .nil, h4⟩
    · cases he
  · cases he
theorem ofBytesK_true : ∀ (l : List AVal) (us : List Value) (k : List UInt8 → Bool), ofBytesK l k = true → VRels ι l us → ∃ ns : List Int, us = ns.map (Value.int .u8) ∧ k (ns.map fun n => UInt8.ofNat n.toNat) = true
  | [], us, k, h, hv => by cases hv; exact ⟨[], rfl, h⟩
  | x :: l, us, k, h, hv => by
    cases hv with
    | cons hx hl =>
      obtain ⟨kd, n, rfl, h1⟩ := AVal.intK_true.1 h
      rcases ifK_true.1 h1 with ⟨hk, h2⟩ | ⟨_, h2⟩
      · obtain ⟨ns, rfl, h3⟩ := ofBytesK_true l _ _ h2 hl
        cases hx
        have : kd = .u8 := by cases kd <;> first | rfl | cases hk
        subst this
        exact ⟨n :: ns, rfl, h3⟩
      · cases h2
theorem push_all : ∀ (ns : List Int) (r : ByteArray), ns.foldl (fun r n => r.push (UInt8.ofNat n.toNat)) r = ⟨r.data ++ (ns.map fun n => UInt8.ofNat n.toNat).toArray⟩
  | [], r => by simp
  | n :: ns, r => by
    simp only [List.foldl_cons, List.map_cons]
    rw [push_all ns]
    simp [ByteArray.push]
theorem opConvert_fine {a b : TypeId} {x : Option AVal} {vx : Value} (h : opConvert P a b x s K = true) (hw : WRel P ι s w) (hx : ORl ι x vx) : FineV P ι w K ((convert a b vx).run P w) := by
  obtain ⟨x', hx', h1⟩ := optK_true.1 h
  have hr := hx _ hx'
  unfold convKind at h1
  split at h1
  · rename_i k1 k hs hd
    obtain ⟨kd, n, rfl, h2⟩ := AVal.intK_true.1 h1
    cases hr
    rw [wrapF_eq] at h2
    simp only [convert, Sem.run_bind, run_underlyingA hs, run_underlyingA hd, Result.andThen_ok, Conv.intToInt, Sem.run_pure]
    exact intV_fine h2 hw
  · rename_i hs hd
    obtain ⟨l, rfl, h2⟩ := AVal.strK_true.1 h1
    cases hr
    simp only [convert, Sem.run_bind, run_underlyingA hs, run_underlyingA hd, Result.andThen_ok, Sem.run_pure]
    exact .same hw (.str _) h2
  · rename_i e hs hd
    split at h1
    · rename_i he
      obtain ⟨l, rfl, h2⟩ := AVal.strK_true.1 h1
      rw [lenK_eq, bytesK_eq, Nat.zero_add] at h2
      rcases ifK_true.1 h2 with ⟨hn, h3⟩ | ⟨_, h3⟩
      · cases hr
        rw [run_bytes_of_string w a b e _ hs hd he]
        unfold growK at h3
        rw [allocK_eq] at h3
        have hsz : (⟨l.toArray⟩ : ByteArray).size = l.length := size_arr l
        have hg := grownCap_ge (w := w) (need := l.length) (old := 0) (e := e)
        rw [hsz]
        generalize grownCap w l.length 0 e = cap at hg ⊢
        have hrow : (bytesRow ⟨l.toArray⟩ cap).size = cap := by simp [bytesRow, hsz]; omega
        have hd0 := hw.drawn (w.drawn + 1)
        obtain ⟨g1, g2⟩ := hd0.alloc (.cells (l.map fun c => .int .u8 (c.toNat : Int)) false) (.cells (bytesRow ⟨l.toArray⟩ cap) e ((bytesRow ⟨l.toArray⟩ cap).size, (bytesRow ⟨l.toArray⟩ cap).size + 1)) ⟨w.heap.size, 0, cap, false⟩ rfl rfl
          (ORel.cells (p := ⟨w.heap.size, 0, cap, false⟩) (c := bytesRow ⟨l.toArray⟩ cap) (t := e) (fr := ((bytesRow ⟨l.toArray⟩ cap).size, (bytesRow ⟨l.toArray⟩ cap).size + 1)) (by simp) hrow (by simp [hrow]; omega)
            (fun i a e => by
              obtain ⟨v, hv, hr⟩ := (bytes_rel (ι := Ren.set ι s.next ⟨w.heap.size, 0, cap, false⟩) l).get e
              refine ⟨v, ?_, hr⟩
              simp only [List.getElem?_map, Option.map_eq_some_iff] at hv
              obtain ⟨c, hc, rfl⟩ := hv
              have hi := (List.getElem?_eq_some_iff.1 hc).1
              have hcc := (List.getElem?_eq_some_iff.1 hc).2
              rw [Nat.zero_add, bytesRow_at _ _ _ (by simpa using hi)]
              simp [← hcc])
            (fun x hx => by obtain ⟨c, _, rfl⟩ := List.mem_map.1 hx; rfl) (fun _ i hi => by omega))
        refine ⟨_, _, _, _, _, rfl, (Ext.drawn ι w _).trans g2, g1, ?_, h3⟩
        exact VRel.opn (p := ⟨w.heap.size, 0, cap, false⟩) (Ren.set_same _ _ _) (by decide) hg (.inr (by simp)) (fun _ => rfl)
      · cases h3
    · cases h1
  · rename_i e hs hd
    split at h1
    · rename_i he
      obtain ⟨cs, us, n, hv, hsc, hl, hl2, hfc, _, h2⟩ := srcK_ok h1 hw hr
      obtain ⟨ns, rfl, h3⟩ := ofBytesK_true _ _ _ h2 hv
      have hf := hfc w.drawn
      cases x' with
      | str l =>
        cases hr
        simp only [convert, Sem.run_bind, run_underlyingA hs, run_underlyingA hd, Result.andThen_ok, Sem.run_pure]
        have hf : (Builtin.firstCells 1 n (.string ⟨l.toArray⟩)).run P w = .ok (ns.map (Value.int .u8)).toArray w := hf
        have hn : n = l.length := by
          have := hl2 w
          simp [Builtin.lenOf, size_arr] at this
          exact this.symm
        subst hn
        have hns : ns = l.map fun c => (c.toNat : Int) := by
          simp only [Builtin.firstCells, Sem.run_pure] at hf
          injection hf with e1 _
          have e2 := congrArg Array.toList e1
          have e3 : (l.map fun c => Value.int .u8 (c.toNat : Int)) = ns.map (Value.int .u8) := by
            have e5 : (ns.map (Value.int .u8)).toArray.toList = ns.map (Value.int .u8) := by simp
            rw [← e5, ← e2]
            simp [ByteArray.data_extract, List.take_of_length_le]
          have e4 := congrArg (List.map (fun v : Value => match v with | .int _ n => n | _ => 0)) e3
          simpa [Function.comp_def] using e4.symm
        subst hns
        have : ((l.map fun c => (c.toNat : Int)).map fun n => UInt8.ofNat n.toNat) = l := by simp [Function.comp_def]
        rw [this] at h3
        exact .same hw (.str _) h3
      | slice bb off len c =>
        rcases hr.slice_inv with ⟨p, o, c', hb, rfl, hsr⟩ | ⟨rfl, rfl, ad, rfl⟩
        rotate_left
        · have hn : n = 0 := by
            have := hl2 w
            simp [Builtin.lenOf] at this
            exact this.symm
          subst hn
          have hf : (loadCells ad 0).run P w = .ok (ns.map (Value.int .u8)).toArray w := hf
          rw [run_convert_bytes_string w a b e _ _ _ hs he hd, run_bytesToString w _ _ _ ns hf, push_all]
          have he0 : ByteArray.empty.data = #[] := rfl
          rw [he0]
          simp only [Array.empty_append]
          exact .same hw (.str _) h3
        have hn : n = len := by
          have := hl2 w
          simp [Builtin.lenOf] at this
          exact this.symm
        subst hn
        have hf : (loadCells ⟨p.blk, o, none⟩ n).run P w = .ok (ns.map (Value.int .u8)).toArray w := by
          have : (loadCells ⟨p.blk, o, none⟩ (n * 1)).run P w = .ok (ns.map (Value.int .u8)).toArray w := hf
          rwa [Nat.mul_one] at this
        rw [run_convert_bytes_string w a b e _ _ _ hs he hd, run_bytesToString w _ _ _ ns hf, push_all]
        have he0 : ByteArray.empty.data = #[] := rfl
        rw [he0]
        simp only [Array.empty_append]
        exact .same hw (.str _) h3
      | nilSlice =>
        cases hr
        rw [run_convert_bytes_string w a b e _ _ _ hs he hd]
        have hn : n = 0 := by
          have := hl2 w
          simp [Builtin.lenOf] at this
          exact this.symm
        subst hn
        have : ns = [] := by
          have := hv.length
          simp [hl] at this
          exact List.eq_nil_of_length_eq_zero this.symm
        subst this
        simp only [Conv.bytesToString, Sem.run_pure]
        exact .same hw (.str _) h3
      | _ => cases h1
    · cases h1
  · cases h1
theorem opMakeMap_fine {t : TypeId} (h : (allocK (.map [] 0) s fun b s => K (.map b) s) = true) (hw : WRel P ι s w) : FineV P ι w K ((Instr.makeMap t none).run P w) := by
  rw [allocK_eq] at h
  obtain ⟨g1, g2⟩ := hw.alloc (.map [] 0) (.map #[] 0) ⟨w.heap.size, 0, 0, false⟩ rfl rfl (.map (es' := #[]) (by simp) rfl (fun i e h => by simp at h) rfl)
  refine ⟨_, _, _, _, _, ?_, g2, g1, VRel.map (p := ⟨w.heap.size, 0, 0, false⟩) (Ren.set_same _ _ _), h⟩
  simp [Instr.makeMap]
end
end Go.AM
end
section
/- The abstract machine's operations hold of the model's, part 9: every operation that calls no function of the program. -/
namespace Go.AM
variable [Orc]
section
variable {P : Program} {ι : Ren} {s : St} {w : World} {K : VK}

theorem OORl.map {ρ : Operand → Option AVal} {ρc : Operand → Value} (hρ : ∀ x, ORl ι (ρ x) (ρc x)) (x : Option Operand) : OORl ι (x.map ρ) (x.map ρc) := by
  cases x with
  | none => simp [OORl]
  | some x => simpa [OORl] using hρ x
/-- No call of a function. -/
def noFn : Op → Bool
  | .call c => match c.callee with
    | .value _ => false
    | _ => true
  | _ => true
theorem invoke_builtin (b : Builtin) (ts : Array TypeId) (ty : TypeId) (cs : Array Bool) (args : Array Value) : invoke (.builtin b ts ty cs) args = builtin b ts ty cs args := rfl
theorem two {α β : Type} {l : Array α} {x y : α} (h : l.toList = [x, y]) (f : α → β) : l.map f = #[f x, f y] := by
  have : l = #[x, y] := by rw [← Array.toArray_toList (xs := l), h]
  subst this; simp
theorem one {α β : Type} {l : Array α} {x : α} (h : l.toList = [x]) (f : α → β) : l.map f = #[f x] := by
  have : l = #[x] := by rw [← Array.toArray_toList (xs := l), h]
  subst this; simp
theorem opK_fine {rec : RecT} {o : Oper} {ρ : Operand → Option AVal} {ρc : Operand → Value} (hn : noFn o.op = true) (h : opK P rec o.op ρ s K = true) (hw : WRel P ι s w) (hρ : ∀ x, ORl ι (ρ x) (ρc x)) :
    Fine P ι w K ((execOp ρc o).run P w) := by
  unfold execOp
  generalize o.op = op at hn h
  cases op with
  | move x => exact (show FineV P ι w K ((Sem.run P (pure (ρc x)) w)) from opMove_fine h hw (hρ x)).fine
  | assign x => exact (show FineV P ι w K ((Sem.run P (pure (ρc x)) w)) from opMove_fine h hw (hρ x)).fine
  | pick c a b =>
    have := (opPick_fine h hw (hρ c) (hρ a) (hρ b)).fine
    simpa using this
  | alloc t => exact (opAlloc_fine h hw).fine
  | box t x => exact (opBox_fine h hw (hρ x)).fine
  | build t ps => exact (opBuild_fine h hw (fun x _ => hρ x.2)).fine
  | buildSlice t n ps => exact (opBuildSlice_fine h hw (fun x _ => hρ x.2)).fine
  | insert t m k x => exact opMapSet_fine h hw (hρ m) (hρ k) (hρ x)
  | load t a => exact (opLoad_fine h hw (hρ a)).fine
  | store t a x => exact opStore_fine h hw (hρ a) (hρ x)
  | nilCheck x =>
    obtain ⟨b, off, a, hx, hr, hk⟩ := opNil_fine h (hρ x)
    simp only [hx, Sem.run_pure]
    exact ⟨_, w, ι, s, a, .inl rfl, Ext.refl ι w, hw, hx ▸ hr, hk⟩
  | binOp op t x y e => exact (opBin_fine h hw (hρ x) (hρ y)).fine
  | unOp op t x => exact (opUn_fine h hw (hρ x)).fine
  | convert a b x => exact (opConvert_fine h hw (hρ x)).fine
  | makeFunc f a c =>
    obtain ⟨g, hg, h1⟩ := optK_true.1 h
    obtain ⟨as, ha, h2⟩ := valsK_true (ρc := ρc) a.toList _ h1 (fun x _ => hρ x)
    obtain ⟨cs, hc, h3⟩ := valsK_true (ρc := ρc) c.toList _ h2 (fun x _ => hρ x)
    cases f with
    | func f =>
      cases hg
      refine (show FineV P ι w K _ from ?_).fine
      exact .same hw (.fn (by simpa using ha) (by simpa using hc)) h3
    | _ => cases hg
  | makeMap t r =>
    rcases ifK_true.1 h with ⟨hr, h1⟩ | ⟨_, h1⟩
    · rcases ifK_true.1 h1 with ⟨_, h2⟩ | ⟨_, h2⟩
      · cases r with
        | some r => cases hr
        | none => exact (opMakeMap_fine h2 hw).fine
      · cases h2
    · cases h1
  | makeSlice t l c => exact (opMakeSlice_fine h hw (hρ l) (hρ c)).fine
  | slice t x lo hi mx => exact (opSlice_fine h hw (hρ x) (OORl.map hρ lo) (OORl.map hρ hi) (OORl.map hρ mx)).fine
  | fieldAddr t x f => exact (opFieldAddr_fine h hw (hρ x)).fine
  | field t x f => exact (opField_fine h hw (hρ x)).fine
  | indexAddr t x i => exact (opIndexAddr_fine h hw (hρ x) (hρ i)).fine
  | index t x i => exact (opIndex_fine h hw (hρ x) (hρ i)).fine
  | lookup t m i ok => exact (opLookup_fine h hw (hρ m) (hρ i)).fine
  | mapUpdate t m k x => exact opMapSet_fine h hw (hρ m) (hρ k) (hρ x)
  | extract x i => exact (opExtract_fine h hw (hρ x)).fine
  | call c =>
    obtain ⟨callee, args, ats⟩ := c
    cases callee with
    | value f => cases hn
    | invoke r n => cases h
    | builtin b =>
      have hred : ∃ bs, (Sem.run P (do let d ← resolve ρc ⟨.builtin b, args, ats⟩ o.type; invoke d.target d.args) w) = (builtin b ats o.type bs (args.map ρc)).run P w := by
        have hr : ∃ bs, resolve ρc ⟨.builtin b, args, ats⟩ o.type = pure ⟨.builtin b ats o.type bs, args.map ρc⟩ := ⟨_, rfl⟩
        obtain ⟨bs, hr⟩ := hr
        exact ⟨bs, by rw [hr]; simp only [Sem.run_bind, Sem.run_pure, Result.andThen_ok, invoke_builtin]⟩
      obtain ⟨bs, hred⟩ := hred
      have goal : Fine P ι w K ((builtin b ats o.type bs (args.map ρc)).run P w) → Fine P ι w K (Sem.run P (do let d ← resolve ρc ⟨.builtin b, args, ats⟩ o.type; invoke d.target d.args) w) := fun h => hred.symm ▸ h
      refine goal ?_
      have h : callOp P rec ⟨.builtin b, args, ats⟩ ρ s K = true := h
      cases b with
      | append =>
        simp only [callOp] at h
        split at h
        · rename_i x y hl
          rw [two hl]
          exact (opAppend_fine h hw (hρ x) (hρ y)).fine
        · cases h
      | len =>
        simp only [callOp] at h
        split at h
        · rename_i x hl
          rw [one hl]
          exact (opLen_fine h hw (hρ x)).fine
        · cases h
      | copy =>
        simp only [callOp] at h
        split at h
        · rename_i x y hl
          rw [two hl]
          exact (opCopy_fine h hw (hρ x) (hρ y)).fine
        · cases h
      | min =>
        obtain ⟨l, hl, h1⟩ := valsK_true (ρc := ρc) args.toList _ h (fun x _ => hρ x)
        exact (opMin_fine h1 hw (by simpa using hl)).fine
      | max =>
        obtain ⟨l, hl, h1⟩ := valsK_true (ρc := ρc) args.toList _ h (fun x _ => hρ x)
        exact (opMax_fine h1 hw (by simpa using hl)).fine
      | clear =>
        simp only [callOp] at h
        split at h
        · rename_i x hl
          rw [one hl]
          exact (opClear_fine h hw (hρ x)).fine
        · cases h
      | _ => cases h
  | _ => cases h
end
end Go.AM
end
section
/- The abstract machine's regions, part 1: operands, guards, what is kept behind a region. -/
namespace Go.AM

theorem idxOf_shift (t : Tmp) : ∀ (l : List (Option Tmp)) (i : Nat), idxOf t l i = (idxOf t l 0).map (· + i)
  | [], i => rfl
  | x :: r, i => by
    unfold idxOf
    split
    · simp
    · rw [idxOf_shift t r (i + 1), idxOf_shift t r 1]
      cases idxOf t r 0 <;> simp; omega
theorem nthO_eq : ∀ (l : List AVal) (i : Nat), nthO l i = l[i]?
  | [], i => by cases i <;> rfl
  | x :: l, 0 => rfl
  | x :: l, i + 1 => (nthO_eq l i).trans (by simp)
/-- What a piece of code knows of the temporaries: what the region has written, and what stood ahead of it. -/
structure LocRel (ι : Ren) (prev : List (Option Tmp)) (locals : List AVal) (tree : PT AVal) (tmps : Array Value) : Prop where
  len : prev.length = locals.length
  loc : ∀ t d v, idxOf t prev 0 = some d → locals[d]? = some v → ∃ u, tmps[t]? = some u ∧ VRel ι v u
  old : ∀ t v, idxOf t prev 0 = none → PT.get (posOf t) tree = some v → ∃ u, tmps[t]? = some u ∧ VRel ι v u
theorem LocRel.mono {ι ι' : Ren} {prev : List (Option Tmp)} {locals : List AVal} {tree : PT AVal} {tmps : Array Value} (hl : Ren.le ι ι') (h : LocRel ι prev locals tree tmps) : LocRel ι' prev locals tree tmps :=
  ⟨h.len, fun t d v e1 e2 => let ⟨u, h1, h2⟩ := h.loc t d v e1 e2; ⟨u, h1, h2.mono hl⟩, fun t v e1 e2 => let ⟨u, h1, h2⟩ := h.old t v e1 e2; ⟨u, h1, h2.mono hl⟩⟩
theorem LocRel.start {ι : Ren} {n : Nat} {ps : List Tmp} {tree : PT AVal} {tmps : Array Value} (h : TRel ι n ps tree tmps) : LocRel ι [] [] tree tmps :=
  ⟨rfl, fun t d v e1 e2 => by simp at e2, fun t v _ e => (h.get t v e).2⟩
theorem LocRel.push {ι : Ren} {prev : List (Option Tmp)} {locals : List AVal} {tree : PT AVal} {a : Act} {v : AVal} {u : Value} (h : LocRel ι prev locals tree a.tmps) (dst : Option Tmp) (hd : ∀ d, dst = some d → d < a.tmps.size) (hv : VRel ι v u) :
    LocRel ι (dst :: prev) (v :: locals) tree (a.put dst u).tmps := by
  refine ⟨by simp [h.len], fun t d v' e1 e2 => ?_, fun t v' e1 e2 => ?_⟩
  · unfold idxOf at e1
    split at e1
    · rename_i hdt
      cases e1
      subst hdt
      simp at e2; subst e2
      exact ⟨u, by simp [Act.put, hd t rfl], hv⟩
    · rename_i hdt
      rw [idxOf_shift] at e1
      cases hi : idxOf t prev 0 with
      | none => rw [hi] at e1; cases e1
      | some k =>
        rw [hi] at e1; cases e1
        have e2 : locals[k]? = some v' := by simpa using e2
        obtain ⟨u', h1, h2⟩ := h.loc t k v' hi e2
        refine ⟨u', ?_, h2⟩
        cases dst with
        | none => exact h1
        | some d => rw [← h1]; exact Array.getElem?_setIfInBounds_ne (fun e => hdt (by rw [e]))
  · unfold idxOf at e1
    split at e1
    · cases e1
    · rename_i hdt
      rw [idxOf_shift] at e1
      cases hi : idxOf t prev 0 with
      | some k => rw [hi] at e1; cases e1
      | none =>
        obtain ⟨u', h1, h2⟩ := h.old t v' hi e2
        refine ⟨u', ?_, h2⟩
        cases dst with
        | none => exact h1
        | some d => rw [← h1]; exact Array.getElem?_setIfInBounds_ne (fun e => hdt (by rw [e]))
theorem getO_ok {ι : Ren} {prev : List (Option Tmp)} {locals : List AVal} {tree : PT AVal} {a : Act} (h : LocRel ι prev locals tree a.tmps) (x : Operand) : ORl ι (getO tree locals (resolveO prev x)) (a.eval x) := by
  intro v hv
  cases x with
  | tmp t =>
    unfold resolveO at hv
    cases hi : idxOf t prev 0 with
    | some d =>
      simp only [hi] at hv
      have hv : nthO locals d = some v := hv
      rw [nthO_eq] at hv
      obtain ⟨u, h1, h2⟩ := h.loc t d v hi hv
      simpa [Act.eval, Array.getD_eq_getD_getElem?, h1] using h2
    | none =>
      simp only [hi] at hv
      have hv : PT.get (posOf t) tree = some v := hv
      obtain ⟨u, h1, h2⟩ := h.old t v hi hv
      simpa [Act.eval, Array.getD_eq_getD_getElem?, h1] using h2
  | const c =>
    unfold resolveO at hv
    cases hc : conv c with
    | none => simp only [hc] at hv; cases hv
    | some b =>
      simp only [hc] at hv
      have hv : some b = some v := hv
      cases hv
      exact conv_rel hc
  | global g => cases hv
  | func f =>
    have hv : some (AVal.fn f [] []) = some v := hv
    cases hv
    exact .fn .nil .nil
theorem yielded_of {ops : Array Oper} {a : Act} {j : Nat} {d : Tmp} (h : (ops[j]?).bind (·.dst) = some d) : yielded ops a.tmps j = (match a.eval (.tmp d) with | .bool b => some b | _ => none) := by
  unfold yielded
  rw [h]
  simp only [Option.bind_some, Act.eval, Array.getD_eq_getD_getElem?]
  cases a.tmps[d]? with
  | none => rfl
  | some v => cases v <;> rfl
theorem guardK_true {ι : Ren} {all : Array Oper} {o : Oper} {ρ : Operand → Option AVal} {x y : Bool} {a : Act} (h : guardK all o ρ x y = true) (hρ : ∀ x, ORl ι (ρ x) (a.eval x)) :
    (Region.wanted o (yielded all a.tmps) = true ∧ x = true) ∨ (Region.wanted o (yielded all a.tmps) = false ∧ y = true) := by
  unfold guardK at h
  cases hg : o.guard with
  | none =>
    rw [hg] at h
    exact .inl ⟨by simp [Region.wanted, hg], h⟩
  | some g =>
    rw [hg] at h
    obtain ⟨j, want⟩ := g
    obtain ⟨g2, hg2, h1⟩ := optK_true.1 h
    unfold guardTmp at hg2
    simp only [hg] at hg2
    split at hg2
    · rename_i d hd
      cases hg2
      obtain ⟨v, hv, h2⟩ := optK_true.1 h1
      have hr := hρ _ v hv
      have hy := yielded_of (a := a) hd
      simp only [Region.wanted, hg, hy]
      cases v with
      | bool b =>
        rcases ifK_true.1 h2 with ⟨hb, h3⟩ | ⟨hb, h3⟩
        · generalize a.eval (.tmp d) = u at hr
          cases hr
          left; refine ⟨?_, h3⟩
          cases b <;> cases want <;> first | rfl | cases hb
        · generalize a.eval (.tmp d) = u at hr
          cases hr
          right; refine ⟨?_, h3⟩
          cases b <;> cases want <;> first | rfl | cases hb
      | _ =>
        generalize a.eval (.tmp d) = u at hr
        first
        | (cases hr <;> exact .inr ⟨rfl, h2⟩)
        | (cases h2)
    · cases hg2
theorem commitK_ok {ps : List Tmp} : ∀ (prev : List (Option Tmp)) (locals : List AVal) (seen : List Tmp) (tree : PT AVal) (k : PT AVal → Bool), commitK (commitPlan ps prev seen) locals tree k = true →
    ∃ tree', k tree' = true ∧ ∀ t v, PT.get (posOf t) tree' = some v → (t ∈ ps ∧ t ∉ seen ∧ ∃ d, idxOf t prev 0 = some d ∧ locals[d]? = some v) ∨ (PT.get (posOf t) tree = some v ∧ (idxOf t prev 0 = none ∨ t ∈ seen ∨ t ∉ ps))
  | [], locals, seen, tree, k, h => ⟨tree, h, fun t v e => .inr ⟨e, .inl rfl⟩⟩
  | none :: r, locals, seen, tree, k, h => by
    cases locals with
    | nil => cases h
    | cons u locals =>
      obtain ⟨tree', h1, h2⟩ := commitK_ok r locals seen tree k h
      refine ⟨tree', h1, fun t v e => ?_⟩
      have hi : idxOf t (none :: r) 0 = (idxOf t r 0).map (· + 1) := by rw [← idxOf_shift]; rfl
      rcases h2 t v e with ⟨e1, e2, d, e3, e4⟩ | ⟨e1, e2⟩
      · exact .inl ⟨e1, e2, d + 1, by rw [hi, e3]; rfl, by simpa using e4⟩
      · refine .inr ⟨e1, ?_⟩
        rcases e2 with e2 | e2 | e2
        · exact .inl (by rw [hi, e2]; rfl)
        · exact .inr (.inl e2)
        · exact .inr (.inr e2)
  | some x :: r, locals, seen, tree, k, h => by
    cases locals with
    | nil => unfold commitPlan at h; split at h <;> cases h
    | cons u locals =>
      have hi : ∀ t, t ≠ x → idxOf t (some x :: r) 0 = (idxOf t r 0).map (· + 1) := by
        intro t ht
        rw [← idxOf_shift]
        show (if some x = some t then some 0 else idxOf t r (0 + 1)) = _
        rw [if_neg (by simpa using Ne.symm ht)]
      have h0 : idxOf x (some x :: r) 0 = some 0 := by simp [idxOf]
      unfold commitPlan at h
      by_cases hc : (ps.contains x && !seen.contains x) = true
      · rw [if_pos hc] at h
        simp only [Bool.and_eq_true, List.contains_iff_mem, Bool.not_eq_true', List.contains_eq_mem, decide_eq_true_eq, decide_eq_false_iff_not] at hc
        have h : PT.setK (posOf x) u tree (fun t => commitK (commitPlan ps r (x :: seen)) locals t k) = true := h
        rw [PT.setK_eq] at h
        obtain ⟨tree', h1, h2⟩ := commitK_ok r locals (x :: seen) _ k h
        refine ⟨tree', h1, fun t v e => ?_⟩
        rcases h2 t v e with ⟨e1, e2, d, e3, e4⟩ | ⟨e1, e2⟩
        · have hne : t ≠ x := fun e => e2 (by simp [e])
          exact .inl ⟨e1, fun h => e2 (by simp [h]), d + 1, by rw [hi t hne, e3]; rfl, by simpa using e4⟩
        · by_cases hne : t = x
          · subst hne
            rw [PT.get_set_same] at e1
            cases e1
            exact .inl ⟨hc.1, hc.2, 0, h0, by simp⟩
          · rw [PT.get_set_ne _ _ _ _ (fun e => hne (posOf_inj e))] at e1
            refine .inr ⟨e1, ?_⟩
            rcases e2 with e2 | e2 | e2
            · exact .inl (by rw [hi t hne, e2]; rfl)
            · simp [hne] at e2
              exact .inr (.inl e2)
            · exact .inr (.inr e2)
      · rw [if_neg hc] at h
        obtain ⟨tree', h1, h2⟩ := commitK_ok r locals (x :: seen) tree k h
        refine ⟨tree', h1, fun t v e => ?_⟩
        rcases h2 t v e with ⟨e1, e2, d, e3, e4⟩ | ⟨e1, e2⟩
        · have hne : t ≠ x := fun e => e2 (by simp [e])
          exact .inl ⟨e1, fun h => e2 (by simp [h]), d + 1, by rw [hi t hne, e3]; rfl, by simpa using e4⟩
        · refine .inr ⟨e1, ?_⟩
          by_cases hne : t = x
          · subst hne
            by_cases hs : t ∈ seen
            · exact .inr (.inl hs)
            · refine .inr (.inr fun hp => hc ?_)
              simp [hp, hs]
          · rcases e2 with e2 | e2 | e2
            · exact .inl (by rw [hi t hne, e2]; rfl)
            · simp [hne] at e2
              exact .inr (.inl e2)
            · exact .inr (.inr e2)
/-- Behind a region. -/
theorem LocRel.commit {ι : Ren} {n : Nat} {ps : List Tmp} {prev : List (Option Tmp)} {locals : List AVal} {tree : PT AVal} {tmps : Array Value} {k : PT AVal → Bool} (h : LocRel ι prev locals tree tmps) (hn : n ≤ tmps.size)
    (hp : ∀ t v, PT.get (posOf t) tree = some v → t ∈ ps) (hk : commitK (commitPlan ps prev []) locals tree k = true) : ∃ tree', k tree' = true ∧ TRel ι n ps tree' tmps := by
  obtain ⟨tree', h1, h2⟩ := commitK_ok prev locals [] tree k hk
  refine ⟨tree', h1, hn, fun t v e => ?_⟩
  rcases h2 t v e with ⟨e1, _, d, e3, e4⟩ | ⟨e1, e2⟩
  · exact ⟨e1, h.loc t d v e3 e4⟩
  · have := hp t v e1
    rcases e2 with e2 | e2 | e2
    · exact ⟨this, h.old t v e2 e1⟩
    · cases e2
    · exact absurd this e2
end Go.AM
end
section
/- The abstract machine's control, part 2: scopes and the frame's deferred marks. -/
namespace Go.AM
section
variable {F : Fence} {n : Nat} {P : Program} {Q : Exit → Act → World → Prop} {a : Act} {w : World} {b : Frame} {k : List Item} {cs : List Frame}
theorem stepR_scope {c : Code} : step P (lone (b.atR a (.code (.scope c) :: k)) cs w) = .next (lone (b.atR a (.code c :: .inScope c :: k)) cs w) :=
  step_lone_go (by simp [stepG, stepG.exec, Frame.atR])
theorem stepR_inScope {c : Code} : step P (lone (b.atR a (.inScope c :: k)) cs w) = .next (lone (b.atR a k) cs w) :=
  step_lone_go (by simp [stepG, stepG.exec, Frame.atR])
theorem wpIn_scope {c : Code} (h : c.wpIn F n P (Exit.noGoto Q) a w) : (Code.scope c).wpIn F n P Q a w := by
  intro b k cs hro hb hr
  have h0 : (lone (b.atR a (.code (.scope c) :: k)) cs w).fenced P F := fenced_calm hb hr rfl
  obtain ⟨e, a₁, w₁, hq, harr⟩ := h b (.inScope c :: k) cs hro hb hr
  cases e with
  | normal => exact ⟨.normal, a₁, w₁, hq, .head h0 stepR_scope (StepsIn.trans harr (.one (fenced_calm hb hr rfl) stepR_inScope))⟩
  | exit id =>
    have hx : exitTo id (.inScope c :: k) = exitTo id k := by simp [exitTo]
    exact ⟨.exit id, a₁, w₁, hq, fun k' hk => .head h0 stepR_scope (harr.1 k' (by rw [hx]; exact hk)),
        fun hr' hk => let ⟨k₁, h1, h2⟩ := harr.2 hr' (by rw [hx]; exact hk); ⟨k₁, h1, .head h0 stepR_scope h2⟩⟩
  | goto l => exact hq.elim
  | ret => exact ⟨_, a₁, w₁, hq, .of_steps (.one h0 stepR_scope) harr⟩
  | panic ch => exact ⟨_, a₁, w₁, hq, .of_steps (.one h0 stepR_scope) harr⟩
  | outgrown => exact ⟨_, a₁, w₁, hq, .of_steps (.one h0 stepR_scope) harr⟩
end
/-- The deferred calls of a frame are marks of blocks that hold none. -/
def DefInv (n0 : Nat) (ι : Ren) (w : World) (ds : List Deferred) : Prop :=
  ∃ rs : List Nat, ds = rs.map (fun r => { target := .collected r, args := #[] }) ∧ rs.Nodup ∧ ∀ r ∈ rs, w.heap[r]? = some (.deferred (some [])) ∧ n0 ≤ r ∧ ∀ b p, ι b = some p → p.ro = false → p.blk ≠ r
theorem DefInv.nil (n0 : Nat) (ι : Ren) (w : World) : DefInv n0 ι w [] := ⟨[], rfl, List.nodup_nil, by simp⟩
theorem lt_of_get {w : World} {r : Nat} {o : Obj} (h : w.heap[r]? = some o) : r < w.heap.size := (Array.getElem?_eq_some_iff.1 h).1
theorem DefInv.ext {n0 : Nat} {ι ι' : Ren} {w w' : World} {ds : List Deferred} (h : DefInv n0 ι w ds) (he : Ext ι w ι' w') : DefInv n0 ι' w' ds := by
  obtain ⟨rs, h1, h2, h3⟩ := h
  refine ⟨rs, h1, h2, fun r hr => ?_⟩
  obtain ⟨h4, h6, h5⟩ := h3 r hr
  have hlt := lt_of_get h4
  refine ⟨by rw [he.keep r hlt h5]; exact h4, h6, fun b p e hro hb => ?_⟩
  rcases he.new b p e with e' | e' | ⟨_, b0, p0, e0, hr0, hb0⟩
  · exact h5 b p e' hro hb
  · omega
  · exact h5 b0 p0 e0 hr0 (hb0.trans hb)
end Go.AM
end
section
/- The abstract machine's results of a function. -/
namespace Go.AM
section
variable {P : Program} {ι : Ren} {s : St} {w : World} {K : VK}
theorem opLoad_same {t : TypeId} {x : Option AVal} {v : Value} (h : opLoad P t x s K = true) (hw : WRel P ι s w) (hx : ORl ι x v) :
    ∃ b o u a, v = .pointer (some ⟨b, o, none⟩) ∧ (loadVar t ⟨b, o, none⟩).run P w = .ok u w ∧ VRel ι a u ∧ K a s = true := by
  obtain ⟨n, hn, h⟩ := optK_true.1 h
  obtain ⟨a, ha, h⟩ := optK_true.1 h
  obtain ⟨b, off, rfl, h⟩ := AVal.ptrK_true.1 h
  obtain ⟨cs, ro, hc, h⟩ := cellsK_true.1 h
  have hr := hx _ ha
  cases hr with
  | ptr hb =>
    obtain ⟨u, a', hu, hru, hk⟩ := loadVar_fine hn hb hc hw h
    exact ⟨_, _, u, a', rfl, hu, hru, hk⟩
/-- One result. -/
def oneRes (tmps : Array Value) : ResultVar → Sem Value
  | .tmp t => pure (tmps.getD t undef)
  | .cell a t => do loadVar t (← asAddr (tmps.getD a undef))
theorem resK_ok {n : Nat} {ps : List Tmp} {tree : PT AVal} {tmps : Array Value} (hw : WRel P ι s w) (ht : TRel ι n ps tree tmps) : ∀ (l : List ResultVar) (k : List AVal → Bool), resK P tree s l k = true →
    ∃ vs us, k vs = true ∧ VRels ι vs us ∧ (l.mapM (oneRes tmps)).run P w = .ok us w
  | [], k, h => ⟨[], [], h, .nil, by simp⟩
  | .tmp t :: l, k, h => by
    obtain ⟨v, hv, h1⟩ := optK_true.1 h
    obtain ⟨vs, us, h2, h3, h4⟩ := resK_ok hw ht l _ h1
    obtain ⟨_, u, hu, hr⟩ := ht.get t v hv
    refine ⟨v :: vs, u :: us, h2, .cons hr h3, ?_⟩
    simp only [List.mapM_cons, oneRes, Sem.run_bind, Sem.run_pure, Result.andThen_ok, h4]
    simp [Array.getD_eq_getD_getElem?, hu]
  | .cell a t :: l, k, h => by
    have h : opLoad P t (PT.get (posOf a) tree) s (fun v _ => resK P tree s l fun r => k (v :: r)) = true := h
    obtain ⟨b, o, u, v, e1, e2, e3, h1⟩ := opLoad_same (v := tmps.getD a undef) h hw (fun v hv => by
      obtain ⟨_, u, hu, hr⟩ := ht.get a v hv
      simpa [Array.getD_eq_getD_getElem?, hu] using hr)
    obtain ⟨vs, us, h2, h3, h4⟩ := resK_ok hw ht l _ h1
    refine ⟨v :: vs, u :: us, h2, .cons e3 h3, ?_⟩
    simp only [List.mapM_cons, oneRes, Sem.run_bind, e1, asAddr, Sem.run_pure, Result.andThen_ok, e2, h4]
theorem retK_ok {n : Nat} {ps : List Tmp} {tree : PT AVal} {tmps : Array Value} {fn : Func} (hw : WRel P ι s w) (ht : TRel ι n ps tree tmps) (h : resK P tree s fn.results.toList (fun l => retK l s K) = true) :
    ∃ a v, (results fn tmps).run P w = .ok v w ∧ VRel ι a v ∧ K a s = true := by
  obtain ⟨vs, us, h2, h3, h4⟩ := resK_ok hw ht _ _ h
  have hm : (fn.results.mapM (oneRes tmps)).run P w = .ok us.toArray w := by
    rw [Array.mapM_eq_mapM_toList]
    simp [h4]
  have hres : (results fn tmps).run P w = .ok (if h : us.toArray.size = 1 then us.toArray[0] else .tuple us.toArray) w := by
    have : results fn tmps = (do let vs ← fn.results.mapM (oneRes tmps); pure (if h : vs.size = 1 then vs[0] else .tuple vs)) := by
      unfold results
      congr 1
    rw [this]
    simp only [Sem.run_bind, hm, Result.andThen_ok, Sem.run_pure]
  rw [hres]
  cases h3 with
  | nil => exact ⟨_, _, rfl, .tup .nil, h2⟩
  | cons hx hr =>
    cases hr with
    | nil => exact ⟨_, _, rfl, hx, h2⟩
    | cons hy hr =>
      refine ⟨_, _, rfl, ?_, h2⟩
      rw [dif_neg (by simp)]
      exact .tup (.cons hx (.cons hy hr))
end
end Go.AM
end
section
/- What it is for the abstract machine's evaluation of code to hold of the model's machine. -/
namespace Go.AM
variable [Orc]
/-- Where a frame stands. -/
structure Here (P : Program) (n0 : Nat) (fi : FI) (ι : Ren) (tree : PT AVal) (s : St) (a : Act) (w : World) : Prop where
  wr : WRel P ι s w
  tr : TRel ι fi.ntmps fi.ps tree a.tmps
  df : DefInv n0 ι w a.defers
  nz : n0 ≤ w.heap.size
/-- The loop whose round a frame is. -/
def RRel (ι : Ren) : Option Pos → Option Nat → Prop
  | none, none => True
  | some q, some l => ∃ p, ι q = some p ∧ p.blk = l
  | _, _ => False
theorem RRel.mono {ι ι' : Ren} (hl : Ren.le ι ι') : ∀ {x : Option Pos} {y : Option Nat}, RRel ι x y → RRel ι' x y
  | none, none, _ => trivial
  | some _, some _, ⟨p, h1, h2⟩ => ⟨p, hl _ _ h1, h2⟩
def exOf : Ex → Exit
  | .normal => .normal
  | .exit id => .exit id
  | .ret => .ret
def Post (P : Program) (n0 : Nat) (fi : FI) (ι : Ren) (w : World) (K : CodeK) : Exit → Act → World → Prop :=
  fun e a' w' => ∃ ex tree' s' ι', exOf ex = e ∧ Ext ι w ι' w' ∧ Here P n0 fi ι' tree' s' a' w' ∧ K ex tree' s' = true
/-- A frame's facts are its function's. -/
def FOk (P : Program) (fi : FI) : Prop := ∃ info, funInfo P fi.fn = some info ∧ info.ntmps = fi.ntmps ∧ info.ps = fi.ps
def Sound (P : Program) (rec : RecT) : Prop := ∀ c n0 fi tree s K F m ι a w, rec (compile P fi.ps fi.ntmps c) fi tree s K = true → FOk P fi → (∀ f, F.fn f) → F.depth = none → RRel ι fi.round F.round → Here P n0 fi ι tree s a w →
  c.wpIn F m P (Post P n0 fi ι w K) a w
/-- The answers that are known hold of the model: such a call leaves all that stands as it stands. -/
class OrcOk : Prop where
  info : ∀ (P : Program) (f : FuncId) (args : List AVal) (v : AVal), Orc.get P f args = some v → ∃ fi, funInfo P f = some fi
  ok : ∀ (P : Program) (f : FuncId) (args : List AVal) (v : AVal), Orc.get P f args = some v → ∀ (ι : Ren) (us : List Value), VRels ι args us → ∀ (F : Fence) (n : Nat) (w : World), (∀ f, F.fn f) → F.depth = none →
    CallsIn F n P f us.toArray w fun e w' => ∃ u, e = .returned u ∧ VRel (fun _ => none) v u ∧ Ext (fun _ => none) w (fun _ => none) w'
/-- How a call ends. -/
def CallEnd (P : Program) (ι : Ren) (w : World) (K : VK) : Ending → World → Prop :=
  fun e w' => ∃ v ι' s' a, e = .returned v ∧ Ext ι w ι' w' ∧ WRel P ι' s' w' ∧ VRel ι' a v ∧ K a s' = true
theorem callsIn_turn {F : Fence} {n : Nat} {P : Program} {f : FuncId} {args : Array Value} {w : World} {R : Ending → World → Prop} (h : CallsIn { F with round := none } n P f args w R) : CallsIn F n P f args w R := h
/-- Marks alone: the frame leaves. -/
theorem leaves_marks {F : Fence} {n : Nat} {P : Program} {fn : Func} {tmps : Array Value} {R : Ending → World → Prop} : ∀ (rs : List Nat) (w : World), rs.Nodup → (∀ r ∈ rs, w.heap[r]? = some (.deferred (some []))) →
    (∀ w', w'.heap.size = w.heap.size → (∀ i, i ∉ rs → w'.heap[i]? = w.heap[i]?) → w'.os = w.os → w'.output = w.output → ∃ v, (results fn tmps).run P w' = .ok v w' ∧ R (.returned v) w') →
    LeavesInM F n P fn tmps R (rs.map fun r => { target := .collected r, args := #[] }) .returning w
  | [], w, _, _, h => by
    obtain ⟨v, h1, h2⟩ := h w rfl (fun _ _ => rfl) rfl rfl
    exact ⟨v, h1, h2⟩
  | r :: rs, w, hn, hr, h => by
    have h0 := hr r (by simp)
    have hlt := lt_of_get h0
    have hn' := List.nodup_cons.1 hn
    refine ⟨by simp, .inl ⟨r, { w with heap := w.heap.setIfInBounds r (.deferred none) }, rfl, ?_, ?_⟩⟩
    · have hg : (getObj r).run P w = .ok (.deferred (some [])) w := by simp [getObj, Sem.run, h0]
      simp only [Instr.takeDeferred, Sem.run_bind, hg, Result.andThen_ok, setObj_run (P := P) (o := .deferred none) h0 (by intro c t f e; cases e), Sem.run_pure]
    · refine leaves_marks rs _ hn'.2 (fun x hx => ?_) (fun w' e1 e2 e3 e4 => ?_)
      · have hne : r ≠ x := fun e => hn'.1 (e ▸ hx)
        simp [Array.getElem?_setIfInBounds_ne hne, hr x (by simp [hx])]
      · refine h w' (by simpa using e1) (fun i hi => ?_) e3 e4
        have hi1 : r ≠ i := fun e => hi (by simp [e])
        rw [e2 i (fun h => hi (by simp [h]))]
        simp [Array.getElem?_setIfInBounds_ne hi1]
end Go.AM
end
section
/- Calls of functions. -/
namespace Go.AM
variable [Orc]
theorem argPlan_ok {ps : List Tmp} : ∀ (n i : Nat) (args : List AVal) (tree : PT AVal) (k : PT AVal → Bool), commitK (argPlan ps n i) args tree k = true →
    ∃ tree', k tree' = true ∧ ∀ t v, PT.get (posOf t) tree' = some v → PT.get (posOf t) tree = some v ∨ (t ∈ ps ∧ i ≤ t ∧ args[t - i]? = some v)
  | 0, i, args, tree, k, h => ⟨tree, h, fun t v e => .inl e⟩
  | n + 1, i, args, tree, k, h => by
    cases args with
    | nil => unfold argPlan at h; split at h <;> cases h
    | cons u args =>
      unfold argPlan at h
      by_cases hc : ps.contains i = true
      · rw [if_pos hc] at h
        have h : PT.setK (posOf i) u tree (fun t => commitK (argPlan ps n (i + 1)) args t k) = true := h
        rw [PT.setK_eq] at h
        obtain ⟨tree', h1, h2⟩ := argPlan_ok n (i + 1) args _ k h
        refine ⟨tree', h1, fun t v e => ?_⟩
        rcases h2 t v e with e1 | ⟨e1, e2, e3⟩
        · by_cases hne : t = i
          · subst hne
            rw [PT.get_set_same] at e1
            cases e1
            exact .inr ⟨by simpa using hc, Nat.le_refl _, by simp⟩
          · rw [PT.get_set_ne _ _ _ _ (fun e => hne (posOf_inj e))] at e1
            exact .inl e1
        · refine .inr ⟨e1, by omega, ?_⟩
          rw [show t - i = (t - (i + 1)) + 1 by omega]
          simpa using e3
      · rw [if_neg hc] at h
        obtain ⟨tree', h1, h2⟩ := argPlan_ok n (i + 1) args tree k h
        refine ⟨tree', h1, fun t v e => ?_⟩
        rcases h2 t v e with e1 | ⟨e1, e2, e3⟩
        · exact .inl e1
        · refine .inr ⟨e1, by omega, ?_⟩
          rw [show t - i = (t - (i + 1)) + 1 by omega]
          simpa using e3
theorem funInfo_some {P : Program} {f : FuncId} {fi : FInfo} (h : funInfo P f = some fi) : ∃ fn c, P.funcs[f]? = some fn ∧ fn.body = some c ∧ fn.name ≠ "runtime.NumGoroutine" ∧ fi.ntmps = fn.ntmps ∧ fi.res = fn.results.toList ∧ fi.code = compile P fi.ps fi.ntmps c := by
  unfold funInfo at h
  split at h
  · rename_i fn hfn
    split at h
    · rename_i c hb
      split at h
      · cases h
      · rename_i hn
        cases h
        exact ⟨fn, c, hfn, hb, hn, rfl, rfl, rfl⟩
    · cases h
  · cases h
/-- Blocks of deferred calls have been shut. -/
theorem WRel.shut {P : Program} {ι : Ren} {s : St} {w w' : World} {rs : List Nat} (h : WRel P ι s w) (hd : ∀ r ∈ rs, w.heap[r]? = some (.deferred (some []))) (hs : w'.heap.size = w.heap.size) (hk : ∀ i, i ∉ rs → w'.heap[i]? = w.heap[i]?) : WRel P ι s w' := by
  refine ⟨fun b p e => ?_, h.apart, h.fresh, fun b p e => hs ▸ h.bound b p e⟩
  obtain ⟨o, ho, hr⟩ := h.objs b p e
  refine ⟨o, ho, ORel.mono (w := w) (Ren.le_refl ι) (fun hl => ?_) hr⟩
  by_cases hm : p.blk ∈ rs
  · have h1 := hd _ hm
    cases hr with
    | cells h2 => rw [h1] at h2; cases h2
    | map h2 => rw [h1] at h2; cases h2
    | loop h2 => rw [h1] at h2; cases h2
    | dead => cases hl
  · exact hk _ hm
end Go.AM
end
section
/- Calls of functions: they hold. -/
namespace Go.AM
variable [Orc] [OrcOk]
theorem WRel.stands {P : Program} {ι : Ren} {s : St} {w w' : World} (h : WRel P ι s w) (he : Ext (fun _ => none) w (fun _ => none) w') : WRel P ι s w' ∧ Ext ι w ι w' := by
  have hk : ∀ i, i < w.heap.size → w'.heap[i]? = w.heap[i]? := fun i hi => he.keep i hi (fun b p e => by cases e)
  refine ⟨⟨fun b p e => ?_, h.apart, h.fresh, fun b p e => Nat.lt_of_lt_of_le (h.bound b p e) he.size⟩, ⟨Ren.le_refl ι, he.size, fun _ _ e => .inl e, fun i hi _ => hk i hi, he.os, he.out⟩⟩
  obtain ⟨x, hx, hr⟩ := h.objs b p e
  exact ⟨x, hx, ORel.mono (w := w) (Ren.le_refl ι) (fun _ => hk _ (h.bound b p e)) hr⟩
theorem orcK_true {P : Program} {f : FuncId} {args : List AVal} {s : St} {K : VK} {x : Bool} (h : orcK P f args s K x = true) : (Orc.get P f args = none ∧ x = true) ∨ ∃ v, Orc.get P f args = some v ∧ K v s = true := by
  unfold orcK at h
  cases hg : Orc.get P f args with
  | none => rw [hg] at h; exact .inl ⟨rfl, h⟩
  | some v => rw [hg] at h; exact .inr ⟨v, rfl, h⟩
theorem callF_info {P : Program} {rec : RecT} {f : FuncId} {args : List AVal} {s : St} {K : VK} (h : callF P rec f args s K = true) : ∃ fi, funInfo P f = some fi := by
  rcases orcK_true h with ⟨_, h⟩ | ⟨v0, hg, _⟩
  · obtain ⟨fi, hfi, _⟩ := optK_true.1 h
    exact ⟨fi, hfi⟩
  · exact OrcOk.info P f args v0 hg
theorem callF_sound {P : Program} {rec : RecT} (hs : Sound P rec) {F : Fence} {m : Nat} {f : FuncId} {args : List AVal} {us : List Value} {s : St} {w : World} {ι : Ren} {K : VK} (h : callF P rec f args s K = true) (hF : ∀ f, F.fn f)
    (hd : F.depth = none) (hw : WRel P ι s w) (hv : VRels ι args us) : CallsIn F m P f us.toArray w (CallEnd P ι w K) := by
  rcases orcK_true h with ⟨_, h⟩ | ⟨v0, hg, hk0⟩
  rotate_left
  · refine CallsIn.mono (OrcOk.ok P f args v0 hg ι us hv F m w hF hd) ?_
    rintro e w' ⟨u, rfl, hr, he⟩
    obtain ⟨hw', he'⟩ := hw.stands he
    exact ⟨u, ι, s, v0, rfl, he', hw', hr.mono (fun b p e => by cases e), hk0⟩
  obtain ⟨fi, hfi, h1⟩ := optK_true.1 h
  rw [lenK_eq, Nat.zero_add] at h1
  obtain ⟨fn, c, hf, hb, _, hnt, hres, hcode⟩ := funInfo_some hfi
  rcases ifK_true.1 h1 with ⟨hn, h2⟩ | ⟨_, h2⟩
  · rcases ifK_true.1 h2 with ⟨hle, h3⟩ | ⟨_, h3⟩
    · have hle : args.length ≤ fi.ntmps := Nat.le_of_ble_eq_true hle
      obtain ⟨tree, h4, h5⟩ := argPlan_ok _ _ _ _ _ h3
      have hl := hv.length
      refine callsIn_turn (callsIn_of_wp_marks hf hb (hF f) ?_ rfl)
      rw [hcode] at h4
      refine wpIn_mono (hs c w.heap.size { fn := f, ntmps := fi.ntmps, ps := fi.ps, round := none } _ _ _ { F with round := none } m ι _ w h4 ⟨fi, hfi, rfl, rfl⟩ hF hd trivial ⟨hw, ⟨?_, fun t v e => ?_⟩, DefInv.nil _ _ _, Nat.le_refl _⟩) ?_
      · simp only [Array.size_append, Array.size_replicate, List.size_toArray]
        rw [hnt]; omega
      · rcases h5 t v e with e1 | ⟨e1, _, e3⟩
        · rw [PT.get_leaf] at e1; cases e1
        · obtain ⟨u, hu, hr⟩ := hv.get (by simpa using e3)
          refine ⟨e1, u, ?_, hr⟩
          have hlt : t < us.length := (List.getElem?_eq_some_iff.1 hu).1
          rw [Array.getElem?_append_left (by simpa using hlt)]
          simpa using hu
      · rintro e a' w' ⟨ex, tree', s', ι', rfl, he, hh, hk⟩
        have hend : LeavesInM { F with round := none } m P fn a'.tmps (CallEnd P ι w K) a'.defers .returning w' := by
          have hk' : resK P tree' s' fi.res (fun l => retK l s' K) = true := by cases ex <;> first | exact hk | cases hk
          obtain ⟨rs, hrs, hnd, hr⟩ := hh.df
          rw [hrs]
          refine leaves_marks rs w' hnd (fun r h => (hr r h).1) (fun w'' e1 e2 e3 e4 => ?_)
          have hw2 := hh.wr.shut (fun r h => (hr r h).1) e1 e2
          obtain ⟨av, v, e5, e6, e7⟩ := retK_ok hw2 hh.tr (hres ▸ hk')
          refine ⟨v, e5, v, ι', s', av, rfl, ⟨he.le, by rw [e1]; exact he.size, he.new, fun i hi hno => ?_, e3.trans he.os, e4.trans he.out⟩, hw2, e6, e7⟩
          rw [e2 i (fun hm => by have := (hr i hm).2.1; omega)]
          exact he.keep i hi hno
        cases ex with
        | normal => exact hend
        | ret => exact hend
        | exit id => cases hk
    · cases h3
  · cases h2
end Go.AM
end
section
/- The abstract machine's calls, rounds and loops over functions: they hold. -/
namespace Go.AM
variable [Orc] [OrcOk]
/-- A step of an operation. -/
theorem op_wpIn {P : Program} {F : Fence} {m : Nat} {o : Oper} {a : Act} {w : World} {ι : Ren} {K : VK} {next : Act → World → Prop} {Q : Exit → Act → World → Prop} (hF : ∀ f, F.fn f) (hnd : ∀ c, o.op ≠ .defer c)
    (h : Fine P ι w K ((execOp a.eval o).run P w))
    (hn : ∀ v w' ι' s' av, Ext ι w ι' w' → WRel P ι' s' w' → VRel ι' av v → K av s' = true → next (a.put o.dst v) w') : o.wpIn F m P a w next Q := by
  refine ⟨fun f _ => hF f, ?_⟩
  rw [Oper.semAt_eq _ _ _ hnd]
  obtain ⟨v, w', ι', s', av, e, h1, h2, h3, h4⟩ := h
  rcases e with e | ⟨e, rfl⟩
  · rw [e]; exact hn v w' ι' s' av h1 h2 h3 h4
  · rw [e]; exact hn undef w' ι' s' av h1 h2 h3 h4
theorem callFunc_enter {P : Program} {w : World} {f : FuncId} {fn : Func} {c : Code} {args : Array Value} (hf : P.funcs[f]? = some fn) (hb : fn.body = some c) (hn : fn.name ≠ "runtime.NumGoroutine") :
    (callFunc f args).run P w = .ok (.enter f args) w := by
  simp [callFunc, hf, hb, hn]
theorem FOk.of {P : Program} {f : FuncId} {fi : FInfo} (h : funInfo P f = some fi) (r : Option Pos) : FOk P { fn := f, ntmps := fi.ntmps, ps := fi.ps, round := r } := ⟨fi, h, rfl, rfl⟩
theorem params_ok {ι : Ren} {ps : List Tmp} {n : Nat} : ∀ (params : List Tmp) (pl : List (Option Pos)) (args : List AVal) (us : List Value) (tree : PT AVal) (tmps : Array Value) (k : PT AVal → Bool),
    paramPlan ps n params = some pl → VRels ι args us → args.length = params.length → TRel ι n ps tree tmps → commitK pl args tree k = true →
    ∃ tree', k tree' = true ∧ TRel ι n ps tree' ((params.zip us).foldl (fun tmps (x : Tmp × Value) => tmps.setIfInBounds x.1 x.2) tmps)
  | [], pl, args, us, tree, tmps, k, hp, hv, hl, ht, h => by
    cases hp
    cases args with
    | nil => cases hv; exact ⟨tree, h, ht⟩
    | cons x r => simp at hl
  | t :: params, pl, args, us, tree, tmps, k, hp, hv, hl, ht, h => by
    cases hv with
    | nil => simp at hl
    | @cons x u args us hx hv =>
      unfold paramPlan at hp
      split at hp
      · rename_i hlt
        split at hp
        · rename_i l hpl
          cases hp
          have hlen : args.length = params.length := by simpa using hl
          have hsz := ht.size
          by_cases hc : ps.contains t = true
          · rw [if_pos hc] at h
            have h : PT.setK (posOf t) x tree (fun t => commitK l args t k) = true := h
            rw [PT.setK_eq] at h
            refine params_ok params l args us _ _ k hpl hv hlen ⟨by simpa using hsz, fun t' v e => ?_⟩ h
            by_cases hne : t' = t
            · subst hne
              rw [PT.get_set_same] at e
              cases e
              exact ⟨by simpa using hc, u, by rw [Array.getElem?_setIfInBounds_self_of_lt (Nat.lt_of_lt_of_le hlt hsz)], hx⟩
            · rw [PT.get_set_ne _ _ _ _ (fun e => hne (posOf_inj e))] at e
              obtain ⟨e1, v', e2, e3⟩ := ht.get t' v e
              exact ⟨e1, v', by rw [Array.getElem?_setIfInBounds_ne (Ne.symm hne)]; exact e2, e3⟩
          · rw [if_neg hc] at h
            have h : commitK l args tree k = true := h
            refine params_ok params l args us _ _ k hpl hv hlen ⟨by simpa using hsz, fun t' v e => ?_⟩ h
            obtain ⟨e1, v', e2, e3⟩ := ht.get t' v e
            have hne : t' ≠ t := fun e => hc (by simpa [e] using e1)
            exact ⟨e1, v', by rw [Array.getElem?_setIfInBounds_ne (Ne.symm hne)]; exact e2, e3⟩
        · cases hp
      · cases hp
theorem Ext.put {P : Program} {ι : Ren} {s : St} {w : World} (hw : WRel P ι s w) {b : Pos} {p : Place} {l : LoopR} {L : Loop} {l' : LoopR} {L' : Loop} (e : ι b = some p) (hy : PT.get b s.heap = some (.loop l))
    (hL : w.heap[p.blk]? = some (.loop L)) (hr : p.ro = false) (h : LRel P ι l' L') :
    WRel P ι { heap := PT.set b (.loop l') s.heap, next := s.next } (w.putObj p.blk (.loop L')) ∧ Ext ι w ι (w.putObj p.blk (.loop L')) := by
  refine hw.update (.loop l') e hy rfl hr (by simp) (fun i hi => World.putObj_heap_other hi) rfl rfl ?_
  exact .loop (World.putObj_heap_same (lt_of_get hL)) h hr
theorem WRel.loop {P : Program} {ι : Ren} {s : St} {w : World} (hw : WRel P ι s w) {b : Pos} {p : Place} {l : LoopR} (e : ι b = some p) (h : PT.get b s.heap = some (.loop l)) : ∃ L, w.heap[p.blk]? = some (.loop L) ∧ LRel P ι l L ∧ p.ro = false := by
  obtain ⟨o, ho, hr⟩ := hw.objs b p e
  rw [h] at ho
  cases ho
  cases hr with
  | loop h1 h2 h3 => exact ⟨_, h1, h2, h3⟩
/-- How a round ends. -/
def ValEnd (P : Program) (ι : Ren) (w : World) (K : VK) : Ending → World → Prop := CallEnd P ι w K
theorem yieldK_sound {P : Program} {rec : RecT} (hs : Sound P rec) {F : Fence} {m : Nat} {q : Pos} {p : Place} {args : List AVal} {us : List Value} {s : St} {w : World} {ι : Ren} {K : VK} (h : yieldK P rec q args s K = true) (hF : ∀ f, F.fn f)
    (hd : F.depth = none) (hw : WRel P ι s w) (hq : ι q = some p) (hv : VRels ι args us) :
    ∃ L, w.heap[p.blk]? = some (.loop L) ∧ us.length = L.params.size ∧ RoundIn F m P p.blk L.fn ((L.params.zip us.toArray).foldl (fun tmps (x : Tmp × Value) => tmps.setIfInBounds x.1 x.2) L.tmps) L.assign L.body w (CallEnd P ι w K) := by
  obtain ⟨l, hl, h1⟩ := loopK_true.1 h
  obtain ⟨fi, hfi, h2⟩ := optK_true.1 h1
  obtain ⟨pl, hpl, h3⟩ := optK_true.1 h2
  rw [lenK_eq, lenK_eq, Nat.zero_add, Nat.zero_add] at h3
  rcases ifK_true.1 h3 with ⟨hn, h4⟩ | ⟨_, h4⟩
  · obtain ⟨L, hL, hr, hro⟩ := hw.loop hq hl
    have hn : args.length = l.params.length := Nat.eq_of_beq_eq_true hn
    obtain ⟨fi', hfi', ht, hasg, hbody⟩ := hr.tm
    rw [hfi] at hfi'; cases hfi'
    refine ⟨L, hL, ?_, ?_⟩
    · rw [← hv.length, hn, hr.params]; simp
    · obtain ⟨tree, h5, ht'⟩ := params_ok l.params pl args us _ _ _ hpl hv hn ht h4
      have hfold : (L.params.zip us.toArray).foldl (fun tmps (x : Tmp × Value) => tmps.setIfInBounds x.1 x.2) L.tmps = (l.params.zip us).foldl (fun tmps (x : Tmp × Value) => tmps.setIfInBounds x.1 x.2) L.tmps := by
        rw [hr.params]
        simp
      rw [hfold]
      rw [hasg] at h5
      refine roundIn_of_wpIn (hF _) ?_
      refine wpIn_mono (hs L.assign w.heap.size { fn := l.fn, ntmps := fi.ntmps, ps := fi.ps, round := some q } _ _ _ (F.inRound p.blk) m ι _ w h5 (FOk.of hfi _) hF hd ⟨p, hq, rfl⟩ ⟨hw, ht', DefInv.nil _ _ _, Nat.le_refl _⟩) ?_
      rintro e a' w' ⟨ex, tree', s', ι', rfl, he, hh, hk⟩
      cases ex with
      | normal =>
        obtain ⟨l2, hl2, h6⟩ := loopK_true.1 (show loopK q s' _ = true from hk)
        rcases ifK_true.1 h6 with ⟨hrd, h7⟩ | ⟨_, h7⟩
        · have hq' := he.le _ _ hq
          obtain ⟨L2, hL2, hr2, hro2⟩ := hh.wr.loop hq' hl2
          have hst : L2.state = .ready := by
            rw [hr2.state]
            revert hrd
            cases l2.state <;> simp [isReady]
          refine ⟨_, run_beginRound hL2 hst, ?_⟩
          rw [putK_eq, hbody] at h7
          have hr3 : LRel P ι' { l2 with state := .busy } { L2 with state := .busy } := ⟨rfl, hr2.pending, hr2.params, hr2.tm⟩
          obtain ⟨hw3, he3⟩ := Ext.put hh.wr hq' hl2 hL2 hro hr3
          refine wpIn_mono (hs L.body w.heap.size { fn := l.fn, ntmps := fi.ntmps, ps := fi.ps, round := some q } _ _ _ (F.inRound p.blk) m ι' _ _ h7 (FOk.of hfi _) hF hd ⟨p, hq', rfl⟩ ⟨hw3, hh.tr, hh.df.ext he3, Nat.le_trans hh.nz he3.size⟩) ?_
          rintro e a'' w'' ⟨ex, tree'', s'', ι'', rfl, he'', hh'', hk''⟩
          have hq'' := he''.le _ _ hq'
          obtain ⟨l3, hl3, h8⟩ := loopK_true.1 (show loopK q s'' _ = true from hk'')
          obtain ⟨L3, hL3, hr3', _⟩ := hh''.wr.loop hq'' hl3
          have hext := (he.trans he3).trans he''
          cases ex with
          | normal =>
            have h8 : putK q (.loop { l3 with state := .ready, pending := none }) s'' (fun s => K (.bool true) s) = true := h8
            rw [putK_eq] at h8
            have hr4 : LRel P ι'' { l3 with state := .ready, pending := none } { L3 with state := .ready, pending := none } := ⟨rfl, rfl, hr3'.params, hr3'.tm⟩
            obtain ⟨hw4, he4⟩ := Ext.put hh''.wr hq'' hl3 hL3 hro hr4
            exact ⟨_, _, run_endRound none hL3, _, ι'', _, _, rfl, hext.trans he4, hw4, .bool true, h8⟩
          | exit id =>
            have h8 : putK q (.loop { l3 with state := .done, pending := some (.exit id) }) s'' (fun s => K (.bool false) s) = true := h8
            rw [putK_eq] at h8
            have hr4 : LRel P ι'' { l3 with state := .done, pending := some (.exit id) } { L3 with state := .done, pending := some (.exit id) } := ⟨rfl, rfl, hr3'.params, hr3'.tm⟩
            obtain ⟨hw4, he4⟩ := Ext.put hh''.wr hq'' hl3 hL3 hro hr4
            exact ⟨_, _, run_endRound _ hL3, _, ι'', _, _, rfl, hext.trans he4, hw4, .bool false, h8⟩
          | ret =>
            have h8 : putK q (.loop { l3 with state := .done, pending := some .ret }) s'' (fun s => K (.bool false) s) = true := h8
            rw [putK_eq] at h8
            have hr4 : LRel P ι'' { l3 with state := .done, pending := some .ret } { L3 with state := .done, pending := some .ret } := ⟨rfl, rfl, hr3'.params, hr3'.tm⟩
            obtain ⟨hw4, he4⟩ := Ext.put hh''.wr hq'' hl3 hL3 hro hr4
            exact ⟨_, _, run_endRound _ hL3, _, ι'', _, _, rfl, hext.trans he4, hw4, .bool false, h8⟩
        · cases h7
      | exit id => cases hk
      | ret => cases hk
  · cases h4
end Go.AM
end
section
/- The abstract machine's loops over functions, and every operation: they hold. -/
namespace Go.AM
variable [Orc] [OrcOk]
theorem AVal.fnK_inv {v : AVal} {K : Nat → List AVal → List AVal → Bool} (h : v.fnK K = true) : ∃ f a c, v = .fn f a c ∧ K f a c = true := AVal.fnK_true.1 h
/-- A block that no name leads to is laid. -/
theorem WRel.other {P : Program} {ι : Ren} {s : St} {w : World} (h : WRel P ι s w) (o : Obj) : WRel P ι s (w.alloc o) ∧ Ext ι w ι (w.alloc o) := by
  have hold : ∀ i, i < w.heap.size → (w.alloc o).heap[i]? = w.heap[i]? := fun i hi => push_old hi
  have hsz : (w.alloc o).heap.size = w.heap.size + 1 := by simp
  refine ⟨⟨fun b p e => ?_, h.apart, h.fresh, fun b p e => by have := h.bound b p e; omega⟩, ⟨Ren.le_refl ι, by omega, fun _ _ e => .inl e, fun i hi _ => hold i hi, rfl, rfl⟩⟩
  obtain ⟨x, hx, hr⟩ := h.objs b p e
  exact ⟨x, hx, ORel.mono (w := w) (Ren.le_refl ι) (fun _ => hold _ (h.bound b p e)) hr⟩
theorem resolve_fn {P : Program} {w : World} {ρ : Operand → Value} {c : Call} {ty : TypeId} {g : Operand} {f : FuncId} {x y : Array Value} (hc : c.callee = .value g) (hg : ρ g = .func (.func f) x y) :
    (resolve ρ c ty).run P w = .ok { target := .fn (.func f) y, args := x ++ c.args.map ρ } w := by
  unfold resolve
  simp [hc, hg, Deferred.ofValue]
theorem DefInv.more {P : Program} {ι : Ren} {s : St} {n0 : Nat} {w w' : World} {ds : List Deferred} {ι' : Ren} (h : DefInv n0 ι w ds) (he : Ext ι w ι' w') (hn : n0 ≤ w.heap.size) (hw : w'.heap[w.heap.size]? = some (.deferred (some [])))
    (hι : ∀ b p, ι' b = some p → p.ro = false → p.blk ≠ w.heap.size) : DefInv n0 ι' w' ({ target := .collected w.heap.size, args := #[] } :: ds) := by
  obtain ⟨rs, h1, h2, h3⟩ := h
  have hrs : ∀ r ∈ rs, r < w.heap.size := fun r hr => lt_of_get (h3 r hr).1
  have h4 : ∀ r ∈ rs, w'.heap[r]? = some (.deferred (some [])) ∧ n0 ≤ r ∧ ∀ b p, ι' b = some p → p.ro = false → p.blk ≠ r := by
    intro r hr
    obtain ⟨h4, h6, h5⟩ := h3 r hr
    refine ⟨by rw [he.keep r (hrs r hr) h5]; exact h4, h6, fun b p e hro hb => ?_⟩
    rcases he.new b p e with e' | e' | ⟨_, b0, p0, e0, hr0, hb0⟩
    · exact h5 b p e' hro hb
    · have := hrs r hr; omega
    · exact h5 b0 p0 e0 hr0 (hb0.trans hb)
  refine ⟨w.heap.size :: rs, by rw [h1]; rfl, List.nodup_cons.2 ⟨fun hm => Nat.lt_irrefl _ (hrs _ hm), h2⟩, fun r hr => ?_⟩
  rcases List.mem_cons.1 hr with rfl | hr
  · exact ⟨hw, hn, hι⟩
  · exact h4 r hr
theorem rangeK_sound {P : Program} {rec : RecT} (hs : Sound P rec) {n0 : Nat} {fi : FI} {g : Operand} {params : Array Tmp} {c d : Code} {tree : PT AVal} {s : St} {K : CodeK} {F : Fence} {m : Nat} {ι : Ren} {a : Act} {w : World}
    (h : rangeK P rec fi (resolveO [] g) params.toList (compile P fi.ps fi.ntmps c) (compile P fi.ps fi.ntmps d) tree s K = true) (hfo : FOk P fi) (hF : ∀ f, F.fn f) (hd : F.depth = none) (hr : RRel ι fi.round F.round) (hh : Here P n0 fi ι tree s a w) :
    (Code.rangeFunc g params c d).wpIn F m P (Post P n0 fi ι w K) a w := by
  obtain ⟨fv, hfv, h1⟩ := optK_true.1 h
  have hrel := getO_ok (LocRel.start hh.tr) g fv hfv
  have h2 : (∀ l0, fi.round = some l0 → ∃ r, PT.get l0 s.heap = some (.loop r)) ∧ (allocK (.loop { state := .ready, pending := none, fn := fi.fn, tm := tree, params := params.toList, assign := compile P fi.ps fi.ntmps c, body := compile P fi.ps fi.ntmps d }) s fun l s =>
      fv.fnK fun f a c => appK [.yld l] c fun r => appK a r fun args => callF P rec f args s fun _ s => loopK l s fun L => ifK (isBusy L.state) (fail 52)
        (putK l (.loop { L with state := .exhausted }) s fun s => pendK L.pending tree s K)) = true := by
    cases hro : fi.round with
    | none => rw [hro] at h1; exact ⟨fun l0 e => (by cases e), h1⟩
    | some l0 =>
      rw [hro] at h1
      obtain ⟨r, hl, h2⟩ := loopK_true.1 (show loopK l0 s _ = true from h1)
      exact ⟨fun l1 e => by cases e; exact ⟨r, hl⟩, h2⟩
  obtain ⟨hround, h3⟩ := h2
  rw [allocK_eq] at h3
  obtain ⟨f, x, y, rfl, h4⟩ := AVal.fnK_inv h3
  rw [appK_eq, appK_eq] at h4
  obtain ⟨info, hinfo, hnt, hps⟩ := hfo
  generalize hgv : a.eval g = gv at hrel
  cases hrel with
  | @fn _ _ _ x' y' hx hy =>
    refine wpIn_rangeFunc fun fn _ => ?_
    -- the record is laid
    have hlay : ∃ (w0 w1 : World) (mark : List Deferred) (df : Nat),
        (Instr.enterLoop fn a.tmps params c d F.round).run P w = .ok (w0.heap.size, mark) w1 ∧
        w1 = w0.alloc (.loop { state := .ready, pending := none, fn, tmps := a.tmps, params, assign := c, body := d, defers := df }) ∧ WRel P ι s w0 ∧ Ext ι w ι w0 ∧
        (∀ ι', Ext ι w ι' w1 → (∀ b p, ι' b = some p → ι b = some p ∨ p.blk = w0.heap.size) → DefInv n0 ι' w1 (mark ++ a.defers)) := by
      cases hFr : F.round with
      | none =>
        obtain ⟨hw0, he0⟩ := hh.wr.other (.deferred (some []))
        have hsz : (w.alloc (.deferred (some []))).heap.size = w.heap.size + 1 := by simp
        refine ⟨w.alloc (.deferred (some [])), _, [{ target := .collected w.heap.size, args := #[] }], w.heap.size, ?_, rfl, hw0, he0, fun ι' he hι => ?_⟩
        · rw [run_enterLoop_outer, hsz]
        · refine DefInv.more (P := P) (s := s) hh.df he hh.nz ?_ ?_
          · exact (push_old (by rw [hsz]; omega)).trans (World.alloc_heap_new w _)
          · intro b p e hro
            rcases hι b p e with e | e
            · have := hh.wr.bound b p e; omega
            · rw [e, hsz]; omega
      | some l1 =>
        cases hfr : fi.round with
        | none => rw [hFr, hfr] at hr; exact hr.elim
        | some l0 =>
          rw [hFr, hfr] at hr
          obtain ⟨p0, hp0, rfl⟩ := hr
          obtain ⟨r0, hr0⟩ := hround l0 hfr
          obtain ⟨L0, hL0, _, _⟩ := hh.wr.loop hp0 hr0
          refine ⟨w, _, [], L0.defers, ?_, rfl, hh.wr, Ext.refl ι w, fun ι' he _ => ?_⟩
          · unfold Instr.enterLoop
            simp only [Sem.run_bind, run_getLoop hL0, Result.andThen, Sem.run_pure, run_newObj_alloc]
          · exact hh.df.ext he
    obtain ⟨w0, w1, mark, df, hen, hw1, hw0, he0, hdf⟩ := hlay
    have hlr : ∀ ι', Ren.le ι ι' → LRel P ι' { state := .ready, pending := none, fn := fi.fn, tm := tree, params := params.toList, assign := compile P fi.ps fi.ntmps c, body := compile P fi.ps fi.ntmps d }
        { state := .ready, pending := none, fn, tmps := a.tmps, params, assign := c, body := d, defers := df } := fun ι' hle =>
      ⟨rfl, rfl, by simp, info, hinfo, by rw [hnt, hps]; exact hh.tr.mono hle, by rw [hnt, hps], by rw [hnt, hps]⟩
    obtain ⟨hw2, he2⟩ := hw0.alloc (.loop { state := .ready, pending := none, fn := fi.fn, tm := tree, params := params.toList, assign := compile P fi.ps fi.ntmps c, body := compile P fi.ps fi.ntmps d })
      (.loop { state := .ready, pending := none, fn, tmps := a.tmps, params, assign := c, body := d, defers := df }) ⟨w0.heap.size, 0, 0, false⟩ rfl rfl
      (.loop (World.alloc_heap_new w0 _) (hlr _ (Ren.le_set hw0.next_none)) rfl)
    have hdir : w1 = { w0 with heap := w0.heap.push (.loop { state := .ready, pending := none, fn, tmps := a.tmps, params, assign := c, body := d, defers := df }) } := hw1
    rw [← hdir] at hw2 he2
    have hle := he2.le
    have he := he0.trans he2
    have hdf1 := hdf _ he (fun b p e => by
      rcases Ren.set_some e with ⟨_, rfl⟩ | ⟨_, e⟩
      · exact .inr rfl
      · exact .inl e)
    have hl : Ren.set ι s.next ⟨w0.heap.size, 0, 0, false⟩ s.next = some ⟨w0.heap.size, 0, 0, false⟩ := Ren.set_same _ _ _
    have hargs : VRels (Ren.set ι s.next ⟨w0.heap.size, 0, 0, false⟩) (x ++ ([.yld s.next] ++ y)) ((x' ++ #[Value.func (.yield w0.heap.size) #[] #[]]) ++ y').toList := by
      simp only [Array.toList_append, List.append_assoc]
      exact VRels.append (hx.mono hle) (VRels.append (.cons (.yld hl) .nil) (hy.mono hle))
    have hcall := callF_sound hs (F := F) (m := m - 1) h4 hF hd hw2 hargs
    obtain ⟨fi2, hfi2⟩ := callF_info h4
    obtain ⟨fn2, _, hf2, hb2, hnm2, _⟩ := funInfo_some hfi2
    refine ⟨_, mark, w1, { target := .fn (.func f) y', args := x' ++ #[Value.func (.yield w0.heap.size) #[] #[]] }, w1, f, _, w1, hen, ?_, fun f' _ => hF f', callFunc_enter hf2 hb2 hnm2, by simp [hd], CallsIn.mono hcall ?_⟩
    · rw [resolve_fn (f := f) (x := x') (y := y') rfl hgv]
      simp [Act.eval]
    · rintro e w3 ⟨v, ι3, s3, av, rfl, he3, hw3, hv3, hk3⟩
      have hl3 := he3.le _ _ hl
      obtain ⟨l3, hl3', h5⟩ := loopK_true.1 (show loopK s.next s3 _ = true from hk3)
      obtain ⟨L3, hL3, hr3, hro3⟩ := hw3.loop hl3 hl3'
      rcases ifK_true.1 h5 with ⟨_, h6⟩ | ⟨hbz, h6⟩
      · cases h6
      · have hst : L3.state ≠ .busy := by
          rw [hr3.state]
          revert hbz
          cases l3.state <;> simp [isBusy]
        rw [putK_eq] at h6
        have hr4 : LRel P ι3 { l3 with state := .exhausted } { L3 with state := .exhausted } := ⟨rfl, hr3.pending, hr3.params, hr3.tm⟩
        obtain ⟨hw4, he4⟩ := Ext.put hw3 hl3 hl3' hL3 hro3 hr4
        have hext := (he.trans he3).trans he4
        refine ⟨L3.pending, _, run_endLoop hL3 hst, ?_⟩
        have hhere : Here P n0 fi ι3 tree { heap := PT.set s.next (.loop { l3 with state := .exhausted }) s3.heap, next := s3.next } { a with defers := mark ++ a.defers } (w3.putObj w0.heap.size (.loop { L3 with state := .exhausted })) :=
          ⟨hw4, hh.tr.mono hext.le, hdf1.ext (he3.trans he4), Nat.le_trans hh.nz hext.size⟩
        generalize (World.putObj w3 w0.heap.size (Obj.loop { L3 with state := .exhausted })) = w4 at hext hhere ⊢
        rw [hr3.pending]
        generalize ({ heap := PT.set s.next (.loop { l3 with state := .exhausted }) s3.heap, next := s3.next } : St) = s4 at h6 hhere
        have h6 : pendK l3.pending tree s4 K = true := h6
        cases hpe : l3.pending with
        | none =>
          rw [hpe] at h6
          exact ⟨.normal, _, _, _, rfl, hext, hhere, h6⟩
        | some j =>
          rw [hpe] at h6
          cases j with
          | exit id => exact wpIn_exit ⟨.exit id, _, _, _, rfl, hext, hhere, h6⟩
          | ret => exact wpIn_ret ⟨.ret, _, _, _, rfl, hext, hhere, h6⟩
          | _ => cases h6
/-- Every operation. -/
theorem opK_wpIn {P : Program} {rec : RecT} (hs : Sound P rec) {F : Fence} {m : Nat} {o : Oper} {a : Act} {w : World} {ι : Ren} {s : St} {K : VK} {ρ : Operand → Option AVal} {next : Act → World → Prop} {Q : Exit → Act → World → Prop}
    (h : opK P rec o.op ρ s K = true) (hF : ∀ f, F.fn f) (hd : F.depth = none) (hw : WRel P ι s w) (hρ : ∀ x, ORl ι (ρ x) (a.eval x))
    (hn : ∀ v w' ι' s' av, Ext ι w ι' w' → WRel P ι' s' w' → VRel ι' av v → K av s' = true → next (a.put o.dst v) w') : o.wpIn F m P a w next Q := by
  have hnd : ∀ c, o.op ≠ .defer c := by
    intro c e
    rw [e] at h
    cases h
  by_cases hnf : noFn o.op = true
  · exact op_wpIn hF hnd (opK_fine hnf h hw hρ) hn
  · refine ⟨fun f _ => hF f, ?_⟩
    rw [Oper.semAt_eq _ _ _ hnd]
    have hc : ∃ g args ats, o.op = .call ⟨.value g, args, ats⟩ := by
      generalize o.op = op at hnf
      cases op with
      | call c =>
        obtain ⟨callee, args, ats⟩ := c
        cases callee with
        | value g => exact ⟨g, args, ats, rfl⟩
        | _ => exact absurd rfl hnf
      | _ => exact absurd rfl hnf
    obtain ⟨g, args, ats, hop⟩ := hc
    rw [hop] at h
    have h : callOp P rec ⟨.value g, args, ats⟩ ρ s K = true := h
    obtain ⟨fv, hfv, h1⟩ := optK_true.1 (show optK (ρ g) _ = true from h)
    obtain ⟨as, hu, h2⟩ := valsK_true (ρc := a.eval) args.toList _ h1 (fun x _ => hρ x)
    have hgr := hρ g fv hfv
    have hex : ∀ w, (execOp a.eval o).run P w = Sem.run P (do let d ← resolve a.eval ⟨.value g, args, ats⟩ o.type; invoke d.target d.args) w := by
      intro w
      unfold execOp
      rw [hop]
    rw [hex]
    generalize hgv : a.eval g = gv at hgr
    cases hgr with
    | @fn f x y x' y' hx hy =>
      have h2 : appK as y (fun r => appK x r fun args => callF P rec f args s K) = true := h2
      rw [appK_eq, appK_eq] at h2
      obtain ⟨fi2, hfi2⟩ := callF_info h2
      obtain ⟨fn2, _, hf2, hb2, hnm2, _⟩ := funInfo_some hfi2
      have hv : VRels ι (x ++ (as ++ y)) ((x' ++ args.map a.eval) ++ y').toList := by
        simp only [Array.toList_append, Array.toList_map, List.append_assoc]
        exact VRels.append hx (VRels.append hu hy)
      have hcall := callF_sound hs (F := F) (m := m - 1) h2 hF hd hw hv
      simp only [Sem.run_bind, resolve_fn (c := ⟨.value g, args, ats⟩) (f := f) (x := x') (y := y') rfl hgv, Result.andThen_ok, invoke]
      rw [callFunc_enter hf2 hb2 hnm2]
      rw [Oper.uponIn_enter]
      refine ⟨by simp [hd], CallsIn.mono hcall ?_⟩
      rintro e w' ⟨v, ι', s', av, rfl, he, hw', hv', hk⟩
      exact hn v w' ι' s' av he hw' hv' hk
    | @yld l p hl =>
      have h2 : yieldK P rec l as s K = true := h2
      obtain ⟨L, hL, hlen, hround⟩ := yieldK_sound hs (F := F) (m := m - 1) h2 hF hd hw hl hu
      have hres : (resolve a.eval ⟨.value g, args, ats⟩ o.type).run P w = .ok { target := .fn (.yield p.blk) #[], args := args.map a.eval } w := by
        unfold resolve
        simp [hgv, Deferred.ofValue]
      simp only [Sem.run_bind, hres, Result.andThen_ok, invoke]
      rw [run_yield hL (by simpa using hlen)]
      rw [Oper.uponIn_round]
      have harr : (args.toList.map a.eval).toArray = args.map a.eval := by
        rw [← Array.toList_map, Array.toArray_toList]
      rw [harr] at hround
      refine ⟨by simp [hd], RoundIn.mono hround ?_⟩
      rintro e w' ⟨v, ι', s', av, rfl, he, hw', hv', hk⟩
      exact hn v w' ι' s' av he hw' hv' hk
    | _ => cases h2
end Go.AM
end
section
/- The abstract machine's code, regions that are drawn put aside: it holds. -/
namespace Go.AM
variable [Orc] [OrcOk]
theorem Post.of_ext {P : Program} {n0 : Nat} {fi : FI} {ι ι' : Ren} {w w' : World} {K : CodeK} (he : Ext ι w ι' w') {e : Exit} {a'' : Act} {w'' : World} (h : Post P n0 fi ι' w' K e a'' w'') : Post P n0 fi ι w K e a'' w'' :=
  let ⟨ex, t, s, ι2, h1, h2, h3, h4⟩ := h
  ⟨ex, t, s, ι2, h1, he.trans h2, h3, h4⟩
section
variable {P : Program} {rec : RecT} {F : Fence} {m n0 : Nat} {fi : FI} {all : Array Oper}
theorem items_sound (hs : Sound P rec) (hF : ∀ f, F.fn f) (hd : F.depth = none) {Q : Exit → Act → World → Prop} {k : PT AVal → St → Bool} :
    ∀ (l : List Oper) (prev : List (Option Tmp)) (locals : List AVal) (tree : PT AVal) (s : St) (ι : Ren) (a : Act) (w : World), itemsK P rec fi all (l.map .run) prev locals tree s k = true →
      WRel P ι s w → LocRel ι prev locals tree a.tmps → fi.ntmps ≤ a.tmps.size → DefInv n0 ι w a.defers → n0 ≤ w.heap.size → (∀ t v, PT.get (posOf t) tree = some v → t ∈ fi.ps) → (∀ o ∈ l, ∀ d, o.dst = some d → d < fi.ntmps) →
      (∀ a' w' ι' tree' s', Ext ι w ι' w' → Here P n0 fi ι' tree' s' a' w' → k tree' s' = true → Q .normal a' w') → wpListIn F m P all Q l a w
  | [], prev, locals, tree, s, ι, a, w, h, hw, hl, hsz, hdf, hnz, hps, hds, hq => by
    obtain ⟨tree', h1, h2⟩ := hl.commit hsz hps (show commitK (commitPlan fi.ps prev []) locals tree (fun tree => k tree s) = true from h)
    exact hq a w ι tree' s (Ext.refl ι w) ⟨hw, h2, hdf, hnz⟩ h1
  | o :: l, prev, locals, tree, s, ι, a, w, h, hw, hl, hsz, hdf, hnz, hps, hds, hq => by
    have hdo : ∀ d, o.dst = some d → d < a.tmps.size := fun d e => Nat.lt_of_lt_of_le (hds o (by simp) d e) hsz
    have hsz' : ∀ v, fi.ntmps ≤ (a.put o.dst v).tmps.size := fun v => by
      unfold Act.put
      split <;> simpa using hsz
    have hdf' : ∀ v, (a.put o.dst v).defers = a.defers := fun v => by
      unfold Act.put
      split <;> rfl
    have h : guardK all o (fun x => getO tree locals (resolveO prev x))
        (opK P rec o.op (fun x => getO tree locals (resolveO prev x)) s fun v s => itemsK P rec fi all (l.map .run) (o.dst :: prev) (v :: locals) tree s k)
        (itemsK P rec fi all (l.map .run) (o.dst :: prev) (.tup [] :: locals) tree s k) = true := h
    rcases guardK_true h (getO_ok hl) with ⟨hwt, h1⟩ | ⟨hwt, h1⟩
    · have goal : o.wpIn F m P a w (wpListIn F m P all Q l) Q := by
        refine opK_wpIn hs h1 hF hd hw (getO_ok hl) fun v w' ι' s' av he hw' hv hk => ?_
        refine items_sound hs hF hd l _ _ tree s' ι' _ w' hk hw' ((hl.mono he.le).push o.dst hdo hv) (hsz' v) (by rw [hdf']; exact hdf.ext he) (Nat.le_trans hnz he.size) hps (fun o ho => hds o (by simp [ho])) ?_
        exact fun a'' w'' ι'' tree'' s'' he'' hh hk => hq a'' w'' ι'' tree'' s'' (he.trans he'') hh hk
      unfold wpListIn
      rw [hwt]
      exact goal
    · have goal : (∀ f, o.about P w a.eval = some f → F.fn f) ∧ wpListIn F m P all Q l (a.put o.dst undef) w := by
        refine ⟨fun f _ => hF f, ?_⟩
        exact items_sound hs hF hd l _ _ tree s ι _ w h1 hw (hl.push o.dst hdo (.tup .nil)) (hsz' _) (by rw [hdf']; exact hdf) hnz hps (fun o ho => hds o (by simp [ho])) hq
      unfold wpListIn
      rw [hwt]
      exact goal
theorem dstsOk_lt {n : Nat} {ops : Array Oper} (h : dstsOk n ops = true) : ∀ o ∈ ops.toList, ∀ d, o.dst = some d → d < n := by
  intro o ho d e
  have := List.all_eq_true.1 h o ho
  rw [e] at this
  simpa using this
def DrawSound (P : Program) (rec : RecT) : Prop := ∀ id ops n0 fi tree s k F m ι a w, regionK P rec fi ops true tree s k = true → FOk P fi → (∀ f, F.fn f) → F.depth = none → RRel ι fi.round F.round → Here P n0 fi ι tree s a w →
  (Code.region id ops true).wpIn F m P (Post P n0 fi ι w (fun e t s => @Ex.rec (fun _ => Bool) (k t s) (fun _ => false) false e)) a w
theorem region_sound (hs : Sound P rec) (hF : ∀ f, F.fn f) (hd : F.depth = none) {id : Nat} {ops : Array Oper} {tree : PT AVal} {s : St} {ι : Ren} {a : Act} {w : World} {K : CodeK}
    (h : regionK P rec fi ops false tree s (fun tree s => K .normal tree s) = true) (hh : Here P n0 fi ι tree s a w) : (Code.region id ops false).wpIn F m P (Post P n0 fi ι w K) a w := by
  obtain ⟨l, hl, h1⟩ := optK_true.1 h
  rcases ifK_true.1 h1 with ⟨hds, h2⟩ | ⟨_, h2⟩
  · have hl : l = ops.toList.map .run := by
      unfold itemsOf at hl
      simpa using hl.symm
    subst hl
    refine wpIn_region_list ?_
    refine items_sound hs hF hd ops.toList [] [] tree s ι a w h2 hh.wr (LocRel.start hh.tr) hh.tr.size hh.df hh.nz (fun t v e => (hh.tr.get t v e).1) (dstsOk_lt hds) ?_
    exact fun a' w' ι' tree' s' he hh' hk => ⟨.normal, tree', s', ι', rfl, he, hh', hk⟩
  · cases h2
end
theorem least_ex {p : Nat → Prop} (h : ∃ j, p j) : ∃ j, p j ∧ ∀ i, p i → j ≤ i := by
  obtain ⟨j, hj⟩ := h
  induction j using Nat.strongRecOn with
  | _ j ih =>
    by_cases hx : ∃ i, i < j ∧ p i
    · obtain ⟨i, hi, hp⟩ := hx
      exact ih i hi hp
    · exact ⟨j, hj, fun i hp => Nat.le_of_not_lt fun hi => hx ⟨i, hi, hp⟩⟩
open Classical in
/-- The least number that has a property; 0 where none has. -/
noncomputable def least (p : Nat → Prop) : Nat := if h : ∃ j, p j then Classical.choose (least_ex h) else 0
theorem least_spec {p : Nat → Prop} (h : ∃ j, p j) : p (least p) ∧ ∀ i, p i → least p ≤ i := by
  unfold least
  rw [dif_pos h]
  exact Classical.choose_spec (least_ex h)
theorem exec_zero {P : Program} {c : MCode} {fi : FI} {tree : PT AVal} {s : St} {K : CodeK} : exec P 0 c fi tree s K = false := rfl
theorem exec_succ {P : Program} {n : Nat} : exec P (n + 1) = execF P (exec P n) := rfl
/-- **THE ABSTRACT MACHINE's ANSWERS HOLD OF THE MODEL.** -/
theorem exec_sound {P : Program} (hdraw : ∀ rec, Sound P rec → DrawSound P rec) : ∀ n, Sound P (exec P n) := by
  intro n
  induction n using Nat.strongRecOn with
  | _ n ih =>
  cases n with
  | zero => intro c n0 fi tree s K F m ι a w h; cases h
  | succ n =>
    have hs : Sound P (exec P n) := ih n (Nat.lt_succ_self n)
    intro c n0 fi tree s K F m ι a w h hfo hF hd hr hh
    rw [exec_succ] at h
    cases c with
    | skip => exact wpIn_skip ⟨.normal, tree, s, ι, rfl, Ext.refl ι w, hh, h⟩
    | label l => exact wpIn_label ⟨.normal, tree, s, ι, rfl, Ext.refl ι w, hh, h⟩
    | exit id => exact wpIn_exit ⟨.exit id, tree, s, ι, rfl, Ext.refl ι w, hh, h⟩
    | ret => exact wpIn_ret ⟨.ret, tree, s, ι, rfl, Ext.refl ι w, hh, h⟩
    | region id ops draw =>
      have h := region_eq h
      cases draw with
      | false => exact region_sound hs hF hd h hh
      | true =>
        refine wpIn_mono (hdraw _ hs id ops n0 fi tree s _ F m ι a w h hfo hF hd hr hh) ?_
        rintro e a' w' ⟨ex, t, s', ι', e1, e2, e3, e4⟩
        cases ex with
        | normal => exact ⟨.normal, t, s', ι', e1, e2, e3, e4⟩
        | exit id => cases e4
        | ret => cases e4
    | seq x y =>
      refine wpIn_seq (wpIn_mono (hs x n0 fi tree s _ F m ι a w h hfo hF hd hr hh) ?_)
      rintro e a' w' ⟨ex, t, s', ι', rfl, he, hh', hk⟩
      cases ex with
      | normal => exact wpIn_mono (hs y n0 fi t s' K F m ι' a' w' hk hfo hF hd (hr.mono he.le) hh') fun e a w => Post.of_ext he
      | exit id => exact ⟨.exit id, t, s', ι', rfl, he, hh', hk⟩
      | ret => exact ⟨.ret, t, s', ι', rfl, he, hh', hk⟩
    | cond g x y =>
      obtain ⟨v, hv, h1⟩ := optK_true.1 h
      obtain ⟨t, rfl, h2⟩ := AVal.boolK_true.1 h1
      have hg := getO_ok (LocRel.start hh.tr) g _ hv
      generalize hgv : a.eval g = gv at hg
      cases hg
      refine wpIn_cond hgv ?_
      rcases ifK_true.1 h2 with ⟨rfl, h3⟩ | ⟨rfl, h3⟩
      · exact hs x n0 fi tree s K F m ι a w h3 hfo hF hd hr hh
      · exact hs y n0 fi tree s K F m ι a w h3 hfo hF hd hr hh
    | block id x =>
      refine wpIn_block (wpIn_mono (hs x n0 fi tree s _ F m ι a w h hfo hF hd hr hh) ?_)
      rintro e a' w' ⟨ex, t, s', ι', rfl, he, hh', hk⟩
      cases ex with
      | normal => exact ⟨.normal, t, s', ι', rfl, he, hh', hk⟩
      | ret => exact ⟨.ret, t, s', ι', rfl, he, hh', hk⟩
      | exit i =>
        show if i = id then _ else _
        rcases ifK_true.1 (show ifK (Nat.beq i id) _ _ = true from hk) with ⟨e, h3⟩ | ⟨e, h3⟩
        · rw [if_pos (Nat.eq_of_beq_eq_true e)]
          exact ⟨.normal, t, s', ι', rfl, he, hh', h3⟩
        · rw [if_neg (Nat.ne_of_beq_eq_false e)]
          exact ⟨.exit i, t, s', ι', rfl, he, hh', h3⟩
    | scope x =>
      refine wpIn_scope (wpIn_mono (hs x n0 fi tree s _ F m ι a w h hfo hF hd hr hh) ?_)
      rintro e a' w' ⟨ex, t, s', ι', rfl, he, hh', hk⟩
      cases ex with
      | normal => exact ⟨.normal, t, s', ι', rfl, he, hh', hk⟩
      | exit id => exact ⟨.exit id, t, s', ι', rfl, he, hh', hk⟩
      | ret => exact ⟨.ret, t, s', ι', rfl, he, hh', hk⟩
    | rangeFunc g ps x y => exact rangeK_sound hs h hfo hF hd hr hh
    | loop x =>
      let p : Act → World → Nat → Prop := fun a' w' j => j ≤ n + 1 ∧ ∃ t s' ι', Ext ι w ι' w' ∧ Here P n0 fi ι' t s' a' w' ∧ exec P j (.loop (compile P fi.ps fi.ntmps x)) fi t s' K = true
      refine wpIn_loop (fun a' w' => ∃ j, p a' w' j) (fun a' w' => least (p a' w')) ⟨n + 1, Nat.le_refl _, tree, s, ι, Ext.refl ι w, hh, h⟩ fun a' w' hI => ?_
      obtain ⟨⟨hj, t, s', ι', he, hh', hk⟩, hmin⟩ := least_spec hI
      generalize hle : least (p a' w') = j at hj hk hmin
      cases j with
      | zero => cases hk
      | succ j =>
        rw [exec_succ] at hk
        refine wpIn_mono (ih j (by omega) x n0 fi t s' _ F m ι' a' w' hk hfo hF hd (hr.mono he.le) hh') ?_
        rintro e a'' w'' ⟨ex, t2, s2, ι2, rfl, he2, hh2, hk2⟩
        cases ex with
        | normal =>
          have hp : p a'' w'' j := ⟨by omega, t2, s2, ι2, he.trans he2, hh2, hk2⟩
          refine ⟨⟨j, hp⟩, ?_⟩
          have := (least_spec ⟨j, hp⟩).2 j hp
          exact Nat.lt_succ_of_le this
        | exit id => exact ⟨.exit id, t2, s2, ι2, rfl, he.trans he2, hh2, hk2⟩
        | ret => exact ⟨.ret, t2, s2, ι2, rfl, he.trans he2, hh2, hk2⟩
    | _ => cases h
end Go.AM
end
section
/- The abstract machine's drawn regions, part 1: operations that only compute, loads, and operations that make memory. -/
namespace Go.AM
variable [Orc]
section
variable {P : Program} {rec : RecT} {ι : Ren} {s : St} {K : VK}
/-- An operation that only computes answers the same whatever the state. -/
theorem opK_calm {o : Op} {ρ : Operand → Option AVal} (hc : opClass P o = 0) (s s' : St) (K : VK) : opK P rec o ρ s K = opK P rec o ρ s' (fun v _ => K v s) := by
  cases o with
  | move x => rfl
  | assign x => rfl
  | pick c a b => rfl
  | build t ps => rfl
  | nilCheck x => rfl
  | binOp op t x y e =>
    show opBin P op t (ρ x) (ρ y) s K = opBin P op t (ρ x) (ρ y) s' (fun v _ => K v s)
    rfl
  | unOp op t x => rfl
  | makeFunc f a c => rfl
  | slice t x lo hi mx => rfl
  | fieldAddr t x f => rfl
  | field t x f => rfl
  | indexAddr t x i => rfl
  | index t x i => rfl
  | extract x i => rfl
  | convert a b x =>
    show opConvert P a b (ρ x) s K = opConvert P a b (ρ x) s' (fun v _ => K v s)
    unfold opConvert
    have hc : (match convKind P a b with | .int _ => 0 | .same => 0 | _ => 3) = 0 := hc
    generalize convKind P a b = ck at hc
    cases ck with
    | int k => rfl
    | same => rfl
    | _ => simp at hc
  | call c =>
    obtain ⟨callee, args, ats⟩ := c
    cases callee with
    | value f => simp [opClass] at hc
    | invoke r n => simp [opClass] at hc
    | builtin b =>
      cases b with
      | len =>
        show (match args.toList with | [x] => opLen P ats (ρ x) s K | _ => fail 46) = (match args.toList with | [x] => opLen P ats (ρ x) s' (fun v _ => K v s) | _ => fail 46)
        split
        · unfold opLen
          have hc : (match lenInfo P ats with | some (.map, _) => 3 | some _ => 0 | none => 3) = 0 := hc
          cases hl : lenInfo P ats with
          | none => rfl
          | some e =>
            rw [hl] at hc
            obtain ⟨tk, n⟩ := e
            cases tk with
            | map => simp at hc
            | _ => rfl
        · rfl
      | min => rfl
      | max => rfl
      | _ => simp [opClass] at hc
  | _ => simp [opClass] at hc
theorem partK_det {n : Option Nat} {cs : List AVal} {off : Nat} {k : AVal → Bool} (h : partK n cs off k = true) : ∃ v, k v = true ∧ ∀ k' : AVal → Bool, k' v = true → partK n cs off k' = true := by
  cases n with
  | none =>
    obtain ⟨v, hv, hk⟩ := nthK_true.1 (show nthK cs off k = true from h)
    exact ⟨v, hk, fun k' hk' => nthK_true.2 ⟨v, hv, hk'⟩⟩
  | some n =>
    obtain ⟨hle, hk⟩ := segK_true.1 (show segK cs off n (fun l => k (.agg l)) = true from h)
    exact ⟨_, hk, fun k' hk' => segK_true.2 ⟨hle, hk'⟩⟩
/-- One heap says all that another one says. -/
def Grown (s s' : St) : Prop := ∀ b x, PT.get b s.heap = some x → PT.get b s'.heap = some x
theorem Grown.refl (s : St) : Grown s s := fun _ _ h => h
theorem Grown.trans {s s' s'' : St} (h : Grown s s') (h' : Grown s' s'') : Grown s s'' := fun b x e => h' b x (h b x e)
/-- A load answers the same in a heap that says more. -/
theorem opLoad_det {t : TypeId} {x : Option AVal} (h : opLoad P t x s K = true) : ∃ v, K v s = true ∧ ∀ s', Grown s s' → ∀ K' : VK, K' v s' = true → opLoad P t x s' K' = true := by
  obtain ⟨n, hn, h1⟩ := optK_true.1 h
  obtain ⟨a, ha, h2⟩ := optK_true.1 h1
  obtain ⟨b, off, rfl, h3⟩ := AVal.ptrK_true.1 h2
  obtain ⟨cs, ro, hc, h4⟩ := cellsK_true.1 h3
  obtain ⟨v, hv, hd⟩ := partK_det h4
  refine ⟨v, hv, fun s' hg K' hk => optK_true.2 ⟨n, hn, optK_true.2 ⟨_, ha, AVal.ptrK_true.2 ⟨b, off, rfl, cellsK_true.2 ⟨cs, ro, hg _ _ hc, hd _ hk⟩⟩⟩⟩⟩
theorem opClass_load {o : Op} (h : opClass P o = 1) : ∃ t a, o = .load t a := by
  cases o with
  | load t a => exact ⟨t, a, rfl⟩
  | convert a b x =>
    have hc : (match convKind P a b with | .int _ => 0 | .same => 0 | _ => 3) = 1 := h
    split at hc <;> simp at hc
  | call c =>
    obtain ⟨callee, args, ats⟩ := c
    cases callee with
    | value f => simp [opClass] at h
    | invoke r n => simp [opClass] at h
    | builtin b =>
      cases b with
      | len =>
        have hc : (match lenInfo P ats with | some (.map, _) => 3 | some _ => 0 | none => 3) = 1 := h
        split at hc <;> simp at hc
      | _ => simp [opClass] at h
  | _ => simp [opClass] at h
/-- A row that is laid: its object, and its value by its name. -/
def Lays (P : Program) (ι : Ren) (x : AObj) (v : Pos → AVal) (r : World → Result Next) : Prop :=
  ∀ w, ∃ obj u sz, r w = .ok (.value u) { w with heap := w.heap.push obj } ∧ ∀ (ι' : Ren) (q : Pos), Ren.le ι ι' → ι' q = some ⟨w.heap.size, 0, sz, false⟩ →
    VRel ι' (v q) u ∧ ORel P ι' { w with heap := w.heap.push obj } ⟨w.heap.size, 0, sz, false⟩ x
theorem lays_cells {l : List AVal} {v : Pos → AVal} {r : World → Result Next} (hs : ∀ x ∈ l, x.scalar = true)
    (h : ∀ w, ∃ (c : Array Value) (t : TypeId) (u : Value), VRels ι l c.toList ∧ r w = .ok (.value u) { w with heap := w.heap.push (.cells c t) } ∧ ∀ (ι' : Ren) (q : Pos), ι' q = some ⟨w.heap.size, 0, c.size, false⟩ → VRel ι' (v q) u) :
    Lays P ι (.cells l false) v r := by
  intro w
  obtain ⟨c, t, u, hc, hr, hv⟩ := h w
  refine ⟨_, u, c.size, hr, fun ι' q hle hq => ⟨hv ι' q hq, ?_⟩⟩
  have hl := hc.length
  exact ORel.cells (p := ⟨w.heap.size, 0, c.size, false⟩) (c := c) (t := t) (fr := (0, 0)) (by simp) rfl (by simp [hl]) (hc.cellsAt.mono hle) hs (fun _ i _ => by simp)
theorem fillK_det {ρ : Operand → Option AVal} : ∀ (pl : List (Nat × Nat × Operand)) (cs : List AVal) (k : List AVal → Bool), fillK ρ pl cs k = true → ∃ cs', k cs' = true ∧ ∀ k' : List AVal → Bool, k' cs' = true → fillK ρ pl cs k' = true
  | [], cs, k, h => ⟨cs, h, fun k' h' => h'⟩
  | p :: pl, cs, k, h => by
    have h : (optK (ρ p.2.2) fun v => noTup v (v.cellsK fun vs => lenK vs 0 fun m => ifK (Nat.beq m p.2.1) (putAtK vs cs p.1 fun cs => fillK ρ pl cs k) (fail 29))) = true := h
    obtain ⟨v, hv, h⟩ := optK_true.1 h
    obtain ⟨ht, h⟩ := noTup_true.1 h
    rw [cellsK_val, lenK_eq] at h
    rcases ifK_true.1 h with ⟨hm, h⟩ | ⟨_, h⟩
    · obtain ⟨hle, h⟩ := putAtK_true.1 h
      obtain ⟨cs', h1, h2⟩ := fillK_det pl _ k h
      refine ⟨cs', h1, fun k' hk' => ?_⟩
      show (optK (ρ p.2.2) fun v => noTup v (v.cellsK fun vs => lenK vs 0 fun m => ifK (Nat.beq m p.2.1) (putAtK vs cs p.1 fun cs => fillK ρ pl cs k') (fail 29))) = true
      refine optK_true.2 ⟨v, hv, noTup_true.2 ⟨ht, ?_⟩⟩
      rw [cellsK_val, lenK_eq]
      exact ifK_true.2 (.inl ⟨hm, putAtK_true.2 ⟨hle, h2 k' hk'⟩⟩)
    · cases h
theorem alloc_form {o : Oper} {ρ : Operand → Option AVal} (hc : opClass P o.op = 2) (h : opK P rec o.op ρ s K = true) :
    ∃ x v, x.live = true ∧ K (v s.next) { heap := PT.set s.next x s.heap, next := s.next.succ } = true ∧
      ∀ ι ρc, (∀ x, ORl ι (ρ x) (ρc x)) → Lays P ι x v (fun w => (execOp ρc o).run P w) := by
  unfold execOp
  generalize o.op = op at hc h
  cases op with
  | alloc t =>
    obtain ⟨cs, hcs, h1⟩ := optK_true.1 (show optK (zeroCells P t) (fun cs => newCellsK cs s K) = true from h)
    unfold newCellsK at h1
    rw [allocK_eq] at h1
    refine ⟨.cells cs false, fun q => .ptr q 0, rfl, h1, fun ι ρc _ => ?_⟩
    obtain ⟨a, ha, rfl⟩ := zeroCells_some hcs
    refine lays_cells (zeroV_scalars ha) fun w => ?_
    obtain ⟨v, hv, hr⟩ := run_zeroA (ι := ι) (w := w) ha
    refine ⟨v.cells, t, _, hr.cells, ?_, fun ι' q hq => .ptr (p := ⟨w.heap.size, 0, v.cells.size, false⟩) (off := 0) hq⟩
    simp only [Instr.alloc, newVar, newRow, Sem.run_bind, hv, Result.andThen_ok, run_newObj, Sem.run_pure]
  | box t x =>
    obtain ⟨a, ha, h1⟩ := optK_true.1 (show optK (ρ x) _ = true from h)
    obtain ⟨ht, h2⟩ := noTup_true.1 h1
    rw [cellsK_val] at h2
    unfold newCellsK at h2
    rw [allocK_eq] at h2
    refine ⟨.cells a.cells false, fun q => .ptr q 0, rfl, h2, fun ι ρc hρ => ?_⟩
    have hr := hρ x a ha
    refine lays_cells (hr.cells_scalar ht) fun w => ?_
    refine ⟨(ρc x).cells, t, _, hr.cells, ?_, fun ι' q hq => .ptr (p := ⟨w.heap.size, 0, (ρc x).cells.size, false⟩) (off := 0) hq⟩
    simp only [Instr.box, newVar, newRow, Sem.run_bind, run_newObj, Result.andThen_ok, Sem.run_pure]
  | makeMap t r =>
    rcases ifK_true.1 (show ifK r.isNone _ _ = true from h) with ⟨hr, h1⟩ | ⟨_, h1⟩
    · rcases ifK_true.1 h1 with ⟨_, h2⟩ | ⟨_, h2⟩
      · cases r with
        | some r => cases hr
        | none =>
          rw [allocK_eq] at h2
          refine ⟨.map [] 0, fun q => .map q, rfl, h2, fun ι ρc hρ w => ?_⟩
          refine ⟨.map #[] 0, .map (some w.heap.size), 0, ?_, fun ι' q _ hq => ⟨VRel.map (p := ⟨w.heap.size, 0, 0, false⟩) hq, .map (es' := #[]) (by simp) rfl (fun i e h => by simp at h) rfl⟩⟩
          simp [Instr.makeMap]
      · cases h2
    · cases h1
  | makeSlice t l c =>
    have h : opMakeSlice P t (ρ l) (ρ c) s K = true := h
    obtain ⟨e, he, h⟩ := optK_true.1 h
    obtain ⟨zs, hzs, h⟩ := optK_true.1 h
    obtain ⟨el, inf, hd, hel, rfl⟩ := slcInfo_some he
    rw [slcElem_of hd] at hzs
    simp only [Option.bind_some] at hzs
    rw [lenK_eq] at h
    rcases ifK_true.1 h with ⟨hzn, h⟩ | ⟨_, h⟩
    · have hzn : zs.length = inf.size := by simpa using Nat.eq_of_beq_eq_true hzn
      obtain ⟨a, ha, h⟩ := optK_true.1 h
      obtain ⟨b, hb, h⟩ := optK_true.1 h
      obtain ⟨j, n, rfl, h5⟩ := AVal.intK_true.1 h
      obtain ⟨k, m, rfl, h6⟩ := AVal.intK_true.1 h5
      obtain ⟨n', rfl, h7⟩ := idxK_true.1 h6
      obtain ⟨m', rfl, h8⟩ := idxK_true.1 h7
      clear h h5 h6 h7
      rcases ifK_true.1 h8 with ⟨h1, h9⟩ | ⟨_, h9⟩
      · rcases ifK_true.1 h9 with ⟨h2, h10⟩ | ⟨_, h10⟩
        · rcases ifK_true.1 h10 with ⟨h3, h11⟩ | ⟨_, h11⟩
          · rw [repK_eq, allocK_eq, List.append_nil] at h11
            refine ⟨.cells (List.replicate m' zs).flatten false, fun q => .slice q 0 n' (.lim m'), rfl, h11, fun ι ρc hρ => ?_⟩
            have h1 : n' ≤ m' := Nat.le_of_ble_eq_true h1
            have h2 : m' * inf.bytes ≤ 1099511627776 := Nat.le_of_ble_eq_true h2
            have h3 : m' ≤ 1099511627776 := Nat.le_of_ble_eq_true h3
            have hra := hρ l _ ha
            have hrb := hρ c _ hb
            generalize hvl : ρc l = vl at hra
            generalize hvc : ρc c = vc at hrb
            cases hra; cases hrb
            have hsc : ∀ x ∈ zs, x.scalar = true := by
              obtain ⟨a, ha, rfl⟩ := zeroCells_some hzs
              exact zeroV_scalars ha
            refine lays_cells (rep_scalars hsc m') fun w => ?_
            obtain ⟨v, hv, hvz, _⟩ := run_zeroCells (ι := ι) (w := w) hzs
            have hm2 : ((inf.bytes * (m' : Int)) : Int) = ((m' * inf.bytes : Nat) : Int) := by rw [Int.natCast_mul, Int.mul_comm]
            have hbig : ¬ ((m' : Int) < 0 ∨ (inf.bytes : Int) * (m' : Int) > 2 ^ 48) := by rw [hm2]; omega
            have hcells : ∃ cs : Array Value, VRels ι (List.replicate m' zs).flatten cs.toList ∧
                ((do let zero ← if m' * inf.size = 0 then pure #[] else do pure (← zeroValue el).cells
                     let a ← newRow el ((Array.range (m' * inf.size)).map (zero[· % zero.size]!))
                     pure (Value.slice (some a) n' m')) : Sem Value).run P w = .ok (.slice (some ⟨w.heap.size, 0, none⟩) n' m') { w with heap := w.heap.push (.cells cs el) } := by
              by_cases h0 : m' * inf.size = 0
              · refine ⟨#[], ?_, ?_⟩
                · have : (List.replicate m' zs).flatten = [] := by
                    apply List.eq_nil_of_length_eq_zero
                    simp [hzn, h0]
                  rw [this]; exact .nil
                · have hr0 : Array.range 0 = #[] := by simp [Array.range]
                  simp [h0, newRow, hr0]
              · refine ⟨(Array.range (m' * inf.size)).map (v.cells[· % v.cells.size]!), by rw [← hzn]; exact hvz.rep m', ?_⟩
                simp [h0, newRow, hv]
            obtain ⟨cs, hcs, hrun⟩ := hcells
            refine ⟨cs, el, .slice (some ⟨w.heap.size, 0, none⟩) n' m', hcs, ?_, fun ι' q hq => VRel.slice (p := ⟨w.heap.size, 0, cs.size, false⟩) (off := 0) hq⟩
            have hc1 : ((decide ((m' : Int) < 0) || decide ((inf.bytes : Int) * (m' : Int) > 2 ^ 48)) || decide ((n' : Int) < 0) || decide ((n' : Int) > (m' : Int))) = false := by
              simp only [Bool.or_eq_false_iff, decide_eq_false_iff_not]
              refine ⟨⟨⟨?_, ?_⟩, ?_⟩, ?_⟩ <;> omega
            simp only [hvl, hvc, Instr.makeSlice, asInt, asIntOf, Sem.run_bind, run_underlyingA hd, Result.andThen_ok, Sem.run_pure, run_typeInfoA hel, wrap_nat h3, wrap_nat (Nat.le_trans h1 h3), hc1,
              Bool.false_eq_true, if_false, run_askRoom, run_sizeOfA (tySize_info hel), Int.toNat_natCast]
            have := congrArg (fun r => r.andThen fun v w => Result.ok (Next.value v) w) hrun
            simpa using this
          · cases h11
        · cases h10
      · cases h9
    · cases h
  | buildSlice t len parts =>
    have h : opBuildSlice P t len parts ρ s K = true := h
    obtain ⟨e, he, h⟩ := optK_true.1 h
    obtain ⟨zs, hzs, h⟩ := optK_true.1 h
    obtain ⟨el, inf, hd, hel, rfl⟩ := slcInfo_some he
    rw [slcElem_of hd] at hzs
    simp only [Option.bind_some] at hzs
    rw [lenK_eq] at h
    rcases ifK_true.1 h with ⟨hzn, h⟩ | ⟨_, h⟩
    · have hzn : zs.length = inf.size := by simpa using Nat.eq_of_beq_eq_true hzn
      rcases ifK_true.1 h with ⟨hsm, h⟩ | ⟨_, h⟩
      · have hsm : len * inf.size ≤ 16777216 := Nat.le_of_ble_eq_true hsm
        rw [repK_eq, List.append_nil] at h
        obtain ⟨cs, hcs, hdet⟩ := fillK_det _ _ _ h
        rw [allocK_eq] at hcs
        refine ⟨.cells cs false, fun q => .slice q 0 len (.lim len), rfl, hcs, fun ι ρc hρ => ?_⟩
        have hsc : ∀ x ∈ zs, x.scalar = true := by
          obtain ⟨a, ha, rfl⟩ := zeroCells_some hzs
          exact zeroV_scalars ha
        obtain ⟨h3, h4⟩ := placesA_ok (es := inf.size) parts.toList
        have hall : ∀ w : World, ∃ (c : Array Value), VRels ι cs c.toList ∧ (∀ x ∈ cs, x.scalar = true) ∧ Sem.run P (do pure (Next.value (← Instr.buildSlice t len (parts.map fun (i, x) => (i, ρc x))))) w =
            .ok (.value (.slice (some ⟨w.heap.size, 0, none⟩) len len)) { w with heap := w.heap.push (.cells c el) } := by
          intro w
          obtain ⟨v, hv, hvz, _⟩ := run_zeroCells (ι := ι) (w := w) hzs
          have hmap : (parts.map fun (i, x) => (i, ρc x)).toList = parts.toList.map fun x => (x.1, ρc x.2) := by simp
          have hzero : ∃ z : Array Value, ((len * inf.size = 0 ∧ z = #[]) ∨ (¬ len * inf.size = 0 ∧ z = v.cells)) ∧
              VRels ι (List.replicate len zs).flatten ((Array.range (len * inf.size)).map (z[· % z.size]!)).toList := by
            by_cases h0 : len * inf.size = 0
            · refine ⟨#[], .inl ⟨h0, rfl⟩, ?_⟩
              have : (List.replicate len zs).flatten = [] := by
                apply List.eq_nil_of_length_eq_zero
                simp [hzn, h0]
              rw [this, h0]
              have hr0 : Array.range 0 = #[] := by simp [Array.range]
              rw [hr0]
              simpa using VRels.nil (ι := ι)
            · exact ⟨v.cells, .inr ⟨h0, rfl⟩, by rw [← hzn]; exact hvz.rep len⟩
          obtain ⟨z, hz1, hz2⟩ := hzero
          obtain ⟨cs', c, f1, f2, f3, f4⟩ := fillK_ok (place := fun i => some (i * inf.size, inf.size)) (ρc := ρc) parts.toList _ _ _ (fun c => @decide (c = cs) (Classical.propDecidable _)) (fun x _ => hρ x.2) h3 (fun j x hx => ⟨_, _, h4 j x hx, rfl⟩) hz2 (rep_scalars hsc len) (hdet _ (by simp))
          have f4 : cs' = cs := by simpa using f4
          subst f4
          refine ⟨c, f2, f3, ?_⟩
          have hn : ¬ len * inf.size > 2 ^ 24 := by omega
          simp only [Instr.buildSlice, Sem.run_bind, run_underlyingA hd, Result.andThen_ok, run_sizeOfA (tySize_info hel), hn, if_false, hmap]
          rcases hz1 with ⟨h0, rfl⟩ | ⟨h0, rfl⟩
          · simp only [h0, if_true, Sem.run_bind, Sem.run_pure, Result.andThen_ok] at f1 ⊢
            rw [f1]
            simp [newRow]
          · simp only [h0, if_false, Sem.run_bind, hv, Sem.run_pure, Result.andThen_ok]
            rw [f1]
            simp [newRow]
        intro w
        obtain ⟨_, _, hs, _⟩ := hall w
        exact lays_cells hs (fun w => by
          obtain ⟨c, h1, _, h2⟩ := hall w
          exact ⟨c, el, _, h1, h2, fun ι' q hq => VRel.slice (p := ⟨w.heap.size, 0, c.size, false⟩) (off := 0) hq⟩) w
      · cases h
    · cases h
  | convert a b x =>
    have hc : (match convKind P a b with | .int _ => 0 | .same => 0 | _ => 3) = 2 := hc
    split at hc <;> simp at hc
  | call c =>
    obtain ⟨callee, args, ats⟩ := c
    cases callee with
    | value f => simp [opClass] at hc
    | invoke r n => simp [opClass] at hc
    | builtin b =>
      cases b with
      | len =>
        have hc : (match lenInfo P ats with | some (.map, _) => 3 | some _ => 0 | none => 3) = 2 := hc
        split at hc <;> simp at hc
      | _ => simp [opClass] at hc
  | _ => simp [opClass] at hc
end
end Go.AM
end
