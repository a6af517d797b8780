/- The abstract machine's operations hold of the model's, part 6: appends, copies, lengths, least and greatest, clearing, conversions. -/
import Derived.Test.YtoipnedbpjfeiaaDoorAmOps5
set_option linter.all false
set_option linter.unusedSectionVars false
set_option linter.unusedSimpArgs false
set_option linter.unusedVariables false
namespace Go.AM
section
variable {P : Program} {ι : Ren} {s : St} {w : World} {K : VK}

/-! ### What is taken -/
theorem bytesK_eq (l : List UInt8) : ∀ k : List AVal → Bool, bytesK l k = k (l.map fun c => .int .u8 (c.toNat : Int)) := by
  induction l with
  | nil => intro k; rfl
  | cons c l ih =>
    intro k
    have : bytesK (c :: l) k = natK c.toNat fun n => bytesK l fun r => k (.int .u8 (.ofNat n) :: r) := rfl
    rw [this, natK_eq, ih]
    rfl
theorem bytes_rel : ∀ (l : List UInt8), VRels ι (l.map fun c => .int .u8 (c.toNat : Int)) (l.map fun c => Value.int .u8 (c.toNat : Int))
  | [] => .nil
  | c :: l => .cons (.int _ _) (bytes_rel l)
theorem srcK_ok {es : Nat} {x : AVal} {vx : Value} {k : List AVal → Nat → Bool} (h : srcK es x s k = true) (hw : WRel P ι s w) (hx : VRel ι x vx) :
    ∃ cs us n, VRels ι cs us ∧ (∀ a ∈ cs, a.scalar = true) ∧ cs.length = n * es ∧ (∀ w', (Builtin.lenOf vx).run P w' = .ok n w') ∧ (∀ d, (Builtin.firstCells es n vx).run P { w with drawn := d } = .ok us.toArray { w with drawn := d }) ∧
      (∀ m d, m ≤ n → (Builtin.firstCells es m vx).run P { w with drawn := d } = .ok (us.take (m * es)).toArray { w with drawn := d }) ∧ k cs n = true := by
  cases x with
  | str l =>
    have h : ifK (Nat.beq es 1) (lenK l 0 fun n => bytesK l fun cs => k cs n) (fail 31) = true := h
    rcases ifK_true.1 h with ⟨he, h2⟩ | ⟨_, h⟩
    · have he : es = 1 := Nat.eq_of_beq_eq_true he
      subst he
      rw [lenK_eq, bytesK_eq, Nat.zero_add] at h2
      cases hx
      have hfc : ∀ m, m ≤ l.length → ∀ w' : World, (Builtin.firstCells 1 m (.string ⟨l.toArray⟩)).run P w' = .ok ((l.map fun c => Value.int .u8 (c.toNat : Int)).take (m * 1)).toArray w' := by
        intro m hm w'
        have e1 : (⟨l.toArray⟩ : ByteArray).extract 0 m = ⟨(l.take m).toArray⟩ := by
          apply ByteArray.ext
          simp [ByteArray.data_extract]
        simp only [Builtin.firstCells, e1, Sem.run_pure]
        simp [List.map_take]
      refine ⟨_, _, l.length, bytes_rel l, ?_, by simp, fun w' => by simp [Builtin.lenOf, size_arr], fun d => ?_, fun m d hm => hfc m hm _, h2⟩
      · intro a ha
        obtain ⟨c, _, rfl⟩ := List.mem_map.1 ha
        rfl
      · rw [hfc l.length (Nat.le_refl _), Nat.mul_one, List.take_of_length_le (by simp)]
    · cases h
  | slice b off n c =>
    rcases hx.slice_inv with ⟨p, o, cc, hb, rfl, hs⟩ | ⟨rfl, rfl, ad, rfl⟩
    rotate_left
    · refine ⟨[], [], 0, .nil, by simp, by simp, fun w' => by simp [Builtin.lenOf], fun d => by simp [Builtin.firstCells, loadCells, loadCellsFrom], fun m d hm => ?_, h⟩
      have : m = 0 := by omega
      subst this
      simp [Builtin.firstCells, loadCells, loadCellsFrom]
    have h : ifK (Nat.beq n 0) (k [] 0) (cellsK b s fun cs _ => segK cs off (Nat.mul n es) fun l => k l n) = true := h
    rcases ifK_true.1 h with ⟨h0, h⟩ | ⟨h0, h⟩
    · have h0 : n = 0 := Nat.eq_of_beq_eq_true h0
      subst h0
      refine ⟨[], [], 0, .nil, by simp, by simp, fun w' => by simp [Builtin.lenOf], fun d => by simp [Builtin.firstCells, loadCells, loadCellsFrom], fun m d hm => ?_, h⟩
      have : m = 0 := by omega
      subst this
      simp [Builtin.firstCells, loadCells, loadCellsFrom]
    · have h0 : n ≠ 0 := by intro e; subst e; cases h0
      obtain ⟨cs, ro, hc, h⟩ := cellsK_true.1 h
      obtain ⟨hle, h⟩ := segK_true.1 h
      have ho : o = p.off + off := by
        cases hs with
        | lim ho => exact ho
        | opn _ _ _ ha => exact ha (by omega)
      subst ho
      obtain ⟨ob, hob, hr⟩ := hw.objs b p hb
      rw [hc] at hob; cases hob
      obtain ⟨vs, hvs, hvl, hcell⟩ := seg_vals hr off (n * es) hle
      have hrun : ∀ m d, m ≤ n → (Builtin.firstCells es m (.slice (some ⟨p.blk, p.off + off, none⟩) n cc)).run P { w with drawn := d } = .ok (vs.take (m * es)).toArray { w with drawn := d } := by
        intro m d hm
        have hml : m * es ≤ n * es := Nat.mul_le_mul_right es hm
        have := run_loadCells_seg (P := P) (w := { w with drawn := d }) (b := p.blk) (o := p.off + off) (vs := vs.take (m * es)) (fun j v hj => by
          rw [List.getElem?_take] at hj
          split at hj
          · exact hcell j v hj
          · cases hj)
        rw [List.length_take, hvl, Nat.min_eq_left hml] at this
        exact this
      refine ⟨_, vs, n, hvs, fun a ha => hr.scalars a (mem_seg ha), ?_, fun w' => by simp [Builtin.lenOf], fun d => ?_, hrun, h⟩
      · have := hvs.length
        rw [this, hvl]
      · have := hrun n d (Nat.le_refl _)
        rwa [List.take_of_length_le (by rw [hvl]; exact Nat.le_refl _)] at this
  | nilSlice =>
    cases hx
    refine ⟨[], [], 0, .nil, by simp, by simp, fun w' => by simp [Builtin.lenOf], fun d => by simp [Builtin.firstCells], fun m d hm => by simp [Builtin.firstCells], h⟩
  | _ => cases h

/-! ### Appends -/
theorem growBy_le (n : Nat) : ∀ (r c : Nat), Builtin.growBy n r c ≤ max c (n + (n + 768) / 4)
  | 0, c => by simp [Builtin.growBy]; omega
  | r + 1, c => by
    unfold Builtin.growBy
    split
    · omega
    · have := growBy_le n r (c + (c + 768) / 4)
      omega
theorem nextcap_le {need cap : Nat} (h : cap < need) : Builtin.nextslicecap need cap ≤ 2 * need + 192 := by
  unfold Builtin.nextslicecap
  split
  · omega
  · split
    · omega
    · have := growBy_le need 4 cap
      omega
/-- The second argument is no count of zeros. -/
def NoInt (P : Program) (ts : Array TypeId) : Prop := ts[1]? = none ∨ ∃ u d, ts[1]? = some u ∧ P.underlying u = some d ∧ ∀ k, d ≠ .int k
theorem appendInfo_some {ts : Array TypeId} {e : Nat × Nat} (h : appendInfo P ts = some e) :
    ∃ t el inf zs, ts[0]? = some t ∧ P.underlying t = some (.slice el) ∧ P.info? el = some inf ∧ e = (inf.size, inf.bytes) ∧ 0 < inf.size ∧ 0 < inf.bytes ∧ inf.bytes ≤ 1048576 ∧
      zeroCells P el = some zs ∧ zs.length = inf.size ∧ NoInt P ts := by
  unfold appendInfo at h
  split at h
  · rename_i t ht
    split at h
    · rename_i es eb hs
      split at h
      · rename_i hc
        obtain ⟨h1, h2, h3, h4⟩ := hc
        obtain ⟨el, inf, hd, hel, heq⟩ := slcInfo_some hs
        cases heq
        rw [slcElem_of hd] at h4
        simp only [Option.bind_some, Option.map_eq_some_iff] at h4
        obtain ⟨zs, hz, hzl⟩ := h4
        split at h
        · rename_i u hu
          split at h
          · cases h
          · rename_i d hn hd'
            cases h
            exact ⟨t, el, inf, zs, ht, hd, hel, rfl, h1, h2, h3, hz, hzl, .inr ⟨u, d, hu, hd', fun k e => hn k e⟩⟩
          · cases h
        · rename_i hu
          cases h
          exact ⟨t, el, inf, zs, ht, hd, hel, rfl, h1, h2, h3, hz, hzl, .inl hu⟩
      · cases h
    · cases h
  · cases h
theorem noInt_match {d : TypeDesc} (h : ∀ k, d ≠ .int k) : (match d with | .int _ => true | _ => false) = false := by
  cases d <;> first | rfl | exact absurd rfl (h _)
/-- A new row that an append makes. -/
theorem grow_ok {el : TypeId} {inf : TypeInfo} {cs : List AVal} {us zs : List Value} {need nc : Nat} {k : VK} (h : growK inf.size cs need s k = true) (hw : WRel P ι s w) (hc : VRels ι cs us) (hs : ∀ x ∈ cs, x.scalar = true)
    (hl : cs.length = need * inf.size) (hz : zs.length = (nc - need) * inf.size) (hn : need ≤ nc) (he : 0 < inf.size) :
    FineV P ι w k (.ok (.slice (some ⟨w.heap.size, 0, none⟩) need nc) { w with heap := w.heap.push (.cells (us ++ zs).toArray el) }) := by
  unfold growK at h
  rw [allocK_eq] at h
  have hul := hc.length
  have hsz : (us ++ zs).toArray.size = nc * inf.size := by
    simp only [List.size_toArray, List.length_append, ← hul, hl, hz]
    rw [← Nat.add_mul]; congr 1; omega
  obtain ⟨g1, g2⟩ := hw.alloc (.cells cs false) (.cells (us ++ zs).toArray el) ⟨w.heap.size, 0, nc * inf.size, false⟩ rfl rfl
    (ORel.cells (p := ⟨w.heap.size, 0, nc * inf.size, false⟩) (c := (us ++ zs).toArray) (t := el) (fr := (0, 0)) (by simp) hsz (by simp; omega)
      (fun i a e => by
        obtain ⟨v, hv, hr⟩ := (hc.mono (Ren.le_set hw.next_none)).get e
        refine ⟨v, ?_, hr⟩
        have hlt : i < us.length := (List.getElem?_eq_some_iff.1 hv).1
        simp [List.getElem?_append_left hlt, hv]) hs (fun _ i _ => by simp))
  refine ⟨_, _, _, _, _, rfl, g2, g1, ?_, h⟩
  exact VRel.opn (p := ⟨w.heap.size, 0, nc * inf.size, false⟩) (Ren.set_same _ _ _) he hn (.inr (by simp)) (fun _ => rfl)
theorem run_app_room {ts : Array TypeId} {t el ty : TypeId} {inf : TypeInfo} {base : Option Addr} {len cap n : Nat} {vx : Value} {us : Array Value} (h0 : ts[0]? = some t) (hd : P.underlying t = some (.slice el)) (hel : P.info? el = some inf)
    (hz : NoInt P ts) (hlen : ∀ w, (Builtin.lenOf vx).run P w = .ok n w) (hfc : (Builtin.firstCells inf.size n vx).run P w = .ok us w) (hr : len + n ≤ cap) :
    (Builtin.append_ ts ty #[.slice base len cap, vx]).run P w =
      (Sem.run P (do if let some a := base then storeCells (a.add (len * inf.size)) us.toList
                     pure (.slice base (len + n) cap)) w) := by
  have hsz : (sizeOf el).run P = fun w => .ok inf.size w := funext fun w => run_sizeOfA (tySize_info hel)
  rcases hz with h1 | ⟨u, d, h1, h2, h3⟩
  · simp [Builtin.append_, h0, h1, run_underlyingA hd, run_sizeOfA (tySize_info hel), hlen, hr, hfc]
    cases base <;> rfl
  · have hm := noInt_match h3
    simp [Builtin.append_, h0, h1, run_underlyingA hd, run_underlyingA h2, run_sizeOfA (tySize_info hel), hlen, hr, hfc, hm]
    cases base <;> rfl
theorem run_app_grow {ts : Array TypeId} {t el ty : TypeId} {inf : TypeInfo} {base : Option Addr} {len cap n : Nat} {vx z : Value} {os us : Array Value} (h0 : ts[0]? = some t) (hd : P.underlying t = some (.slice el)) (hel : P.info? el = some inf)
    (hz : NoInt P ts) (hlen : ∀ w, (Builtin.lenOf vx).run P w = .ok n w) (hfo : (Builtin.firstCells inf.size len (.slice base len cap)).run P w.drew = .ok os w.drew)
    (hfc : (Builtin.firstCells inf.size n vx).run P w.drew = .ok us w.drew)
    (hzv : (zeroValue el).run P w.drew = .ok z w.drew) (hr : ¬ len + n ≤ cap) (h63 : len + n ≤ 9223372036854775807) (hfit : Builtin.nextslicecap (len + n) cap * inf.bytes ≤ 281474976710656) :
    (Builtin.append_ ts ty #[.slice base len cap, vx]).run P w =
      .ok (.slice (some ⟨w.heap.size, 0, none⟩) (len + n) (grownCap w (len + n) cap el))
        (w.drew.alloc (.cells (os ++ (us ++ Builtin.zeroCells z.cells (grownCap w (len + n) cap el - (len + n)))) el)) := by
  have h63' : ¬ (9223372036854775807 < ((len : Int) + (n : Int))) := by omega
  have h48' : ¬ (281474976710656 < Builtin.nextslicecap (len + n) cap * inf.bytes) := by omega
  have hti : ∀ w, (typeInfo el).run P w = .ok inf w := fun w => run_typeInfoA hel
  rcases hz with h1 | ⟨u, d, h1, h2, h3⟩
  · simp [Builtin.append_, h0, h1, run_underlyingA hd, run_sizeOfA (tySize_info hel), hti, hlen, hr, hfc, hfo, hzv, h63', h48', Question.forced, newRow, grownCap]
  · have hm := noInt_match h3
    simp [Builtin.append_, h0, h1, run_underlyingA hd, run_underlyingA h2, run_sizeOfA (tySize_info hel), hti, hlen, hr, hfc, hfo, hzv, hm, h63', h48', Question.forced, newRow, grownCap]
theorem grownCap_ge {w : World} {need old : Nat} {e : TypeId} : need ≤ grownCap w need old e := by
  simp [grownCap, Question.cut]
theorem zeroCells_size (z : Array Value) (n : Nat) : (Builtin.zeroCells z n).size = n * z.size := by simp [Builtin.zeroCells]
/-- An append that makes a new row. -/
theorem app_grow {ts : Array TypeId} {t el ty : TypeId} {inf : TypeInfo} {base : Option Addr} {len cap n : Nat} {vx : Value} {s' : St} {cs co : List AVal} {us os : List Value} {zs : List AVal} {k : VK}
    (h0 : ts[0]? = some t) (hd : P.underlying t = some (.slice el)) (hel : P.info? el = some inf) (hz : NoInt P ts) (he : 0 < inf.size) (hzs : zeroCells P el = some zs) (hzl : zs.length = inf.size)
    (hb : inf.bytes ≤ 1048576) (hsm : (len + n) * inf.bytes ≤ 1099511627776) (hb0 : 0 < inf.bytes)
    (hlen : ∀ w, (Builtin.lenOf vx).run P w = .ok n w) (hfo : (Builtin.firstCells inf.size len (.slice base len cap)).run P w.drew = .ok os.toArray w.drew)
    (hfc : (Builtin.firstCells inf.size n vx).run P w.drew = .ok us.toArray w.drew) (hr : ¬ len + n ≤ cap)
    (hw : WRel P ι s' w) (ho : VRels ι co os) (hu : VRels ι cs us) (hso : ∀ x ∈ co, x.scalar = true) (hsu : ∀ x ∈ cs, x.scalar = true) (hlo : co.length = len * inf.size) (hlu : cs.length = n * inf.size)
    (h : growK inf.size (co ++ cs) (len + n) s' k = true) : FineV P ι w k ((Builtin.append_ ts ty #[.slice base len cap, vx]).run P w) := by
  obtain ⟨z, hzv, hzz, _⟩ := run_zeroCells (P := P) (ι := ι) (w := w.drew) hzs
  have hneed : len + n ≤ 1099511627776 := by
    have := Nat.le_mul_of_pos_right (len + n) hb0
    omega
  have hfit : Builtin.nextslicecap (len + n) cap * inf.bytes ≤ 281474976710656 := by
    have h1 := nextcap_le (need := len + n) (cap := cap) (by omega)
    have h2 : Builtin.nextslicecap (len + n) cap * inf.bytes ≤ (2 * (len + n) + 192) * inf.bytes := Nat.mul_le_mul_right _ h1
    have h3 : (2 * (len + n) + 192) * inf.bytes = 2 * ((len + n) * inf.bytes) + 192 * inf.bytes := by rw [Nat.add_mul, Nat.mul_assoc]
    omega
  rw [run_app_grow h0 hd hel hz hlen hfo hfc hzv hr (by omega) hfit]
  have hzz' := hzz.length
  simp at hzz'
  have hg : len + n ≤ grownCap w (len + n) cap el := grownCap_ge
  have := grow_ok (P := P) (ι := ι) (w := w.drew) (inf := inf) (el := el) (cs := co ++ cs) (us := os ++ us) (zs := (Builtin.zeroCells z.cells (grownCap w (len + n) cap el - (len + n))).toList) (nc := grownCap w (len + n) cap el) h
    (hw.drawn _) (ho.append hu) (fun x hx => by rcases List.mem_append.1 hx with hx | hx; exact hso x hx; exact hsu x hx) (by simp [hlo, hlu, Nat.add_mul]) (by simp [zeroCells_size, ← hzz', hzl]) hg he
  obtain ⟨v, w', ι', s2, a, e1, e2, e3, e4, e5⟩ := this
  refine ⟨v, w', ι', s2, a, ?_, (Ext.drawn ι w _).trans e2, e3, e4, e5⟩
  rw [← e1]
  congr 2
  simp [World.alloc, World.drew]
theorem smallK_true {need eb : Nat} {x : Bool} (h : smallK need eb x = true) : need * eb ≤ 1099511627776 ∧ x = true := by
  rcases ifK_true.1 h with ⟨h1, h⟩ | ⟨_, h⟩
  · exact ⟨Nat.le_of_ble_eq_true h1, h⟩
  · cases h
/-- The cells of a slice that is not empty. -/
theorem own_cells {b : Pos} {p : Place} {off len o c es : Nat} {cap : Cap} {cs : List AVal} {ro : Bool} (hw : WRel P ι s w) (hb : ι b = some p) (hs : SRel p off len o c cap) (hc : PT.get b s.heap = some (.cells cs ro))
    (hle : off + len * es ≤ cs.length) (h0 : len ≠ 0) : ∃ os, VRels ι ((cs.drop off).take (len * es)) os ∧ os.length = len * es ∧ (∀ a ∈ (cs.drop off).take (len * es), a.scalar = true) ∧
      ∀ d, (Builtin.firstCells es len (.slice (some ⟨p.blk, o, none⟩) len c)).run P { w with drawn := d } = .ok os.toArray { w with drawn := d } := by
  have ho : o = p.off + off := by
    cases hs with
    | lim ho => exact ho
    | opn _ _ _ ha => exact ha (by omega)
  subst ho
  obtain ⟨ob, hob, hr⟩ := hw.objs b p hb
  rw [hc] at hob; cases hob
  obtain ⟨vs, hvs, hvl, hcell⟩ := seg_vals hr off (len * es) hle
  refine ⟨vs, hvs, hvl, fun a ha => hr.scalars a (mem_seg ha), fun d => ?_⟩
  have := run_loadCells_seg (P := P) (w := { w with drawn := d }) (b := p.blk) (o := p.off + off) (vs := vs) (fun j v hj => hcell j v hj)
  rw [hvl] at this
  exact this
theorem ORel.cells_inv {p : Place} {ob : AObj} {cs : List AVal} {ro : Bool} (h : ORel P ι w p ob) (e : ob = .cells cs ro) : p.ro = ro ∧ ∃ (arr : Array Value) (t : TypeId) (fr : Nat × Nat), w.heap[p.blk]? = some (.cells arr t fr) ∧
    arr.size = p.size ∧ p.off + cs.length ≤ arr.size ∧ CellsAt ι cs p.off arr ∧ (p.ro = false → ∀ i, i < arr.size → ¬ (fr.1 ≤ i ∧ i < fr.2)) := by
  cases h with
  | cells x1 x2 x3 x4 x5 x6 => cases e; exact ⟨rfl, _, _, _, x1, x2, x3, x4, x6⟩
  | _ => cases e
/-- An append whose row has room behind what is known of it: the old name is given up. -/
theorem app_open {ts : Array TypeId} {t el ty : TypeId} {inf : TypeInfo} {b : Pos} {p : Place} {off len o c n : Nat} {vy : Value} {cs co new : List AVal} {us : List Value} {zs : List AVal}
    (h0 : ts[0]? = some t) (hd : P.underlying t = some (.slice el)) (hel : P.info? el = some inf) (hz : NoInt P ts) (he : 0 < inf.size) (hzs : zeroCells P el = some zs) (hzl : zs.length = inf.size)
    (hb1 : inf.bytes ≤ 1048576) (hsm : (len + n) * inf.bytes ≤ 1099511627776) (hb0 : 0 < inf.bytes) (hlen : ∀ w, (Builtin.lenOf vy).run P w = .ok n w)
    (hfc : ∀ d, (Builtin.firstCells inf.size n vy).run P { w with drawn := d } = .ok us.toArray { w with drawn := d }) (hn : n ≠ 0)
    (hw : WRel P ι s w) (hb : ι b = some p) (hc : PT.get b s.heap = some (.cells cs false)) (hcl : len ≤ c) (hbd : c = 0 ∨ o + c * inf.size = p.size) (ha : 0 < len → o = p.off + off)
    (hco : (len = 0 ∧ co = []) ∨ (len ≠ 0 ∧ off + len * inf.size ≤ cs.length ∧ co = (cs.drop off).take (len * inf.size)))
    (hu : VRels ι new us) (hsu : ∀ x ∈ new, x.scalar = true) (hlu : new.length = n * inf.size)
    (h : growK inf.size (co ++ new) (len + n) { heap := PT.set b .dead s.heap, next := s.next } K = true) : FineV P ι w K ((Builtin.append_ ts ty #[.slice (some ⟨p.blk, o, none⟩) len c, vy]).run P w) := by
  have hsrel : SRel p off len o c (.opn inf.size) := .opn he hcl hbd ha
  have hold : ∃ os, VRels ι co os ∧ co.length = len * inf.size ∧ (∀ a ∈ co, a.scalar = true) ∧
      (Builtin.firstCells inf.size len (.slice (some ⟨p.blk, o, none⟩) len c)).run P w.drew = .ok os.toArray w.drew := by
    rcases hco with ⟨rfl, rfl⟩ | ⟨hl0, hle, rfl⟩
    · exact ⟨[], .nil, by simp, by simp, by simp [Builtin.firstCells, loadCells, loadCellsFrom]⟩
    · obtain ⟨os, g1, g2, g3, g4⟩ := own_cells (es := inf.size) hw hb hsrel hc hle hl0
      exact ⟨os, g1, by rw [g1.length, g2], g3, g4 _⟩
  obtain ⟨os, g1, g2, g3, g4⟩ := hold
  by_cases hroom : len + n ≤ c
  · rw [run_app_room h0 hd hel hz hlen (hfc w.drawn) hroom]
    obtain ⟨ob, hob, hr⟩ := hw.objs b p hb
    rw [hc] at hob
    obtain ⟨hro, arr, tt, fr, hcells, hsz, _, hat, hf⟩ := hr.cells_inv (Option.some.inj hob).symm
    replace hf := hf hro
    have hsize : o + c * inf.size = p.size := by rcases hbd with h1 | h1; omega; exact h1
    have hul := hu.length
    have hmul : (len + n) * inf.size ≤ c * inf.size := Nat.mul_le_mul_right _ hroom
    rw [Nat.add_mul] at hmul
    obtain ⟨w', c', hrun, hg, hs', hc', hz', hk, ho, hout⟩ := storeCells_ok (P := P) p.blk (o + len * inf.size) tt fr us 0 w arr hcells (hu.oneCell hsu) (by omega) (fun j hj => by
      have := hf (o + len * inf.size + 0 + j) (by omega)
      omega)
    unfold growK at h
    rw [allocK_eq] at h
    have hnn := hw.next_none
    obtain ⟨r1, r2⟩ := hw.regrow (w' := w') (q := ⟨p.blk, o, p.size, false⟩) (.cells (co ++ new) false) hb hc rfl hro rfl rfl hz' hk ho hout
      (ORel.cells (p := ⟨p.blk, o, p.size, false⟩) hg (by rw [hs', hsz]) (by simp; omega) (fun i a e => by
        rw [hc' (o + i)]
        by_cases hi : i < co.length
        · rw [if_neg (by omega)]
          rw [List.getElem?_append_left hi] at e
          rcases hco with ⟨_, rfl⟩ | ⟨hl0, hle, rfl⟩
          · simp at hi
          · rw [List.getElem?_take] at e
            split at e
            · rw [List.getElem?_drop] at e
              obtain ⟨v, hv, hrv⟩ := hat (off + i) a e
              refine ⟨v, ?_, hrv.mono (Ren.le_set hnn)⟩
              rw [ha (by omega), Nat.add_assoc]
              exact hv
            · cases e
        · rw [List.getElem?_append_right (by omega)] at e
          have hlt := (List.getElem?_eq_some_iff.1 e).1
          obtain ⟨v, hv, hrv⟩ := hu.get e
          refine ⟨v, ?_, hrv.mono (Ren.le_set hnn)⟩
          rw [if_pos (by omega), show o + i - (o + len * inf.size + 0) = i - co.length by omega]
          exact hv) (fun x hx => by rcases List.mem_append.1 hx with hx | hx; exact g3 x hx; exact hsu x hx) (fun _ i hi => hf i (by omega)))
    refine ⟨_, w', _, _, _, ?_, r2, r1, VRel.opn (p := ⟨p.blk, o, p.size, false⟩) (Ren.set_same _ _ _) he hroom (.inr hsize) (fun _ => rfl), h⟩
    simp only [add_eq, Sem.run_bind, hrun, Result.andThen_ok, Sem.run_pure]
  · have hk := hw.kill b
    exact app_grow h0 hd hel hz he hzs hzl hb1 hsm hb0 hlen g4 (hfc _) hroom hk g1 hu g3 hsu g2 hlu h
theorem opAppend_fine {ts : Array TypeId} {ty : TypeId} {x y : Option AVal} {vx vy : Value} (h : opAppend P ts x y s K = true) (hw : WRel P ι s w) (hx : ORl ι x vx) (hy : ORl ι y vy) :
    FineV P ι w K ((Builtin.append_ ts ty #[vx, vy]).run P w) := by
  obtain ⟨e, he, h⟩ := optK_true.1 h
  obtain ⟨x', hx', h⟩ := optK_true.1 h
  obtain ⟨y', hy', h⟩ := optK_true.1 h
  obtain ⟨t, el, inf, zs, h0, hd, hel, rfl, hs0, hb0, hb1, hzs, hzl, hni⟩ := appendInfo_some he
  obtain ⟨new, us, n, hu, hsu, hlu, hlen, hfc, _, h⟩ := srcK_ok h hw (hy _ hy')
  have hrx := hx _ hx'
  have hfd : (Builtin.firstCells inf.size n vy).run P w.drew = .ok us.toArray w.drew := hfc _
  have hf0 : (Builtin.firstCells inf.size n vy).run P w = .ok us.toArray w := hfc w.drawn
  cases x' with
  | nilSlice =>
    cases hrx
    have h : ifK (Nat.beq n 0) (K .nilSlice s) (smallK n inf.bytes (growK inf.size new n s K)) = true := h
    rcases ifK_true.1 h with ⟨hn, h⟩ | ⟨hn, h⟩
    · have hn : n = 0 := Nat.eq_of_beq_eq_true hn
      subst hn
      rw [run_app_room h0 hd hel hni hlen hf0 (by omega)]
      exact .same hw .nilSlice h
    · have hn : n ≠ 0 := by intro e; subst e; cases hn
      obtain ⟨hsm, h⟩ := smallK_true h
      exact app_grow h0 hd hel hni hs0 hzs hzl hb1 (by rw [Nat.zero_add]; exact hsm) hb0 hlen (os := []) (co := []) (by simp [Builtin.firstCells]) hfd (by omega) hw .nil hu (by simp) hsu (by simp) hlu (by rw [Nat.zero_add]; exact h)
  | slice b off len cap =>
    rcases hrx.slice_inv with ⟨p, o, c, hb, rfl, hs⟩ | ⟨rfl, rfl, ad, rfl⟩
    rotate_left
    · have h : (natK (Nat.add 0 n) fun need => ifK (Nat.beq n 0) (ifK (Nat.ble 0 0) (K (.slice b off 0 (.lim 0)) s) (fail 34)) (appExact inf.size inf.bytes b off 0 0 need new s K)) = true := h
      rw [natK_eq] at h
      simp only [Nat.add_eq] at h
      rcases ifK_true.1 h with ⟨hn, h⟩ | ⟨hn, h⟩
      · have hn : n = 0 := Nat.eq_of_beq_eq_true hn
        subst hn
        rw [run_app_room h0 hd hel hni hlen hf0 (by omega)]
        have hus : us = [] := by
          have := hu.length
          rw [hlu] at this
          exact List.eq_nil_of_length_eq_zero (by omega)
        subst hus
        simp only [storeCells, Sem.run_bind, Sem.run_pure, Result.andThen_ok, Nat.add_zero]
        exact .same hw .empty h
      · have hn : n ≠ 0 := by intro e; subst e; cases hn
        unfold appExact at h
        rcases ifK_true.1 h with ⟨hle, h⟩ | ⟨hle, h⟩
        · have hle : 0 + n ≤ 0 := Nat.le_of_ble_eq_true hle
          omega
        · obtain ⟨hsm, h⟩ := smallK_true h
          rcases ifK_true.1 h with ⟨hl0, h⟩ | ⟨hl0, h⟩
          · exact app_grow h0 hd hel hni hs0 hzs hzl hb1 hsm hb0 hlen (os := []) (co := []) (by simp [Builtin.firstCells, loadCells, loadCellsFrom]) hfd (by omega) hw .nil hu (by simp) hsu (by simp) hlu h
          · cases hl0
    have h : (natK (Nat.add len n) fun need => @Cap.rec (fun _ => Bool) (fun c => ifK (Nat.beq n 0) (ifK (Nat.ble len c) (K (.slice b off len (.lim c)) s) (fail 34)) (appExact inf.size inf.bytes b off len c need new s K))
          (fun es => ifK (Nat.beq n 0) (K (.slice b off len (.opn es)) s) (ifK (Nat.beq es inf.size) (appOpen inf.size inf.bytes b off len need new s K) (fail 34))) cap) = true := h
    rw [natK_eq] at h
    simp only [Nat.add_eq] at h
    have hkeep : n = 0 → len ≤ c → K (.slice b off len cap) s = true → FineV P ι w K ((Builtin.append_ ts ty #[.slice (some ⟨p.blk, o, none⟩) len c, vy]).run P w) := by
      intro hn hle hk
      subst hn
      rw [run_app_room h0 hd hel hni hlen hf0 (by omega)]
      have hus : us = [] := by
        have := hu.length
        rw [hlu] at this
        exact List.eq_nil_of_length_eq_zero (by omega)
      subst hus
      simp only [storeCells, Sem.run_bind, Sem.run_pure, Result.andThen_ok, Nat.add_zero]
      exact .same hw (hs.vrel hb) hk
    cases hs with
    | lim ho =>
      rcases ifK_true.1 h with ⟨hn, h⟩ | ⟨hn, h⟩
      · rcases ifK_true.1 h with ⟨hle, h⟩ | ⟨_, h⟩
        · exact hkeep (Nat.eq_of_beq_eq_true hn) (Nat.le_of_ble_eq_true hle) h
        · cases h
      · have hn : n ≠ 0 := by intro e; subst e; cases hn
        unfold appExact at h
        subst ho
        rcases ifK_true.1 h with ⟨hle, h⟩ | ⟨hle, h⟩
        · have hle : len + n ≤ c := Nat.le_of_ble_eq_true hle
          rw [run_app_room h0 hd hel hni hlen hf0 hle]
          obtain ⟨s', w', h1, h2, h3, h4⟩ := writeK_ok h hb hw hu hsu
          refine ⟨_, w', ι, s', _, ?_, h3, h2, VRel.slice hb, h4⟩
          simp only [Nat.add_eq, Nat.mul_eq] at h1
          simp only [add_eq, Sem.run_bind, Nat.add_assoc] at h1 ⊢
          simp [h1]
        · have hle : ¬ len + n ≤ c := by intro hh; rw [Nat.ble_eq_true_of_le hh] at hle; cases hle
          obtain ⟨hsm, h⟩ := smallK_true h
          rcases ifK_true.1 h with ⟨hl0, h⟩ | ⟨hl0, h⟩
          · have hl0 : len = 0 := Nat.eq_of_beq_eq_true hl0
            subst hl0
            exact app_grow h0 hd hel hni hs0 hzs hzl hb1 hsm hb0 hlen (os := []) (co := []) (by simp [Builtin.firstCells, loadCells, loadCellsFrom]) hfd hle hw .nil hu (by simp) hsu (by simp) hlu h
          · have hl0 : len ≠ 0 := by intro e; subst e; cases hl0
            obtain ⟨cs, ro, hc, h⟩ := cellsK_true.1 h
            obtain ⟨hseg, h⟩ := segK_true.1 h
            rw [appK_eq] at h
            simp only [Nat.mul_eq] at hseg h
            obtain ⟨os, g1, g2, g3, g4⟩ := own_cells (es := inf.size) hw hb (SRel.lim rfl) hc hseg hl0
            exact app_grow h0 hd hel hni hs0 hzs hzl hb1 hsm hb0 hlen (g4 _) hfd hle hw g1 hu g3 hsu (by rw [g1.length, g2]) hlu h
    | @opn es' hes hcl hbd ha =>
      rcases ifK_true.1 h with ⟨hn, h⟩ | ⟨hn, h⟩
      · exact hkeep (Nat.eq_of_beq_eq_true hn) hcl h
      · have hn : n ≠ 0 := by intro e; subst e; cases hn
        rcases ifK_true.1 h with ⟨hee, hA⟩ | ⟨_, h⟩
        · have hee : es' = inf.size := Nat.eq_of_beq_eq_true hee
          subst hee
          clear h
          unfold appOpen at hA
          obtain ⟨cs, ro, hc, hB⟩ := cellsK_true.1 hA
          rcases ifK_true.1 hB with ⟨_, h⟩ | ⟨hro, h⟩
          · cases h
          · subst hro
            rw [lenK_eq, Nat.zero_add] at h
            rcases ifK_true.1 h with ⟨hl1, h⟩ | ⟨hl1, h⟩
            · have hl1 : 1 ≤ len := Nat.le_of_ble_eq_true hl1
              rcases ifK_true.1 h with ⟨hin, h⟩ | ⟨_, h⟩
              · have hin : off + (len + n) * inf.size ≤ cs.length := Nat.le_of_ble_eq_true hin
                have hsize : o + c * inf.size = p.size := by rcases hbd with h1 | h1; omega; exact h1
                have hcsz : p.off + cs.length ≤ p.size := by
                  obtain ⟨ob, hob, hr⟩ := hw.objs b p hb
                  rw [hc] at hob
                  obtain ⟨_, arr, _, _, _, hsz, hln, _⟩ := hr.cells_inv (Option.some.inj hob).symm
                  omega
                have hroom : len + n ≤ c := by
                  have ho := ha (by omega)
                  have : (len + n) * inf.size ≤ c * inf.size := by omega
                  exact Nat.le_of_mul_le_mul_right this hs0
                rw [run_app_room h0 hd hel hni hlen hf0 hroom]
                have hwk : writeK b (Nat.add off (Nat.mul len inf.size)) new s (fun s => K (.slice b off (len + n) (.opn inf.size)) s) = true := by
                  unfold writeK
                  exact cellsK_true.2 ⟨cs, false, hc, ifK_true.2 (.inr ⟨rfl, h⟩)⟩
                obtain ⟨s', w', h1, h2, h3, h4⟩ := writeK_ok hwk hb hw hu hsu
                refine ⟨_, w', ι, s', _, ?_, h3, h2, VRel.opn hb hs0 hroom (.inr hsize) (fun _ => ha (by omega)), h4⟩
                simp only [Nat.add_eq, Nat.mul_eq] at h1
                rw [ha (by omega)]
                simp only [add_eq, Sem.run_bind, Nat.add_assoc] at h1 ⊢
                simp [h1]
              · obtain ⟨hsm, h⟩ := smallK_true h
                obtain ⟨hseg, h⟩ := segK_true.1 h
                rw [appK_eq, putK_eq] at h
                exact app_open h0 hd hel hni hs0 hzs hzl hb1 hsm hb0 hlen hfc hn hw hb hc hcl hbd ha (.inr ⟨by omega, hseg, rfl⟩) hu hsu hlu h
            · have hl1 : len = 0 := by
                rcases Nat.eq_zero_or_pos len with h1 | h1
                · exact h1
                · rw [Nat.ble_eq_true_of_le h1] at hl1; cases hl1
              obtain ⟨hsm, h⟩ := smallK_true h
              rw [putK_eq] at h
              exact app_open (co := []) h0 hd hel hni hs0 hzs hzl hb1 hsm hb0 hlen hfc hn hw hb hc hcl hbd ha (.inl ⟨hl1, rfl⟩) hu hsu hlu h
        · cases h
  | _ => cases h
end
end Go.AM
