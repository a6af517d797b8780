/- The abstract machine's code, regions that are drawn put aside: it holds. -/
import Derived.Test.YtoipnedbpjfeiaaDoorAmExec8
import Derived.TacticsIn
set_option linter.all false
set_option linter.unusedSectionVars false
set_option linter.unusedSimpArgs false
set_option linter.unusedVariables false
namespace Go.AM
variable [Orc] [OrcOk]
theorem Post.of_ext {P : Program} {n0 : Nat} {fi : FI} {ι ι' : Ren} {w w' : World} {K : CodeK} (he : Ext ι w ι' w') {e : Exit} {a'' : Act} {w'' : World} (h : Post P n0 fi ι' w' K e a'' w'') : Post P n0 fi ι w K e a'' w'' :=
  let ⟨ex, t, s, ι2, h1, h2, h3, h4⟩ := h
  ⟨ex, t, s, ι2, h1, he.trans h2, h3, h4⟩
section
variable {P : Program} {rec : RecT} {F : Fence} {m n0 : Nat} {fi : FI} {all : Array Oper}
theorem items_sound (hs : Sound P rec) (hF : ∀ f, F.fn f) (hd : F.depth = none) {Q : Exit → Act → World → Prop} {k : PT AVal → St → Bool} :
    ∀ (l : List Oper) (prev : List (Option Tmp)) (locals : List AVal) (tree : PT AVal) (s : St) (ι : Ren) (a : Act) (w : World), itemsK P rec fi all (l.map .run) prev locals tree s k = true →
      WRel P ι s w → LocRel ι prev locals tree a.tmps → fi.ntmps ≤ a.tmps.size → DefInv n0 ι w a.defers → n0 ≤ w.heap.size → (∀ t v, PT.get (posOf t) tree = some v → t ∈ fi.ps) → (∀ o ∈ l, ∀ d, o.dst = some d → d < fi.ntmps) →
      (∀ a' w' ι' tree' s', Ext ι w ι' w' → Here P n0 fi ι' tree' s' a' w' → k tree' s' = true → Q .normal a' w') → wpListIn F m P all Q l a w
  | [], prev, locals, tree, s, ι, a, w, h, hw, hl, hsz, hdf, hnz, hps, hds, hq => by
    obtain ⟨tree', h1, h2⟩ := hl.commit hsz hps (show commitK (commitPlan fi.ps prev []) locals tree (fun tree => k tree s) = true from h)
    exact hq a w ι tree' s (Ext.refl ι w) ⟨hw, h2, hdf, hnz⟩ h1
  | o :: l, prev, locals, tree, s, ι, a, w, h, hw, hl, hsz, hdf, hnz, hps, hds, hq => by
    have hdo : ∀ d, o.dst = some d → d < a.tmps.size := fun d e => Nat.lt_of_lt_of_le (hds o (by simp) d e) hsz
    have hsz' : ∀ v, fi.ntmps ≤ (a.put o.dst v).tmps.size := fun v => by
      unfold Act.put
      split <;> simpa using hsz
    have hdf' : ∀ v, (a.put o.dst v).defers = a.defers := fun v => by
      unfold Act.put
      split <;> rfl
    have h : guardK all o (fun x => getO tree locals (resolveO prev x))
        (opK P rec o.op (fun x => getO tree locals (resolveO prev x)) s fun v s => itemsK P rec fi all (l.map .run) (o.dst :: prev) (v :: locals) tree s k)
        (itemsK P rec fi all (l.map .run) (o.dst :: prev) (.tup [] :: locals) tree s k) = true := h
    rcases guardK_true h (getO_ok hl) with ⟨hwt, h1⟩ | ⟨hwt, h1⟩
    · have goal : o.wpIn F m P a w (wpListIn F m P all Q l) Q := by
        refine opK_wpIn hs h1 hF hd hw (getO_ok hl) fun v w' ι' s' av he hw' hv hk => ?_
        refine items_sound hs hF hd l _ _ tree s' ι' _ w' hk hw' ((hl.mono he.le).push o.dst hdo hv) (hsz' v) (by rw [hdf']; exact hdf.ext he) (Nat.le_trans hnz he.size) hps (fun o ho => hds o (by simp [ho])) ?_
        exact fun a'' w'' ι'' tree'' s'' he'' hh hk => hq a'' w'' ι'' tree'' s'' (he.trans he'') hh hk
      unfold wpListIn
      rw [hwt]
      exact goal
    · have goal : (∀ f, o.about P w a.eval = some f → F.fn f) ∧ wpListIn F m P all Q l (a.put o.dst undef) w := by
        refine ⟨fun f _ => hF f, ?_⟩
        exact items_sound hs hF hd l _ _ tree s ι _ w h1 hw (hl.push o.dst hdo (.tup .nil)) (hsz' _) (by rw [hdf']; exact hdf) hnz hps (fun o ho => hds o (by simp [ho])) hq
      unfold wpListIn
      rw [hwt]
      exact goal
theorem dstsOk_lt {n : Nat} {ops : Array Oper} (h : dstsOk n ops = true) : ∀ o ∈ ops.toList, ∀ d, o.dst = some d → d < n := by
  intro o ho d e
  have := List.all_eq_true.1 h o ho
  rw [e] at this
  simpa using this
def DrawSound (P : Program) (rec : RecT) : Prop := ∀ id ops n0 fi tree s k F m ι a w, regionK P rec fi ops true tree s k = true → FOk P fi → (∀ f, F.fn f) → F.depth = none → RRel ι fi.round F.round → Here P n0 fi ι tree s a w →
  (Code.region id ops true).wpIn F m P (Post P n0 fi ι w (fun e t s => @Ex.rec (fun _ => Bool) (k t s) (fun _ => false) false e)) a w
theorem region_sound (hs : Sound P rec) (hF : ∀ f, F.fn f) (hd : F.depth = none) {id : Nat} {ops : Array Oper} {tree : PT AVal} {s : St} {ι : Ren} {a : Act} {w : World} {K : CodeK}
    (h : regionK P rec fi ops false tree s (fun tree s => K .normal tree s) = true) (hh : Here P n0 fi ι tree s a w) : (Code.region id ops false).wpIn F m P (Post P n0 fi ι w K) a w := by
  obtain ⟨l, hl, h1⟩ := optK_true.1 h
  rcases ifK_true.1 h1 with ⟨hds, h2⟩ | ⟨_, h2⟩
  · have hl : l = ops.toList.map .run := by
      unfold itemsOf at hl
      simpa using hl.symm
    subst hl
    refine wpIn_region_list ?_
    refine items_sound hs hF hd ops.toList [] [] tree s ι a w h2 hh.wr (LocRel.start hh.tr) hh.tr.size hh.df hh.nz (fun t v e => (hh.tr.get t v e).1) (dstsOk_lt hds) ?_
    exact fun a' w' ι' tree' s' he hh' hk => ⟨.normal, tree', s', ι', rfl, he, hh', hk⟩
  · cases h2
end
theorem least_ex {p : Nat → Prop} (h : ∃ j, p j) : ∃ j, p j ∧ ∀ i, p i → j ≤ i := by
  obtain ⟨j, hj⟩ := h
  induction j using Nat.strongRecOn with
  | _ j ih =>
    by_cases hx : ∃ i, i < j ∧ p i
    · obtain ⟨i, hi, hp⟩ := hx
      exact ih i hi hp
    · exact ⟨j, hj, fun i hp => Nat.le_of_not_lt fun hi => hx ⟨i, hi, hp⟩⟩
open Classical in
/-- The least number that has a property; 0 where none has. -/
noncomputable def least (p : Nat → Prop) : Nat := if h : ∃ j, p j then Classical.choose (least_ex h) else 0
theorem least_spec {p : Nat → Prop} (h : ∃ j, p j) : p (least p) ∧ ∀ i, p i → least p ≤ i := by
  unfold least
  rw [dif_pos h]
  exact Classical.choose_spec (least_ex h)
theorem exec_zero {P : Program} {c : MCode} {fi : FI} {tree : PT AVal} {s : St} {K : CodeK} : exec P 0 c fi tree s K = false := rfl
theorem exec_succ {P : Program} {n : Nat} : exec P (n + 1) = execF P (exec P n) := rfl
/-- **THE ABSTRACT MACHINE's ANSWERS HOLD OF THE MODEL.** -/
theorem exec_sound {P : Program} (hdraw : ∀ rec, Sound P rec → DrawSound P rec) : ∀ n, Sound P (exec P n) := by
  intro n
  induction n using Nat.strongRecOn with
  | _ n ih =>
  cases n with
  | zero => intro c n0 fi tree s K F m ι a w h; cases h
  | succ n =>
    have hs : Sound P (exec P n) := ih n (Nat.lt_succ_self n)
    intro c n0 fi tree s K F m ι a w h hfo hF hd hr hh
    rw [exec_succ] at h
    cases c with
    | skip => exact wpIn_skip ⟨.normal, tree, s, ι, rfl, Ext.refl ι w, hh, h⟩
    | label l => exact wpIn_label ⟨.normal, tree, s, ι, rfl, Ext.refl ι w, hh, h⟩
    | exit id => exact wpIn_exit ⟨.exit id, tree, s, ι, rfl, Ext.refl ι w, hh, h⟩
    | ret => exact wpIn_ret ⟨.ret, tree, s, ι, rfl, Ext.refl ι w, hh, h⟩
    | region id ops draw =>
      have h := region_eq h
      cases draw with
      | false => exact region_sound hs hF hd h hh
      | true =>
        refine wpIn_mono (hdraw _ hs id ops n0 fi tree s _ F m ι a w h hfo hF hd hr hh) ?_
        rintro e a' w' ⟨ex, t, s', ι', e1, e2, e3, e4⟩
        cases ex with
        | normal => exact ⟨.normal, t, s', ι', e1, e2, e3, e4⟩
        | exit id => cases e4
        | ret => cases e4
    | seq x y =>
      refine wpIn_seq (wpIn_mono (hs x n0 fi tree s _ F m ι a w h hfo hF hd hr hh) ?_)
      rintro e a' w' ⟨ex, t, s', ι', rfl, he, hh', hk⟩
      cases ex with
      | normal => exact wpIn_mono (hs y n0 fi t s' K F m ι' a' w' hk hfo hF hd (hr.mono he.le) hh') fun e a w => Post.of_ext he
      | exit id => exact ⟨.exit id, t, s', ι', rfl, he, hh', hk⟩
      | ret => exact ⟨.ret, t, s', ι', rfl, he, hh', hk⟩
    | cond g x y =>
      obtain ⟨v, hv, h1⟩ := optK_true.1 h
      obtain ⟨t, rfl, h2⟩ := AVal.boolK_true.1 h1
      have hg := getO_ok (LocRel.start hh.tr) g _ hv
      generalize hgv : a.eval g = gv at hg
      cases hg
      refine wpIn_cond hgv ?_
      rcases ifK_true.1 h2 with ⟨rfl, h3⟩ | ⟨rfl, h3⟩
      · exact hs x n0 fi tree s K F m ι a w h3 hfo hF hd hr hh
      · exact hs y n0 fi tree s K F m ι a w h3 hfo hF hd hr hh
    | block id x =>
      refine wpIn_block (wpIn_mono (hs x n0 fi tree s _ F m ι a w h hfo hF hd hr hh) ?_)
      rintro e a' w' ⟨ex, t, s', ι', rfl, he, hh', hk⟩
      cases ex with
      | normal => exact ⟨.normal, t, s', ι', rfl, he, hh', hk⟩
      | ret => exact ⟨.ret, t, s', ι', rfl, he, hh', hk⟩
      | exit i =>
        show if i = id then _ else _
        rcases ifK_true.1 (show ifK (Nat.beq i id) _ _ = true from hk) with ⟨e, h3⟩ | ⟨e, h3⟩
        · rw [if_pos (Nat.eq_of_beq_eq_true e)]
          exact ⟨.normal, t, s', ι', rfl, he, hh', h3⟩
        · rw [if_neg (Nat.ne_of_beq_eq_false e)]
          exact ⟨.exit i, t, s', ι', rfl, he, hh', h3⟩
    | scope x =>
      refine wpIn_scope (wpIn_mono (hs x n0 fi tree s _ F m ι a w h hfo hF hd hr hh) ?_)
      rintro e a' w' ⟨ex, t, s', ι', rfl, he, hh', hk⟩
      cases ex with
      | normal => exact ⟨.normal, t, s', ι', rfl, he, hh', hk⟩
      | exit id => exact ⟨.exit id, t, s', ι', rfl, he, hh', hk⟩
      | ret => exact ⟨.ret, t, s', ι', rfl, he, hh', hk⟩
    | rangeFunc g ps x y => exact rangeK_sound hs h hfo hF hd hr hh
    | loop x =>
      let p : Act → World → Nat → Prop := fun a' w' j => j ≤ n + 1 ∧ ∃ t s' ι', Ext ι w ι' w' ∧ Here P n0 fi ι' t s' a' w' ∧ exec P j (.loop (compile P fi.ps fi.ntmps x)) fi t s' K = true
      refine wpIn_loop (fun a' w' => ∃ j, p a' w' j) (fun a' w' => least (p a' w')) ⟨n + 1, Nat.le_refl _, tree, s, ι, Ext.refl ι w, hh, h⟩ fun a' w' hI => ?_
      obtain ⟨⟨hj, t, s', ι', he, hh', hk⟩, hmin⟩ := least_spec hI
      generalize hle : least (p a' w') = j at hj hk hmin
      cases j with
      | zero => cases hk
      | succ j =>
        rw [exec_succ] at hk
        refine wpIn_mono (ih j (by omega) x n0 fi t s' _ F m ι' a' w' hk hfo hF hd (hr.mono he.le) hh') ?_
        rintro e a'' w'' ⟨ex, t2, s2, ι2, rfl, he2, hh2, hk2⟩
        cases ex with
        | normal =>
          have hp : p a'' w'' j := ⟨by omega, t2, s2, ι2, he.trans he2, hh2, hk2⟩
          refine ⟨⟨j, hp⟩, ?_⟩
          have := (least_spec ⟨j, hp⟩).2 j hp
          exact Nat.lt_succ_of_le this
        | exit id => exact ⟨.exit id, t2, s2, ι2, rfl, he.trans he2, hh2, hk2⟩
        | ret => exact ⟨.ret, t2, s2, ι2, rfl, he.trans he2, hh2, hk2⟩
    | _ => cases h
end Go.AM
