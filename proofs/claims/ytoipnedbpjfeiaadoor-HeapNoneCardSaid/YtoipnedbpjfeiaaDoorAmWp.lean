/- The abstract machine's runs, said of what they come to: code and calls. -/
import Derived.Test.YtoipnedbpjfeiaaDoorAmSym
set_option linter.all false
set_option linter.unusedSectionVars false
set_option linter.unusedSimpArgs false
set_option linter.unusedVariables false
namespace Go.AM
variable [Orc] [OrcOk]
theorem guard_holds {g : Option (Option (RO × Bool))} {γ : RO → Option AVal} {A B : Prop} (h : guardP g γ A B) : (A ∧ ∀ x y, mguardK g γ x y = x) ∨ (B ∧ ∀ x y, mguardK g γ x y = y) := by
  cases g with
  | none => exact .inl ⟨h, fun x y => rfl⟩
  | some g =>
    obtain ⟨g', hg, h⟩ := holds_withO h
    subst hg
    obtain ⟨v, hv, h⟩ := holds_withV h
    have hr : ∀ x y, mguardK (some (some g')) γ x y = @AVal.rec (fun _ => Bool) (fun _ => Bool) (fun b => ifK (eqBool b g'.2) x y) (fun _ _ => y) (fun _ => y) (fun _ _ => y) y (fun _ _ _ _ => y) y (fun _ => y) y (fun _ _ _ _ _ => y) (fun _ => y) y
        (fun _ _ _ => y) y (fun _ _ => y) (fun _ _ => y) false (fun _ _ _ _ => false) v := fun x y => by
      show (optK (γ g'.1) fun v => _) = _
      rw [hv]; rfl
    cases v with
    | bool b =>
      simp only at h
      split at h
      · rename_i hb
        refine .inl ⟨h, fun x y => (hr x y).trans ?_⟩
        show ifK (eqBool b g'.2) x y = x
        rw [eqBool_eq, hb]; simp [ifK]
      · rename_i hb
        refine .inr ⟨h, fun x y => (hr x y).trans ?_⟩
        show ifK (eqBool b g'.2) x y = y
        rw [eqBool_eq]
        have : (b == g'.2) = false := by simpa using hb
        rw [this]; rfl
    | iface t u => exact h.elim
    | _ => exact .inr ⟨h, hr⟩
theorem commit_holds : ∀ {cm : List (Option Pos)} {l : List AVal} {t t' : PT AVal}, commitP cm l t = some t' → ∀ k : PT AVal → Bool, k t' = true → commitK cm l t k = true
  | [], l, t, t', h, k, hk => by cases h; exact hk
  | _ :: _, [], t, t', h, k, hk => by cases h
  | none :: r, v :: l, t, t', h, k, hk => commit_holds (cm := r) h k hk
  | some p :: r, v :: l, t, t', h, k, hk => by
    show PT.setK p v t (fun t => commitK r l t k) = true
    rw [PT.setK_eq]
    exact commit_holds (cm := r) h k hk
section
variable {P : Program}
theorem items_holds {cm : List (Option Pos)} : ∀ {l : List MItem} {locals : List AVal} {tree : PT AVal} {s : St} {Q : PT AVal → St → Prop}, itemsP P cm l locals tree s Q →
    ∃ t s', Q t s' ∧ ∃ n0, ∀ n, n0 ≤ n → ∀ K : PT AVal → St → Bool, K t s' = true → mitemsK P (exec P n) cm l locals tree s K = true
  | [], locals, tree, s, Q, h => by
    obtain ⟨t, e, h⟩ := holds_withO h
    exact ⟨t, s, h, 0, fun n _ K hK => commit_holds e (fun t => K t s) hK⟩
  | .run g o :: r, locals, tree, s, Q, h => by
    have hr : ∀ rec K, mitemsK P rec cm (.run g o :: r) locals tree s K = mguardK g (fun x => getO tree locals x) (mopK P rec o (fun x => getO tree locals x) s fun v s => mitemsK P rec cm r (v :: locals) tree s K)
      (mitemsK P rec cm r (.tup [] :: locals) tree s K) := fun _ _ => rfl
    rcases guard_holds h with ⟨h1, h2⟩ | ⟨h1, h2⟩
    · obtain ⟨v, s1, h3, n1, h4⟩ := opP_holds h1
      obtain ⟨t, s', h5, n2, h6⟩ := items_holds h3
      refine ⟨t, s', h5, max n1 n2, fun n hn K hK => ?_⟩
      rw [hr, h2]
      exact h4 n (by omega) _ (h6 n (by omega) K hK)
    · obtain ⟨t, s', h5, n2, h6⟩ := items_holds h1
      refine ⟨t, s', h5, n2, fun n hn K hK => ?_⟩
      rw [hr, h2]
      exact h6 n hn K hK
  | .chk g o u :: r, locals, tree, s, Q, h => by
    have hr : ∀ rec K, mitemsK P rec cm (.chk g o u :: r) locals tree s K = mguardK g (fun x => getO tree locals x)
        (mopK P rec o (fun x => getO tree locals x) s fun v _ => optK u fun x => optK (getO tree locals x) fun u => ifK (eqVal 8 v u) (mitemsK P rec cm r locals tree s K) (fail 49))
        (mitemsK P rec cm r locals tree s K) := fun _ _ => rfl
    rcases guard_holds h with ⟨h1, h2⟩ | ⟨h1, h2⟩
    · obtain ⟨v, s1, h3, n1, h4⟩ := opP_holds h1
      obtain ⟨x, hx, h3⟩ := holds_withO h3
      obtain ⟨u', hu, hvu, hev, h3⟩ := holds_withV h3
      obtain ⟨t, s', h5, n2, h6⟩ := items_holds h3
      refine ⟨t, s', h5, max n1 n2, fun n hn K hK => ?_⟩
      rw [hr, h2]
      refine h4 n (by omega) _ (optK_true.2 ⟨x, hx, optK_true.2 ⟨u', hu, ifK_true.2 (.inl ⟨hvu ▸ hev, h6 n (by omega) K hK⟩)⟩⟩)
    · obtain ⟨t, s', h5, n2, h6⟩ := items_holds h1
      refine ⟨t, s', h5, n2, fun n hn K hK => ?_⟩
      rw [hr, h2]
      exact h6 n hn K hK
  | .fresh :: r, locals, tree, s, Q, ⟨h0, h⟩ => by
    obtain ⟨t, s', h5, n2, h6⟩ := items_holds h
    refine ⟨t, s', h5, n2, fun n hn K hK => ?_⟩
    show @Option.rec AObj (fun _ => Bool) (mitemsK P (exec P n) cm r locals tree s K) (fun _ => fail 56) (PT.get s.next s.heap) = true
    rw [show PT.get s.next s.heap = none from h0]
    exact h6 n hn K hK
end
section
variable (P : Program)
def Runs (c : MCode) (fi : FI) (tree : PT AVal) (s : St) (e : Ex) (t : PT AVal) (s' : St) : Prop := ∃ n0, ∀ n, n0 ≤ n → ∀ K : CodeK, K e t s' = true → exec P n c fi tree s K = true
/-- The code comes to what is wanted. -/
def wp (c : MCode) (fi : FI) (tree : PT AVal) (s : St) (Q : Ex → PT AVal → St → Prop) : Prop := ∃ e t s', Runs P c fi tree s e t s' ∧ Q e t s'
end
section
variable {P : Program} {fi : FI} {tree : PT AVal} {s : St} {Q : Ex → PT AVal → St → Prop}
theorem wp_mono {c : MCode} {Q' : Ex → PT AVal → St → Prop} (h : wp P c fi tree s Q) (hq : ∀ e t s', Q e t s' → Q' e t s') : wp P c fi tree s Q' :=
  let ⟨e, t, s', h1, h2⟩ := h
  ⟨e, t, s', h1, hq _ _ _ h2⟩
theorem one_more {c : MCode} {e : Ex} {t : PT AVal} {s' : St} (n0 : Nat) (h : ∀ n, n0 ≤ n → ∀ K : CodeK, K e t s' = true → execF P (exec P n) c fi tree s K = true) : Runs P c fi tree s e t s' := by
  refine ⟨n0 + 1, fun n hn K hK => ?_⟩
  obtain ⟨m, rfl⟩ : ∃ m, n = m + 1 := ⟨n - 1, by omega⟩
  rw [exec_succ]
  exact h m (by omega) K hK
theorem wp_skip (h : Q .normal tree s) : wp P .skip fi tree s Q := ⟨_, _, _, one_more 0 (fun _ _ K hK => hK), h⟩
theorem wp_exit {id : Nat} (h : Q (.exit id) tree s) : wp P (.exit id) fi tree s Q := ⟨_, _, _, one_more 0 (fun _ _ K hK => hK), h⟩
theorem wp_ret (h : Q .ret tree s) : wp P .ret fi tree s Q := ⟨_, _, _, one_more 0 (fun _ _ K hK => hK), h⟩
theorem wp_region {l : List MItem} {cm : List (Option Pos)} (h : itemsP P cm l [] tree s fun t s' => Q .normal t s') : wp P (.region l cm) fi tree s Q := by
  obtain ⟨t, s', h1, n0, h2⟩ := items_holds h
  exact ⟨.normal, t, s', one_more n0 (fun n hn K hK => h2 n hn (fun t s => K .normal t s) hK), h1⟩
/-- What follows a piece of code. -/
def andThen (next : PT AVal → St → Prop) (Q : Ex → PT AVal → St → Prop) : Ex → PT AVal → St → Prop
  | .normal, t, s => next t s
  | .exit i, t, s => Q (.exit i) t s
  | .ret, t, s => Q .ret t s
theorem andThen_normal (next : PT AVal → St → Prop) (t : PT AVal) (s : St) : andThen next Q .normal t s = next t s := rfl
theorem andThen_exit (next : PT AVal → St → Prop) (i : Nat) (t : PT AVal) (s : St) : andThen next Q (.exit i) t s = Q (.exit i) t s := rfl
theorem andThen_ret (next : PT AVal → St → Prop) (t : PT AVal) (s : St) : andThen next Q .ret t s = Q .ret t s := rfl
theorem wp_seq {a b : MCode} (h : wp P a fi tree s (andThen (fun t s' => wp P b fi t s' Q) Q)) : wp P (.seq a b) fi tree s Q := by
  obtain ⟨e, t, s', ⟨n1, h1⟩, h2⟩ := h
  cases e with
  | normal =>
    obtain ⟨e2, t2, s2, ⟨n2, h3⟩, h4⟩ := h2
    exact ⟨e2, t2, s2, one_more (max n1 n2) (fun n hn K hK => h1 n (by omega) _ (h3 n (by omega) K hK)), h4⟩
  | exit id => exact ⟨.exit id, t, s', one_more n1 (fun n hn K hK => h1 n hn _ hK), h2⟩
  | ret => exact ⟨.ret, t, s', one_more n1 (fun n hn K hK => h1 n hn _ hK), h2⟩
/-- What follows, kept from being simplified. -/
inductive Dep {α : Type} (a : α) : Type where
  | mk
def wpX (P : Program) (c : MCode) (fi : FI) (tree : PT AVal) (s : St) (Q : Ex → PT AVal → St → Prop) (_ : Dep Q) : Prop := wp P c fi tree s Q
theorem wp_seq_region {l : List MItem} {cm : List (Option Pos)} {b : MCode} (h : itemsP P cm l [] tree s fun t s' => wpX P b fi t s' Q .mk) : wp P (.seq (.region l cm) b) fi tree s Q := wp_seq (wp_region h)
theorem wp_cond {c : RO} {a b : MCode} {v : Bool} (hv : getO tree [] c = some (.bool v)) (ha : v = true → wp P a fi tree s Q) (hb : v = false → wp P b fi tree s Q) : wp P (.cond c a b) fi tree s Q := by
  cases v with
  | true =>
    obtain ⟨e, t, s', ⟨n1, h1⟩, h2⟩ := ha rfl
    exact ⟨e, t, s', one_more n1 (fun n hn K hK => optK_true.2 ⟨_, hv, AVal.boolK_true.2 ⟨true, rfl, h1 n hn K hK⟩⟩), h2⟩
  | false =>
    obtain ⟨e, t, s', ⟨n1, h1⟩, h2⟩ := hb rfl
    exact ⟨e, t, s', one_more n1 (fun n hn K hK => optK_true.2 ⟨_, hv, AVal.boolK_true.2 ⟨false, rfl, h1 n hn K hK⟩⟩), h2⟩
theorem wp_condP {c : RO} {a b : MCode} (h : withBool (getO tree [] c) fun v => if v = true then wpX P a fi tree s Q .mk else wpX P b fi tree s Q .mk) : wp P (.cond c a b) fi tree s Q := by
  obtain ⟨v, hv, h⟩ := holds_withBool h
  refine wp_cond hv (fun e => ?_) (fun e => ?_)
  · rw [if_pos e] at h; exact h
  · rw [if_neg (by simp [e])] at h; exact h
def inBlockP (id : Nat) (Q : Ex → PT AVal → St → Prop) : Ex → PT AVal → St → Prop
  | .normal, t, s => Q .normal t s
  | .exit i, t, s => if i = id then Q .normal t s else Q (.exit i) t s
  | .ret, t, s => Q .ret t s
theorem inBlockP_normal (id : Nat) (t : PT AVal) (s : St) : inBlockP id Q .normal t s = Q .normal t s := rfl
theorem inBlockP_exit (id i : Nat) (t : PT AVal) (s : St) : inBlockP id Q (.exit i) t s = if i = id then Q .normal t s else Q (.exit i) t s := rfl
theorem inBlockP_ret (id : Nat) (t : PT AVal) (s : St) : inBlockP id Q .ret t s = Q .ret t s := rfl
theorem wp_block {id : Nat} {c : MCode} (h : wp P c fi tree s (inBlockP id Q)) : wp P (.block id c) fi tree s Q := by
  obtain ⟨e, t, s', ⟨n1, h1⟩, h2⟩ := h
  cases e with
  | normal => exact ⟨.normal, t, s', one_more n1 (fun n hn K hK => h1 n hn _ hK), h2⟩
  | ret => exact ⟨.ret, t, s', one_more n1 (fun n hn K hK => h1 n hn _ hK), h2⟩
  | exit i =>
    rw [inBlockP_exit] at h2
    split at h2
    · rename_i hi
      exact ⟨.normal, t, s', one_more n1 (fun n hn K hK => h1 n hn _ (ifK_true.2 (.inl ⟨by simp [hi], hK⟩))), h2⟩
    · rename_i hi
      exact ⟨.exit i, t, s', one_more n1 (fun n hn K hK => h1 n hn _ (ifK_true.2 (.inr ⟨by cases hb : Nat.beq i id with
        | true => exact absurd (Nat.eq_of_beq_eq_true hb) hi
        | false => rfl, hK⟩))), h2⟩
theorem wp_scope {c : MCode} (h : wp P c fi tree s Q) : wp P (.scope c) fi tree s Q := by
  obtain ⟨e, t, s', ⟨n1, h1⟩, h2⟩ := h
  exact ⟨e, t, s', one_more n1 (fun n hn K hK => h1 n hn K hK), h2⟩
theorem wp_loop_step {c : MCode} (h : wp P c fi tree s (andThen (fun t s' => wp P (.loop c) fi t s' Q) Q)) : wp P (.loop c) fi tree s Q := by
  obtain ⟨e, t, s', ⟨n1, h1⟩, h2⟩ := h
  cases e with
  | normal =>
    obtain ⟨e2, t2, s2, ⟨n2, h3⟩, h4⟩ := h2
    exact ⟨e2, t2, s2, one_more (max n1 n2) (fun n hn K hK => h1 n (by omega) _ (h3 n (by omega) K hK)), h4⟩
  | exit id => exact ⟨.exit id, t, s', one_more n1 (fun n hn K hK => h1 n hn _ hK), h2⟩
  | ret => exact ⟨.ret, t, s', one_more n1 (fun n hn K hK => h1 n hn _ hK), h2⟩
/-- A loop whose rounds are counted down. -/
theorem wp_loop {c : MCode} (I : Nat → PT AVal → St → Prop) : ∀ (n : Nat) {tree : PT AVal} {s : St}, I n tree s →
    (∀ n t s, I n t s → wp P c fi t s (andThen (fun t' s' => ∃ m, m < n ∧ I m t' s') Q)) → wp P (.loop c) fi tree s Q := by
  intro n
  induction n using Nat.strongRecOn with
  | _ n ih =>
    intro tree s h0 hstep
    refine wp_loop_step (wp_mono (hstep n tree s h0) fun e t s' h => ?_)
    cases e with
    | normal =>
      obtain ⟨m, hm, h⟩ := h
      exact ih m hm h hstep
    | exit id => exact h
    | ret => exact h
/-- A range over a function. -/
theorem wp_range {f : RO} {ps : List Tmp} {a b : MCode} {g : Nat} {x y : List AVal} (hf : getO tree [] f = some (.fn g x y)) (hr : ∀ l0, fi.round = some l0 → ∃ L, s.obj l0 = some (.loop L))
    (h : wpCall P g (x ++ ([.yld s.next] ++ y)) (s.alloc (.loop { state := .ready, pending := none, fn := fi.fn, tm := tree, params := ps, assign := a, body := b })) fun _ s2 =>
      ∃ L, s2.obj s.next = some (.loop L) ∧ isBusy L.state = false ∧ match L.pending with
        | none => Q .normal tree (s2.put s.next (.loop { L with state := .exhausted }))
        | some (.exit id) => Q (.exit id) tree (s2.put s.next (.loop { L with state := .exhausted }))
        | some .ret => Q .ret tree (s2.put s.next (.loop { L with state := .exhausted }))
        | _ => False) : wp P (.range f ps a b) fi tree s Q := by
  obtain ⟨v, s2, ⟨n0, h1⟩, L, hL, hb, h2⟩ := h
  have key : ∀ (e : Ex), (∀ K : CodeK, K e tree (s2.put s.next (.loop { L with state := .exhausted })) = true → pendK L.pending tree (s2.put s.next (.loop { L with state := .exhausted })) K = true) →
      Runs P (.range f ps a b) fi tree s e tree (s2.put s.next (.loop { L with state := .exhausted })) := by
    intro e hp
    refine one_more n0 fun n hn K hK => ?_
    refine optK_true.2 ⟨_, hf, ?_⟩
    have hgo : (allocK (.loop { state := .ready, pending := none, fn := fi.fn, tm := tree, params := ps, assign := a, body := b }) s fun l s =>
      (AVal.fn g x y).fnK fun f a c => appK [.yld l] c fun r => appK a r fun args => callF P (exec P n) f args s fun _ s => loopK l s fun L => ifK (isBusy L.state) (fail 52)
        (putK l (.loop { L with state := .exhausted }) s fun s => pendK L.pending tree s K)) = true := by
      rw [allocK_eq]
      refine AVal.fnK_true.2 ⟨g, x, y, rfl, ?_⟩
      rw [appK_eq, appK_eq]
      refine h1 n hn _ (loopK_true.2 ⟨L, hL, ifK_true.2 (.inr ⟨hb, ?_⟩)⟩)
      rw [putK_eq]
      exact hp K hK
    cases hro : fi.round with
    | none => exact hgo
    | some l0 =>
      obtain ⟨L0, hL0⟩ := hr l0 hro
      exact loopK_true.2 ⟨L0, hL0, hgo⟩
  generalize s2.put s.next (.loop { L with state := .exhausted }) = s4 at h2 key
  cases hp : L.pending with
  | none =>
    rw [hp] at h2
    exact ⟨.normal, tree, _, key .normal (fun K hK => by rw [hp]; exact hK), h2⟩
  | some j =>
    rw [hp] at h2
    cases j with
    | exit id => exact ⟨.exit id, tree, _, key (.exit id) (fun K hK => by rw [hp]; exact hK), h2⟩
    | ret => exact ⟨.ret, tree, _, key .ret (fun K hK => by rw [hp]; exact hK), h2⟩
    | _ => exact h2.elim
end
section
variable {P : Program} {s : St} {Q : AVal → St → Prop}
/-- The results. -/
def resP (P : Program) (tree : PT AVal) (s : St) : List ResultVar → (List AVal → Prop) → Prop
  | [], F => F []
  | .tmp t :: r, F => withV (PT.get (posOf t) tree) fun v => resP P tree s r fun l => F (v :: l)
  | .cell a t :: r, F => withO (loadSz P t) fun n => withPtr (PT.get (posOf a) tree) fun b off => withO (s.cells b) fun cs => partP n cs off fun v => resP P tree s r fun l => F (v :: l)
def retV : List AVal → AVal
  | [v] => v
  | l => .tup l
theorem res_holds {tree : PT AVal} : ∀ {l : List ResultVar} {F : List AVal → Prop}, resP P tree s l F → ∃ vs, F vs ∧ ∀ k : List AVal → Bool, k vs = true → resK P tree s l k = true
  | [], F, h => ⟨[], h, fun k hk => hk⟩
  | .tmp t :: r, F, h => by
    obtain ⟨v, hv, h⟩ := holds_withV h
    obtain ⟨vs, h1, h2⟩ := res_holds h
    exact ⟨v :: vs, h1, fun k hk => optK_true.2 ⟨v, hv, h2 (fun l => k (v :: l)) hk⟩⟩
  | .cell a t :: r, F, h => by
    obtain ⟨n, hn, h⟩ := holds_withO h
    obtain ⟨b, off, ha, h⟩ := holds_withPtr h
    obtain ⟨cs, hc, h⟩ := holds_withO h
    obtain ⟨v, h, h2⟩ := holds_part h
    obtain ⟨ro, ho⟩ := St.obj_of_cells hc
    obtain ⟨vs, h1, h3⟩ := res_holds h
    refine ⟨v :: vs, h1, fun k hk => ?_⟩
    show opLoad P t (PT.get (posOf a) tree) s (fun v _ => resK P tree s r fun l => k (v :: l)) = true
    exact optK_true.2 ⟨n, hn, optK_true.2 ⟨_, ha, AVal.ptrK_true.2 ⟨b, off, rfl, cellsK_true.2 ⟨cs, ro, ho, h2 (fun v => resK P tree s r fun l => k (v :: l)) (h3 (fun l => k (v :: l)) hk)⟩⟩⟩⟩
theorem wpCall_of {f : FuncId} {args : List AVal} {fi : FInfo} {tree : PT AVal} (ho : Orc.get P f = none) (hf : funInfo P f = some fi) (hn : args.length = fi.nargs) (hle : fi.nargs ≤ fi.ntmps) (ht : commitP (argPlan fi.ps fi.nargs 0) args .leaf = some tree)
    (h : wp P fi.code { fn := f, ntmps := fi.ntmps, ps := fi.ps, round := none } tree s fun e t s' => match e with
      | .exit _ => False
      | _ => resP P t s' fi.res fun l => Q (retV l) s') : wpCall P f args s Q := by
  obtain ⟨e, t, s', ⟨n0, h1⟩, h2⟩ := h
  have h3 : (∀ x, outK e x = x) ∧ resP P t s' fi.res fun l => Q (retV l) s' := by
    cases e with
    | normal => exact ⟨fun _ => rfl, h2⟩
    | exit id => exact h2.elim
    | ret => exact ⟨fun _ => rfl, h2⟩
  obtain ⟨hout, h4⟩ := h3
  obtain ⟨vs, h5, h6⟩ := res_holds h4
  refine ⟨retV vs, s', ⟨n0, fun n hle' K hK => ?_⟩, h5⟩
  unfold callF orcK
  rw [ho]
  refine optK_true.2 ⟨fi, hf, ?_⟩
  rw [lenK_eq, Nat.zero_add]
  refine ifK_true.2 (.inl ⟨by simp [hn], ifK_true.2 (.inl ⟨Nat.ble_eq_true_of_le (by omega), ?_⟩)⟩)
  refine commit_holds ht _ (h1 n hle' _ ?_)
  rw [hout]
  refine h6 _ ?_
  cases vs with
  | nil => exact hK
  | cons v r => cases r <;> exact hK
theorem wpCall_orc {f : FuncId} {v : AVal} (ho : Orc.get P f = some v) (h : Q v s) : wpCall P f [] s Q := by
  refine ⟨v, s, ⟨0, fun n _ K hK => ?_⟩, h⟩
  unfold callF orcK
  rw [ho]
  exact hK
theorem wpCall_mono {f : FuncId} {args : List AVal} {Q' : AVal → St → Prop} (h : wpCall P f args s Q) (hq : ∀ v s', Q v s' → Q' v s') : wpCall P f args s Q' :=
  let ⟨v, s', h1, h2⟩ := h
  ⟨v, s', h1, hq _ _ h2⟩
theorem wpCallV_mono {fv : AVal} {args : List AVal} {Q' : AVal → St → Prop} (h : wpCallV P fv args s Q) (hq : ∀ v s', Q v s' → Q' v s') : wpCallV P fv args s Q' :=
  let ⟨v, s', h1, h2⟩ := h
  ⟨v, s', h1, hq _ _ h2⟩
theorem wpCallV_fn {f : FuncId} {a c args : List AVal} (h : wpCall P f (a ++ (args ++ c)) s Q) : wpCallV P (.fn f a c) args s Q := by
  obtain ⟨v, s', ⟨n0, h1⟩, h2⟩ := h
  refine ⟨v, s', ⟨n0, fun n hn K hK => ?_⟩, h2⟩
  show appK args c (fun r => appK a r fun args => callF P (exec P n) f args s K) = true
  rw [appK_eq, appK_eq]
  exact h1 n hn K hK
theorem wpCallV_yld {l : Pos} {args : List AVal} {L : LoopR} {fi : FInfo} {pl : List (Option Pos)} {tree : PT AVal} (hL : s.obj l = some (.loop L)) (hf : funInfo P L.fn = some fi) (hp : paramPlan fi.ps fi.ntmps L.params = some pl) (hn : args.length = L.params.length)
    (ht : commitP pl args L.tm = some tree)
    (h : wp P L.assign { fn := L.fn, ntmps := fi.ntmps, ps := fi.ps, round := some l } tree s fun e t s1 => e = .normal ∧ ∃ L2, s1.obj l = some (.loop L2) ∧ isReady L2.state = true ∧
      wp P L.body { fn := L.fn, ntmps := fi.ntmps, ps := fi.ps, round := some l } t (s1.put l (.loop { L2 with state := .busy })) fun e _ s2 => ∃ L3, s2.obj l = some (.loop L3) ∧ match e with
        | .normal => Q (.bool true) (s2.put l (.loop { L3 with state := .ready, pending := none }))
        | .exit id => Q (.bool false) (s2.put l (.loop { L3 with state := .done, pending := some (.exit id) }))
        | .ret => Q (.bool false) (s2.put l (.loop { L3 with state := .done, pending := some .ret }))) : wpCallV P (.yld l) args s Q := by
  obtain ⟨e, t, s1, ⟨n1, h1⟩, rfl, L2, hL2, hrd, e2, t2, s2, ⟨n2, h2⟩, L3, hL3, h3⟩ := h
  have go : ∀ (v : AVal) (s' : St), (∀ K : VK, K v s' = true → endK l e2 s2 K = true) → ∃ n0, ∀ n, n0 ≤ n → ∀ K : VK, K v s' = true → callV P (exec P n) (.yld l) args s K = true := by
    intro v s' hend
    refine ⟨max n1 n2, fun n hn' K hK => ?_⟩
    refine loopK_true.2 ⟨L, hL, optK_true.2 ⟨fi, hf, optK_true.2 ⟨pl, hp, ?_⟩⟩⟩
    rw [lenK_eq, lenK_eq, Nat.zero_add, Nat.zero_add]
    refine ifK_true.2 (.inl ⟨by simp [hn], commit_holds ht _ (h1 n (by omega) _ ?_)⟩)
    refine loopK_true.2 ⟨L2, hL2, ifK_true.2 (.inl ⟨hrd, ?_⟩)⟩
    rw [putK_eq]
    exact h2 n (by omega) _ (hend K hK)
  cases e2 with
  | normal =>
    refine ⟨_, _, go _ _ (fun K hK => loopK_true.2 ⟨L3, hL3, ?_⟩), h3⟩
    show putK l _ s2 (fun s => K (.bool true) s) = true
    rw [putK_eq]; exact hK
  | exit id =>
    refine ⟨_, _, go _ _ (fun K hK => loopK_true.2 ⟨L3, hL3, ?_⟩), h3⟩
    show putK l _ s2 (fun s => K (.bool false) s) = true
    rw [putK_eq]; exact hK
  | ret =>
    refine ⟨_, _, go _ _ (fun K hK => loopK_true.2 ⟨L3, hL3, ?_⟩), h3⟩
    show putK l _ s2 (fun s => K (.bool false) s) = true
    rw [putK_eq]; exact hK
def wpCallX (P : Program) (fv : AVal) (args : List AVal) (s : St) (Q : AVal → St → Prop) (_ : Dep Q) : Prop := wpCallV P fv args s Q
/-- A run that was made. -/
theorem wpCall_run {f : FuncId} {args : List AVal} {v : AVal} {s' : St} (n0 : Nat) (h : ∀ n, n0 ≤ n → ∀ K : VK, K v s' = true → callF P (exec P n) f args s K = true) (hq : Q v s') : wpCall P f args s Q := ⟨v, s', ⟨n0, h⟩, hq⟩
open Classical in
/-- **A CALL THAT COMES TO WHAT IS WANTED HOLDS OF THE MODEL.** -/
theorem wpCall_sound (hm : P.follows .mixedOrders = true) {f : FuncId} {args : List AVal} {us : Array Value} {w : World} {ι : Ren} (h : wpCall P f args s Q) (hw : WRel P ι s w) (hv : VRels ι args us.toList) :
    Calls P f us w fun e w' => ∃ v ι' s' a, e = .returned v ∧ Ext ι w ι' w' ∧ WRel P ι' s' w' ∧ VRel ι' a v ∧ Q a s' := by
  obtain ⟨v, s', ⟨n0, h1⟩, h2⟩ := h
  have := run_sound hm (K := fun v' s'' => hold (v' = v ∧ s'' = s')) (h1 n0 (Nat.le_refl _) _ (hold_true.2 ⟨rfl, rfl⟩)) hw hv
  refine this.mono ?_
  rintro e w' ⟨u, ι', s2, a, e1, e2, e3, e4, e5⟩
  obtain ⟨rfl, rfl⟩ := hold_true.1 e5
  exact ⟨u, ι', s2, a, e1, e2, e3, e4, h2⟩
end
end Go.AM
