/-
  An evaluator for calls whose arguments are known: code.
  An evaluator for calls whose arguments are known: regions that draw their order. What is run.
  An evaluator for calls whose arguments are known: regions that draw their order. What each step comes to.
  An evaluator for calls whose arguments are known: regions that draw their order. Every order.
  An evaluator for calls whose arguments are known: regions that draw their order.
  The evaluator once more, staged: what is known of the code is worked out once; what is run is in continuation style, and equal to the first one. Its pieces.
  The evaluator once more, staged: the operations; equal to the first ones.
  The evaluator once more, staged: operations one after another, calls, code; equal to the first one.
-/
import Derived.Test.YtdpoecjbofofoaaGreatDoorEvMb
import Derived.Orders
set_option linter.unusedVariables false
set_option linter.unusedSimpArgs false
namespace Go.Ev
open Go
noncomputable section
variable {P : Program}

theorem stepK_inv {M : Memo} (hM : MemoOk P M) {ev : Ev} (hev : EvOk P ev) {ops : Array Oper} {m : Nat} {o : Oper} {T : T} {S : St} {k : KN} {r : AV} {s : St} (h : stepK P M ev ops m o T S k = .ok r s) :
    ∃ T' S', k T' S' = .ok r s ∧ ∀ {i : Nat}, ops[i]? = some o → ∀ {ι : Inj} {a : Act} {w : World}, RA ι m T a → HR ι S w → ∀ {rest : List Nat} {Q : Exit → Act → World → Prop},
      (∀ κ a' w', RA κ m T' a' → HR κ S' w' → Ext ι w κ w' → a'.defers = a.defers → wpOps P ops Q rest a' w') → wpOps P ops Q (i :: rest) a w := by
  obtain ⟨b, h, hb⟩ := guardK_inv h
  cases b with
  | false =>
    rw [if_neg (by decide)] at h
    obtain ⟨T', h, hT⟩ := putK_inv h
    refine ⟨T', S, h, fun {i} ho {ι a w} ra hr {rest Q} hn => ?_⟩
    simp only [wpOps, ho, hb ra, Bool.false_eq_true, if_false]
    exact hn ι _ w (hT ra ⟨#[], rfl, rfl⟩) hr (Ext.refl _ _) (put_defers' _ _ _)
  | true =>
    rw [if_pos rfl] at h
    obtain ⟨v, S', h, hv⟩ := doK_inv hM hev kd_ok h
    obtain ⟨T', h, hT⟩ := putK_inv h
    refine ⟨T', S', h, fun {i} ho {ι a w} ra hr {rest Q} hn => ?_⟩
    simp only [wpOps, ho, hb ra, if_true]
    exact .inl (hv ra hr fun κ u w' h1 h2 h3 => hn κ _ w' (hT (ra.mono h3.le) h1) h2 h3 (put_defers' _ _ _))
theorem opsK_inv {M : Memo} (hM : MemoOk P M) {ev : Ev} (hev : EvOk P ev) {ops : Array Oper} {m : Nat} : ∀ {l : List Oper} {T : T} {S : St} {k : KN} {r : AV} {s : St}, opsK P M ev ops m l T S k = .ok r s →
    ∃ T' S', k T' S' = .ok r s ∧ ∀ {i : Nat}, (∀ j o, l[j]? = some o → ops[i + j]? = some o) → ∀ {ι : Inj} {a : Act} {w : World}, RA ι m T a → HR ι S w → ∀ {Q : Exit → Act → World → Prop},
      (∀ κ a' w', RA κ m T' a' → HR κ S' w' → Ext ι w κ w' → a'.defers = a.defers → Q .normal a' w') → wpOps P ops Q (List.range' i l.length) a w
  | [], T, S, k, r, s, h => ⟨T, S, h, fun {i} _ {ι a w} ra hr {Q} hn => hn ι a w ra hr (Ext.refl _ _) rfl⟩
  | o :: l, T, S, k, r, s, h => by
    have h : stepK P M ev ops m o T S (fun T S => opsK P M ev ops m l T S k) = .ok r s := h
    obtain ⟨T1, S1, h, h1⟩ := stepK_inv hM hev h
    obtain ⟨T2, S2, h, h2⟩ := opsK_inv hM hev h
    refine ⟨T2, S2, h, fun {i} hl {ι a w} ra hr {Q} hn => ?_⟩
    rw [List.length_cons, List.range'_succ]
    refine h1 (hl 0 o rfl) ra hr fun κ a' w' g1 g2 g3 g4 => ?_
    refine h2 (i := i + 1) (fun j o' hj => by have := hl (j + 1) o' hj; rwa [show i + (j + 1) = i + 1 + j by omega] at this) g1 g2 fun κ' a'' w'' k1 k2 k3 k4 => ?_
    exact hn κ' a'' w'' k1 k2 (g3.trans k3) (k4.trans g4)
/-- What runs a region that draws its order. -/
abbrev Drawn := Memo → Ev → Nat → Array Oper → T → St → KN → R
def DrawnOk (P : Program) (D : Drawn) : Prop := ∀ {M : Memo}, MemoOk P M → ∀ {ev : Ev}, EvOk P ev → ∀ {m : Nat} {ops : Array Oper} {T : T} {S : St} {k : KN} {r : AV} {s : St}, D M ev m ops T S k = .ok r s →
  ∃ T' S', k T' S' = .ok r s ∧ ∀ {id : Nat} {ι : Inj} {a : Act} {w : World}, RA ι m T a → HR ι S w → (Code.region id ops true).wp P (Post ι w m a.defers .normal T' S') a w
def regK (P : Program) (D : Drawn) (M : Memo) (ev : Ev) (m : Nat) (ops : Array Oper) (draw : Bool) : T → St → KN → R := Bool.rec (motive := fun _ => T → St → KN → R)
  (fun T S k => opsK P M ev ops m ops.toList T S k) (fun T S k => D M ev m ops T S k) draw
abbrev Mo := T → St → KN → KX → R
def blockX (id : Nat) (kn : KN) (kx : KX) (e : Ex) (T : T) (S : St) : R := match e with
  | .ex i => Bool.rec (motive := fun _ => R) (kx (.ex i) T S) (kn T S) (Nat.beq i id)
  | e => kx e T S
def scopeX (ev : Ev) (m : Nat) (body : Code) (kn : KN) (kx : KX) (e : Ex) (T : T) (S : St) : R := match e with
  | .gt l => match findLabel body l with
    | some rest => ev (.scope rest body) m T S kn kx
    | none => kx (.gt l) T S
  | e => kx e T S
def evC (P : Program) (D : Drawn) (M : Memo) (ev : Ev) (m : Nat) (c : Code) : Mo := Code.rec (motive := fun _ => Mo)
  (fun T S kn kx => kn T S)
  (fun _ ops draw T S kn kx => regK P D M ev m ops draw T S kn)
  (fun _ _ iha ihb T S kn kx => iha T S (fun T S => ihb T S kn kx) kx)
  (fun c _ _ iha ihb T S kn kx => onBool (opnd c T) (iha T S kn kx) (ihb T S kn kx))
  (fun id _ ih T S kn kx => ih T S kn (blockX id kn kx))
  (fun b _ T S kn kx => ev (.loop b) m T S kn kx)
  (fun _ _ _ _ _ _ T S kn kx => .bad 97)
  (fun id T S kn kx => kx (.ex id) T S)
  (fun b _ T S kn kx => ev (.scope b b) m T S kn kx)
  (fun _ T S kn kx => kn T S)
  (fun l T S kn kx => kx (.gt l) T S)
  (fun T S kn kx => kx .rt T S)
  (fun _ T S kn kx => .bad 98) c
theorem Post.trans {ι κ : Inj} {w v : World} {m : Nat} {ds ds' : List Deferred} {e : Exit} {T : T} {S : St} (h : Ext ι w κ v) (hd : ds' = ds) {e' : Exit} {a : Act} {u : World} (hp : Post κ v m ds' e T S e' a u) : Post ι w m ds e T S e' a u := by
  obtain ⟨h1, μ, h2, h3, h4, h5⟩ := hp
  exact ⟨h1, μ, h2, h3, h.trans h4, h5.trans hd⟩
theorem evC_inv {D : Drawn} (hD : DrawnOk P D) {M : Memo} (hM : MemoOk P M) {ev : Ev} (hev : EvOk P ev) {m : Nat} : ∀ {c : Code} {T : T} {S : St} {kn : KN} {kx : KX} {r : AV} {s : St}, evC P D M ev m c T S kn kx = .ok r s →
    (∃ T' S', kn T' S' = .ok r s ∧ Says P (.code c) m T S .normal T' S') ∨ ∃ x T' S', kx x T' S' = .ok r s ∧ Says P (.code c) m T S (exitOf x) T' S' := by
  intro c
  induction c with
  | skip => exact fun {T S kn kx r s} h => .inl ⟨T, S, h, fun {ι a w} ra hr => wp_skip ⟨rfl, ι, ra, hr, Ext.refl _ _, rfl⟩⟩
  | region id ops draw =>
    intro T S kn kx r s h
    cases draw with
    | false =>
      obtain ⟨T', S', h, hs⟩ := opsK_inv hM hev (show opsK P M ev ops m ops.toList T S kn = .ok r s from h)
      refine .inl ⟨T', S', h, fun {ι a w} ra hr => wp_region ?_⟩
      have := hs (i := 0) (fun j o hj => by rw [Nat.zero_add, ← Array.getElem?_toList]; exact hj) ra hr (Q := Post ι w m a.defers .normal T' S') fun κ a' w' g1 g2 g3 g4 => ⟨rfl, κ, g1, g2, g3, g4⟩
      rw [Array.length_toList, ← List.range_eq_range'] at this
      exact this
    | true =>
      obtain ⟨T', S', h, hs⟩ := hD hM hev (show D M ev m ops T S kn = .ok r s from h)
      exact .inl ⟨T', S', h, fun {ι a w} ra hr => hs ra hr⟩
  | seq x y ihx ihy =>
    intro T S kn kx r s h
    rcases ihx (show evC P D M ev m x T S (fun T S => evC P D M ev m y T S kn kx) kx = .ok r s from h) with ⟨T1, S1, h, h1⟩ | ⟨e, T1, S1, h, h1⟩
    · rcases ihy h with ⟨T2, S2, h, h2⟩ | ⟨e, T2, S2, h, h2⟩
      · refine .inl ⟨T2, S2, h, fun {ι a w} ra hr => wp_seq (wp_mono (h1 ra hr) ?_)⟩
        rintro e a' w' ⟨rfl, κ, g1, g2, g3, g4⟩
        exact wp_mono (h2 g1 g2) fun e a w hp => hp.trans g3 g4
      · refine .inr ⟨e, T2, S2, h, fun {ι a w} ra hr => wp_seq (wp_mono (h1 ra hr) ?_)⟩
        rintro e a' w' ⟨rfl, κ, g1, g2, g3, g4⟩
        exact wp_mono (h2 g1 g2) fun e a w hp => hp.trans g3 g4
    · refine .inr ⟨e, T1, S1, h, fun {ι a w} ra hr => wp_seq (wp_mono (h1 ra hr) ?_)⟩
      rintro e' a' w' ⟨rfl, hp⟩
      cases e <;> exact ⟨rfl, hp⟩
  | cond c x y ihx ihy =>
    intro T S kn kx r s h
    rcases onBool_inv (show onBool (opnd c T) (evC P D M ev m x T S kn kx) (evC P D M ev m y T S kn kx) = .ok r s from h) with ⟨hc, h⟩ | ⟨hc, h⟩
    · have hcond : ∀ {ι : Inj} {a : Act}, RA ι m T a → a.eval c = .bool true := fun ra => by
        have e := opnd_rep ra c; rw [hc] at e; exact e
      rcases ihx h with ⟨T', S', h, h1⟩ | ⟨e, T', S', h, h1⟩
      · exact .inl ⟨T', S', h, fun {ι a w} ra hr => wp_cond_true (hcond ra) (h1 ra hr)⟩
      · exact .inr ⟨e, T', S', h, fun {ι a w} ra hr => wp_cond_true (hcond ra) (h1 ra hr)⟩
    · have hcond : ∀ {ι : Inj} {a : Act}, RA ι m T a → a.eval c = .bool false := fun ra => by
        have e := opnd_rep ra c; rw [hc] at e; exact e
      rcases ihy h with ⟨T', S', h, h1⟩ | ⟨e, T', S', h, h1⟩
      · exact .inl ⟨T', S', h, fun {ι a w} ra hr => wp_cond_false (hcond ra) (h1 ra hr)⟩
      · exact .inr ⟨e, T', S', h, fun {ι a w} ra hr => wp_cond_false (hcond ra) (h1 ra hr)⟩
  | block id b ih =>
    intro T S kn kx r s h
    rcases ih (show evC P D M ev m b T S kn (blockX id kn kx) = .ok r s from h) with ⟨T', S', h, h1⟩ | ⟨e, T', S', h, h1⟩
    · refine .inl ⟨T', S', h, fun {ι a w} ra hr => wp_block (wp_mono (h1 ra hr) ?_)⟩
      rintro e' a' w' ⟨rfl, hp⟩
      exact ⟨rfl, hp⟩
    · cases e with
      | ex i =>
        have h0 : (Bool.rec (motive := fun _ => R) (kx (.ex i) T' S') (kn T' S') (Nat.beq i id)) = .ok r s := h
        clear h
        cases hb : Nat.beq i id with
        | true =>
          rw [hb] at h0
          obtain rfl := Nat.eq_of_beq_eq_true hb
          refine .inl ⟨T', S', h0, fun {ι a w} ra hr => wp_block (wp_mono (h1 ra hr) ?_)⟩
          rintro e' a' w' ⟨rfl, hp⟩
          simp only [exitOf, Exit.inBlock, if_true]
          exact ⟨rfl, hp⟩
        | false =>
          rw [hb] at h0
          have hne : i ≠ id := Nat.ne_of_beq_eq_false hb
          refine .inr ⟨.ex i, T', S', h0, fun {ι a w} ra hr => wp_block (wp_mono (h1 ra hr) ?_)⟩
          rintro e' a' w' ⟨rfl, hp⟩
          simp only [exitOf, Exit.inBlock, hne, if_false]
          exact ⟨rfl, hp⟩
      | gt l =>
        refine .inr ⟨.gt l, T', S', h, fun {ι a w} ra hr => wp_block (wp_mono (h1 ra hr) ?_)⟩
        rintro e' a' w' ⟨rfl, hp⟩
        exact ⟨rfl, hp⟩
      | rt =>
        refine .inr ⟨.rt, T', S', h, fun {ι a w} ra hr => wp_block (wp_mono (h1 ra hr) ?_)⟩
        rintro e' a' w' ⟨rfl, hp⟩
        exact ⟨rfl, hp⟩
  | loop b ih =>
    intro T S kn kx r s h
    rcases hev (show ev (.loop b) m T S kn kx = .ok r s from h) with ⟨T', S', h, n, h1⟩ | ⟨e, T', S', h, n, h1⟩
    · exact .inl ⟨T', S', h, fun {ι a w} ra hr => wp_loop_rounds n (h1 ra hr)⟩
    · exact .inr ⟨e, T', S', h, fun {ι a w} ra hr => wp_loop_rounds n (h1 ra hr)⟩
  | rangeFunc => exact fun {T S kn kx r s} h => (R.bad_ne h).elim
  | exit id => exact fun {T S kn kx r s} h => .inr ⟨.ex id, T, S, h, fun {ι a w} ra hr => wp_exit ⟨rfl, ι, ra, hr, Ext.refl _ _, rfl⟩⟩
  | scope b ih =>
    intro T S kn kx r s h
    rcases hev (show ev (.scope b b) m T S kn kx = .ok r s from h) with ⟨T', S', h, n, h1⟩ | ⟨e, T', S', h, n, h1⟩
    · exact .inl ⟨T', S', h, fun {ι a w} ra hr => wp_scope_hops n (h1 ra hr)⟩
    · exact .inr ⟨e, T', S', h, fun {ι a w} ra hr => wp_scope_hops n (h1 ra hr)⟩
  | label l => exact fun {T S kn kx r s} h => .inl ⟨T, S, h, fun {ι a w} ra hr => wp_label ⟨rfl, ι, ra, hr, Ext.refl _ _, rfl⟩⟩
  | goto l => exact fun {T S kn kx r s} h => .inr ⟨.gt l, T, S, h, fun {ι a w} ra hr => wp_goto ⟨rfl, ι, ra, hr, Ext.refl _ _, rfl⟩⟩
  | ret => exact fun {T S kn kx r s} h => .inr ⟨.rt, T, S, h, fun {ι a w} ra hr => wp_ret ⟨rfl, ι, ra, hr, Ext.refl _ _, rfl⟩⟩
  | refuse => exact fun {T S kn kx r s} h => (R.bad_ne h).elim
/-! ### Jobs -/
def evJ (P : Program) (D : Drawn) (M : Memo) (ev : Ev) : Ev := fun j => Job.rec (motive := fun _ => Nat → T → St → KN → KX → R)
  (fun c m T S kn kx => evC P D M ev m c T S kn kx)
  (fun b m T S kn kx => evC P D M ev m b T S (fun T S => ev (.loop b) m T S kn kx) kx)
  (fun cur body m T S kn kx => evC P D M ev m cur T S kn (scopeX ev m body kn kx))
  (fun l i n m T S kn kx => okK (Nat.beq ((l.toList.drop i).take n).length n) (opsK P M ev l m ((l.toList.drop i).take n) T S kn)) j
def evN (P : Program) (D : Drawn) (M : Memo) (n : Nat) : Ev := Nat.rec (motive := fun _ => Ev) (fun _ _ _ _ _ _ => .bad 99) (fun _ ev => evJ P D M ev) n
theorem evJ_ok {D : Drawn} (hD : DrawnOk P D) {M : Memo} (hM : MemoOk P M) {ev : Ev} (hev : EvOk P ev) : EvOk P (evJ P D M ev) := by
  intro j m T S kn kx r s h
  cases j with
  | ops l i n =>
    have h : okK (Nat.beq ((l.toList.drop i).take n).length n) (opsK P M ev l m ((l.toList.drop i).take n) T S kn) = .ok r s := h
    obtain ⟨hn, h⟩ := okK_inv h
    have hn := Nat.eq_of_beq_eq_true hn
    obtain ⟨T', S', h, hs⟩ := opsK_inv hM hev h
    refine .inl ⟨T', S', h, fun {ι a w} ra hr => ?_⟩
    have := hs (i := i) (fun j o hj => by
      rw [List.getElem?_take] at hj
      split at hj
      · rw [List.getElem?_drop, Array.getElem?_toList] at hj; exact hj
      · cases hj) ra hr (Q := Post ι w m a.defers .normal T' S') fun κ a' w' g1 g2 g3 g4 => ⟨rfl, κ, g1, g2, g3, g4⟩
    rw [hn] at this
    exact this
  | code c => exact evC_inv hD hM hev (show evC P D M ev m c T S kn kx = .ok r s from h)
  | loop b =>
    rcases evC_inv hD hM hev (show evC P D M ev m b T S (fun T S => ev (.loop b) m T S kn kx) kx = .ok r s from h) with ⟨T1, S1, h, h1⟩ | ⟨e, T1, S1, h, h1⟩
    · rcases hev h with ⟨T2, S2, h, n, h2⟩ | ⟨e, T2, S2, h, n, h2⟩
      · refine .inl ⟨T2, S2, h, n + 1, fun {ι a w} ra hr => wp_mono (h1 ra hr) ?_⟩
        rintro e a' w' ⟨rfl, κ, g1, g2, g3, g4⟩
        exact rounds_mono (fun e a w hp => hp.trans g3 g4) (h2 g1 g2)
      · refine .inr ⟨e, T2, S2, h, n + 1, fun {ι a w} ra hr => wp_mono (h1 ra hr) ?_⟩
        rintro e a' w' ⟨rfl, κ, g1, g2, g3, g4⟩
        exact rounds_mono (fun e a w hp => hp.trans g3 g4) (h2 g1 g2)
    · refine .inr ⟨e, T1, S1, h, 1, fun {ι a w} ra hr => wp_mono (h1 ra hr) ?_⟩
      rintro e' a' w' ⟨rfl, hp⟩
      cases e <;> exact ⟨rfl, hp⟩
  | scope cur body =>
    rcases evC_inv hD hM hev (show evC P D M ev m cur T S kn (scopeX ev m body kn kx) = .ok r s from h) with ⟨T1, S1, h, h1⟩ | ⟨e, T1, S1, h, h1⟩
    · refine .inl ⟨T1, S1, h, 1, fun {ι a w} ra hr => wp_mono (h1 ra hr) ?_⟩
      rintro e a' w' ⟨rfl, hp⟩
      exact ⟨rfl, hp⟩
    · cases e with
      | gt l =>
        unfold scopeX at h
        dsimp only at h
        split at h
        · rename_i rest hrest
          rcases hev h with ⟨T2, S2, h, n, h2⟩ | ⟨e, T2, S2, h, n, h2⟩
          · refine .inl ⟨T2, S2, h, n + 1, fun {ι a w} ra hr => wp_mono (h1 ra hr) ?_⟩
            rintro e a' w' ⟨rfl, κ, g1, g2, g3, g4⟩
            simp only [exitOf, hrest]
            exact hops_mono (fun e a w hp => hp.trans g3 g4) (h2 g1 g2)
          · refine .inr ⟨e, T2, S2, h, n + 1, fun {ι a w} ra hr => wp_mono (h1 ra hr) ?_⟩
            rintro e a' w' ⟨rfl, κ, g1, g2, g3, g4⟩
            simp only [exitOf, hrest]
            exact hops_mono (fun e a w hp => hp.trans g3 g4) (h2 g1 g2)
        · rename_i hrest
          refine .inr ⟨.gt l, T1, S1, h, 1, fun {ι a w} ra hr => wp_mono (h1 ra hr) ?_⟩
          rintro e a' w' ⟨rfl, hp⟩
          simp only [exitOf, hrest]
          exact ⟨rfl, hp⟩
      | ex i =>
        refine .inr ⟨.ex i, T1, S1, h, 1, fun {ι a w} ra hr => wp_mono (h1 ra hr) ?_⟩
        rintro e a' w' ⟨rfl, hp⟩
        exact ⟨rfl, hp⟩
      | rt =>
        refine .inr ⟨.rt, T1, S1, h, 1, fun {ι a w} ra hr => wp_mono (h1 ra hr) ?_⟩
        rintro e a' w' ⟨rfl, hp⟩
        exact ⟨rfl, hp⟩
theorem evN_ok {D : Drawn} (hD : DrawnOk P D) {M : Memo} (hM : MemoOk P M) : ∀ n, EvOk P (evN P D M n)
  | 0 => by intro h; exact (R.bad_ne h).elim
  | n + 1 => evJ_ok hD hM (evN_ok hD hM n)
/-- A call from known arguments. -/
def call (P : Program) (D : Drawn) (M : Memo) (n g : Nat) (args : AV) (S : St) : R := match P.funcs[g]? with
    | some fn => okK (goodFn fn) (match fn.body with
      | some c => bodyX P (evN P D M n) fn c args S .ok
      | none => .bad 94)
    | none => .bad 95
theorem call_says {D : Drawn} (hD : DrawnOk P D) {M : Memo} (hM : MemoOk P M) {n g : Nat} {args v : AV} {S S' : St} (h : call P D M n g args S = .ok v S') : CallSays P g args S v S' := by
  unfold call at h
  split at h
  · rename_i fn hf
    obtain ⟨hg, h⟩ := okK_inv h
    split at h
    · rename_i c hc
      obtain ⟨v', S'', h, hs⟩ := bodyX_inv (evN_ok hD hM n) hf hg hc h
      cases h
      exact hs
    · exact (R.bad_ne h).elim
  · exact (R.bad_ne h).elim
end
end Go.Ev
set_option linter.unusedVariables false
set_option linter.unusedSimpArgs false
namespace Go.Ev
open Go
noncomputable section
variable {P : Program}

/-! ### Whether two data are one -/
def fnEq : Fn → Fn → Bool
  | .func f, .func g => Nat.beq f g
  | _, _ => false
theorem fnEq_eq {f g : Fn} (h : fnEq f g = true) : f = g := by
  unfold fnEq at h
  split at h
  · rw [Nat.eq_of_beq_eq_true h]
  · cases h
def avEq : AV → AV → Bool
  | .bool a, .bool b => a == b
  | .int k a, .int l b => eqKd k l && eqI a b
  | .str n a, .str m b => Nat.beq n m && Nat.beq a b
  | .pnil, .pnil => true
  | .ptr b o, .ptr c p => Nat.beq b c && Nat.beq o p
  | .snil, .snil => true
  | .sl b o n c, .sl b' o' n' c' => Nat.beq b b' && (Nat.beq o o' && (Nat.beq n n' && Nat.beq c c'))
  | .slu b o n c, .slu b' o' n' c' => Nat.beq b b' && (Nat.beq o o' && (Nat.beq n n' && Nat.beq c c'))
  | .mnil, .mnil => true
  | .map b, .map c => Nat.beq b c
  | .fn f x y, .fn g x' y' => fnEq f g && (avEq x x' && avEq y y')
  | .fnil, .fnil => true
  | .inil, .inil => true
  | .iface t x, .iface u y => Nat.beq t u && avEq x y
  | .agg x, .agg y => avEq x y
  | .tup x, .tup y => avEq x y
  | .ge a, .ge b => Nat.beq a b
  | .nl, .nl => true
  | .cons a x, .cons b y => avEq a b && avEq x y
  | _, _ => false
theorem avEq_eq : ∀ {a b : AV}, avEq a b = true → a = b := by
  intro a
  induction a with
  | top => intro b h; cases b <;> cases h
  | bool a => intro b h; cases b <;> first | (cases h; done) | skip
              simp only [avEq, beq_iff_eq] at h; rw [h]
  | int k a => intro b h; cases b <;> first | (cases h; done) | skip
               simp only [avEq, Bool.and_eq_true] at h
               obtain ⟨h1, h2⟩ := h
               rw [eqI_eq, decide_eq_true_eq] at h2
               rw [eqKd_eq h1, h2]
  | str n x => intro b h; cases b <;> first | (cases h; done) | skip
               simp only [avEq, Bool.and_eq_true, Nat.beq_eq] at h; rw [h.1, h.2]
  | pnil => intro b h; cases b <;> first | (cases h; done) | rfl
  | ptr c o => intro b h; cases b <;> first | (cases h; done) | skip
               simp only [avEq, Bool.and_eq_true, Nat.beq_eq] at h; rw [h.1, h.2]
  | snil => intro b h; cases b <;> first | (cases h; done) | rfl
  | sl c o n k => intro b h; cases b <;> first | (cases h; done) | skip
                  simp only [avEq, Bool.and_eq_true, Nat.beq_eq] at h; rw [h.1, h.2.1, h.2.2.1, h.2.2.2]
  | slu c o n k => intro b h; cases b <;> first | (cases h; done) | skip
                   simp only [avEq, Bool.and_eq_true, Nat.beq_eq] at h; rw [h.1, h.2.1, h.2.2.1, h.2.2.2]
  | mnil => intro b h; cases b <;> first | (cases h; done) | rfl
  | map c => intro b h; cases b <;> first | (cases h; done) | skip
             simp only [avEq, Nat.beq_eq] at h; rw [h]
  | fn f x y ihx ihy => intro b h; cases b <;> first | (cases h; done) | skip
                        simp only [avEq, Bool.and_eq_true] at h
                        rw [fnEq_eq h.1, ihx h.2.1, ihy h.2.2]
  | fnil => intro b h; cases b <;> first | (cases h; done) | rfl
  | inil => intro b h; cases b <;> first | (cases h; done) | rfl
  | iface t x ih => intro b h; cases b <;> first | (cases h; done) | skip
                    simp only [avEq, Bool.and_eq_true, Nat.beq_eq] at h
                    rw [h.1, ih h.2]
  | agg x ih => intro b h; cases b <;> first | (cases h; done) | skip
                rw [ih h]
  | tup x ih => intro b h; cases b <;> first | (cases h; done) | skip
                rw [ih h]
  | ge n => intro b h; cases b <;> first | (cases h; done) | skip
            simp only [avEq, Nat.beq_eq] at h; rw [h]
  | nl => intro b h; cases b <;> first | (cases h; done) | rfl
  | cons a x iha ihx => intro b h; cases b <;> first | (cases h; done) | skip
                        simp only [avEq, Bool.and_eq_true] at h
                        rw [iha h.1, ihx h.2]
def csEq (c d : Cs) : Nat → Bool
  | 0 => true
  | j + 1 => avEq (c.get j) (d.get j) && csEq c d j
theorem csEq_get {c d : Cs} : ∀ {n : Nat}, csEq c d n = true → ∀ j, j < n → c.get j = d.get j
  | 0, _, j, h => by omega
  | n + 1, h, j, hj => by
    simp only [csEq, Bool.and_eq_true] at h
    by_cases e : j = n
    · subst e; exact avEq_eq h.1
    · exact csEq_get h.2 j (by omega)
def aoSame : AO → AO → Bool
  | .cells n c, .cells m d => Nat.beq n m && (Nat.ble n d.room && csEq c d n)
  | .map [], .map [] => true
  | _, _ => false
theorem RO.same {ι : Inj} {x y : AO} {l : Loc} {w : World} (h : aoSame x y = true) (r : RO ι x l w) : RO ι y l w := by
  unfold aoSame at h
  split at h
  · simp only [Bool.and_eq_true, Nat.beq_eq] at h
    obtain ⟨rfl, h1, h2⟩ := h
    obtain ⟨r1, r2, a, e, f, r3, rf, r4, r5⟩ := r
    refine ⟨Nat.le_of_ble_eq_true h1, r2, a, e, f, r3, rf, r4, fun i hi => ?_⟩
    rw [← csEq_get h2 i hi]; exact r5 i hi
  · exact r
  · cases h

/-! ### The plan of a region -/
structure Stp where
  i : Nat
  ls : List (Nat × Bool)
structure Ph where
  ns : List Stp
  re : List Stp
  e : Option Stp
structure Plan where
  big : Nat
  phs : List Ph
/-- Whether operation `j` comes ahead of operation `i`, whatever is drawn. -/
def inb (big i j : Nat) : Bool := Nat.beq (Nat.land (Nat.shiftRight big (Nat.add (Nat.mul 64 i) j)) 1) 1
def idxs : List Stp → List Nat
  | [] => []
  | s :: l => s.i :: idxs l
def eIdx : Option Stp → List Nat
  | none => []
  | some s => [s.i]
def opsOf : List Ph → List Nat
  | [] => []
  | p :: r => idxs p.ns ++ (eIdx p.e ++ opsOf r)
def hasN (i : Nat) : List Nat → Bool
  | [] => false
  | j :: l => Nat.beq i j || hasN i l
theorem hasN_iff {i : Nat} : ∀ {l : List Nat}, hasN i l = true ↔ i ∈ l
  | [] => by simp [hasN]
  | j :: l => by simp [hasN, hasN_iff (l := l)]
def goodPhs (big : Nat) : List Ph → Bool
  | [] => false
  | ph :: rest => (idxs ph.ns).all (fun i => hasN i (idxs ph.re)) && match ph.e, rest with
    | none, [] => true
    | some e, ph' :: _ => (opsOf rest).all (fun i => inb big i e.i && !Nat.beq i e.i) && ((idxs ph.re).all (fun i => !Nat.beq i e.i && (!hasN i (opsOf rest) && (inb big e.i i || hasN i (idxs ph'.re)))) && goodPhs big rest)
    | _, _ => false
def befOk (big : Nat) (n i : Nat) (o : Oper) : Bool := o.after.toList.all (fun e => !Region.binds .any e || Nat.blt e.on i) &&
  (List.range n).all fun j => !inb big i j || o.after.toList.any fun e => Region.binds .any e && (Nat.beq e.on j || inb big e.on j)
def dstOk (i : Nat) (o : Oper) (l : List (Oper × Nat)) : Bool := match o.dst with
  | none => true
  | some d => l.all fun p => match p.1.dst with
    | none => true
    | some d' => !Nat.beq d d' || Nat.beq i p.2
def lsOk (big : Nat) (l : List (Oper × Nat)) (s : Stp) : Bool := s.ls.all fun q => match q.2 with
  | true => l.any fun p => (match p.1.dst with | some d => Nat.beq d q.1 | none => false) && inb big s.i p.2
  | false => l.all fun p => (match p.1.dst with | some d => !Nat.beq d q.1 | none => true) || (Nat.beq s.i p.2 || inb big p.2 s.i)
def stepsOf : List Ph → List Stp
  | [] => []
  | p :: r => p.ns ++ (p.re ++ (p.e.toList ++ stepsOf r))
def goodPlan (ops : Array Oper) (pl : Plan) : Bool :=
  let l := ops.toList.zipIdx
  l.all (fun p => befOk pl.big ops.size p.2 p.1 && dstOk p.2 p.1 l) && ((stepsOf pl.phs).all (fun s => lsOk pl.big l s) && ((List.range ops.size).all (fun i => hasN i (opsOf pl.phs)) && goodPhs pl.big pl.phs))

/-! ### What is run -/
def maskK (T0 T : T) (l : List (Nat × Bool)) : Ev.T → (Ev.T → R) → R := List.rec (motive := fun _ => Ev.T → (Ev.T → R) → R)
  (fun M k => k M) (fun q _ ih M k => okK (Nat.ble q.1 255) (tsetK q.1 (Bool.rec (tgetS q.1 T0) (tgetS q.1 T) q.2) M fun M => ih M k)) l
def gS (P : Program) (Mo : Memo) (ev : Ev) (ops : Array Oper) (m : Nat) (T0 : T) (s : Stp) (T : Ev.T) (S : St) (k : KN) : R := match ops[s.i]? with
  | some o => maskK T0 T s.ls emT fun M => guardK ops o.guard M (putK m o.dst (.tup .nl) T fun T => k T S) (doK P Mo ev (kd P o.op) M S fun v S => putK m o.dst v T fun T => k T S)
  | none => .bad 101
abbrev Bs := List (Nat × Nat)
def nK (x : Kd) (T : T) (S : St) (k : AV → St → Option Nat → R) : R := match x with
  | .pure f => f T fun v => k v S none
  | .load f => f T S.h fun v => k v S none
  | .make f => f T fun b mk => newK S b fun i S => k (mk i) S (some i)
  | _ => .bad 102
def addB (i : Nat) (b : Option Nat) (bs : Bs) : Bs := match b with
  | none => bs
  | some b => (i, b) :: bs
def runN (P : Program) (ops : Array Oper) (m : Nat) (T0 : T) : List Stp → T → St → Bs → (T → St → Bs → R) → R
  | [], T, S, bs, k => k T S bs
  | s :: l, T, S, bs, k => match ops[s.i]? with
    | some o => maskK T0 T s.ls emT fun M => guardK ops o.guard M (putK m o.dst (.tup .nl) T fun T => runN P ops m T0 l T S bs k)
        (nK (kd P o.op) M S fun v S b => putK m o.dst v T fun T => runN P ops m T0 l T S (addB s.i b bs) k)
    | none => .bad 101
def okD (m : Nat) (d : Option Nat) (v : AV) (T : T) (k : R) : R := match d with
  | none => k
  | some d => okK (Nat.ble (Nat.succ d) m) (okK (avEq v (tgetS d T)) k)
def findB (i : Nat) : Bs → Option Nat
  | [] => none
  | (j, b) :: l => match Nat.beq i j with
    | true => some b
    | false => findB i l
theorem findB_mem {i b : Nat} : ∀ {bs : Bs}, findB i bs = some b → (i, b) ∈ bs
  | (j, c) :: l, h => by
    unfold findB at h
    split at h
    · rename_i e
      rw [Nat.eq_of_beq_eq_true e]; cases h; exact .head _
    · exact .tail _ (findB_mem h)
def chK (x : Kd) (M : T) (S : St) (i m : Nat) (d : Option Nat) (T : Ev.T) (bs : Bs) (k : R) : R := match x with
  | .pure f => f M fun v => okD m d v T k
  | .load f => f M S.h fun v => okD m d v T k
  | .make f => f M fun b mk => match findB i bs with
    | some j => okK (aoSame b (hget j S.h)) (okD m d (mk j) T k)
    | none => .bad 103
  | _ => .bad 104
def chks (P : Program) (ops : Array Oper) (m : Nat) (T0 : T) : List Stp → T → St → Bs → R → R
  | [], T, S, bs, k => k
  | s :: l, T, S, bs, k => match ops[s.i]? with
    | some o => maskK T0 T s.ls emT fun M => guardK ops o.guard M (okD m o.dst (.tup .nl) T (chks P ops m T0 l T S bs k)) (chK (kd P o.op) M S s.i m o.dst T bs (chks P ops m T0 l T S bs k))
    | none => .bad 101
def phsK (P : Program) (Mo : Memo) (ev : Ev) (ops : Array Oper) (m : Nat) (T0 : T) : List Ph → T → St → Bs → KN → R
  | [], T, S, bs, k => .bad 105
  | ph :: rest, T, S, bs, k => runN P ops m T0 ph.ns T S bs fun T S bs => chks P ops m T0 ph.re T S bs (match ph.e with
    | none => k T S
    | some e => gS P Mo ev ops m T0 e T S fun T S' => okK (Nat.ble S.n S'.n) (phsK P Mo ev ops m T0 rest T S' bs k))
end
end Go.Ev
set_option linter.unusedVariables false
set_option linter.unusedSimpArgs false
namespace Go.Ev
open Go
noncomputable section
variable {P : Program}

def Inj.on (ι : Inj) (r : Nat → Prop) : Inj := ⟨ι.f, r⟩
theorem HR.on {ι : Inj} {S : St} {w : World} (h : HR ι S w) {r : Nat → Prop} (hr : ∀ b, r b → b < S.n) : HR (ι.on r) S w :=
  ⟨h.lim, h.fresh, fun b l e => RO.mono (ι := ι) (κ := ι.on r) (fun _ _ h => h) (h.live b l e), h.apart, hr⟩
theorem Ext.step {ι ι' κ : Inj} {w v u : World} {r : Nat → Prop} (h : Ext ι w (ι'.on ι.res) v) (g : Ext (ι'.on r) v κ u) (hk : ∀ b, ι.res b → r b) : Ext ι w (κ.on ι.res) u where
  os := g.os.trans h.os
  tape := g.tape.trans h.tape
  output := g.output.trans h.output
  size := Nat.le_trans h.size g.size
  le := fun b l e => g.le b l (h.le b l e)
  keep k hk hn := (g.keep k (Nat.lt_of_lt_of_le hk h.size) fun b l hb e => by
    rcases h.new b l hb with ⟨b', l', h1, h2⟩ | h1
    · exact hn b' l' h1 (h2.trans e)
    · omega).trans (h.keep k hk hn)
  new b l hb := by
    rcases g.new b l hb with ⟨b', l', h1, h2⟩ | h1
    · rcases h.new b' l' h1 with ⟨b'', l'', h3, h4⟩ | h3
      · exact .inl ⟨b'', l'', h3, h4.trans h2⟩
      · exact .inr (h2 ▸ h3)
    · exact .inr (Nat.le_trans h.size h1)
  same := rfl
  wait b hr hn := g.wait b (hk b hr) (h.wait b hr hn)

def Wr (ops : Array Oper) (t i : Nat) : Prop := ∃ o, ops[i]? = some o ∧ o.dst = some t
structure Facts (ops : Array Oper) (big : Nat) : Prop where
  back : ∀ i o, ops[i]? = some o → ∀ e ∈ o.after, Region.binds .any e = true → e.on < i
  bef : ∀ i o, ops[i]? = some o → ∀ j, j < ops.size → inb big i j = true → ∃ e ∈ o.after, Region.binds .any e = true ∧ (e.on = j ∨ inb big e.on j = true)
  one : ∀ t i j, Wr ops t i → Wr ops t j → i = j
def LsOk (ops : Array Oper) (big : Nat) (s : Stp) : Prop := ∀ t f, (t, f) ∈ s.ls → (f = true → ∃ i, Wr ops t i ∧ inb big s.i i = true) ∧ (f = false → ∀ i, Wr ops t i → s.i = i ∨ inb big i s.i = true)

theorem zip_all {ops : Array Oper} {p : Oper × Nat → Bool} (h : ops.toList.zipIdx.all p = true) {i : Nat} {o : Oper} (ho : ops[i]? = some o) : p (o, i) = true := by
  rw [List.all_eq_true] at h
  exact h _ (List.mk_mem_zipIdx_iff_getElem?.2 (by rw [Array.getElem?_toList]; exact ho))
theorem zip_any {ops : Array Oper} {p : Oper × Nat → Bool} (h : ops.toList.zipIdx.any p = true) : ∃ i o, ops[i]? = some o ∧ p (o, i) = true := by
  rw [List.any_eq_true] at h
  obtain ⟨⟨o, i⟩, h1, h2⟩ := h
  have := List.mk_mem_zipIdx_iff_getElem?.1 h1
  rw [Array.getElem?_toList] at this
  exact ⟨i, o, this, h2⟩
theorem goodPlan_inv {ops : Array Oper} {pl : Plan} (h : goodPlan ops pl = true) :
    Facts ops pl.big ∧ (∀ s ∈ stepsOf pl.phs, LsOk ops pl.big s) ∧ (∀ i, i < ops.size → i ∈ opsOf pl.phs) ∧ goodPhs pl.big pl.phs = true := by
  unfold goodPlan at h
  simp only [Bool.and_eq_true] at h
  obtain ⟨h1, h2, h3, h4⟩ := h
  refine ⟨⟨fun i o ho e he hb => ?_, fun i o ho j hj hij => ?_, ?_⟩, fun s hs t f hf => ?_, fun i hi => ?_, h4⟩
  · have := zip_all h1 ho
    simp only [Bool.and_eq_true, befOk] at this
    have := List.all_eq_true.1 this.1.1 e (by simpa using he)
    simp only [hb, Bool.not_true, Bool.false_or] at this
    simpa [Nat.blt_eq] using this
  · have := zip_all h1 ho
    simp only [Bool.and_eq_true, befOk] at this
    have := List.all_eq_true.1 this.1.2 j (List.mem_range.2 hj)
    simp only [hij, Bool.not_true, Bool.false_or, List.any_eq_true, Bool.and_eq_true, Bool.or_eq_true, Nat.beq_eq] at this
    obtain ⟨e, he, h5, h6⟩ := this
    exact ⟨e, by simpa using he, h5, h6⟩
  · rintro t i j ⟨o, ho, hd⟩ ⟨o', ho', hd'⟩
    have := zip_all h1 ho
    simp only [Bool.and_eq_true, dstOk, hd] at this
    have := zip_all this.2 ho'
    simp only [hd'] at this
    simpa using this
  · have := List.all_eq_true.1 h2 s hs
    unfold lsOk at this
    have := List.all_eq_true.1 this _ hf
    refine ⟨?_, ?_⟩
    · rintro rfl
      dsimp only at this
      obtain ⟨i, o, ho, hp⟩ := zip_any this
      simp only [Bool.and_eq_true] at hp
      refine ⟨i, ⟨o, ho, ?_⟩, hp.2⟩
      have := hp.1
      split at this
      · rename_i d hd; rw [hd, Nat.eq_of_beq_eq_true this]
      · cases this
    · rintro rfl i ⟨o, ho, hd⟩
      dsimp only at this
      have := zip_all this ho
      simp only [hd, Bool.or_eq_true] at this
      rcases this with h | h | h
      · simp at h
      · exact .inl (Nat.eq_of_beq_eq_true h)
      · exact .inr h
  · exact hasN_iff.1 (List.all_eq_true.1 h3 i (List.mem_range.2 hi))

def MaskRV (T0 T : T) (s : Stp) (ι : Inj) (a : Act) : Prop := ∀ t f, (t, f) ∈ s.ls → RV ι (Bool.rec (tgetS t T0) (tgetS t T) f : AV) (a.tmps.getD t undef)
theorem RA.em {ι : Inj} {m : Nat} {a : Act} (h : m ≤ a.tmps.size) (hm : m ≤ 256) : RA ι m emT a := ⟨h, hm, fun t ht => by rw [tget_em]; exact trivial⟩
theorem RA.mark {ι : Inj} {m t : Nat} {M : T} {a : Act} {v : AV} (ra : RA ι m M a) (ht : t < 256) (hv : RV ι v (a.tmps.getD t undef)) : RA ι m (tset t v M) a :=
  ⟨ra.size, ra.le, fun u hu => by
    by_cases e : t = u
    · subst e; rw [tget_same]; exact hv
    · rw [tget_other ht hu e]; exact ra.val u hu⟩
theorem maskK_inv' {T0 T : T} : ∀ {l : List (Nat × Bool)} {M : Ev.T} {k : Ev.T → R} {r : AV} {s : St}, maskK T0 T l M k = .ok r s →
    ∃ M', k M' = .ok r s ∧ ∀ {ι : Inj} {m : Nat} {a : Act}, RA ι m M a → (∀ t f, (t, f) ∈ l → RV ι (Bool.rec (tgetS t T0) (tgetS t T) f : AV) (a.tmps.getD t undef)) → RA ι m M' a
  | [], M, k, r, s, h => ⟨M, h, fun ra _ => ra⟩
  | (t, f) :: l, M, k, r, s, h => by
    change okK (Nat.ble t 255) (tsetK t (Bool.rec (tgetS t T0) (tgetS t T) f) M fun M => maskK T0 T l M k) = _ at h
    obtain ⟨h1, h⟩ := okK_inv h
    have h1 := Nat.le_of_ble_eq_true h1
    rw [tsetK_eq] at h
    obtain ⟨M', h, hM⟩ := maskK_inv' h
    exact ⟨M', h, fun ra hl => hM (ra.mark (by omega) (hl t f (.head _))) fun t' f' h' => hl t' f' (.tail _ h')⟩
theorem maskK_inv {T0 T : T} {q : Stp} {k : Ev.T → R} {r : AV} {s : St} (h : maskK T0 T q.ls emT k = .ok r s) :
    ∃ M, k M = .ok r s ∧ ∀ {ι : Inj} {m : Nat} {a : Act}, m ≤ a.tmps.size → m ≤ 256 → MaskRV T0 T q ι a → RA ι m M a := by
  obtain ⟨M, h, hM⟩ := maskK_inv' h
  exact ⟨M, h, fun h1 h2 h3 => hM (RA.em h1 h2) h3⟩
theorem putK_get {m : Nat} {d : Option Nat} {v : AV} {T : T} {k : Ev.T → R} {r : AV} {s : St} (hm : m ≤ 256) (h : putK m d v T k = .ok r s) :
    ∃ T', k T' = .ok r s ∧ (∀ t, d ≠ some t → tgetS t T' = tgetS t T) ∧ ∀ t, d = some t → t < m ∧ tgetS t T' = v := by
  cases d with
  | none => exact ⟨T, h, fun t _ => rfl, fun t h => by cases h⟩
  | some d =>
    obtain ⟨h1, h⟩ := okK_inv h
    have h1 : d < m := Nat.le_of_ble_eq_true h1
    rw [tsetK_eq] at h
    refine ⟨_, h, fun t ht => ?_, fun t ht => ?_⟩
    · unfold tgetS
      cases hb : Nat.ble t 255 with
      | false => rfl
      | true =>
        have := Nat.le_of_ble_eq_true hb
        exact tget_other (by omega) (by omega) (by rintro rfl; exact ht rfl) _ _
    · cases ht
      refine ⟨h1, ?_⟩
      unfold tgetS
      rw [show Nat.ble d 255 = true from Nat.ble_eq_true_of_le (by omega)]
      exact tget_same _ _ _

/-! ### Operations that may come at any time -/
structure BsOk (n0 : Nat) (bs : Bs) (S : St) : Prop where
  lo : ∀ i b, (i, b) ∈ bs → n0 ≤ b
  hi : ∀ i b, (i, b) ∈ bs → b < S.n
  inj : ∀ i j b, (i, b) ∈ bs → (j, b) ∈ bs → i = j
theorem runN_inv {ops : Array Oper} {m : Nat} (hm : m ≤ 256) {T0 : T} {n0 : Nat} : ∀ {ns : List Stp} {T : Ev.T} {S : St} {bs : Bs} {k : Ev.T → St → Bs → R} {r : AV} {s : St}, runN P ops m T0 ns T S bs k = .ok r s → BsOk n0 bs S → n0 ≤ S.n →
    ∃ T1 S1 bs1, k T1 S1 bs1 = .ok r s ∧ S.n ≤ S1.n ∧ (∀ ι w, HR ι S w → HR ι S1 w) ∧ BsOk n0 bs1 S1 ∧ (∀ i b, (i, b) ∈ bs1 → (i, b) ∈ bs ∨ S.n ≤ b) ∧ ∀ t, (∀ i ∈ idxs ns, ¬ Wr ops t i) → tgetS t T1 = tgetS t T
  | [], T, S, bs, k, r, s, h, hb, hn => ⟨T, S, bs, h, Nat.le_refl _, fun _ _ h => h, hb, fun _ _ h => .inl h, fun _ _ => rfl⟩
  | q :: l, T, S, bs, k, r, s, h, hb, hn => by
    unfold runN at h
    split at h
    · rename_i o ho
      obtain ⟨M, h, -⟩ := maskK_inv h
      obtain ⟨b, h, -⟩ := guardK_inv h
      have fin : ∀ {v : AV} {T' : Ev.T}, (∀ t, o.dst ≠ some t → tgetS t T' = tgetS t T) → ∀ t, (∀ i ∈ idxs (q :: l), ¬ Wr ops t i) → tgetS t T' = tgetS t T := by
        intro v T' hT t ht
        exact hT t fun e => ht q.i (.head _) ⟨o, ho, e⟩
      cases b with
      | false =>
        rw [if_neg (by decide)] at h
        obtain ⟨T', h, hT, -⟩ := putK_get hm h
        obtain ⟨T1, S1, bs1, h, g1, g2, g3, g4, g5⟩ := runN_inv hm h hb hn
        exact ⟨T1, S1, bs1, h, g1, g2, g3, g4, fun t ht => (g5 t fun i hi => ht i (.tail _ hi)).trans (fin (v := .top) hT t ht)⟩
      | true =>
        rw [if_pos rfl] at h
        have hkd := kd_ok (P := P) (o := o)
        unfold nK at h
        split at h
        · rename_i f hf
          rw [hf] at hkd
          obtain ⟨v, h, -⟩ := hkd h
          obtain ⟨T', h, hT, -⟩ := putK_get hm h
          obtain ⟨T1, S1, bs1, h, g1, g2, g3, g4, g5⟩ := runN_inv hm h hb hn
          exact ⟨T1, S1, bs1, h, g1, g2, g3, g4, fun t ht => (g5 t fun i hi => ht i (.tail _ hi)).trans (fin (v := .top) hT t ht)⟩
        · rename_i f hf
          rw [hf] at hkd
          obtain ⟨v, h, -⟩ := hkd h
          obtain ⟨T', h, hT, -⟩ := putK_get hm h
          obtain ⟨T1, S1, bs1, h, g1, g2, g3, g4, g5⟩ := runN_inv hm h hb hn
          exact ⟨T1, S1, bs1, h, g1, g2, g3, g4, fun t ht => (g5 t fun i hi => ht i (.tail _ hi)).trans (fin (v := .top) hT t ht)⟩
        · rename_i f hf
          rw [hf] at hkd
          obtain ⟨ao, mk, h, -⟩ := hkd h
          obtain ⟨hlt, h⟩ := newK_inv h
          obtain ⟨T', h, hT, -⟩ := putK_get hm h
          have hb' : BsOk n0 ((q.i, S.n) :: bs) ⟨hset S.n ao S.h, S.n + 1⟩ := by
            refine ⟨fun i b hi => ?_, fun i b hi => ?_, fun i j b hi hj => ?_⟩
            · cases hi with
              | head => exact hn
              | tail _ hi => exact hb.lo i b hi
            · cases hi with
              | head => exact Nat.lt_succ_self _
              | tail _ hi => exact Nat.lt_succ_of_lt (hb.hi i b hi)
            · cases hi with
              | head => cases hj with
                | head => rfl
                | tail _ hj => exact absurd (hb.hi _ _ hj) (Nat.lt_irrefl _)
              | tail _ hi => cases hj with
                | head => exact absurd (hb.hi _ _ hi) (Nat.lt_irrefl _)
                | tail _ hj => exact hb.inj i j b hi hj
          obtain ⟨T1, S1, bs1, h, g1, g2, g3, g4, g5⟩ := runN_inv hm h hb' (Nat.le_succ_of_le hn)
          refine ⟨T1, S1, bs1, h, Nat.le_trans (Nat.le_succ _) g1, fun ι w hr => g2 ι w (hr.reserve hlt ao), g3, fun i b hi => ?_, fun t ht => (g5 t fun i hi => ht i (.tail _ hi)).trans (fin (v := .top) hT t ht)⟩
          rcases g4 i b hi with h | h
          · cases h with
            | head => exact .inr (Nat.le_refl _)
            | tail _ h => exact .inl h
          · exact .inr (Nat.le_trans (Nat.le_succ _) h)
        · exact (R.bad_ne h).elim
    · exact (R.bad_ne h).elim
/-- What an operation comes to whenever it comes. -/
def ChkSays (P : Program) (ops : Array Oper) (m : Nat) (T0 : T) (s : Stp) (T : Ev.T) (S : St) (bs : Bs) : Prop := ∃ o, ops[s.i]? = some o ∧ ∀ {ι : Inj} {a : Act} {w : World}, MaskRV T0 T s ι a → m ≤ a.tmps.size → HR ι S w →
  (∀ b, (s.i, b) ∈ bs → ι b = none ∧ ¬ ι.res b) → ∃ u w' κ, (∀ (K : Act → World → Prop) (Q : Exit → Act → World → Prop), K (a.put o.dst u) w' → wpOp P ops Q s.i K a w) ∧ HR κ S w' ∧ Ext ι w κ w' ∧ ∀ d, o.dst = some d → d < m ∧ RV κ (tgetS d T) u
theorem okD_inv {m : Nat} {d : Option Nat} {v : AV} {T : T} {k : R} {r : AV} {s : St} (h : okD m d v T k = .ok r s) : k = .ok r s ∧ ∀ t, d = some t → t < m ∧ v = tgetS t T := by
  cases d with
  | none => exact ⟨h, fun t h => by cases h⟩
  | some d =>
    obtain ⟨h1, h⟩ := okK_inv h
    obtain ⟨h2, h⟩ := okK_inv h
    exact ⟨h, fun t ht => by cases ht; exact ⟨Nat.le_of_ble_eq_true h1, avEq_eq h2⟩⟩
theorem chks_inv {ops : Array Oper} {m : Nat} (hm : m ≤ 256) {T0 : T} {T : Ev.T} {S : St} {bs : Bs} {n0 : Nat} (hb : BsOk n0 bs S) : ∀ {l : List Stp} {k : R} {r : AV} {s : St}, chks P ops m T0 l T S bs k = .ok r s →
    k = .ok r s ∧ ∀ q ∈ l, ChkSays P ops m T0 q T S bs
  | [], k, r, s, h => ⟨h, fun q hq => by cases hq⟩
  | q :: l, k, r, s, h => by
    unfold chks at h
    split at h
    · rename_i o ho
      obtain ⟨M, h, hM⟩ := maskK_inv h
      obtain ⟨b, h, hg⟩ := guardK_inv h
      have fin : ∀ {k' : R}, chks P ops m T0 l T S bs k = k' → k' = .ok r s → ChkSays P ops m T0 q T S bs → k = .ok r s ∧ ∀ q' ∈ q :: l, ChkSays P ops m T0 q' T S bs := by
        intro k' e h hq
        obtain ⟨h1, h2⟩ := chks_inv hm hb (e.trans h)
        exact ⟨h1, fun q' h' => by cases h' with
          | head => exact hq
          | tail _ h' => exact h2 q' h'⟩
      cases b with
      | false =>
        rw [if_neg (by decide)] at h
        obtain ⟨h, hd⟩ := okD_inv h
        refine fin rfl h ⟨o, ho, fun {ι a w} hmask hsz hr hbs => ⟨undef, w, ι, fun K Q hK => ?_, hr, Ext.refl _ _, fun d hdd => ?_⟩⟩
        · unfold wpOp
          simp only [ho, hg (hM hsz hm hmask), Bool.false_eq_true, if_false]
          exact hK
        · obtain ⟨h1, h2⟩ := hd d hdd
          exact ⟨h1, h2 ▸ ⟨#[], rfl, rfl⟩⟩
      | true =>
        rw [if_pos rfl] at h
        have hkd := kd_ok (P := P) (o := o)
        have run : ∀ {ι : Inj} {a : Act} {w w' : World} {u : Value}, MaskRV T0 T q ι a → m ≤ a.tmps.size → (execOp a.eval o).run P w = .ok (.value u) w' →
            ∀ (K : Act → World → Prop) (Q : Exit → Act → World → Prop), K (a.put o.dst u) w' → wpOp P ops Q q.i K a w := by
          intro ι a w w' u hmask hsz hx K Q hK
          unfold wpOp
          simp only [ho, hg (hM hsz hm hmask), if_true]
          refine .inl ?_
          unfold Oper.wp
          rw [hx, Oper.upon_value]; exact hK
        unfold chK at h
        split at h
        · rename_i f hf
          rw [hf] at hkd
          obtain ⟨v, h, hv⟩ := hkd h
          obtain ⟨h, hd⟩ := okD_inv h
          refine fin rfl h ⟨o, ho, fun {ι a w} hmask hsz hr hbs => ?_⟩
          obtain ⟨u, h1, h2⟩ := hv (w := w) (hM hsz hm hmask)
          exact ⟨u, w, ι, run hmask hsz h1, hr, Ext.refl _ _, fun d hdd => ⟨(hd d hdd).1, (hd d hdd).2 ▸ h2⟩⟩
        · rename_i f hf
          rw [hf] at hkd
          obtain ⟨v, h, hv⟩ := hkd h
          obtain ⟨h, hd⟩ := okD_inv h
          refine fin rfl h ⟨o, ho, fun {ι a w} hmask hsz hr hbs => ?_⟩
          obtain ⟨u, h1, h2⟩ := hv (w := w) (hM hsz hm hmask) (n := S.n) hr
          exact ⟨u, w, ι, run hmask hsz h1, hr, Ext.refl _ _, fun d hdd => ⟨(hd d hdd).1, (hd d hdd).2 ▸ h2⟩⟩
        · rename_i f hf
          rw [hf] at hkd
          obtain ⟨ao, mk, h, hne, hv⟩ := hkd h
          split at h
          · rename_i j hj
            have hj := findB_mem hj
            obtain ⟨hs, h⟩ := okK_inv h
            obtain ⟨h, hd⟩ := okD_inv h
            refine fin rfl h ⟨o, ho, fun {ι a w} hmask hsz hr hbs => ?_⟩
            obtain ⟨x, sz, u, h1, h2, h3⟩ := hv (w := w) (hM hsz hm hmask)
            obtain ⟨b1, b2⟩ := hbs j hj
            have hmk := hr.make b1 b2 (hb.hi _ _ hj) ⟨w.heap.size, 0, sz⟩ (w' := w.alloc x) rfl rfl rfl (by simp) (fun k hk => heap_alloc_old hk) (Nat.le_refl _) ((h2 _ (Inj.le_put b1 _)).same hs)
            exact ⟨u, _, _, run hmask hsz h1, hmk.1, hmk.2, fun d hdd => ⟨(hd d hdd).1, (hd d hdd).2 ▸ h3 _ _ (Inj.put_same _ _ _)⟩⟩
          · exact (R.bad_ne h).elim
        · exact (R.bad_ne h).elim
    · exact (R.bad_ne h).elim
/-! ### Operations whose place is fixed -/
def EffSays (P : Program) (ops : Array Oper) (m : Nat) (T0 : T) (s : Stp) (T : Ev.T) (S : St) (T' : Ev.T) (S' : St) : Prop := ∃ o, ops[s.i]? = some o ∧ (∀ t, o.dst ≠ some t → tgetS t T' = tgetS t T) ∧ ∀ {ι : Inj} {a : Act} {w : World}, MaskRV T0 T s ι a → m ≤ a.tmps.size → HR ι S w →
  ∀ (K : Act → World → Prop) (Q : Exit → Act → World → Prop), (∀ κ u w', HR κ S' w' → Ext ι w κ w' → (∀ d, o.dst = some d → d < m ∧ RV κ (tgetS d T') u) → K (a.put o.dst u) w') → wpOp P ops Q s.i K a w
theorem gS_inv {Mo : Memo} (hMo : MemoOk P Mo) {ev : Ev} (hev : EvOk P ev) {ops : Array Oper} {m : Nat} (hm : m ≤ 256) {T0 : T} {q : Stp} {T : Ev.T} {S : St} {k : KN} {r : AV} {s : St} (h : gS P Mo ev ops m T0 q T S k = .ok r s) :
    ∃ T' S', k T' S' = .ok r s ∧ EffSays P ops m T0 q T S T' S' := by
  unfold gS at h
  split at h
  · rename_i o ho
    obtain ⟨M, h, hM⟩ := maskK_inv h
    obtain ⟨b, h, hg⟩ := guardK_inv h
    cases b with
    | false =>
      rw [if_neg (by decide)] at h
      obtain ⟨T', h, hT, hd⟩ := putK_get hm h
      refine ⟨T', S, h, o, ho, hT, fun {ι a w} hmask hsz hr K Q hK => ?_⟩
      unfold wpOp
      simp only [ho, hg (hM hsz hm hmask), Bool.false_eq_true, if_false]
      exact hK ι undef w hr (Ext.refl _ _) fun d hdd => ⟨(hd d hdd).1, (hd d hdd).2 ▸ ⟨#[], rfl, rfl⟩⟩
    | true =>
      rw [if_pos rfl] at h
      obtain ⟨v, S', h, hv⟩ := doK_inv hMo hev kd_ok h
      obtain ⟨T', h, hT, hd⟩ := putK_get hm h
      refine ⟨T', S', h, o, ho, hT, fun {ι a w} hmask hsz hr K Q hK => ?_⟩
      unfold wpOp
      simp only [ho, hg (hM hsz hm hmask), if_true]
      exact .inl (hv (hM hsz hm hmask) hr fun κ u w' h1 h2 h3 => hK κ u w' h2 h3 fun d hdd => ⟨(hd d hdd).1, (hd d hdd).2 ▸ h1⟩)
  · exact (R.bad_ne h).elim
end
end Go.Ev
set_option linter.unusedVariables false
set_option linter.unusedSimpArgs false
namespace Go.Ev
open Go
noncomputable section
variable {P : Program}

def Ls (L : Array Bool) (i : Nat) : Prop := L.getD i false = true
theorem ls_set {L : Array Bool} {i j : Nat} (hi : i < L.size) : Ls (L.setIfInBounds i true) j ↔ j = i ∨ Ls L j := by
  unfold Ls
  by_cases e : i = j
  · subst e; simp [hi]
  · rw [getD_set_ne false e]
    exact ⟨.inr, fun h => h.resolve_left fun h => e h.symm⟩
theorem ls_true {L : Array Bool} {i : Nat} (hi : i < L.size) : L.getD i true = false ↔ ¬ Ls L i := by
  unfold Ls
  simp [hi]
theorem put_getD {a : Act} {d : Option Nat} {u : Value} {t : Nat} (h : d ≠ some t) : (a.put d u).tmps.getD t undef = a.tmps.getD t undef := by
  cases d with
  | none => rfl
  | some d =>
    have : d ≠ t := fun e => h (e ▸ rfl)
    simp [Act.put, Array.getElem?_setIfInBounds, this]
theorem put_getD_same {a : Act} {u : Value} {t : Nat} (h : t < a.tmps.size) : (a.put (some t) u).tmps.getD t undef = u := by
  simp [Act.put, Array.getElem?_setIfInBounds, h]
theorem put_size {a : Act} {d : Option Nat} {u : Value} : (a.put d u).tmps.size = a.tmps.size := by
  cases d <;> simp [Act.put]

section
variable {ops : Array Oper} {big m n0 : Nat} {T0 : T} {ι0 : Inj} {w0 : World} {ds : List Deferred}

structure Inv (ops : Array Oper) (big m : Nat) (T0 : T) (ι0 : Inj) (w0 : World) (ds : List Deferred) (L : Array Bool) (T : T) (S : St) (bs : Bs) (a : Act) (w : World) (ι : Inj) : Prop where
  size : L.size = ops.size
  cl : ∀ i j, i < ops.size → j < ops.size → Ls L i → inb big i j = true → Ls L j
  hr : HR ι S w
  ext : Ext ι0 w0 (ι.on ι0.res) w
  old : ∀ t, (∀ i, Wr ops t i → ¬ Ls L i) → RV ι (tgetS t T0) (a.tmps.getD t undef)
  new : ∀ t i, Wr ops t i → Ls L i → RV ι (tgetS t T) (a.tmps.getD t undef)
  tsz : m ≤ a.tmps.size
  dfs : a.defers = ds
  keep : ∀ b, ι0.res b → ι.res b
  wait : ∀ i b, (i, b) ∈ bs → ¬ Ls L i → ι.res b ∧ ι b = none
theorem Inv.next {L : Array Bool} {T T' : Ev.T} {S S' : St} {bs : Bs} {a : Act} {w w' : World} {ι κ : Inj} (h : Inv ops big m T0 ι0 w0 ds L T S bs a w ι) (F : Facts ops big) {i : Nat} {o : Oper} (ho : ops[i]? = some o) (hn : ¬ Ls L i)
    (hp : ∀ e ∈ o.after, Region.binds .any e = true → Ls L e.on) (hb : BsOk n0 bs S) (h0 : ∀ b, ι0.res b → b < n0) (hk : HR κ S' w') (hx : Ext (ι.on fun b => ι.res b ∧ (i, b) ∉ bs) w κ w')
    (hT : ∀ t, o.dst ≠ some t → tgetS t T' = tgetS t T) {u : Value} (hu : ∀ d, o.dst = some d → d < m ∧ RV κ (tgetS d T') u) :
    Inv ops big m T0 ι0 w0 ds (L.setIfInBounds i true) T' S' bs (a.put o.dst u) w' κ := by
  have hi : i < ops.size := (Array.getElem?_eq_some_iff.1 ho).1
  have hiL : i < L.size := by rw [h.size]; exact hi
  have hle : ι.le κ := hx.le
  have hkr : κ.res = fun b => ι.res b ∧ (i, b) ∉ bs := hx.same
  have hkeep : ∀ b, ι0.res b → ι.res b ∧ (i, b) ∉ bs := fun b hb' => ⟨h.keep b hb', fun hm => by have := hb.lo _ _ hm; have := h0 b hb'; omega⟩
  refine ⟨by simpa using h.size, fun i' j hi' hj hl hij => ?_, hk, h.ext.step hx hkeep, fun t ht => ?_, fun t i' hw hl => ?_, by rw [put_size]; exact h.tsz, by rw [put_defers']; exact h.dfs, fun b hb' => by rw [hkr]; exact hkeep b hb', fun i' b hm hl => ?_⟩
  · rw [ls_set hiL] at hl ⊢
    right
    rcases hl with rfl | hl
    · obtain ⟨e, he, hbi, h1⟩ := F.bef _ _ ho j hj hij
      have he' := hp e he hbi
      rcases h1 with rfl | h1
      · exact he'
      · exact h.cl e.on j (Nat.lt_trans (F.back _ _ ho e he hbi) hi) hj he' h1
    · exact h.cl i' j hi' hj hl hij
  · have hd : o.dst ≠ some t := fun e => ht i ⟨o, ho, e⟩ ((ls_set hiL).2 (.inl rfl))
    rw [put_getD hd]
    exact (h.old t fun j hj hl => ht j hj ((ls_set hiL).2 (.inr hl))).mono hle
  · by_cases e : o.dst = some t
    · obtain ⟨h1, h2⟩ := hu t e
      rw [e, put_getD_same (Nat.lt_of_lt_of_le h1 h.tsz)]
      exact h2
    · rw [put_getD e, hT t e]
      rcases (ls_set hiL).1 hl with rfl | hl
      · obtain ⟨o', ho', hd'⟩ := hw
        rw [ho] at ho'; cases ho'
        exact absurd hd' e
      · exact (h.new t i' hw hl).mono hle
  · have hl' : ¬ Ls L i' := fun hh => hl ((ls_set hiL).2 (.inr hh))
    have hne : i' ≠ i := fun hh => hl ((ls_set hiL).2 (.inl hh))
    obtain ⟨h1, h2⟩ := h.wait i' b hm hl'
    have h3 : (i, b) ∉ bs := fun hh => hne (hb.inj _ _ _ hm hh)
    exact ⟨by rw [hkr]; exact ⟨h1, h3⟩, hx.wait b ⟨h1, h3⟩ h2⟩
theorem Inv.mask {L : Array Bool} {T : Ev.T} {S : St} {bs : Bs} {a : Act} {w : World} {ι : Inj} (h : Inv ops big m T0 ι0 w0 ds L T S bs a w ι) (F : Facts ops big) {q : Stp} (hq : LsOk ops big q) {o : Oper} (ho : ops[q.i]? = some o) (hn : ¬ Ls L q.i)
    (hp : ∀ e ∈ o.after, Region.binds .any e = true → Ls L e.on) (r : Nat → Prop) : MaskRV T0 T q (ι.on r) a := by
  have hi : q.i < ops.size := (Array.getElem?_eq_some_iff.1 ho).1
  intro t f hf
  refine RV.mono (ι := ι) (κ := ι.on r) (fun _ _ h => h) ?_
  obtain ⟨h1, h2⟩ := hq t f hf
  cases f with
  | false =>
    refine h.old t fun i hw hl => ?_
    rcases h2 rfl i hw with e | e
    · exact hn (e ▸ hl)
    · obtain ⟨o', ho', -⟩ := hw
      exact hn (h.cl i q.i (Array.getElem?_eq_some_iff.1 ho').1 hi hl e)
  | true =>
    obtain ⟨i, hw, e⟩ := h1 rfl
    obtain ⟨o', ho', -⟩ := id hw
    have hi' : i < ops.size := (Array.getElem?_eq_some_iff.1 ho').1
    obtain ⟨ed, he, hbi, h3⟩ := F.bef _ _ ho i hi' e
    have he' := hp ed he hbi
    refine h.new t i hw ?_
    rcases h3 with rfl | h3
    · exact he'
    · exact h.cl ed.on i (Nat.lt_trans (F.back _ _ ho ed he hbi) hi) hi' he' h3

/-! ### What is still to be done -/
def Cov (ops : Array Oper) (ph : Ph) (rest : List Ph) (L : Array Bool) : Prop :=
  (∀ i, i < ops.size → ¬ Ls L i → i ∈ idxs ph.re ∨ i ∈ eIdx ph.e ∨ i ∈ opsOf rest) ∧ (∀ i ∈ eIdx ph.e, ¬ Ls L i) ∧ ∀ i ∈ opsOf rest, ¬ Ls L i
theorem mem_idxs {i : Nat} : ∀ {l : List Stp}, i ∈ idxs l → ∃ q ∈ l, q.i = i
  | q :: l, h => by
    cases h with
    | head => exact ⟨q, .head _, rfl⟩
    | tail _ h => obtain ⟨p, h1, h2⟩ := mem_idxs h; exact ⟨p, .tail _ h1, h2⟩
def cnt (L : Array Bool) : Nat := L.toList.count false
theorem cnt_set {L : Array Bool} {i : Nat} (hi : i < L.size) (h : ¬ Ls L i) : cnt (L.setIfInBounds i true) + 1 = cnt L := by
  have hf : L[i] = false := by
    unfold Ls at h
    simpa [hi] using h
  unfold cnt
  rw [Array.toList_setIfInBounds, List.count_set (by simpa using hi)]
  have hpos : 0 < L.toList.count false := List.count_pos_iff.2 (by
    have := Array.getElem_mem hi
    rw [hf] at this
    simpa using this)
  have h1 : L.toList[i]'(by simpa using hi) = false := by simpa using hf
  rw [h1]
  simp only [beq_self_eq_true, if_true, show (true == false) = false from rfl, Bool.false_eq_true, if_false]
  omega
theorem cnt_zero {L : Array Bool} (h : cnt L = 0) {i : Nat} (hi : i < L.size) : Ls L i := by
  unfold Ls
  cases hb : L[i] with
  | true => simp [hi, hb]
  | false =>
    have := Array.getElem_mem hi
    rw [hb] at this
    have := List.count_pos_iff.2 (show false ∈ L.toList by simpa using this)
    unfold cnt at h
    omega
theorem ready_nil {L : Array Bool} (F : Facts ops big) (hs : L.size = ops.size) (h : Region.ready .any ops L = []) : ∀ i, i < ops.size → Ls L i := by
  intro i
  induction i using Nat.strongRecOn with
  | ind i ih =>
    intro hi
    apply Classical.byContradiction
    intro hn
    have : i ∈ Region.ready .any ops L := by
      rw [mem_ready]
      refine ⟨(ls_true (by omega)).2 hn, ops[i], by simp [hi], fun e he hb => ?_⟩
      have hlt := F.back i ops[i] (by simp [hi]) e he hb
      exact ih e.on hlt (by omega)
    rw [h] at this
    cases this
theorem all_ready {L : Array Bool} (hs : L.size = ops.size) (h : ∀ i, i < ops.size → Ls L i) : Region.ready .any ops L = [] := by
  apply List.eq_nil_iff_forall_not_mem.2
  intro i hi
  rw [mem_ready] at hi
  obtain ⟨h1, o, ho, -⟩ := hi
  have hlt := (Array.getElem?_eq_some_iff.1 ho).1
  exact (ls_true (by omega)).1 h1 (h i hlt)

/-- A phase: whatever comes first of what may come, until the phase's end. -/
theorem mid {Q : Exit → Act → World → Prop} (F : Facts ops big) (h0 : ∀ b, ι0.res b → b < n0) {ph : Ph} {rest : List Ph} {T : Ev.T} {S : St} {bs : Bs} (hb : BsOk n0 bs S)
    (hre : ∀ q ∈ ph.re, LsOk ops big q ∧ ChkSays P ops m T0 q T S bs) (hdis : ∀ i ∈ idxs ph.re, i ∉ eIdx ph.e ∧ i ∉ opsOf rest) (hlater : ∀ i ∈ opsOf rest, ∀ j ∈ eIdx ph.e, inb big i j = true)
    (hlt : ∀ i ∈ eIdx ph.e, i < ops.size) (hend : ph.e = none → rest = [])
    (hfin : ph.e = none → ∀ L a w ι, (∀ i, i < ops.size → Ls L i) → Inv ops big m T0 ι0 w0 ds L T S bs a w ι → Q .normal a w)
    (heff : ∀ q, ph.e = some q → ∀ fuel L a w ι, Inv ops big m T0 ι0 w0 ds L T S bs a w ι → Cov ops ph rest L → ¬ Ls L q.i → (∀ o, ops[q.i]? = some o → ∀ e ∈ o.after, Region.binds .any e = true → Ls L e.on) → cnt L ≤ fuel + 1 →
      wpOp P ops Q q.i (wpAny P .any ops Q fuel (L.setIfInBounds q.i true)) a w) :
    ∀ fuel L a w ι, Inv ops big m T0 ι0 w0 ds L T S bs a w ι → Cov ops ph rest L → cnt L ≤ fuel → wpAny P .any ops Q fuel L a w := by
  have last : ∀ L a w ι, (∀ i, i < ops.size → Ls L i) → Inv ops big m T0 ι0 w0 ds L T S bs a w ι → Cov ops ph rest L → Q .normal a w := by
    intro L a w ι hall hinv hcov
    refine hfin ?_ L a w ι hall hinv
    cases he : ph.e with
    | none => rfl
    | some q =>
      have hq : q.i ∈ eIdx ph.e := by rw [he]; exact .head _
      exact absurd (hall _ (hlt _ hq)) (hcov.2.1 _ hq)
  intro fuel
  induction fuel with
  | zero =>
    intro L a w ι hinv hcov hc
    have hall : ∀ i, i < ops.size → Ls L i := fun i hi => cnt_zero (by omega) (by rw [hinv.size]; exact hi)
    exact ⟨all_ready hinv.size hall, last L a w ι hall hinv hcov⟩
  | succ fuel ih =>
    intro L a w ι hinv hcov hc
    refine ⟨fun hr => last L a w ι (ready_nil F hinv.size hr) hinv hcov, fun i hi => ?_⟩
    obtain ⟨h1, o, ho, hp⟩ := mem_ready.1 hi
    have hi' : i < ops.size := (Array.getElem?_eq_some_iff.1 ho).1
    have hn : ¬ Ls L i := (ls_true (by rw [hinv.size]; exact hi')).1 h1
    rcases hcov.1 i hi' hn with h | h | h
    · obtain ⟨q, hq, rfl⟩ := mem_idxs h
      obtain ⟨hls, o', ho', hsay⟩ := hre q hq
      rw [ho] at ho'; cases ho'
      have hmask := hinv.mask F hls ho hn hp fun b => ι.res b ∧ (q.i, b) ∉ bs
      have hr := hinv.hr.on (r := fun b => ι.res b ∧ (q.i, b) ∉ bs) fun b hb' => hinv.hr.resv b hb'.1
      obtain ⟨u, w', κ, g1, g2, g3, g4⟩ := hsay hmask hinv.tsz hr fun b hm => ⟨(hinv.wait q.i b hm hn).2, fun hh => hh.2 hm⟩
      have hnext := hinv.next F ho hn hp hb h0 g2 g3 (fun t _ => rfl) g4
      refine g1 _ Q (ih _ _ _ κ hnext ⟨fun j hj hl => ?_, fun j hj hl => ?_, fun j hj hl => ?_⟩ ?_)
      · exact hcov.1 j hj fun hh => hl ((ls_set (by rw [hinv.size]; exact hi')).2 (.inr hh))
      · rcases (ls_set (by rw [hinv.size]; exact hi')).1 hl with rfl | hl
        · exact (hdis _ h).1 hj
        · exact hcov.2.1 j hj hl
      · rcases (ls_set (by rw [hinv.size]; exact hi')).1 hl with rfl | hl
        · exact (hdis _ h).2 hj
        · exact hcov.2.2 j hj hl
      · have := cnt_set (by rw [hinv.size]; exact hi') hn
        omega
    · cases he : ph.e with
      | none => rw [he] at h; cases h
      | some q =>
        rw [he] at h
        have : i = q.i := by simpa [eIdx] using h
        subst this
        exact heff q he fuel L a w ι hinv hcov hn (fun o' ho' => by rw [ho] at ho'; cases ho'; exact hp) hc
    · exfalso
      cases he : ph.e with
      | none => rw [hend he] at h; cases h
      | some q =>
        have hq : q.i ∈ eIdx ph.e := by rw [he]; exact .head _
        obtain ⟨ed, hed, hbi, h3⟩ := F.bef _ _ ho q.i (hlt _ hq) (hlater i h q.i hq)
        have he' := hp ed hed hbi
        refine hcov.2.1 _ hq ?_
        rcases h3 with h3 | h3
        · rw [← h3]; exact he'
        · exact hinv.cl ed.on q.i (Nat.lt_trans (F.back _ _ ho ed hed hbi) hi') (hlt _ hq) he' h3
end
end
end Go.Ev
set_option linter.unusedVariables false
set_option linter.unusedSimpArgs false
namespace Go.Ev
open Go
noncomputable section
variable {P : Program}
section
variable {ops : Array Oper} {big m n0 : Nat} {T0 : T}

theorem RV.on' {ι : Inj} {r : Nat → Prop} {x : AV} {v : Value} (h : RV ι x v) : RV (ι.on r) x v := RV.mono (ι := ι) (κ := ι.on r) (fun _ _ h => h) h
theorem Inv.start {ι0 : Inj} {w0 : World} {ds : List Deferred} {L : Array Bool} {T T1 : Ev.T} {S S1 : St} {bs bs1 : Bs} {a : Act} {w : World} {ι : Inj} (h : Inv ops big m T0 ι0 w0 ds L T S bs a w ι) (F : Facts ops big)
    (g1 : S.n ≤ S1.n) (g2 : ∀ ι w, HR ι S w → HR ι S1 w) (g3 : BsOk n0 bs1 S1) (g4 : ∀ i b, (i, b) ∈ bs1 → (i, b) ∈ bs ∨ S.n ≤ b) {ns : List Stp} (g5 : ∀ t, (∀ i ∈ idxs ns, ¬ Wr ops t i) → tgetS t T1 = tgetS t T)
    (hun : ∀ i ∈ idxs ns, ¬ Ls L i) : Inv ops big m T0 ι0 w0 ds L T1 S1 bs1 a w (ι.on fun b => ι.res b ∨ S.n ≤ b ∧ b < S1.n) := by
  refine ⟨h.size, h.cl, (g2 _ _ h.hr).on fun b hb => ?_, h.ext, fun t ht => (h.old t ht).on', fun t i hw hl => ?_, h.tsz, h.dfs, fun b hb => .inl (h.keep b hb), fun i b hm hl => ?_⟩
  · rcases hb with hb | hb
    · exact Nat.lt_of_lt_of_le (h.hr.resv b hb) g1
    · exact hb.2
  · rw [g5 t fun j hj hw' => hun j hj (F.one t i j hw hw' ▸ hl)]
    exact (h.new t i hw hl).on'
  · rcases g4 i b hm with h1 | h1
    · exact ⟨.inl (h.wait i b h1 hl).1, (h.wait i b h1 hl).2⟩
    · exact ⟨.inr ⟨h1, g3.hi i b hm⟩, h.hr.fresh b h1⟩
theorem phs_inv (F : Facts ops big) {Mo : Memo} (hMo : MemoOk P Mo) {ev : Ev} (hev : EvOk P ev) (hm : m ≤ 256) : ∀ {ph : Ph} {rest : List Ph} {T : Ev.T} {S : St} {bs : Bs} {k : KN} {r : AV} {s : St}, phsK P Mo ev ops m T0 (ph :: rest) T S bs k = .ok r s →
    goodPhs big (ph :: rest) = true → (∀ q ∈ stepsOf (ph :: rest), LsOk ops big q) → BsOk n0 bs S → n0 ≤ S.n →
    ∃ T' S', k T' S' = .ok r s ∧ (∀ t, (∀ i, ¬ Wr ops t i) → tgetS t T' = tgetS t T) ∧ ∀ {ι0 : Inj} {w0 : World} {ds : List Deferred} {Q : Exit → Act → World → Prop}, (∀ b, ι0.res b → b < n0) →
      (∀ L a w ι bs', (∀ i, i < ops.size → Ls L i) → Inv ops big m T0 ι0 w0 ds L T' S' bs' a w ι → Q .normal a w) →
      ∀ fuel L a w ι, Inv ops big m T0 ι0 w0 ds L T S bs a w ι → Cov ops ph rest L → (∀ i ∈ idxs ph.ns, ¬ Ls L i) → cnt L ≤ fuel → wpAny P .any ops Q fuel L a w := by
  intro ph rest
  induction rest generalizing ph with
  | nil =>
    intro T S bs k r s h hg hls hb hn
    unfold phsK at h
    obtain ⟨T1, S1, bs1, h, g1, g2, g3, g4, g5⟩ := runN_inv hm h hb hn
    obtain ⟨h, hre⟩ := chks_inv hm g3 h
    unfold goodPhs at hg
    rw [Bool.and_eq_true] at hg
    cases he : ph.e with
    | some e => rw [he] at hg; cases hg.2
    | none =>
      rw [he] at h
      refine ⟨T1, S1, h, fun t ht => g5 t fun i _ => ht i, fun {ι0 w0 ds Q} h0 hQ fuel L a w ι hinv hcov hun hc => ?_⟩
      refine mid F h0 g3 (ph := ph) (rest := []) (T := T1) (fun q hq => ⟨hls q (by unfold stepsOf; simp [hq]), hre q hq⟩) ?_ ?_ ?_ (fun _ => rfl) (fun _ L a w ι hall hinv => hQ L a w ι bs1 hall hinv) ?_ fuel L a w _ (hinv.start F g1 g2 g3 g4 g5 hun) hcov hc
      · intro i _; rw [he]; exact ⟨by simp [eIdx], by simp [opsOf]⟩
      · intro i hi; cases hi
      · intro i hi; rw [he] at hi; cases hi
      · intro q hq; rw [he] at hq; cases hq
  | cons ph' rest' ih =>
    intro T S bs k r s h hg hls hb hn
    unfold phsK at h
    obtain ⟨T1, S1, bs1, h, g1, g2, g3, g4, g5⟩ := runN_inv hm h hb hn
    obtain ⟨h, hre⟩ := chks_inv hm g3 h
    unfold goodPhs at hg
    rw [Bool.and_eq_true] at hg
    obtain ⟨hg1, hg⟩ := hg
    cases he : ph.e with
    | none => rw [he] at hg; cases hg
    | some e =>
      rw [he] at h hg
      dsimp only at h hg
      simp only [Bool.and_eq_true] at hg
      obtain ⟨hga, hgb, hgc⟩ := hg
      obtain ⟨T2, S2, h, hE⟩ := gS_inv hMo hev hm h
      obtain ⟨hle, h⟩ := okK_inv h
      have hle := Nat.le_of_ble_eq_true hle
      obtain ⟨T', S', h, hT', hrest⟩ := ih h hgc (fun q hq => hls q (by unfold stepsOf; simp [hq])) ⟨g3.lo, fun i b hi => Nat.lt_of_lt_of_le (g3.hi i b hi) hle, g3.inj⟩ (Nat.le_trans hn (Nat.le_trans g1 hle))
      obtain ⟨o, ho, hT2, hsay⟩ := hE
      refine ⟨T', S', h, fun t ht => (hT' t ht).trans ((hT2 t fun hd => ht e.i ⟨o, ho, hd⟩).trans (g5 t fun i _ => ht i)), fun {ι0 w0 ds Q} h0 hQ fuel L a w ι hinv hcov hun hc => ?_⟩
      have hei : e.i < ops.size := (Array.getElem?_eq_some_iff.1 ho).1
      have hla : ∀ i ∈ opsOf (ph' :: rest'), inb big i e.i = true ∧ i ≠ e.i := fun i hi => by
        have := List.all_eq_true.1 hga i hi
        simp only [Bool.and_eq_true, Bool.not_eq_true'] at this
        exact ⟨this.1, Nat.ne_of_beq_eq_false this.2⟩
      have hlb : ∀ i ∈ idxs ph.re, i ≠ e.i ∧ i ∉ opsOf (ph' :: rest') ∧ (inb big e.i i = true ∨ i ∈ idxs ph'.re) := fun i hi => by
        have := List.all_eq_true.1 hgb i hi
        simp only [Bool.and_eq_true, Bool.or_eq_true, Bool.not_eq_true', hasN_iff] at this
        refine ⟨?_, ?_, this.2.2⟩
        · rintro rfl
          have := this.1
          simp at this
        · intro hh
          have h2 := this.2.1
          rw [hasN_iff.2 hh] at h2
          cases h2
      have hlt : ∀ i ∈ eIdx ph.e, i < ops.size := fun i hi => by
        rw [he] at hi
        have : i = e.i := by simpa [eIdx] using hi
        rw [this]; exact hei
      refine mid F h0 g3 (ph := ph) (rest := ph' :: rest') (T := T1) (fun q hq => ⟨hls q (by unfold stepsOf; simp [hq]), hre q hq⟩) ?_ ?_ hlt (fun hh => by rw [he] at hh; cases hh) (fun hh => by rw [he] at hh; cases hh) ?_ fuel L a w _ (hinv.start F g1 g2 g3 g4 g5 hun) hcov hc
      · intro i hi
        refine ⟨?_, (hlb i hi).2.1⟩
        rw [he]; simpa [eIdx] using (hlb i hi).1
      · intro i hi j hj
        rw [he] at hj
        have : j = e.i := by simpa [eIdx] using hj
        rw [this]; exact (hla i hi).1
      · intro q hq fuel L a w ι hinv hcov hnq hpq hc
        rw [he] at hq; cases hq
        have hp := hpq o ho
        have hls' : LsOk ops big e := hls e (by unfold stepsOf; simp [he])
        have hmask := hinv.mask F hls' ho hnq hp fun b => ι.res b ∧ (e.i, b) ∉ bs1
        have hr := hinv.hr.on (r := fun b => ι.res b ∧ (e.i, b) ∉ bs1) fun b hb' => hinv.hr.resv b hb'.1
        refine hsay hmask hinv.tsz hr _ Q fun κ u w' k1 k2 k3 => ?_
        have hnext := hinv.next F ho hnq hp g3 h0 k1 k2 hT2 k3
        have heL : e.i < L.size := by rw [hinv.size]; exact hei
        refine hrest h0 hQ fuel _ _ _ κ hnext ⟨fun i hi hl => ?_, fun i hi hl => ?_, fun i hi hl => ?_⟩ (fun i hi hl => ?_) (by have := cnt_set heL hnq; omega)
        · have hl' : ¬ Ls L i := fun hh => hl ((ls_set heL).2 (.inr hh))
          rcases hcov.1 i hi hl' with h1 | h1 | h1
          · rcases (hlb i h1).2.2 with h2 | h2
            · exact absurd (hnext.cl e.i i hei hi ((ls_set heL).2 (.inl rfl)) h2) hl
            · exact .inl h2
          · rw [he] at h1
            have : i = e.i := by simpa [eIdx] using h1
            exact absurd ((ls_set heL).2 (.inl this)) hl
          · unfold opsOf at h1
            rw [List.mem_append, List.mem_append] at h1
            rcases h1 with h1 | h1 | h1
            · have := hgc
              unfold goodPhs at this
              rw [Bool.and_eq_true] at this
              exact .inl (hasN_iff.1 (List.all_eq_true.1 this.1 i h1))
            · exact .inr (.inl h1)
            · exact .inr (.inr h1)
        · have hm' : i ∈ opsOf (ph' :: rest') := by unfold opsOf; simp [hi]
          rcases (ls_set heL).1 hl with h1 | h1
          · exact (hla i hm').2 h1
          · exact hcov.2.2 i hm' h1
        · have hm' : i ∈ opsOf (ph' :: rest') := by unfold opsOf; simp [hi]
          rcases (ls_set heL).1 hl with h1 | h1
          · exact (hla i hm').2 h1
          · exact hcov.2.2 i hm' h1
        · have hm' : i ∈ opsOf (ph' :: rest') := by unfold opsOf; simp [hi]
          rcases (ls_set heL).1 hl with h1 | h1
          · exact (hla i hm').2 h1
          · exact hcov.2.2 i hm' h1
end

/-! ### A plan -/
def befs : List Oper → Nat → Nat → Nat
  | [], _, big => big
  | o :: l, i, big => befs l (i + 1) (Nat.lor big (Nat.shiftLeft (o.after.toList.foldl (fun x e => match Region.binds .any e with
    | true => Nat.lor x (Nat.lor (Nat.shiftLeft 1 e.on) (Nat.land (Nat.shiftRight big (Nat.mul 64 e.on)) 18446744073709551615))
    | false => x) 0) (Nat.mul 64 i)))
def isEff (P : Program) (o : Oper) : Bool := match kd P o.op with
  | .pure _ => false
  | .load _ => false
  | .make _ => false
  | _ => true
def stpOf (ops : Array Oper) (big i : Nat) (o : Oper) : Stp := ⟨i, (o.looksAt ops).map fun t => (t, ops.toList.zipIdx.any fun p => (match p.1.dst with | some d => Nat.beq d t | none => false) && inb big i p.2)⟩
def mkPhs (big : Nat) (ns : List (Nat × Stp)) : List Stp → List Stp → Nat → List Ph
  | carry, [], j => [⟨(ns.filter fun p => Nat.beq p.1 j).map (·.2), carry ++ (ns.filter fun p => Nat.beq p.1 j).map (·.2), none⟩]
  | carry, e :: es, j => ⟨(ns.filter fun p => Nat.beq p.1 j).map (·.2), carry ++ (ns.filter fun p => Nat.beq p.1 j).map (·.2), some e⟩ ::
      mkPhs big ns ((carry ++ (ns.filter fun p => Nat.beq p.1 j).map (·.2)).filter fun s => !inb big e.i s.i) es (j + 1)
def plan (P : Program) (ops : Array Oper) : Plan :=
  let big := befs ops.toList 0 0
  let all := ops.toList.zipIdx.map fun p => (isEff P p.1, stpOf ops big p.2 p.1)
  let es := (all.filter (·.1)).map (·.2)
  let ns := (all.filter (!·.1)).map fun p => ((es.filter fun e => inb big p.2.i e.i).length, p.2)
  ⟨big, mkPhs big ns [] es 0⟩
def drawn (P : Program) : Drawn := fun Mo ev m ops T S k => okK (P.follows .mixedOrders) (okK (Nat.ble m 256) (okK (goodPlan ops (plan P ops)) (phsK P Mo ev ops m T (plan P ops).phs T S [] k)))
theorem drawn_ok : DrawnOk P (drawn P) := by
  intro Mo hMo ev hev m ops T S k r s h
  obtain ⟨hf, h⟩ := okK_inv h
  obtain ⟨hm, h⟩ := okK_inv h
  obtain ⟨hg, h⟩ := okK_inv h
  have hm := Nat.le_of_ble_eq_true hm
  revert h hg
  generalize plan P ops = pl
  intro hg h
  obtain ⟨F, hls, hall, hgp⟩ := goodPlan_inv hg
  obtain ⟨big, phs⟩ := pl
  dsimp only at hls hall hgp h F
  cases phs with
  | nil => cases hgp
  | cons ph rest =>
    obtain ⟨T', S', h, hT', hw⟩ := phs_inv (n0 := S.n) F hMo hev hm h hgp hls ⟨(fun _ _ h => by cases h), (fun _ _ h => by cases h), (fun _ _ _ h => by cases h)⟩ (Nat.le_refl _)
    refine ⟨T', S', h, fun {id ι a w} ra hr => wp_region_any hf ?_⟩
    have hno : ∀ i, ¬ Ls (Array.replicate ops.size false) i := by
      intro i
      unfold Ls
      by_cases hi : i < ops.size <;> simp [hi, Array.getElem?_replicate]
    refine hw (ι0 := ι) (w0 := w) (ds := a.defers) (fun b hb => hr.resv b hb) ?_ _ _ _ _ ι ⟨by simp, fun i j _ _ hl => absurd hl (hno i), hr.world (w' := { w with drawn := w.drawn + 1 }) (fun _ => rfl), Ext.world (ι := ι) rfl rfl rfl rfl, fun t _ => ra.tmp t, fun t i _ hl => absurd hl (hno i), ra.size, rfl, fun _ h => h, (fun _ _ h => by cases h)⟩ ⟨fun i hi _ => ?_, fun i _ => hno i, fun i _ => hno i⟩ (fun i _ => hno i) ?_
    · intro L a' w' κ bs' hl hinv
      refine ⟨rfl, κ.on ι.res, ⟨hinv.tsz, hm, fun t ht => ?_⟩, hinv.hr.on fun b hb => hinv.hr.resv b (hinv.keep b hb), hinv.ext, hinv.dfs⟩
      have e1 : ∀ T : Ev.T, tgetS t T = tget t T := fun T => by
        unfold tgetS
        rw [show Nat.ble t 255 = true from Nat.ble_eq_true_of_le (by omega)]
      refine RV.on' (ι := κ) ?_
      by_cases hw' : ∃ i, Wr ops t i
      · obtain ⟨i, hi⟩ := hw'
        have hlt : i < ops.size := by obtain ⟨o, ho, -⟩ := hi; exact (Array.getElem?_eq_some_iff.1 ho).1
        rw [← e1]; exact hinv.new t i hi (hl i hlt)
      · have hw' : ∀ i, ¬ Wr ops t i := fun i hi => hw' ⟨i, hi⟩
        rw [← e1, hT' t hw']
        exact hinv.old t fun i hi => absurd hi (hw' i)
    · have := hall i hi
      unfold opsOf at this
      rw [List.mem_append, List.mem_append] at this
      rcases this with h1 | h1 | h1
      · have := hgp
        unfold goodPhs at this
        rw [Bool.and_eq_true] at this
        exact .inl (hasN_iff.1 (List.all_eq_true.1 this.1 i h1))
      · exact .inr (.inl h1)
      · exact .inr (.inr h1)
    · unfold cnt
      simp [List.count_replicate]
end
end Go.Ev
set_option linter.unusedVariables false
set_option linter.unusedSimpArgs false
namespace Go.Ev
open Go
noncomputable section
variable {α β γ : Type}
namespace N16
def p0 (n : N16 α) (k : α → β) : β := N16.rec (motive := fun _ => β) (fun a0 a1 a2 a3 a4 a5 a6 a7 a8 a9 a10 a11 a12 a13 a14 a15 => k a0) n
def p1 (n : N16 α) (k : α → β) : β := N16.rec (motive := fun _ => β) (fun a0 a1 a2 a3 a4 a5 a6 a7 a8 a9 a10 a11 a12 a13 a14 a15 => k a1) n
def p2 (n : N16 α) (k : α → β) : β := N16.rec (motive := fun _ => β) (fun a0 a1 a2 a3 a4 a5 a6 a7 a8 a9 a10 a11 a12 a13 a14 a15 => k a2) n
def p3 (n : N16 α) (k : α → β) : β := N16.rec (motive := fun _ => β) (fun a0 a1 a2 a3 a4 a5 a6 a7 a8 a9 a10 a11 a12 a13 a14 a15 => k a3) n
def p4 (n : N16 α) (k : α → β) : β := N16.rec (motive := fun _ => β) (fun a0 a1 a2 a3 a4 a5 a6 a7 a8 a9 a10 a11 a12 a13 a14 a15 => k a4) n
def p5 (n : N16 α) (k : α → β) : β := N16.rec (motive := fun _ => β) (fun a0 a1 a2 a3 a4 a5 a6 a7 a8 a9 a10 a11 a12 a13 a14 a15 => k a5) n
def p6 (n : N16 α) (k : α → β) : β := N16.rec (motive := fun _ => β) (fun a0 a1 a2 a3 a4 a5 a6 a7 a8 a9 a10 a11 a12 a13 a14 a15 => k a6) n
def p7 (n : N16 α) (k : α → β) : β := N16.rec (motive := fun _ => β) (fun a0 a1 a2 a3 a4 a5 a6 a7 a8 a9 a10 a11 a12 a13 a14 a15 => k a7) n
def p8 (n : N16 α) (k : α → β) : β := N16.rec (motive := fun _ => β) (fun a0 a1 a2 a3 a4 a5 a6 a7 a8 a9 a10 a11 a12 a13 a14 a15 => k a8) n
def p9 (n : N16 α) (k : α → β) : β := N16.rec (motive := fun _ => β) (fun a0 a1 a2 a3 a4 a5 a6 a7 a8 a9 a10 a11 a12 a13 a14 a15 => k a9) n
def p10 (n : N16 α) (k : α → β) : β := N16.rec (motive := fun _ => β) (fun a0 a1 a2 a3 a4 a5 a6 a7 a8 a9 a10 a11 a12 a13 a14 a15 => k a10) n
def p11 (n : N16 α) (k : α → β) : β := N16.rec (motive := fun _ => β) (fun a0 a1 a2 a3 a4 a5 a6 a7 a8 a9 a10 a11 a12 a13 a14 a15 => k a11) n
def p12 (n : N16 α) (k : α → β) : β := N16.rec (motive := fun _ => β) (fun a0 a1 a2 a3 a4 a5 a6 a7 a8 a9 a10 a11 a12 a13 a14 a15 => k a12) n
def p13 (n : N16 α) (k : α → β) : β := N16.rec (motive := fun _ => β) (fun a0 a1 a2 a3 a4 a5 a6 a7 a8 a9 a10 a11 a12 a13 a14 a15 => k a13) n
def p14 (n : N16 α) (k : α → β) : β := N16.rec (motive := fun _ => β) (fun a0 a1 a2 a3 a4 a5 a6 a7 a8 a9 a10 a11 a12 a13 a14 a15 => k a14) n
def p15 (n : N16 α) (k : α → β) : β := N16.rec (motive := fun _ => β) (fun a0 a1 a2 a3 a4 a5 a6 a7 a8 a9 a10 a11 a12 a13 a14 a15 => k a15) n
def u0 (f : α → (α → β) → β) (n : N16 α) (k : N16 α → β) : β := N16.rec (motive := fun _ => β) (fun a0 a1 a2 a3 a4 a5 a6 a7 a8 a9 a10 a11 a12 a13 a14 a15 => f a0 fun r => k (N16.mk r a1 a2 a3 a4 a5 a6 a7 a8 a9 a10 a11 a12 a13 a14 a15)) n
def u1 (f : α → (α → β) → β) (n : N16 α) (k : N16 α → β) : β := N16.rec (motive := fun _ => β) (fun a0 a1 a2 a3 a4 a5 a6 a7 a8 a9 a10 a11 a12 a13 a14 a15 => f a1 fun r => k (N16.mk a0 r a2 a3 a4 a5 a6 a7 a8 a9 a10 a11 a12 a13 a14 a15)) n
def u2 (f : α → (α → β) → β) (n : N16 α) (k : N16 α → β) : β := N16.rec (motive := fun _ => β) (fun a0 a1 a2 a3 a4 a5 a6 a7 a8 a9 a10 a11 a12 a13 a14 a15 => f a2 fun r => k (N16.mk a0 a1 r a3 a4 a5 a6 a7 a8 a9 a10 a11 a12 a13 a14 a15)) n
def u3 (f : α → (α → β) → β) (n : N16 α) (k : N16 α → β) : β := N16.rec (motive := fun _ => β) (fun a0 a1 a2 a3 a4 a5 a6 a7 a8 a9 a10 a11 a12 a13 a14 a15 => f a3 fun r => k (N16.mk a0 a1 a2 r a4 a5 a6 a7 a8 a9 a10 a11 a12 a13 a14 a15)) n
def u4 (f : α → (α → β) → β) (n : N16 α) (k : N16 α → β) : β := N16.rec (motive := fun _ => β) (fun a0 a1 a2 a3 a4 a5 a6 a7 a8 a9 a10 a11 a12 a13 a14 a15 => f a4 fun r => k (N16.mk a0 a1 a2 a3 r a5 a6 a7 a8 a9 a10 a11 a12 a13 a14 a15)) n
def u5 (f : α → (α → β) → β) (n : N16 α) (k : N16 α → β) : β := N16.rec (motive := fun _ => β) (fun a0 a1 a2 a3 a4 a5 a6 a7 a8 a9 a10 a11 a12 a13 a14 a15 => f a5 fun r => k (N16.mk a0 a1 a2 a3 a4 r a6 a7 a8 a9 a10 a11 a12 a13 a14 a15)) n
def u6 (f : α → (α → β) → β) (n : N16 α) (k : N16 α → β) : β := N16.rec (motive := fun _ => β) (fun a0 a1 a2 a3 a4 a5 a6 a7 a8 a9 a10 a11 a12 a13 a14 a15 => f a6 fun r => k (N16.mk a0 a1 a2 a3 a4 a5 r a7 a8 a9 a10 a11 a12 a13 a14 a15)) n
def u7 (f : α → (α → β) → β) (n : N16 α) (k : N16 α → β) : β := N16.rec (motive := fun _ => β) (fun a0 a1 a2 a3 a4 a5 a6 a7 a8 a9 a10 a11 a12 a13 a14 a15 => f a7 fun r => k (N16.mk a0 a1 a2 a3 a4 a5 a6 r a8 a9 a10 a11 a12 a13 a14 a15)) n
def u8 (f : α → (α → β) → β) (n : N16 α) (k : N16 α → β) : β := N16.rec (motive := fun _ => β) (fun a0 a1 a2 a3 a4 a5 a6 a7 a8 a9 a10 a11 a12 a13 a14 a15 => f a8 fun r => k (N16.mk a0 a1 a2 a3 a4 a5 a6 a7 r a9 a10 a11 a12 a13 a14 a15)) n
def u9 (f : α → (α → β) → β) (n : N16 α) (k : N16 α → β) : β := N16.rec (motive := fun _ => β) (fun a0 a1 a2 a3 a4 a5 a6 a7 a8 a9 a10 a11 a12 a13 a14 a15 => f a9 fun r => k (N16.mk a0 a1 a2 a3 a4 a5 a6 a7 a8 r a10 a11 a12 a13 a14 a15)) n
def u10 (f : α → (α → β) → β) (n : N16 α) (k : N16 α → β) : β := N16.rec (motive := fun _ => β) (fun a0 a1 a2 a3 a4 a5 a6 a7 a8 a9 a10 a11 a12 a13 a14 a15 => f a10 fun r => k (N16.mk a0 a1 a2 a3 a4 a5 a6 a7 a8 a9 r a11 a12 a13 a14 a15)) n
def u11 (f : α → (α → β) → β) (n : N16 α) (k : N16 α → β) : β := N16.rec (motive := fun _ => β) (fun a0 a1 a2 a3 a4 a5 a6 a7 a8 a9 a10 a11 a12 a13 a14 a15 => f a11 fun r => k (N16.mk a0 a1 a2 a3 a4 a5 a6 a7 a8 a9 a10 r a12 a13 a14 a15)) n
def u12 (f : α → (α → β) → β) (n : N16 α) (k : N16 α → β) : β := N16.rec (motive := fun _ => β) (fun a0 a1 a2 a3 a4 a5 a6 a7 a8 a9 a10 a11 a12 a13 a14 a15 => f a12 fun r => k (N16.mk a0 a1 a2 a3 a4 a5 a6 a7 a8 a9 a10 a11 r a13 a14 a15)) n
def u13 (f : α → (α → β) → β) (n : N16 α) (k : N16 α → β) : β := N16.rec (motive := fun _ => β) (fun a0 a1 a2 a3 a4 a5 a6 a7 a8 a9 a10 a11 a12 a13 a14 a15 => f a13 fun r => k (N16.mk a0 a1 a2 a3 a4 a5 a6 a7 a8 a9 a10 a11 a12 r a14 a15)) n
def u14 (f : α → (α → β) → β) (n : N16 α) (k : N16 α → β) : β := N16.rec (motive := fun _ => β) (fun a0 a1 a2 a3 a4 a5 a6 a7 a8 a9 a10 a11 a12 a13 a14 a15 => f a14 fun r => k (N16.mk a0 a1 a2 a3 a4 a5 a6 a7 a8 a9 a10 a11 a12 a13 r a15)) n
def u15 (f : α → (α → β) → β) (n : N16 α) (k : N16 α → β) : β := N16.rec (motive := fun _ => β) (fun a0 a1 a2 a3 a4 a5 a6 a7 a8 a9 a10 a11 a12 a13 a14 a15 => f a15 fun r => k (N16.mk a0 a1 a2 a3 a4 a5 a6 a7 a8 a9 a10 a11 a12 a13 a14 r)) n
end N16
/-! ### Digits chosen ahead -/
def pkD (d : D16) (c : (N16 α → (α → β) → β) → γ) : γ := D16.rec (motive := fun _ => γ) (c N16.p0) (c N16.p1) (c N16.p2) (c N16.p3) (c N16.p4) (c N16.p5) (c N16.p6) (c N16.p7) (c N16.p8) (c N16.p9) (c N16.p10) (c N16.p11) (c N16.p12) (c N16.p13) (c N16.p14) (c N16.p15) d
def stD (d : D16) (c : (α → N16 α → (N16 α → β) → β) → γ) : γ := D16.rec (motive := fun _ => γ) (c N16.s0) (c N16.s1) (c N16.s2) (c N16.s3) (c N16.s4) (c N16.s5) (c N16.s6) (c N16.s7) (c N16.s8) (c N16.s9) (c N16.s10) (c N16.s11) (c N16.s12) (c N16.s13) (c N16.s14) (c N16.s15) d
def upD (d : D16) (c : ((α → (α → β) → β) → N16 α → (N16 α → β) → β) → γ) : γ := D16.rec (motive := fun _ => γ) (c N16.u0) (c N16.u1) (c N16.u2) (c N16.u3) (c N16.u4) (c N16.u5) (c N16.u6) (c N16.u7) (c N16.u8) (c N16.u9) (c N16.u10) (c N16.u11) (c N16.u12) (c N16.u13) (c N16.u14) (c N16.u15) d
def pkR (d : D16) : N16 α → (α → β) → β := D16.rec (motive := fun _ => N16 α → (α → β) → β) N16.p0 N16.p1 N16.p2 N16.p3 N16.p4 N16.p5 N16.p6 N16.p7 N16.p8 N16.p9 N16.p10 N16.p11 N16.p12 N16.p13 N16.p14 N16.p15 d
def upR (d : D16) : (α → (α → β) → β) → N16 α → (N16 α → β) → β := D16.rec (motive := fun _ => (α → (α → β) → β) → N16 α → (N16 α → β) → β) N16.u0 N16.u1 N16.u2 N16.u3 N16.u4 N16.u5 N16.u6 N16.u7 N16.u8 N16.u9 N16.u10 N16.u11 N16.u12 N16.u13 N16.u14 N16.u15 d
theorem pkD_eq (d : D16) (c : (N16 α → (α → β) → β) → γ) : pkD d c = c fun n k => k (N16.get d n) := by
  cases d <;> exact congrArg c (funext fun n => funext fun k => by cases n; rfl)
theorem stD_eq (d : D16) (c : (α → N16 α → (N16 α → β) → β) → γ) : stD d c = c (N16.setK d) := by cases d <;> rfl
theorem upD_eq (d : D16) (c : ((α → (α → β) → β) → N16 α → (N16 α → β) → β) → γ) : upD d c = c fun f n k => f (N16.get d n) fun r => N16.setK d r n k := by
  cases d <;> exact congrArg c (funext fun f => funext fun n => funext fun k => by cases n; rfl)
theorem pkR_eq (d : D16) (n : N16 α) (k : α → β) : pkR d n k = k (N16.get d n) := by cases d <;> cases n <;> rfl
theorem upR_eq (d : D16) (f : α → (α → β) → β) (n : N16 α) (k : N16 α → β) : upR d f n k = f (N16.get d n) fun r => N16.setK d r n k := by cases d <;> cases n <;> rfl
/-! ### Values in normal form -/
def fV (v : AV) (k : AV → β) : β := AV.rec (motive := fun _ => β) (k .top) (fun b => k (.bool b)) (fun kd n => k (.int kd n)) (fun n x => k (.str n x)) (k .pnil) (fun b o => k (.ptr b o)) (k .snil) (fun b o n c => k (.sl b o n c)) (fun b o n z => k (.slu b o n z)) (k .mnil) (fun b => k (.map b)) (fun f x y _ _ => k (.fn f x y)) (k .fnil) (k .inil) (fun t x _ => k (.iface t x)) (fun l _ => k (.agg l)) (fun l _ => k (.tup l)) (fun n => k (.ge n)) (k .nl) (fun h t _ _ => k (.cons h t)) v
theorem fV_eq (v : AV) (k : AV → β) : fV v k = k v := by cases v <;> rfl
def lenR (v : AV) : Nat := AV.rec (motive := fun _ => Nat) (0) (fun _ => 0) (fun _ _ => 0) (fun _ _ => 0) (0) (fun _ _ => 0) (0) (fun _ _ _ _ => 0) (fun _ _ _ _ => 0) (0) (fun _ => 0) (fun _ _ _ _ _ => 0) (0) (0) (fun _ _ _ => 0) (fun _ _ => 0) (fun _ _ => 0) (fun _ => 0) (0) (fun _ _ _ ih => Nat.succ ih) v
theorem lenR_eq : ∀ v : AV, lenR v = v.len
  | .top => rfl
  | .bool _ => rfl
  | .int _ _ => rfl
  | .str _ _ => rfl
  | .pnil => rfl
  | .ptr _ _ => rfl
  | .snil => rfl
  | .sl _ _ _ _ => rfl
  | .slu _ _ _ _ => rfl
  | .mnil => rfl
  | .map _ => rfl
  | .fn _ _ _ => rfl
  | .fnil => rfl
  | .inil => rfl
  | .iface _ _ => rfl
  | .agg _ => rfl
  | .tup _ => rfl
  | .ge _ => rfl
  | .nl => rfl
  | .cons h t => congrArg Nat.succ (lenR_eq t)
def oneR (v : AV) : Bool := AV.rec (motive := fun _ => Bool) (false) (fun _ => true) (fun _ _ => true) (fun _ _ => true) (true) (fun _ _ => true) (true) (fun _ _ _ _ => true) (fun _ _ _ _ => true) (true) (fun _ => true) (fun _ _ _ _ _ => true) (true) (true) (fun _ _ _ => true) (fun _ _ => false) (fun _ _ => false) (fun _ => false) (false) (fun _ _ _ _ => false) v
theorem oneR_eq (v : AV) : oneR v = v.one := by cases v <;> rfl
def onesR (v : AV) : Bool := AV.rec (motive := fun _ => Bool) (false) (fun _ => false) (fun _ _ => false) (fun _ _ => false) (false) (fun _ _ => false) (false) (fun _ _ _ _ => false) (fun _ _ _ _ => false) (false) (fun _ => false) (fun _ _ _ _ _ => false) (false) (false) (fun _ _ _ => false) (fun _ _ => false) (fun _ _ => false) (fun _ => false) (true) (fun h _ _ ih => Bool.rec (motive := fun _ => Bool) false ih (oneR h)) v
theorem onesR_eq : ∀ v : AV, onesR v = v.ones
  | .top => rfl
  | .bool _ => rfl
  | .int _ _ => rfl
  | .str _ _ => rfl
  | .pnil => rfl
  | .ptr _ _ => rfl
  | .snil => rfl
  | .sl _ _ _ _ => rfl
  | .slu _ _ _ _ => rfl
  | .mnil => rfl
  | .map _ => rfl
  | .fn _ _ _ => rfl
  | .fnil => rfl
  | .inil => rfl
  | .iface _ _ => rfl
  | .agg _ => rfl
  | .tup _ => rfl
  | .ge _ => rfl
  | .nl => rfl
  | .cons h t => by
    show Bool.rec (motive := fun _ => Bool) false (onesR t) (oneR h) = (h.one && t.ones)
    rw [oneR_eq, onesR_eq t]
    cases h.one <;> rfl
def partsR (v : AV) (k : AV → R) : R := AV.rec (motive := fun _ => R) (.bad 21) (fun _ => k (.cons v .nl)) (fun _ _ => k (.cons v .nl)) (fun _ _ => k (.cons v .nl)) (k (.cons v .nl)) (fun _ _ => k (.cons v .nl)) (k (.cons v .nl)) (fun _ _ _ _ => k (.cons v .nl)) (fun _ _ _ _ => k (.cons v .nl)) (k (.cons v .nl)) (fun _ => k (.cons v .nl)) (fun _ _ _ _ _ => k (.cons v .nl)) (k (.cons v .nl)) (k (.cons v .nl)) (fun _ _ _ => k (.cons v .nl)) (fun l _ => k l) (fun _ _ => .bad 21) (fun _ => .bad 21) (.bad 21) (fun _ _ _ _ => .bad 21) v
theorem partsR_eq (v : AV) (k : AV → R) : partsR v k = partsK v k := by cases v <;> rfl
def nilR (v : AV) (k : R) : R := AV.rec (motive := fun _ => R) (.bad 30) (fun _ => .bad 30) (fun _ _ => .bad 30) (fun _ _ => .bad 30) (.bad 30) (fun _ _ => k) (.bad 30) (fun _ _ _ _ => k) (fun _ _ _ _ => k) (.bad 30) (fun _ => k) (fun f _ _ _ _ => Fn.rec (motive := fun _ => R) (fun _ => k) (fun _ => .bad 30) (fun _ _ => .bad 30) (fun _ _ _ _ => .bad 30) (fun _ => .bad 30) f) (.bad 30) (.bad 30) (fun _ _ _ => k) (fun _ _ => .bad 30) (fun _ _ => .bad 30) (fun _ => .bad 30) (.bad 30) (fun _ _ _ _ => .bad 30) v
theorem nilR_eq (v : AV) (k : R) : nilR v k = nilK v k := by
  cases v with
  | fn f _ _ => cases f <;> rfl
  | _ => rfl
def onSlR (v : AV) (k : Nat → Nat → Nat → R) : R := AV.rec (motive := fun _ => R) (.bad 33) (fun _ => .bad 33) (fun _ _ => .bad 33) (fun _ _ => .bad 33) (.bad 33) (fun _ _ => .bad 33) (.bad 33) (fun b o n _ => k b o n) (fun b o n _ => k b o n) (.bad 33) (fun _ => .bad 33) (fun _ _ _ _ _ => .bad 33) (.bad 33) (.bad 33) (fun _ _ _ => .bad 33) (fun _ _ => .bad 33) (fun _ _ => .bad 33) (fun _ => .bad 33) (.bad 33) (fun _ _ _ _ => .bad 33) v
theorem onSlR_eq (v : AV) (k : Nat → Nat → Nat → R) : onSlR v k = onSl v k := by cases v <;> rfl
def onStrR (v : AV) (k : Nat → Nat → R) : R := AV.rec (motive := fun _ => R) (.bad 42) (fun _ => .bad 42) (fun _ _ => .bad 42) (fun n b => k n b) (.bad 42) (fun _ _ => .bad 42) (.bad 42) (fun _ _ _ _ => .bad 42) (fun _ _ _ _ => .bad 42) (.bad 42) (fun _ => .bad 42) (fun _ _ _ _ _ => .bad 42) (.bad 42) (.bad 42) (fun _ _ _ => .bad 42) (fun _ _ => .bad 42) (fun _ _ => .bad 42) (fun _ => .bad 42) (.bad 42) (fun _ _ _ _ => .bad 42) v
theorem onStrR_eq (v : AV) (k : Nat → Nat → R) : onStrR v k = onStr v k := by cases v <;> rfl
def strLen (v : AV) (k : AV → R) : R := AV.rec (motive := fun _ => R) (.bad 1) (fun _ => .bad 1) (fun _ _ => .bad 1) (fun n _ => k (.int .i64 (.ofNat n))) (.bad 1) (fun _ _ => .bad 1) (.bad 1) (fun _ _ _ _ => .bad 1) (fun _ _ _ _ => .bad 1) (.bad 1) (fun _ => .bad 1) (fun _ _ _ _ _ => .bad 1) (.bad 1) (.bad 1) (fun _ _ _ => .bad 1) (fun _ _ => .bad 1) (fun _ _ => .bad 1) (fun _ => .bad 1) (.bad 1) (fun _ _ _ _ => .bad 1) v
theorem strLen_eq (v : AV) (k : AV → R) : strLen v k = okK (lenD .string v) (lenA v k) := by cases v <;> rfl
def slcLen (v : AV) (k : AV → R) : R := AV.rec (motive := fun _ => R) (.bad 1) (fun _ => .bad 1) (fun _ _ => .bad 1) (fun _ _ => .bad 1) (.bad 1) (fun _ _ => .bad 1) (k (.int .i64 (.ofNat 0))) (fun _ _ n _ => k (.int .i64 (.ofNat n))) (fun _ _ n _ => k (.int .i64 (.ofNat n))) (.bad 1) (fun _ => .bad 1) (fun _ _ _ _ _ => .bad 1) (.bad 1) (.bad 1) (fun _ _ _ => .bad 1) (fun _ _ => .bad 1) (fun _ _ => .bad 1) (fun _ => .bad 1) (.bad 1) (fun _ _ _ _ => .bad 1) v
theorem slcLen_eq (e : TypeId) (v : AV) (k : AV → R) : slcLen v k = okK (lenD (.slice e) v) (lenA v k) := by cases v <;> rfl
def wantT (v : AV) (no yes : R) : R := AV.rec (motive := fun _ => R) (.bad 90) (fun b => Bool.rec (motive := fun _ => R) no yes b) (fun _ _ => no) (fun _ _ => .bad 90) (.bad 90) (fun _ _ => .bad 90) (.bad 90) (fun _ _ _ _ => .bad 90) (fun _ _ _ _ => .bad 90) (.bad 90) (fun _ => .bad 90) (fun _ _ _ _ _ => .bad 90) (.bad 90) (.bad 90) (fun _ _ _ => .bad 90) (fun _ _ => .bad 90) (fun _ _ => no) (fun _ => .bad 90) (.bad 90) (fun _ _ _ _ => .bad 90) v
def wantF (v : AV) (no yes : R) : R := AV.rec (motive := fun _ => R) (.bad 90) (fun b => Bool.rec (motive := fun _ => R) yes no b) (fun _ _ => no) (fun _ _ => .bad 90) (.bad 90) (fun _ _ => .bad 90) (.bad 90) (fun _ _ _ _ => .bad 90) (fun _ _ _ _ => .bad 90) (.bad 90) (fun _ => .bad 90) (fun _ _ _ _ _ => .bad 90) (.bad 90) (.bad 90) (fun _ _ _ => .bad 90) (fun _ _ => .bad 90) (fun _ _ => no) (fun _ => .bad 90) (.bad 90) (fun _ _ _ _ => .bad 90) v
def retR (v : AV) (k : AV → R) : R := AV.rec (motive := fun _ => R) (k (.tup v)) (fun _ => k (.tup v)) (fun _ _ => k (.tup v)) (fun _ _ => k (.tup v)) (k (.tup v)) (fun _ _ => k (.tup v)) (k (.tup v)) (fun _ _ _ _ => k (.tup v)) (fun _ _ _ _ => k (.tup v)) (k (.tup v)) (fun _ => k (.tup v)) (fun _ _ _ _ _ => k (.tup v)) (k (.tup v)) (k (.tup v)) (fun _ _ _ => k (.tup v)) (fun _ _ => k (.tup v)) (fun _ _ => k (.tup v)) (fun _ => k (.tup v)) (k (.tup v)) (fun h t _ _ => AV.rec (motive := fun _ => R) (k (.tup v)) (fun _ => k (.tup v)) (fun _ _ => k (.tup v)) (fun _ _ => k (.tup v)) (k (.tup v)) (fun _ _ => k (.tup v)) (k (.tup v)) (fun _ _ _ _ => k (.tup v)) (fun _ _ _ _ => k (.tup v)) (k (.tup v)) (fun _ => k (.tup v)) (fun _ _ _ _ _ => k (.tup v)) (k (.tup v)) (k (.tup v)) (fun _ _ _ => k (.tup v)) (fun _ _ => k (.tup v)) (fun _ _ => k (.tup v)) (fun _ => k (.tup v)) (k h) (fun _ _ _ _ => k (.tup v)) t) v
theorem retR_eq (v : AV) (k : AV → R) : retR v k = retV v k := by
  cases v with
  | cons h t => cases t <;> rfl
  | _ => rfl
def hdR (v : AV) (k : AV → R) : R := AV.rec (motive := fun _ => R) (.bad 1) (fun _ => .bad 1) (fun _ _ => .bad 1) (fun _ _ => .bad 1) (.bad 1) (fun _ _ => .bad 1) (.bad 1) (fun _ _ _ _ => .bad 1) (fun _ _ _ _ => .bad 1) (.bad 1) (fun _ => .bad 1) (fun _ _ _ _ _ => .bad 1) (.bad 1) (.bad 1) (fun _ _ _ => .bad 1) (fun _ _ => .bad 1) (fun _ _ => .bad 1) (fun _ => .bad 1) (.bad 1) (fun h _ _ _ => k h) v
def tlR (v : AV) (k : AV → R) : R := AV.rec (motive := fun _ => R) (.bad 1) (fun _ => .bad 1) (fun _ _ => .bad 1) (fun _ _ => .bad 1) (.bad 1) (fun _ _ => .bad 1) (.bad 1) (fun _ _ _ _ => .bad 1) (fun _ _ _ _ => .bad 1) (.bad 1) (fun _ => .bad 1) (fun _ _ _ _ _ => .bad 1) (.bad 1) (.bad 1) (fun _ _ _ => .bad 1) (fun _ _ => .bad 1) (fun _ _ => .bad 1) (fun _ => .bad 1) (.bad 1) (fun _ t _ _ => k t) v
def nthS (i : Nat) : AV → (AV → R) → R := Nat.rec (motive := fun _ => AV → (AV → R) → R) hdR (fun _ ih l k => tlR l fun t => ih t k) i
theorem nthS_eq : ∀ (i : Nat) (l : AV) (k : AV → R), nthS i l k = okK (Nat.ble (Nat.succ i) l.len) (k (l.nth i))
  | 0, l, k => by cases l <;> rfl
  | i + 1, l, k => by
    cases l with
    | cons h t => exact nthS_eq i t k
    | _ => rfl
def appR (l : AV) : AV → (AV → R) → R := AV.rec (motive := fun _ => AV → (AV → R) → R) (fun r k => k r) (fun _ => fun r k => k r) (fun _ _ => fun r k => k r) (fun _ _ => fun r k => k r) (fun r k => k r) (fun _ _ => fun r k => k r) (fun r k => k r) (fun _ _ _ _ => fun r k => k r) (fun _ _ _ _ => fun r k => k r) (fun r k => k r) (fun _ => fun r k => k r) (fun _ _ _ _ _ => fun r k => k r) (fun r k => k r) (fun r k => k r) (fun _ _ _ => fun r k => k r) (fun _ _ => fun r k => k r) (fun _ _ => fun r k => k r) (fun _ => fun r k => k r) (fun r k => k r) (fun h _ _ ih r k => ih r fun t => k (.cons h t)) l
theorem appR_eq : ∀ (l r : AV) (k : AV → R), appR l r k = k (l.app r)
  | .top, _, _ => rfl
  | .bool _, _, _ => rfl
  | .int _ _, _, _ => rfl
  | .str _ _, _, _ => rfl
  | .pnil, _, _ => rfl
  | .ptr _ _, _, _ => rfl
  | .snil, _, _ => rfl
  | .sl _ _ _ _, _, _ => rfl
  | .slu _ _ _ _, _, _ => rfl
  | .mnil, _, _ => rfl
  | .map _, _, _ => rfl
  | .fn _ _ _, _, _ => rfl
  | .fnil, _, _ => rfl
  | .inil, _, _ => rfl
  | .iface _ _, _, _ => rfl
  | .agg _, _, _ => rfl
  | .tup _, _, _ => rfl
  | .ge _, _, _ => rfl
  | .nl, _, _ => rfl
  | .cons h t, r, k => appR_eq t r fun t => k (.cons h t)
/-! ### The heap -/
def hgR (b : Nat) (h : Hp) (k : AO → R) : R := pkR (toD (Nat.div b 4096)) h fun h => pkR (toD (Nat.div b 256)) h fun h => pkR (toD (Nat.div b 16)) h fun h => pkR (toD (Nat.land b 15)) h k
theorem hgR_eq (b : Nat) (h : Hp) (k : AO → R) : hgR b h k = k (hget b h) := by unfold hgR hget; simp only [pkR_eq]
def hsR (b : Nat) (o : AO) (h : Hp) (k : Hp → R) : R := upR (toD (Nat.div b 4096)) (fun h k => upR (toD (Nat.div b 256)) (fun h k => upR (toD (Nat.div b 16)) (fun h k => N16.setK (toD (Nat.land b 15)) o h k) h k) h k) h k
theorem hsR_eq (b : Nat) (o : AO) (h : Hp) (k : Hp → R) : hsR b o h k = hsetK b o h k := by unfold hsR hsetK; simp only [upR_eq]
def csR (i : Nat) (c : Cs) (k : AV → R) : R := Cs.rec (motive := fun _ => R) (fun a => pkR (toD i) a k)
  (fun a => pkR (toD (Nat.div i 16)) a fun a => pkR (toD (Nat.land i 15)) a k)
  (fun a => pkR (toD (Nat.div i 256)) a fun a => pkR (toD (Nat.div i 16)) a fun a => pkR (toD (Nat.land i 15)) a k) c
theorem csR_eq (i : Nat) (c : Cs) (k : AV → R) : csR i c k = k (c.get i) := by unfold csR Cs.get; cases c <;> simp only [pkR_eq]
def takeR (c : Cs) (n : Nat) : Nat → (AV → R) → R := Nat.rec (motive := fun _ => Nat → (AV → R) → R) (fun _ k => k .nl)
  (fun _ ih i k => csR i c fun v => fN (Nat.succ i) fun j => ih j fun l => k (.cons v l)) n
theorem takeR_eq (c : Cs) : ∀ (n i : Nat) (k : AV → R), takeR c n i k = takeK c n i k
  | 0, _, _ => rfl
  | n + 1, i, k => by
    show csR i c (fun v => fN (Nat.succ i) fun j => takeR c n j fun l => k (.cons v l)) = fN (Nat.succ i) (fun j => takeK c n j fun l => k (.cons (Cs.get i c) l))
    rw [csR_eq, fN_eq, fN_eq, takeR_eq c n]
def newR (S : St) (o : AO) (k : Nat → St → R) : R := St.rec (motive := fun _ => R) (fun h n => okK (Nat.ble (Nat.succ n) 65536) (hsR n o h fun h => fN (Nat.succ n) fun m => k n ⟨h, m⟩)) S
theorem newR_eq (S : St) (o : AO) (k : Nat → St → R) : newR S o k = newK S o k := by
  cases S; unfold newR newK; dsimp only; rw [hsR_eq]
def setR (b q : Nat) (l : AV) (S : St) (k : St → R) : R := St.rec (motive := fun _ => R) (fun h m => hgR b h fun o => onCells o fun n c => okK (Nat.ble (Nat.add q (lenR l)) n) (okK (onesR l) (putsK (R.bad 51) l q c fun _ c => hsR b (.cells n c) h fun h => k ⟨h, m⟩))) S
theorem setR_eq (b q : Nat) (l : AV) (S : St) (k : St → R) : setR b q l S k = setK b q l S k := by
  cases S; unfold setR setK; dsimp only; simp only [hgR_eq, hsR_eq, lenR_eq, onesR_eq]
/-! ### Operands -/
abbrev Gt := T → (AV → R) → R
def gT (t : Nat) (c : Gt → γ) : γ := Bool.rec (motive := fun _ => γ) (c fun _ k => k .top) (pkD (toD (Nat.div t 16)) fun p => pkD (toD (Nat.land t 15)) fun q => c fun T k => p T fun r => q r k) (Nat.ble t 255)
theorem gT_eq (t : Nat) (c : Gt → γ) : gT t c = c fun T k => k (tgetS t T) := by
  unfold gT tgetS tget
  cases Nat.ble t 255 with
  | false => rfl
  | true => simp only [pkD_eq]
def gO (x : Operand) (c : Gt → γ) : γ := Operand.rec (motive := fun _ => γ) (fun t => gT t c) (fun v => fV (toAV v) fun a => c fun _ k => k a) (fun _ => c fun _ k => k .top) (fun f => c fun _ k => k (.fn (.func f) .nl .nl)) x
theorem gO_eq (x : Operand) (c : Gt → γ) : gO x c = c fun T k => k (opnd x T) := by
  cases x with
  | tmp t => exact gT_eq t c
  | const v => exact fV_eq (toAV v) fun a => c fun _ k => k a
  | global g => rfl
  | func f => rfl
def gL (l : List Operand) : (Gt → γ) → γ := List.rec (motive := fun _ => (Gt → γ) → γ) (fun c => c fun _ k => k .nl) (fun x _ ih c => gO x fun g => ih fun h => c fun T k => g T fun v => h T fun r => k (.cons v r)) l
theorem gL_eq : ∀ (l : List Operand) (c : Gt → γ), gL l c = c fun T k => k (opndL l T)
  | [], c => rfl
  | x :: l, c => by
    show gO x (fun g => gL l fun h => c fun T k => g T fun v => h T fun r => k (.cons v r)) = _
    rw [gO_eq, gL_eq l]; rfl
abbrev Pt := AV → T → (T → R) → R
def pT (m d : Nat) (c : Pt → γ) : γ := Bool.rec (motive := fun _ => γ) (c fun _ _ _ => .bad 1) (upD (toD (Nat.div d 16)) fun u => stD (toD (Nat.land d 15)) fun s => c fun v T k => u (fun r k => s v r k) T k) (Nat.ble (Nat.succ d) m)
theorem pT_eq (m d : Nat) (c : Pt → γ) : pT m d c = c fun v T k => okK (Nat.ble (Nat.succ d) m) (tsetK d v T k) := by
  unfold pT tsetK
  cases Nat.ble (Nat.succ d) m with
  | false => rfl
  | true => simp only [upD_eq, stD_eq]; rfl
def pO (m : Nat) (d : Option Nat) (c : Pt → γ) : γ := Option.rec (motive := fun _ => γ) (c fun _ T k => k T) (fun d => pT m d c) d
theorem pO_eq (m : Nat) (d : Option Nat) (c : Pt → γ) : pO m d c = c fun v T k => putK m d v T k := by
  cases d with
  | none => rfl
  | some d => exact pT_eq m d c
def tsR (t : Nat) (v : AV) (T : T) (k : Ev.T → R) : R := upR (toD (Nat.div t 16)) (fun r k => N16.setK (toD (Nat.land t 15)) v r k) T k
theorem tsR_eq (t : Nat) (v : AV) (T : T) (k : Ev.T → R) : tsR t v T k = tsetK t v T k := by unfold tsR tsetK; rw [upR_eq]

def argsR (l : AV) : Nat → T → (T → R) → R := AV.rec (motive := fun _ => Nat → T → (T → R) → R) (fun _ _ _ => .bad 91) (fun _ _ _ _ => .bad 91) (fun _ _ _ _ _ => .bad 91) (fun _ _ _ _ _ => .bad 91) (fun _ _ _ => .bad 91) (fun _ _ _ _ _ => .bad 91) (fun _ _ _ => .bad 91) (fun _ _ _ _ _ _ _ => .bad 91) (fun _ _ _ _ _ _ _ => .bad 91) (fun _ _ _ => .bad 91) (fun _ _ _ _ => .bad 91) (fun _ _ _ _ _ _ _ _ => .bad 91) (fun _ _ _ => .bad 91) (fun _ _ _ => .bad 91) (fun _ _ _ _ _ _ => .bad 91) (fun _ _ _ _ _ => .bad 91) (fun _ _ _ _ _ => .bad 91) (fun _ _ _ _ => .bad 91) (fun i T k => k T) (fun h t _ ih i T k => okK (Nat.ble i 255) (tsR i h T fun T => ih (Nat.succ i) T k)) l
theorem argsR_eq : ∀ (l : AV) (i : Nat) (T : T) (k : Ev.T → R), argsR l i T k = argsK l i T k
  | .top, _, _, _ => rfl
  | .bool _, _, _, _ => rfl
  | .int _ _, _, _, _ => rfl
  | .str _ _, _, _, _ => rfl
  | .pnil, _, _, _ => rfl
  | .ptr _ _, _, _, _ => rfl
  | .snil, _, _, _ => rfl
  | .sl _ _ _ _, _, _, _ => rfl
  | .slu _ _ _ _, _, _, _ => rfl
  | .mnil, _, _, _ => rfl
  | .map _, _, _, _ => rfl
  | .fn _ _ _, _, _, _ => rfl
  | .fnil, _, _, _ => rfl
  | .inil, _, _, _ => rfl
  | .iface _ _, _, _, _ => rfl
  | .agg _, _, _, _ => rfl
  | .tup _, _, _, _ => rfl
  | .ge _, _, _, _ => rfl
  | .nl, _, _, _ => rfl
  | .cons h t, i, T, k => by
    show okK (Nat.ble i 255) (tsR i h T fun T => argsR t (Nat.succ i) T k) = okK (Nat.ble i 255) (tsetK i h T fun T => argsK t (Nat.succ i) T k)
    rw [tsR_eq, show (fun T => argsR t (Nat.succ i) T k) = fun T => argsK t (Nat.succ i) T k from funext fun T => argsR_eq t _ T k]
end
end Go.Ev
set_option linter.unusedVariables false
set_option linter.unusedSimpArgs false
namespace Go.Ev
open Go
noncomputable section
variable {P : Program} {γ : Type}

def hMove (x : Operand) : Kd := gO x fun g => .pure g
theorem hMove_eq (x : Operand) : hMove x = kMove x := by unfold hMove; rw [gO_eq]; rfl
def hPick (c x y : Operand) : Kd := gO c fun gc => gO x fun gx => gO y fun gy => .pure fun T k => gc T fun b => onBool b (gx T k) (gy T k)
theorem hPick_eq (c x y : Operand) : hPick c x y = kPick c x y := by unfold hPick; simp only [gO_eq]; rfl
def hNil (x : Operand) : Kd := gO x fun g => .pure fun T k => g T fun v => nilR v (k v)
theorem hNil_eq (x : Operand) : hNil x = kNil x := by unfold hNil; simp only [gO_eq, nilR_eq]; rfl
def hNot (x : Operand) : Kd := gO x fun g => .pure fun T k => g T fun v => onBool v (k (.bool false)) (k (.bool true))
theorem hNot_eq (x : Operand) : hNot x = kNot x := by unfold hNot; simp only [gO_eq]; rfl
def hFieldAddr (P : Program) (t : TypeId) (x : Operand) (i : Nat) : Kd := match P.underlying t with
  | some (.struct fs) => match fs[i]? with
    | some f => match P.info? f.type with
      | some j => match Nat.beq j.size 0 with
        | true => .no
        | false => fN f.offset fun off => gO x fun g => .pure fun T k => g T fun v => onPtr v fun b o => fN (Nat.add o off) fun o => k (.ptr b o)
      | none => .no
    | none => .no
  | _ => .no
theorem hFieldAddr_eq (t : TypeId) (x : Operand) (i : Nat) : hFieldAddr P t x i = kFieldAddr P t x i := by
  unfold hFieldAddr kFieldAddr; simp only [fN_eq, gO_eq]; rfl
def hIndexAddr (P : Program) (t : TypeId) (x i : Operand) : Kd := match P.underlying t with
  | some (.slice e) => match P.info? e with
    | some j => fN j.size fun sz => gO x fun gx => gO i fun gi => .pure fun T k => gx T fun v => onSlR v fun b o n => gi T fun u => onNat u fun i => okK (Nat.ble (Nat.succ i) n) (fN (Nat.add o (Nat.mul i sz)) fun o => k (.ptr b o))
    | none => .no
  | some (.array n e) => match P.info? e with
    | some j => fN j.size fun sz => gO x fun gx => gO i fun gi => .pure fun T k => gx T fun v => onPtr v fun b o => gi T fun u => onNat u fun i => okK (Nat.ble (Nat.succ i) n) (fN (Nat.add o (Nat.mul i sz)) fun o => k (.ptr b o))
    | none => .no
  | _ => .no
theorem hIndexAddr_eq (t : TypeId) (x i : Operand) : hIndexAddr P t x i = kIndexAddr P t x i := by
  unfold hIndexAddr kIndexAddr; simp only [fN_eq, gO_eq, onSlR_eq]; rfl
def hLoad (P : Program) (t : TypeId) (x : Operand) : Kd := match P.underlying t, P.info? t with
  | some d, some i => match isAggD d with
    | true => fN i.size fun sz => gO x fun g => .load fun T H k => g T fun v => onPtr v fun b o => hgR b H fun ob => onCells ob fun n c => okK (Nat.ble (Nat.add o sz) n) (takeR c sz o fun l => k (.agg l))
    | false => gO x fun g => .load fun T H k => g T fun v => onPtr v fun b o => hgR b H fun ob => onCells ob fun n c => okK (Nat.ble (Nat.succ o) n) (csR o c k)
  | _, _ => .no
theorem hLoad_eq (t : TypeId) (x : Operand) : hLoad P t x = kLoad P t x := by
  unfold hLoad kLoad loadA
  simp only [fN_eq, gO_eq, hgR_eq, takeR_eq, csR_eq]
  cases P.underlying t with
  | none => rfl
  | some d => cases P.info? t with
    | none => rfl
    | some i => dsimp only; cases isAggD d <;> rfl
def hStore (P : Program) (t : TypeId) (a x : Operand) : Kd := match P.info? t with
  | some i => fN i.size fun sz => gO a fun ga => gO x fun gx => .eff fun T S k => ga T fun u => onPtr u fun b o => gx T fun v => partsR v fun l => okK (Nat.beq (lenR l) sz) (setR b o l S fun S => k (.tup .nl) S)
  | none => .no
theorem hStore_eq (t : TypeId) (a x : Operand) : hStore P t a x = kStore P t a x := by
  unfold hStore kStore; simp only [fN_eq, gO_eq, partsR_eq, setR_eq, lenR_eq]; rfl
def hLen (P : Program) (ts : Array TypeId) (args : Array Operand) : Kd := match args, ts[0]? with
  | ⟨[x]⟩, some t => match P.underlying t with
    | some .string => gO x fun g => .pure fun T k => g T fun v => strLen v k
    | some (.slice e) => gO x fun g => .pure fun T k => g T fun v => slcLen v k
    | _ => kLen P ts args
  | _, _ => kLen P ts args
theorem hLen_eq (ts : Array TypeId) (args : Array Operand) : hLen P ts args = kLen P ts args := by
  unfold hLen
  split
  · rename_i x t ht
    split
    · rename_i h
      unfold kLen; rw [ht]; dsimp only; rw [h]; simp only [gO_eq, strLen_eq]
    · rename_i e h
      unfold kLen; rw [ht]; dsimp only; rw [h]; simp only [gO_eq, slcLen_eq e]
    · rfl
  · rfl
/-! ### Integers -/
def addF : B2 := fun kd x y k => Int.rec (motive := fun _ => R) (fun a => Int.rec (motive := fun _ => R) (fun b => fN (Nat.add a b) fun c => Bool.rec (motive := fun _ => R) (iK kd (wrapF kd (.ofNat c)) k) (k (.int kd (.ofNat c))) (natIn kd c)) (fun _ => iK kd (wrapF kd (x + y)) k) y) (fun _ => iK kd (wrapF kd (x + y)) k) x
theorem addF_eq (kd : IntKind) (x y : Int) (k : AV → R) : addF kd x y k = iK kd (wrapF kd (x + y)) k := by
  cases x with
  | negSucc a => rfl
  | ofNat a => cases y with
    | negSucc b => rfl
    | ofNat b =>
      show fN (Nat.add a b) (fun c => Bool.rec (motive := fun _ => R) (iK kd (wrapF kd (.ofNat c)) k) (k (.int kd (.ofNat c))) (natIn kd c)) = iK kd (wrapF kd (.ofNat (Nat.add a b))) k
      rw [fN_eq]
      cases h : natIn kd (Nat.add a b) with
      | false => rfl
      | true =>
        show k (.int kd (.ofNat (Nat.add a b))) = iK kd (Bool.rec (motive := fun _ => Int) (kd.wrap (.ofNat (Nat.add a b))) (.ofNat (Nat.add a b)) (natIn kd (Nat.add a b))) k
        rw [h, iK_eq]
def subF : B2 := fun kd x y k => Int.rec (motive := fun _ => R) (fun a => Int.rec (motive := fun _ => R) (fun b => Bool.rec (motive := fun _ => R) (iK kd (wrapF kd (x - y)) k) (fN (Nat.sub a b) fun c => Bool.rec (motive := fun _ => R) (iK kd (wrapF kd (x - y)) k) (k (.int kd (.ofNat c))) (natIn kd c)) (Nat.ble b a)) (fun _ => iK kd (wrapF kd (x - y)) k) y) (fun _ => iK kd (wrapF kd (x - y)) k) x
theorem subF_eq (kd : IntKind) (x y : Int) (k : AV → R) : subF kd x y k = iK kd (wrapF kd (x - y)) k := by
  cases x with
  | negSucc a => rfl
  | ofNat a => cases y with
    | negSucc b => rfl
    | ofNat b =>
      show Bool.rec (motive := fun _ => R) (iK kd (wrapF kd (.ofNat a - .ofNat b)) k) (fN (Nat.sub a b) fun c => Bool.rec (motive := fun _ => R) (iK kd (wrapF kd (.ofNat a - .ofNat b)) k) (k (.int kd (.ofNat c))) (natIn kd c)) (Nat.ble b a) = iK kd (wrapF kd (.ofNat a - .ofNat b)) k
      cases h : Nat.ble b a with
      | false => rfl
      | true =>
        show fN (Nat.sub a b) (fun c => Bool.rec (motive := fun _ => R) (iK kd (wrapF kd (.ofNat a - .ofNat b)) k) (k (.int kd (.ofNat c))) (natIn kd c)) = _
        rw [fN_eq]
        cases h2 : natIn kd (Nat.sub a b) with
        | false => rfl
        | true =>
          have hle := Nat.le_of_ble_eq_true h
          have e : (Int.ofNat a - Int.ofNat b) = Int.ofNat (Nat.sub a b) := (Int.ofNat_sub hle).symm
          rw [e]
          show k (.int kd (.ofNat (Nat.sub a b))) = iK kd (Bool.rec (motive := fun _ => Int) (kd.wrap (.ofNat (Nat.sub a b))) (.ofNat (Nat.sub a b)) (natIn kd (Nat.sub a b))) k
          rw [h2, iK_eq]
def leK (x y : Int) (yes no : R) : R := Int.rec (motive := fun _ => R) (fun a => Int.rec (motive := fun _ => R) (fun b => Bool.rec (motive := fun _ => R) no yes (Nat.ble a b)) (fun _ => no) y) (fun a => Int.rec (motive := fun _ => R) (fun _ => yes) (fun b => Bool.rec (motive := fun _ => R) no yes (Nat.ble b a)) y) x
theorem leK_eq (x y : Int) (yes no : R) : leK x y yes no = Bool.rec (motive := fun _ => R) no yes (leI x y) := by cases x <;> cases y <;> rfl
def eqK (x y : Int) (yes no : R) : R := Int.rec (motive := fun _ => R) (fun a => Int.rec (motive := fun _ => R) (fun b => Bool.rec (motive := fun _ => R) no yes (Nat.beq a b)) (fun _ => no) y) (fun a => Int.rec (motive := fun _ => R) (fun _ => no) (fun b => Bool.rec (motive := fun _ => R) no yes (Nat.beq b a)) y) x
theorem eqK_eq (x y : Int) (yes no : R) : eqK x y yes no = Bool.rec (motive := fun _ => R) no yes (eqI x y) := by cases x <;> cases y <;> rfl
def binR (op : BinOp) : Option B2 := match op with
  | .add => some addF
  | .sub => some subF
  | .eql => some fun _ x y k => eqK x y (k (.bool true)) (k (.bool false))
  | .neq => some fun _ x y k => eqK x y (k (.bool false)) (k (.bool true))
  | .lss => some fun _ x y k => leK y x (k (.bool false)) (k (.bool true))
  | .leq => some fun _ x y k => leK x y (k (.bool true)) (k (.bool false))
  | .gtr => some fun _ x y k => leK x y (k (.bool false)) (k (.bool true))
  | .geq => some fun _ x y k => leK y x (k (.bool true)) (k (.bool false))
  | op => binI op
theorem bK_not (b : Bool) (k : AV → R) : Bool.rec (motive := fun _ => R) (k (.bool true)) (k (.bool false)) b = bK (!b) k := by cases b <;> rfl
theorem binR_eq (op : BinOp) : binR op = binI op := by
  cases op <;> first
    | rfl
    | exact congrArg some (funext fun kd => funext fun x => funext fun y => funext fun k => addF_eq kd x y k)
    | exact congrArg some (funext fun kd => funext fun x => funext fun y => funext fun k => subF_eq kd x y k)
    | exact congrArg some (funext fun kd => funext fun x => funext fun y => funext fun k => (eqK_eq x y _ _).trans rfl)
    | exact congrArg some (funext fun kd => funext fun x => funext fun y => funext fun k => (eqK_eq x y _ _).trans (bK_not _ k))
    | exact congrArg some (funext fun kd => funext fun x => funext fun y => funext fun k => (leK_eq x y _ _).trans rfl)
    | exact congrArg some (funext fun kd => funext fun x => funext fun y => funext fun k => (leK_eq y x _ _).trans rfl)
    | exact congrArg some (funext fun kd => funext fun x => funext fun y => funext fun k => (leK_eq x y _ _).trans (bK_not _ k))
    | exact congrArg some (funext fun kd => funext fun x => funext fun y => funext fun k => (leK_eq y x _ _).trans (bK_not _ k))
def hInt (f : B2) (x y : Operand) : Kd := gO x fun gx => gO y fun gy => .pure fun T k => gx T fun u => onInt u (.bad 40) fun kx a => gy T fun v => onInt v (.bad 40) fun ky b => okK (eqKd kx ky) (f kx a b k)
theorem hInt_eq (f : B2) (x y : Operand) : hInt f x y = kInt f x y := by unfold hInt; simp only [gO_eq]; rfl
def isIntR (v : AV) (yes no : R) : R := onInt v no fun _ _ => yes
def slowG (op : BinOp) (f : B2) (u v : AV) (k : AV → R) : R := match geBin op u v with
  | some v => k v
  | none => onInt u (.bad 40) fun kx a => onInt v (.bad 40) fun ky b => okK (eqKd kx ky) (f kx a b k)
def hIntG (op : BinOp) (f : B2) (x y : Operand) : Kd := gO x fun gx => gO y fun gy => .pure fun T k => gx T fun u => gy T fun v => isIntR u (isIntR v (onInt u (.bad 40) fun kx a => onInt v (.bad 40) fun ky b => okK (eqKd kx ky) (f kx a b k)) (slowG op f u v k)) (slowG op f u v k)
theorem hIntG_eq (op : BinOp) (f : B2) (x y : Operand) : hIntG op f x y = kIntG op f x y := by
  unfold hIntG; simp only [gO_eq]
  refine congrArg Kd.pure (funext fun T => funext fun k => ?_)
  show isIntR (opnd x T) (isIntR (opnd y T) _ _) _ = slowG op f (opnd x T) (opnd y T) k
  generalize opnd x T = u
  generalize opnd y T = v
  cases u <;> first | rfl | skip
  rename_i ku nu
  cases v <;> first | rfl | skip
  cases op <;> first | rfl | skip
  cases ku <;> cases nu <;> rfl
def streqK (n m a b : Nat) (yes no : R) : R := Bool.rec (motive := fun _ => R) no (Bool.rec (motive := fun _ => R) no yes (Nat.beq a b)) (Nat.beq n m)
def hStrEq (neg : Bool) (x y : Operand) : Kd := gO x fun gx => gO y fun gy => Bool.rec (motive := fun _ => Kd)
  (.pure fun T k => gx T fun u => onStrR u fun n a => gy T fun v => onStrR v fun m b => streqK n m a b (k (.bool true)) (k (.bool false)))
  (.pure fun T k => gx T fun u => onStrR u fun n a => gy T fun v => onStrR v fun m b => streqK n m a b (k (.bool false)) (k (.bool true))) neg
theorem hStrEq_eq (neg : Bool) (x y : Operand) : hStrEq neg x y = kStrEq neg x y := by
  unfold hStrEq; simp only [gO_eq, onStrR_eq]
  cases neg <;> (refine congrArg Kd.pure (funext fun T => funext fun k => ?_); refine congrArg (onStr (opnd x T)) (funext fun n => funext fun a => congrArg (onStr (opnd y T)) (funext fun m => funext fun b => ?_)); unfold streqK; cases Nat.beq n m <;> cases Nat.beq a b <;> rfl)
def hExtract (x : Operand) (i : Nat) : Kd := gO x fun g => .pure fun T k => g T fun v => onTup v fun l => nthS i l k
theorem hExtract_eq (x : Operand) (i : Nat) : hExtract x i = kExtract x i := by unfold hExtract; simp only [gO_eq, nthS_eq]; rfl
theorem opndL_app (T : T) : ∀ l : List Operand, (opndL l T).app .nl = opndL l T
  | [] => rfl
  | x :: l => congrArg (AV.cons (opnd x T)) (opndL_app T l)
def hCall (c : Call) : Kd := match c.callee with
  | .value (.func g) => gL c.args.toList fun ga => .call fun T k => ga T fun l => k g l
  | .value f => gO f fun gf => gL c.args.toList fun ga => .call fun T k => gf T fun v => onFn v fun g first cap => ga T fun l => appR l cap fun l => appR first l fun l => k g l
  | _ => .no
theorem hCall_eq (c : Call) : hCall c = kCall c := by
  unfold hCall kCall
  split
  · rename_i g h
    simp only [gL_eq, h]
    refine congrArg Kd.call (funext fun T => funext fun k => ?_)
    show _ = k g (AV.app .nl ((opndL c.args.toList T).app .nl))
    rw [opndL_app]; rfl
  · rename_i f h1 h
    simp only [h, gO_eq, gL_eq, appR_eq]
  · rename_i h1 h2
    split
    · rename_i f hf; exact absurd hf (h2 f)
    · rfl
def hBox (x : Operand) : Kd := gO x fun g => .make fun T k => g T fun v => partsR v fun l => putsK (R.bad 50) l 0 (Cs.new (lenR l)) fun n c => k (.cells n c) fun b => .ptr b 0
theorem hBox_eq (x : Operand) : hBox x = kBox x := by unfold hBox; simp only [gO_eq, partsR_eq, lenR_eq]; rfl
def hFunc (f : Fn) (x y : Array Operand) : Kd := gL x.toList fun gx => gL y.toList fun gy => .pure fun T k => gx T fun a => gy T fun b => k (.fn f a b)
theorem hFunc_eq (f : Fn) (x y : Array Operand) : hFunc f x y = kFunc f x y := by unfold hFunc; simp only [gL_eq]; rfl
def hBin (P : Program) (b : BinOp) (t : TypeId) (x y : Operand) : Kd := match P.underlying t with
  | some (.int _) => match b with
    | .shl => kShift true x y
    | .shr => kShift false x y
    | b => match binR b with
      | some f => match b with
        | .sub => hIntG .sub f x y
        | .leq => hIntG .leq f x y
        | _ => hInt f x y
      | none => .no
  | some .string => match b with
    | .eql => hStrEq false x y
    | .neq => hStrEq true x y
    | .add => kStrAdd x y
    | _ => .no
  | some (.struct _) => match b with
    | .eql => kEqS P false t x y
    | .neq => kEqS P true t x y
    | _ => .no
  | some d => match b with
    | .eql => kEqI false d x y
    | .neq => kEqI true d x y
    | _ => .no
  | none => .no
theorem hBin_eq (b : BinOp) (t : TypeId) (x y : Operand) (z : TypeId) : hBin P b t x y = kd P (.binOp b t x y z) := by
  unfold hBin kd
  simp only [binR_eq, hInt_eq, hIntG_eq, hStrEq_eq]
  cases P.underlying t with
  | none => rfl
  | some d => cases d <;> first | rfl | (cases b <;> rfl)
/-! ### Structs, slices, maps -/
def fillR (place : Nat → Option (Nat × Nat)) (total : Nat) (T : T) (l : List (Nat × Operand)) : AV → (AV → R) → R := List.rec (motive := fun _ => AV → (AV → R) → R) (fun l k => k l)
  (fun p _ ih l k => Option.rec (motive := fun _ => R) (.bad 52) (fun q => partsR (opnd p.2 T) fun ps => okK (Nat.beq (lenR ps) q.2) (okK (Nat.ble (Nat.add q.1 q.2) total) (fV (fillA l q.1 ps) fun l => ih l k))) (place p.1)) l
theorem fillR_eq (place : Nat → Option (Nat × Nat)) (total : Nat) (T : T) : ∀ (r : List (Nat × Operand)) (l : AV) (k : AV → R), fillR place total T r l k = fillK place total T r l k
  | [], l, k => rfl
  | (i, x) :: r, l, k => by
    show Option.rec (motive := fun _ => R) (.bad 52) (fun q => partsR (opnd x T) fun ps => okK (Nat.beq (lenR ps) q.2) (okK (Nat.ble (Nat.add q.1 q.2) total) (fV (fillA l q.1 ps) fun l => fillR place total T r l k))) (place i) = _
    unfold fillK
    cases place i with
    | none => rfl
    | some q => dsimp only; simp only [partsR_eq, lenR_eq, fV_eq, fillR_eq place total T r]
def hBuild (P : Program) (t : TypeId) (ps : Array (Nat × Operand)) : Kd := match zeroA P t, P.underlying t with
  | some (z, l), some (.struct fs) => match placesA P fs.toList with
    | some pl => .pure fun T k => fillR (fun i => pl[i]?) l.len T ps.toList l fun l => k (.agg l)
    | none => .no
  | some (z, l), some (.array _ e) => match P.info? e with
    | some i => .pure fun T k => fillR (fun j => some (j * i.size, i.size)) l.len T ps.toList l fun l => k (.agg l)
    | none => .no
  | _, _ => .no
theorem hBuild_eq (t : TypeId) (ps : Array (Nat × Operand)) : hBuild P t ps = kBuild P t ps := by
  unfold hBuild kBuild; simp only [fillR_eq]; rfl
def hBuildSlice (P : Program) (t : TypeId) (len : Nat) (ps : Array (Nat × Operand)) : Kd := match elA P t with
  | some x => match Nat.ble (len * x.size) 16777216 with
    | true => .make fun T k => fillR (fun j => some (j * x.size, x.size)) (len * x.size) T ps.toList (zerosA x.l len) fun l => putsK (R.bad 53) l 0 (Cs.new (lenR l)) fun n c => k (.cells n c) fun b => .sl b 0 len len
    | false => .no
  | none => .no
theorem hBuildSlice_eq (t : TypeId) (len : Nat) (ps : Array (Nat × Operand)) : hBuildSlice P t len ps = kBuildSlice P t len ps := by
  unfold hBuildSlice kBuildSlice; simp only [fillR_eq, lenR_eq]; rfl
def findR (x : AV) (l : List (AV × AV)) : Nat → (Option (Nat × AV) → R) → R := List.rec (motive := fun _ => Nat → (Option (Nat × AV) → R) → R) (fun _ k => k none)
  (fun p _ ih i k => Option.rec (motive := fun _ => R) (.bad 64) (fun b => Bool.rec (motive := fun _ => R) (fN (Nat.succ i) fun i => ih i k) (k (some (i, p.2))) b) (keyA x p.1)) l
theorem findR_eq (x : AV) : ∀ (l : List (AV × AV)) (i : Nat) (k : Option (Nat × AV) → R), findR x l i k = findA x l i k
  | [], i, k => rfl
  | (a, v) :: r, i, k => by
    show Option.rec (motive := fun _ => R) (.bad 64) (fun b => Bool.rec (motive := fun _ => R) (fN (Nat.succ i) fun i => findR x r i k) (k (some (i, v))) b) (keyA x a) = _
    unfold findA
    cases keyA x a with
    | none => rfl
    | some b => cases b with
      | true => rfl
      | false => dsimp only; rw [fN_eq, findR_eq x r]
def hLookup (P : Program) (t : TypeId) (x y : Operand) (ok : Bool) : Kd := match P.underlying t with
  | some (.map kt et) => match P.underlying kt, zeroA P et, P.underlying et with
    | some d, some (z, l), some ed => gO x fun gx => gO y fun gy => .load fun T H k => gy T fun y => okK (plainKey d y) (gx T fun x => kLookup.mapK x H fun es => findR y es 0 fun q => Option.rec (motive := fun _ => R) (kLookup.fin ok false (toAV z) k) (fun p => kLookup.fin ok true p.2 k) q)
    | _, _, _ => .no
  | _ => .no
theorem hLookup_eq (t : TypeId) (x y : Operand) (ok : Bool) : hLookup P t x y ok = kLookup P t x y ok := by
  unfold hLookup kLookup; simp only [gO_eq, findR_eq]
  cases P.underlying t with
  | none => rfl
  | some d => cases d <;> first | rfl | skip
              rename_i kt et
              dsimp only
              cases P.underlying kt <;> cases zeroA P et <;> cases P.underlying et <;> first | rfl | skip
              refine congrArg Kd.load (funext fun T => funext fun H => funext fun k => congrArg (okK _) (congrArg (kLookup.mapK _ _) (funext fun es => congrArg (findA _ _ _) (funext fun q => ?_))))
              cases q <;> rfl
/-- A list in normal form. -/
def fE {β : Type} (l : List (AV × AV)) : (List (AV × AV) → β) → β := List.rec (motive := fun _ => (List (AV × AV) → β) → β) (fun k => k []) (fun p _ ih k => Prod.rec (motive := fun _ => β) (fun a v => ih fun t => k ((a, v) :: t)) p) l
theorem fE_eq {β : Type} : ∀ (l : List (AV × AV)) (k : List (AV × AV) → β), fE l k = k l
  | [], k => rfl
  | (a, v) :: t, k => fE_eq t fun t => k ((a, v) :: t)
def hMapPut (P : Program) (t : TypeId) (m x y : Operand) : Kd := match P.underlying t with
  | some (.map kt _) => match P.underlying kt with
    | some d => gO m fun gm => gO x fun gx => gO y fun gy => .eff fun T S k => gm T fun vm => gx T fun vx => gy T fun vy => (match vm with
      | .map b => onMap (hget b S.h) fun es => okK (plainKey d vx) (findR vx es 0 fun q => Option.rec (motive := fun _ => R)
        (fE (es ++ [(vx, vy)]) fun es => hsetK b (.map es) S.h fun h => k (.tup .nl) ⟨h, S.n⟩)
        (fun p => fE (putM vx vy es p.1) fun es => hsetK b (.map es) S.h fun h => k (.tup .nl) ⟨h, S.n⟩) q)
      | _ => .bad 66)
    | none => .no
  | _ => .no
theorem hMapPut_eq (t : TypeId) (m x y : Operand) : hMapPut P t m x y = kMapPut P t m x y := by
  unfold hMapPut kMapPut; simp only [gO_eq, findR_eq, fE_eq]
  cases P.underlying t with
  | none => rfl
  | some d => cases d <;> first | rfl | skip
              rename_i kt et
              dsimp only
              cases P.underlying kt with
              | none => rfl
              | some d =>
                refine congrArg Kd.eff (funext fun T => funext fun S => funext fun k => ?_)
                skip
                cases opnd m T <;> first | rfl | skip
                refine congrArg (onMap _) (funext fun es => congrArg (okK _) (congrArg (findA _ _ _) (funext fun q => ?_)))
                cases q <;> rfl
def kd2 (P : Program) (op : Op) : Kd := match op with
  | .move x => hMove x
  | .assign x => hMove x
  | .pick c a b => hPick c a b
  | .box _ x => hBox x
  | .load t a => hLoad P t a
  | .store t a x => hStore P t a x
  | .nilCheck x => hNil x
  | .unOp .not _ x => hNot x
  | .makeFunc f a b => hFunc f a b
  | .fieldAddr t x i => hFieldAddr P t x i
  | .indexAddr t x i => hIndexAddr P t x i
  | .extract t i => hExtract t i
  | .build t ps => hBuild P t ps
  | .buildSlice t n ps => hBuildSlice P t n ps
  | .insert t m k x => hMapPut P t m k x
  | .mapUpdate t m k x => hMapPut P t m k x
  | .lookup t x k ok => hLookup P t x k ok
  | .binOp b t x y _ => hBin P b t x y
  | .call ⟨.builtin .len, args, ts⟩ => hLen P ts args
  | .call ⟨.value f, args, ts⟩ => hCall ⟨.value f, args, ts⟩
  | op => kd P op
theorem kd2_eq (op : Op) : kd2 P op = kd P op := by
  unfold kd2
  split <;> first
    | exact hMove_eq _
    | exact hPick_eq _ _ _
    | exact hBox_eq _
    | exact hLoad_eq _ _
    | exact hStore_eq _ _ _
    | exact hNil_eq _
    | exact hNot_eq _
    | exact hFunc_eq _ _ _
    | exact hFieldAddr_eq _ _ _
    | exact hIndexAddr_eq _ _ _
    | exact hExtract_eq _ _
    | exact hBuild_eq _ _
    | exact hBuildSlice_eq _ _ _
    | exact hMapPut_eq _ _ _ _
    | exact hLookup_eq _ _ _ _
    | exact hLen_eq _ _
    | exact hCall_eq _
    | exact hBin_eq _ _ _ _ _
    | rfl
end
end Go.Ev
set_option linter.unusedVariables false
set_option linter.unusedSimpArgs false
namespace Go.Ev
open Go
noncomputable section
variable {P : Program} {γ : Type}

def noM : Memo := fun _ _ _ => none
/-! ### A function's results -/
abbrev Rt := T → St → (AV → R) → R
def rsS (P : Program) (l : List ResultVar) : (Rt → γ) → γ := List.rec (motive := fun _ => (Rt → γ) → γ) (fun c => c fun _ _ k => k .nl)
  (fun x _ ih c => ResultVar.rec (motive := fun _ => γ) (fun t => gT t fun g => ih fun h => c fun T S k => g T fun v => h T S fun r => k (.cons v r))
    (fun a t => match loadA P t with
      | some f => gT a fun g => ih fun h => c fun T S k => g T fun u => f u S.h fun v => h T S fun r => k (.cons v r)
      | none => c fun _ _ _ => .bad 92) x) l
theorem rsS_eq : ∀ (l : List ResultVar) (c : Rt → γ), rsS P l c = c fun T S k => resK P T S l k
  | [], c => rfl
  | .tmp t :: l, c => by
    show gT t (fun g => rsS P l fun h => c fun T S k => g T fun v => h T S fun r => k (.cons v r)) = _
    rw [gT_eq, rsS_eq l]; rfl
  | .cell a t :: l, c => by
    show (match loadA P t with
      | some f => gT a fun g => rsS P l fun h => c fun T S k => g T fun u => f u S.h fun v => h T S fun r => k (.cons v r)
      | none => c fun _ _ _ => .bad 92) = c fun T S k => (match loadA P t with
      | some f => f (tgetS a T) S.h fun v => resK P T S l fun r => k (.cons v r)
      | none => .bad 92)
    cases loadA P t with
    | none => rfl
    | some f => dsimp only; rw [gT_eq, rsS_eq l]
def rtS (P : Program) (fn : Func) (c : Rt → γ) : γ := rsS P fn.results.toList fun h => c fun T S k => h T S fun v => retR v k
theorem rtS_eq (fn : Func) (c : Rt → γ) : rtS P fn c = c fun T S k => retK P fn T S k := by
  unfold rtS; rw [rsS_eq]; simp only [retR_eq]; rfl

/-! ### Calls -/
inductive FnC where
  | bad (n : Nat)
  | mk (run : Ev → AV → St → K → R)
def FnC.run (f : FnC) : Ev → AV → St → K → R := FnC.rec (motive := fun _ => Ev → AV → St → K → R) (fun n _ _ _ _ => .bad n) (fun r => r) f
def bodyS (P : Program) (fn : Func) (c : Code) : FnC := match offK c with
  | none => fN fn.ntmps fun m => rtS P fn fun rt => .mk fun ev args S k => argsR args 0 emT fun T => ev (.code c) m T S (fun T S => rt T S fun v => k v S) (fun e T S => Ex.rec (motive := fun _ => R) (fun _ => .bad 93) (fun _ => .bad 93) (rt T S fun v => k v S) e)
  | some (r0, ops, x, rest) => .mk fun ev args S k => bodyD P ev fn r0 ops x rest args S k
def stF (P : Program) (g : Nat) : FnC := match P.funcs[g]? with
  | some fn => Bool.rec (motive := fun _ => FnC) (.bad 1) (match fn.body with
    | some c => bodyS P fn c
    | none => .bad 94) (goodFn fn)
  | none => .bad 95
def callR (P : Program) (ev : Ev) (S : St) (g : Nat) (args : AV) (k : K) : R := FnC.rec (motive := fun _ => R) (fun n => .bad n) (fun r => r ev args S k) (stF P g)
theorem bodyS_eq (fn : Func) (c : Code) (ev : Ev) (args : AV) (S : St) (k : K) : FnC.rec (motive := fun _ => R) (fun n => .bad n) (fun r => r ev args S k) (bodyS P fn c) = bodyX P ev fn c args S k := by
  unfold bodyS bodyX
  split
  · rename_i h
    rw [h]
    dsimp only
    rw [fN_eq, rtS_eq]
    dsimp only
    rw [argsR_eq]
    unfold bodyK
    refine congrArg (argsK args 0 emT) (funext fun T => congrArg (ev (.code c) fn.ntmps T S (fun T S => retK P fn T S fun v => k v S)) ?_)
    funext e T S
    cases e <;> rfl
  · rename_i h
    rw [h]
theorem callR_eq (ev : Ev) (S : St) (g : Nat) (args : AV) (k : K) : callR P ev S g args k = callK P noM ev S g args k := by
  unfold callR stF
  show _ = (match P.funcs[g]? with
    | some fn => okK (goodFn fn) (match fn.body with
      | some c => bodyX P ev fn c args S k
      | none => .bad 94)
    | none => .bad 95)
  cases P.funcs[g]? with
  | none => rfl
  | some fn =>
    dsimp only
    cases goodFn fn with
    | false => rfl
    | true =>
      dsimp only [okK]
      cases fn.body with
      | none => rfl
      | some c => exact bodyS_eq fn c ev args S k

/-! ### One operation -/
abbrev Sp := Ev → T → St → KN → R
def stB (P : Program) (op : Op) (put : Pt) (c : Sp → γ) : γ := Kd.rec (motive := fun _ => γ)
  (fun f => c fun ev T S k => f T fun v => fV v fun v => put v T fun T => k T S)
  (fun f => c fun ev T S k => St.rec (motive := fun _ => R) (fun h n => f T h fun v => fV v fun v => put v T fun T => k T ⟨h, n⟩) S)
  (fun f => c fun ev T S k => f T fun b mk => newR S b fun i S => fV (mk i) fun v => put v T fun T => k T S)
  (fun f => c fun ev T S k => f T S fun v S => fV v fun v => put v T fun T => k T S)
  (fun f => c fun ev T S k => f T fun g l => callR P ev S g l fun v S => fV v fun v => put v T fun T => k T S)
  (c fun _ _ _ _ => .bad 96) (kd2 P op)
theorem stB_eq (op : Op) (put : Pt) (c : Sp → γ) : stB P op put c = c fun ev T S k => doK P noM ev (kd P op) T S fun v S => put v T fun T => k T S := by
  unfold stB
  rw [kd2_eq]
  cases kd P op with
  | pure f => simp only [fV_eq]; rfl
  | load f =>
    simp only [fV_eq]
    refine congrArg c (funext fun ev => funext fun T => funext fun S => funext fun k => ?_)
    cases S; rfl
  | make f => simp only [fV_eq, newR_eq]; rfl
  | eff f => simp only [fV_eq]; rfl
  | call f => simp only [fV_eq, callR_eq]; rfl
  | no => rfl
abbrev Gd := T → R → R → R
def gdS (ops : Array Oper) (g : Nat × Bool) (c : Gd → γ) : γ := match ops[g.1]? with
  | some p => match p.dst with
    | some d => gT d fun gt => Bool.rec (motive := fun _ => γ) (c fun T no yes => gt T fun v => wantF v no yes) (c fun T no yes => gt T fun v => wantT v no yes) g.2
    | none => c fun _ no _ => no
  | none => c fun _ no _ => no
theorem gdS_eq (ops : Array Oper) (g : Nat × Bool) (c : Gd → γ) : gdS ops g c = c fun T no yes => wantK ops g T no yes := by
  unfold gdS wantK
  cases ops[g.1]? with
  | none => rfl
  | some p =>
    dsimp only
    cases p.dst with
    | none => rfl
    | some d =>
      dsimp only
      rw [gT_eq]
      cases g.2 <;> (refine congrArg c (funext fun T => funext fun no => funext fun yes => ?_); dsimp only; cases tgetS d T <;> first | rfl | (rename_i b; cases b <;> rfl))
def stS (P : Program) (ops : Array Oper) (m : Nat) (o : Oper) (c : Sp → γ) : γ := pO m o.dst fun put => Option.rec (motive := fun _ => γ) (stB P o.op put c)
  (fun g => gdS ops g fun gd => stB P o.op put fun s => c fun ev T S k => gd T (put (.tup .nl) T fun T => k T S) (s ev T S k)) o.guard
theorem stS_eq (ops : Array Oper) (m : Nat) (o : Oper) (c : Sp → γ) : stS P ops m o c = c fun ev T S k => stepK P noM ev ops m o T S k := by
  unfold stS stepK guardK
  rw [pO_eq]
  cases o.guard with
  | none => exact stB_eq o.op _ c
  | some g => dsimp only; rw [gdS_eq, stB_eq]
inductive CR where
  | nil
  | cons (s : Sp) (r : CR)
def CR.run (c : CR) : Ev → T → St → KN → R := CR.rec (motive := fun _ => Ev → T → St → KN → R) (fun _ T S k => k T S) (fun s _ ih ev T S k => s ev T S fun T S => ih ev T S k) c
def cR (P : Program) (ops : Array Oper) (m : Nat) (l : List Oper) : CR := List.rec (motive := fun _ => CR) .nil (fun o _ ih => stS P ops m o fun s => .cons s ih) l
theorem cR_eq (ops : Array Oper) (m : Nat) : ∀ (l : List Oper) (ev : Ev) (T : T) (S : St) (k : KN), (cR P ops m l).run ev T S k = opsK P noM ev ops m l T S k
  | [], _, _, _, _ => rfl
  | o :: l, ev, T, S, k => by
    have h : cR P ops m (o :: l) = .cons (fun ev T S k => stepK P noM ev ops m o T S k) (cR P ops m l) := stS_eq ops m o fun s => CR.cons s (cR P ops m l)
    rw [h]
    show stepK P noM ev ops m o T S (fun T S => (cR P ops m l).run ev T S k) = stepK P noM ev ops m o T S (fun T S => opsK P noM ev ops m l T S k)
    rw [show (fun T S => (cR P ops m l).run ev T S k) = fun T S => opsK P noM ev ops m l T S k from funext fun T => funext fun S => cR_eq ops m l ev T S k]
/-! ### Regions that draw -/
/-- Whether two values are one. -/
def avEqR (x : AV) : AV → Bool := AV.rec (motive := fun _ => AV → Bool) (fun _ => false) (fun a => fun y => AV.rec (motive := fun _ => Bool) (false) (fun b => Bool.rec (motive := fun _ => Bool) (Bool.rec (motive := fun _ => Bool) true false b) b a) (fun _ _ => false) (fun _ _ => false) (false) (fun _ _ => false) (false) (fun _ _ _ _ => false) (fun _ _ _ _ => false) (false) (fun _ => false) (fun _ _ _ _ _ => false) (false) (false) (fun _ _ _ => false) (fun _ _ => false) (fun _ _ => false) (fun _ => false) (false) (fun _ _ _ _ => false) y) (fun k a => fun y => AV.rec (motive := fun _ => Bool) (false) (fun _ => false) (fun l b => Bool.rec (motive := fun _ => Bool) false (eqI a b) (eqKd k l)) (fun _ _ => false) (false) (fun _ _ => false) (false) (fun _ _ _ _ => false) (fun _ _ _ _ => false) (false) (fun _ => false) (fun _ _ _ _ _ => false) (false) (false) (fun _ _ _ => false) (fun _ _ => false) (fun _ _ => false) (fun _ => false) (false) (fun _ _ _ _ => false) y) (fun n a => fun y => AV.rec (motive := fun _ => Bool) (false) (fun _ => false) (fun _ _ => false) (fun m b => Bool.rec (motive := fun _ => Bool) false (Nat.beq a b) (Nat.beq n m)) (false) (fun _ _ => false) (false) (fun _ _ _ _ => false) (fun _ _ _ _ => false) (false) (fun _ => false) (fun _ _ _ _ _ => false) (false) (false) (fun _ _ _ => false) (fun _ _ => false) (fun _ _ => false) (fun _ => false) (false) (fun _ _ _ _ => false) y) (fun y => AV.rec (motive := fun _ => Bool) (false) (fun _ => false) (fun _ _ => false) (fun _ _ => false) (true) (fun _ _ => false) (false) (fun _ _ _ _ => false) (fun _ _ _ _ => false) (false) (fun _ => false) (fun _ _ _ _ _ => false) (false) (false) (fun _ _ _ => false) (fun _ _ => false) (fun _ _ => false) (fun _ => false) (false) (fun _ _ _ _ => false) y) (fun b o => fun y => AV.rec (motive := fun _ => Bool) (false) (fun _ => false) (fun _ _ => false) (fun _ _ => false) (false) (fun c p => Bool.rec (motive := fun _ => Bool) false (Nat.beq o p) (Nat.beq b c)) (false) (fun _ _ _ _ => false) (fun _ _ _ _ => false) (false) (fun _ => false) (fun _ _ _ _ _ => false) (false) (false) (fun _ _ _ => false) (fun _ _ => false) (fun _ _ => false) (fun _ => false) (false) (fun _ _ _ _ => false) y) (fun y => AV.rec (motive := fun _ => Bool) (false) (fun _ => false) (fun _ _ => false) (fun _ _ => false) (false) (fun _ _ => false) (true) (fun _ _ _ _ => false) (fun _ _ _ _ => false) (false) (fun _ => false) (fun _ _ _ _ _ => false) (false) (false) (fun _ _ _ => false) (fun _ _ => false) (fun _ _ => false) (fun _ => false) (false) (fun _ _ _ _ => false) y) (fun b o n c => fun y => AV.rec (motive := fun _ => Bool) (false) (fun _ => false) (fun _ _ => false) (fun _ _ => false) (false) (fun _ _ => false) (false) (fun b' o' n' c' => Bool.rec (motive := fun _ => Bool) false (Bool.rec (motive := fun _ => Bool) false (Bool.rec (motive := fun _ => Bool) false (Nat.beq c c') (Nat.beq n n')) (Nat.beq o o')) (Nat.beq b b')) (fun _ _ _ _ => false) (false) (fun _ => false) (fun _ _ _ _ _ => false) (false) (false) (fun _ _ _ => false) (fun _ _ => false) (fun _ _ => false) (fun _ => false) (false) (fun _ _ _ _ => false) y) (fun b o n c => fun y => AV.rec (motive := fun _ => Bool) (false) (fun _ => false) (fun _ _ => false) (fun _ _ => false) (false) (fun _ _ => false) (false) (fun _ _ _ _ => false) (fun b' o' n' c' => Bool.rec (motive := fun _ => Bool) false (Bool.rec (motive := fun _ => Bool) false (Bool.rec (motive := fun _ => Bool) false (Nat.beq c c') (Nat.beq n n')) (Nat.beq o o')) (Nat.beq b b')) (false) (fun _ => false) (fun _ _ _ _ _ => false) (false) (false) (fun _ _ _ => false) (fun _ _ => false) (fun _ _ => false) (fun _ => false) (false) (fun _ _ _ _ => false) y) (fun y => AV.rec (motive := fun _ => Bool) (false) (fun _ => false) (fun _ _ => false) (fun _ _ => false) (false) (fun _ _ => false) (false) (fun _ _ _ _ => false) (fun _ _ _ _ => false) (true) (fun _ => false) (fun _ _ _ _ _ => false) (false) (false) (fun _ _ _ => false) (fun _ _ => false) (fun _ _ => false) (fun _ => false) (false) (fun _ _ _ _ => false) y) (fun b => fun y => AV.rec (motive := fun _ => Bool) (false) (fun _ => false) (fun _ _ => false) (fun _ _ => false) (false) (fun _ _ => false) (false) (fun _ _ _ _ => false) (fun _ _ _ _ => false) (false) (fun c => Nat.beq b c) (fun _ _ _ _ _ => false) (false) (false) (fun _ _ _ => false) (fun _ _ => false) (fun _ _ => false) (fun _ => false) (false) (fun _ _ _ _ => false) y) (fun f _ _ ihx ihy => fun y => AV.rec (motive := fun _ => Bool) (false) (fun _ => false) (fun _ _ => false) (fun _ _ => false) (false) (fun _ _ => false) (false) (fun _ _ _ _ => false) (fun _ _ _ _ => false) (false) (fun _ => false) (fun g x' y' _ _ => Bool.rec (motive := fun _ => Bool) false (Bool.rec (motive := fun _ => Bool) false (ihy y') (ihx x')) (fnEq f g)) (false) (false) (fun _ _ _ => false) (fun _ _ => false) (fun _ _ => false) (fun _ => false) (false) (fun _ _ _ _ => false) y) (fun y => AV.rec (motive := fun _ => Bool) (false) (fun _ => false) (fun _ _ => false) (fun _ _ => false) (false) (fun _ _ => false) (false) (fun _ _ _ _ => false) (fun _ _ _ _ => false) (false) (fun _ => false) (fun _ _ _ _ _ => false) (true) (false) (fun _ _ _ => false) (fun _ _ => false) (fun _ _ => false) (fun _ => false) (false) (fun _ _ _ _ => false) y) (fun y => AV.rec (motive := fun _ => Bool) (false) (fun _ => false) (fun _ _ => false) (fun _ _ => false) (false) (fun _ _ => false) (false) (fun _ _ _ _ => false) (fun _ _ _ _ => false) (false) (fun _ => false) (fun _ _ _ _ _ => false) (false) (true) (fun _ _ _ => false) (fun _ _ => false) (fun _ _ => false) (fun _ => false) (false) (fun _ _ _ _ => false) y) (fun t _ ih => fun y => AV.rec (motive := fun _ => Bool) (false) (fun _ => false) (fun _ _ => false) (fun _ _ => false) (false) (fun _ _ => false) (false) (fun _ _ _ _ => false) (fun _ _ _ _ => false) (false) (fun _ => false) (fun _ _ _ _ _ => false) (false) (false) (fun u y' _ => Bool.rec (motive := fun _ => Bool) false (ih y') (Nat.beq t u)) (fun _ _ => false) (fun _ _ => false) (fun _ => false) (false) (fun _ _ _ _ => false) y) (fun _ ih => fun y => AV.rec (motive := fun _ => Bool) (false) (fun _ => false) (fun _ _ => false) (fun _ _ => false) (false) (fun _ _ => false) (false) (fun _ _ _ _ => false) (fun _ _ _ _ => false) (false) (fun _ => false) (fun _ _ _ _ _ => false) (false) (false) (fun _ _ _ => false) (fun y' _ => ih y') (fun _ _ => false) (fun _ => false) (false) (fun _ _ _ _ => false) y) (fun _ ih => fun y => AV.rec (motive := fun _ => Bool) (false) (fun _ => false) (fun _ _ => false) (fun _ _ => false) (false) (fun _ _ => false) (false) (fun _ _ _ _ => false) (fun _ _ _ _ => false) (false) (fun _ => false) (fun _ _ _ _ _ => false) (false) (false) (fun _ _ _ => false) (fun _ _ => false) (fun y' _ => ih y') (fun _ => false) (false) (fun _ _ _ _ => false) y) (fun a => fun y => AV.rec (motive := fun _ => Bool) (false) (fun _ => false) (fun _ _ => false) (fun _ _ => false) (false) (fun _ _ => false) (false) (fun _ _ _ _ => false) (fun _ _ _ _ => false) (false) (fun _ => false) (fun _ _ _ _ _ => false) (false) (false) (fun _ _ _ => false) (fun _ _ => false) (fun _ _ => false) (fun b => Nat.beq a b) (false) (fun _ _ _ _ => false) y) (fun y => AV.rec (motive := fun _ => Bool) (false) (fun _ => false) (fun _ _ => false) (fun _ _ => false) (false) (fun _ _ => false) (false) (fun _ _ _ _ => false) (fun _ _ _ _ => false) (false) (fun _ => false) (fun _ _ _ _ _ => false) (false) (false) (fun _ _ _ => false) (fun _ _ => false) (fun _ _ => false) (fun _ => false) (true) (fun _ _ _ _ => false) y) (fun _ _ iha ihx => fun y => AV.rec (motive := fun _ => Bool) (false) (fun _ => false) (fun _ _ => false) (fun _ _ => false) (false) (fun _ _ => false) (false) (fun _ _ _ _ => false) (fun _ _ _ _ => false) (false) (fun _ => false) (fun _ _ _ _ _ => false) (false) (false) (fun _ _ _ => false) (fun _ _ => false) (fun _ _ => false) (fun _ => false) (false) (fun b y' _ _ => Bool.rec (motive := fun _ => Bool) false (ihx y') (iha b)) y) x
theorem avEqR_eq : ∀ a b : AV, avEqR a b = avEq a b := by
  have hb : ∀ (x y : Bool), (Bool.rec (motive := fun _ => Bool) false y x) = (x && y) := fun x y => by cases x <;> rfl
  intro a
  induction a with
  | fn f x y ihx ihy => intro b; cases b <;> first | rfl | (rename_i g x' y'; show Bool.rec (motive := fun _ => Bool) false (Bool.rec (motive := fun _ => Bool) false (avEqR y y') (avEqR x x')) (fnEq f g) = (fnEq f g && (avEq x x' && avEq y y')); rw [hb, hb, ihx, ihy])
  | iface t x ih => intro b; cases b <;> first | rfl | (rename_i u y; show Bool.rec (motive := fun _ => Bool) false (avEqR x y) (Nat.beq t u) = (Nat.beq t u && avEq x y); rw [hb, ih])
  | agg x ih => intro b; cases b <;> first | rfl | exact ih _
  | tup x ih => intro b; cases b <;> first | rfl | exact ih _
  | cons a x iha ihx => intro b; cases b <;> first | rfl | (rename_i b y; show Bool.rec (motive := fun _ => Bool) false (avEqR x y) (avEqR a b) = (avEq a b && avEq x y); rw [hb, iha, ihx])
  | bool a => intro b; cases b <;> first | rfl | (rename_i b; cases a <;> cases b <;> rfl)
  | int k a => intro b; cases b <;> first | rfl | (rename_i l b; exact hb (eqKd k l) (eqI a b))
  | str n a => intro b; cases b <;> first | rfl | (rename_i m b; exact hb (Nat.beq n m) (Nat.beq a b))
  | ptr c o => intro b; cases b <;> first | rfl | (rename_i d p; exact hb (Nat.beq c d) (Nat.beq o p))
  | sl c o n k => intro b; cases b <;> first | rfl | (rename_i c' o' n' k'; show Bool.rec (motive := fun _ => Bool) false (Bool.rec (motive := fun _ => Bool) false (Bool.rec (motive := fun _ => Bool) false (Nat.beq k k') (Nat.beq n n')) (Nat.beq o o')) (Nat.beq c c') = _; rw [hb, hb, hb]; rfl)
  | slu c o n k => intro b; cases b <;> first | rfl | (rename_i c' o' n' k'; show Bool.rec (motive := fun _ => Bool) false (Bool.rec (motive := fun _ => Bool) false (Bool.rec (motive := fun _ => Bool) false (Nat.beq k k') (Nat.beq n n')) (Nat.beq o o')) (Nat.beq c c') = _; rw [hb, hb, hb]; rfl)
  | _ => intro b; cases b <;> rfl
abbrev Mk := T → T → T → (T → R) → R
def mkS (l : List (Nat × Bool)) : (Mk → γ) → γ := List.rec (motive := fun _ => (Mk → γ) → γ) (fun c => c fun _ _ M k => k M)
  (fun q _ ih c => gT q.1 fun g => pT 256 q.1 fun p => ih fun h => Bool.rec (motive := fun _ => γ) (c fun T0 T M k => g T0 fun v => p v M fun M => h T0 T M k) (c fun T0 T M k => g T fun v => p v M fun M => h T0 T M k) q.2) l
theorem mkS_eq : ∀ (l : List (Nat × Bool)) (c : Mk → γ), mkS l c = c fun T0 T M k => maskK T0 T l M k
  | [], c => rfl
  | (t, b) :: l, c => by
    show gT t (fun g => pT 256 t fun p => mkS l fun h => Bool.rec (motive := fun _ => γ) (c fun T0 T M k => g T0 fun v => p v M fun M => h T0 T M k) (c fun T0 T M k => g T fun v => p v M fun M => h T0 T M k) b) = _
    rw [gT_eq, pT_eq, mkS_eq l]
    cases b <;> rfl
def goS (ops : Array Oper) (g : Option (Nat × Bool)) (c : Gd → γ) : γ := Option.rec (motive := fun _ => γ) (c fun _ _ yes => yes) (fun g => gdS ops g c) g
theorem goS_eq (ops : Array Oper) (g : Option (Nat × Bool)) (c : Gd → γ) : goS ops g c = c fun T no yes => guardK ops g T no yes := by
  cases g with
  | none => rfl
  | some g => exact gdS_eq ops g c
abbrev Nf := T → St → (AV → St → Option Nat → R) → R
def nS (P : Program) (op : Op) (c : Nf → γ) : γ := Kd.rec (motive := fun _ => γ) (fun f => c fun T S k => f T fun v => fV v fun v => k v S none)
  (fun f => c fun T S k => St.rec (motive := fun _ => R) (fun h n => f T h fun v => fV v fun v => k v ⟨h, n⟩ none) S)
  (fun f => c fun T S k => f T fun b mk => newR S b fun i S => fV (mk i) fun v => k v S (some i))
  (fun _ => c fun _ _ _ => .bad 102) (fun _ => c fun _ _ _ => .bad 102) (c fun _ _ _ => .bad 102) (kd2 P op)
theorem nS_eq (op : Op) (c : Nf → γ) : nS P op c = c fun T S k => nK (kd P op) T S k := by
  unfold nS
  rw [kd2_eq]
  cases kd P op with
  | pure f => simp only [fV_eq]; rfl
  | load f =>
    simp only [fV_eq]
    refine congrArg c (funext fun T => funext fun S => funext fun k => ?_)
    cases S; rfl
  | make f => simp only [fV_eq, newR_eq]; rfl
  | eff f => rfl
  | call f => rfl
  | no => rfl
abbrev RNf := T → T → St → Bs → (T → St → Bs → R) → R
def rnS (P : Program) (ops : Array Oper) (m : Nat) (s : Stp) (c : RNf → γ) : γ := Option.rec (motive := fun _ => γ) (c fun _ _ _ _ _ => .bad 101)
  (fun o => mkS s.ls fun mk => goS ops o.guard fun gd => pO m o.dst fun put => nS P o.op fun nk => c fun T0 T S bs k => mk T0 T emT fun M => gd M (put (.tup .nl) T fun T => k T S bs) (nk M S fun v S b => put v T fun T => Option.rec (motive := fun _ => R) (k T S bs) (fun b => k T S ((s.i, b) :: bs)) b)) ops[s.i]?
def RNok (P : Program) (ops : Array Oper) (m : Nat) (s : Stp) : RNf := fun T0 T S bs k => match ops[s.i]? with
  | some o => maskK T0 T s.ls emT fun M => guardK ops o.guard M (putK m o.dst (.tup .nl) T fun T => k T S bs) (nK (kd P o.op) M S fun v S b => putK m o.dst v T fun T => k T S (addB s.i b bs))
  | none => .bad 101
theorem rnS_eq (ops : Array Oper) (m : Nat) (s : Stp) (c : RNf → γ) : rnS P ops m s c = c (RNok P ops m s) := by
  unfold rnS
  cases h : ops[s.i]? with
  | none => refine congrArg c (funext fun T0 => funext fun T => funext fun S => funext fun bs => funext fun k => ?_); unfold RNok; rw [h]
  | some o =>
    dsimp only
    rw [mkS_eq, goS_eq, pO_eq, nS_eq]
    refine congrArg c (funext fun T0 => funext fun T => funext fun S => funext fun bs => funext fun k => ?_)
    unfold RNok; rw [h]
    refine congrArg (maskK T0 T s.ls emT) (funext fun M => congrArg (guardK ops o.guard M _) (congrArg (nK _ M S) (funext fun v => funext fun S => funext fun b => ?_)))
    cases b <;> rfl
inductive RNL where
  | nil
  | cons (f : RNf) (r : RNL)
def RNL.run (l : RNL) : RNf := RNL.rec (motive := fun _ => RNf) (fun _ T S bs k => k T S bs) (fun f _ ih T0 T S bs k => f T0 T S bs fun T S bs => ih T0 T S bs k) l
def rnl (P : Program) (ops : Array Oper) (m : Nat) (l : List Stp) : RNL := List.rec (motive := fun _ => RNL) .nil (fun s _ ih => rnS P ops m s fun f => .cons f ih) l
theorem rnl_eq (ops : Array Oper) (m : Nat) : ∀ (l : List Stp) (T0 T : T) (S : St) (bs : Bs) (k : Ev.T → St → Bs → R), (rnl P ops m l).run T0 T S bs k = runN P ops m T0 l T S bs k
  | [], _, _, _, _, _ => rfl
  | s :: l, T0, T, S, bs, k => by
    have h : rnl P ops m (s :: l) = .cons (RNok P ops m s) (rnl P ops m l) := rnS_eq ops m s fun f => RNL.cons f (rnl P ops m l)
    rw [h]
    show RNok P ops m s T0 T S bs (fun T S bs => (rnl P ops m l).run T0 T S bs k) = _
    rw [show (fun T S bs => (rnl P ops m l).run T0 T S bs k) = fun T S bs => runN P ops m T0 l T S bs k from funext fun T => funext fun S => funext fun bs => rnl_eq ops m l T0 T S bs k]
    unfold RNok
    rw [runN]
    all_goals (cases ops[s.i]? <;> rfl)
abbrev Od := AV → T → R → R
def odS (m : Nat) (d : Option Nat) (c : Od → γ) : γ := Option.rec (motive := fun _ => γ) (c fun _ _ k => k) (fun d => gT d fun g => c fun v T k => okK (Nat.ble (Nat.succ d) m) (g T fun u => okK (avEqR v u) k)) d
theorem odS_eq (m : Nat) (d : Option Nat) (c : Od → γ) : odS m d c = c fun v T k => okD m d v T k := by
  cases d with
  | none => rfl
  | some d => unfold odS; dsimp only; rw [gT_eq]; simp only [avEqR_eq]; rfl
abbrev CKf := T → T → St → Bs → R → R
def cqS (P : Program) (op : Op) (i : Nat) (od : Od) (c : (T → St → T → Bs → R → R) → γ) : γ := Kd.rec (motive := fun _ => γ) (fun f => c fun M S T bs k => f M fun v => fV v fun v => od v T k)
  (fun f => c fun M S T bs k => St.rec (motive := fun _ => R) (fun h n => f M h fun v => fV v fun v => od v T k) S)
  (fun f => c fun M S T bs k => f M fun b mk => Option.rec (motive := fun _ => R) (.bad 103) (fun j => okK (aoSame b (hget j S.h)) (od (mk j) T k)) (findB i bs))
  (fun _ => c fun _ _ _ _ _ => .bad 104) (fun _ => c fun _ _ _ _ _ => .bad 104) (c fun _ _ _ _ _ => .bad 104) (kd2 P op)
theorem cqS_eq (op : Op) (i m : Nat) (d : Option Nat) (c : (T → St → T → Bs → R → R) → γ) : cqS P op i (fun v T k => okD m d v T k) c = c fun M S T bs k => chK (kd P op) M S i m d T bs k := by
  unfold cqS
  rw [kd2_eq]
  cases kd P op with
  | pure f => simp only [fV_eq]; rfl
  | load f =>
    simp only [fV_eq]
    refine congrArg c (funext fun M => funext fun S => funext fun T => funext fun bs => funext fun k => ?_)
    cases S; rfl
  | make f =>
    refine congrArg c (funext fun M => funext fun S => funext fun T => funext fun bs => funext fun k => ?_)
    show (f M fun b mk => _) = (f M fun b mk => _)
    refine congrArg (f M) (funext fun b => funext fun mk => ?_)
    cases findB i bs <;> rfl
  | eff f => rfl
  | call f => rfl
  | no => rfl
def ckS (P : Program) (ops : Array Oper) (m : Nat) (s : Stp) (c : CKf → γ) : γ := Option.rec (motive := fun _ => γ) (c fun _ _ _ _ _ => .bad 101)
  (fun o => mkS s.ls fun mk => goS ops o.guard fun gd => odS m o.dst fun od => cqS P o.op s.i od fun cq => c fun T0 T S bs k => mk T0 T emT fun M => gd M (od (.tup .nl) T k) (cq M S T bs k)) ops[s.i]?
def CKok (P : Program) (ops : Array Oper) (m : Nat) (s : Stp) : CKf := fun T0 T S bs k => match ops[s.i]? with
  | some o => maskK T0 T s.ls emT fun M => guardK ops o.guard M (okD m o.dst (.tup .nl) T k) (chK (kd P o.op) M S s.i m o.dst T bs k)
  | none => .bad 101
theorem ckS_eq (ops : Array Oper) (m : Nat) (s : Stp) (c : CKf → γ) : ckS P ops m s c = c (CKok P ops m s) := by
  unfold ckS
  cases h : ops[s.i]? with
  | none => refine congrArg c (funext fun T0 => funext fun T => funext fun S => funext fun bs => funext fun k => ?_); unfold CKok; rw [h]
  | some o =>
    dsimp only
    rw [mkS_eq, goS_eq, odS_eq, cqS_eq]
    refine congrArg c (funext fun T0 => funext fun T => funext fun S => funext fun bs => funext fun k => ?_)
    unfold CKok; rw [h]
inductive CKL where
  | nil
  | cons (f : CKf) (r : CKL)
def CKL.run (l : CKL) : CKf := CKL.rec (motive := fun _ => CKf) (fun _ _ _ _ k => k) (fun f _ ih T0 T S bs k => f T0 T S bs (ih T0 T S bs k)) l
def ckl (P : Program) (ops : Array Oper) (m : Nat) (l : List Stp) : CKL := List.rec (motive := fun _ => CKL) .nil (fun s _ ih => ckS P ops m s fun f => .cons f ih) l
theorem ckl_eq (ops : Array Oper) (m : Nat) : ∀ (l : List Stp) (T0 T : T) (S : St) (bs : Bs) (k : R), (ckl P ops m l).run T0 T S bs k = chks P ops m T0 l T S bs k
  | [], _, _, _, _, _ => rfl
  | s :: l, T0, T, S, bs, k => by
    have h : ckl P ops m (s :: l) = .cons (CKok P ops m s) (ckl P ops m l) := ckS_eq ops m s fun f => CKL.cons f (ckl P ops m l)
    rw [h]
    show CKok P ops m s T0 T S bs ((ckl P ops m l).run T0 T S bs k) = _
    rw [ckl_eq ops m l T0 T S bs k]
    unfold CKok
    rw [chks]
    all_goals (cases ops[s.i]? <;> rfl)
abbrev Gf := Ev → T → T → St → KN → R
def doS (P : Program) (op : Op) (put : Pt) (c : (Ev → T → T → St → KN → R) → γ) : γ := Kd.rec (motive := fun _ => γ)
  (fun f => c fun ev M T S k => f M fun v => fV v fun v => put v T fun T => k T S)
  (fun f => c fun ev M T S k => St.rec (motive := fun _ => R) (fun h n => f M h fun v => fV v fun v => put v T fun T => k T ⟨h, n⟩) S)
  (fun f => c fun ev M T S k => f M fun b mk => newR S b fun i S => fV (mk i) fun v => put v T fun T => k T S)
  (fun f => c fun ev M T S k => f M S fun v S => fV v fun v => put v T fun T => k T S)
  (fun f => c fun ev M T S k => f M fun g l => callR P ev S g l fun v S => fV v fun v => put v T fun T => k T S)
  (c fun _ _ _ _ _ => .bad 96) (kd2 P op)
theorem doS_eq (op : Op) (put : Pt) (c : (Ev → T → T → St → KN → R) → γ) : doS P op put c = c fun ev M T S k => doK P noM ev (kd P op) M S fun v S => put v T fun T => k T S := by
  unfold doS
  rw [kd2_eq]
  cases kd P op with
  | pure f => simp only [fV_eq]; rfl
  | load f =>
    simp only [fV_eq]
    refine congrArg c (funext fun ev => funext fun M => funext fun T => funext fun S => funext fun k => ?_)
    cases S; rfl
  | make f => simp only [fV_eq, newR_eq]; rfl
  | eff f => simp only [fV_eq]; rfl
  | call f => simp only [fV_eq, callR_eq]; rfl
  | no => rfl
def gsS (P : Program) (ops : Array Oper) (m : Nat) (s : Stp) (c : Gf → γ) : γ := Option.rec (motive := fun _ => γ) (c fun _ _ _ _ _ => .bad 101)
  (fun o => mkS s.ls fun mk => goS ops o.guard fun gd => pO m o.dst fun put => doS P o.op put fun d => c fun ev T0 T S k => mk T0 T emT fun M => gd M (put (.tup .nl) T fun T => k T S) (d ev M T S k)) ops[s.i]?
theorem gsS_eq (ops : Array Oper) (m : Nat) (s : Stp) (c : Gf → γ) : gsS P ops m s c = c fun ev T0 T S k => gS P noM ev ops m T0 s T S k := by
  unfold gsS
  cases h : ops[s.i]? with
  | none => refine congrArg c (funext fun ev => funext fun T0 => funext fun T => funext fun S => funext fun k => ?_); unfold gS; rw [h]
  | some o =>
    dsimp only
    rw [mkS_eq, goS_eq, pO_eq, doS_eq]
    refine congrArg c (funext fun ev => funext fun T0 => funext fun T => funext fun S => funext fun k => ?_)
    unfold gS; rw [h]
inductive PhL where
  | nil
  | c0 (ns : RNL) (re : CKL) (r : PhL)
  | c1 (ns : RNL) (re : CKL) (g : Gf) (r : PhL)
abbrev Phf := Ev → T → T → St → Bs → KN → R
def PhL.run (l : PhL) : Phf := PhL.rec (motive := fun _ => Phf) (fun _ _ _ _ _ _ => .bad 105)
  (fun ns re _ _ ev T0 T S bs k => ns.run T0 T S bs fun T S bs => re.run T0 T S bs (k T S))
  (fun ns re g _ ih ev T0 T S bs k => ns.run T0 T S bs fun T S bs => re.run T0 T S bs (g ev T0 T S fun T S' => okK (Nat.ble S.n S'.n) (ih ev T0 T S' bs k))) l
def phl (P : Program) (ops : Array Oper) (m : Nat) (l : List Ph) : PhL := List.rec (motive := fun _ => PhL) .nil
  (fun ph _ ih => Option.rec (motive := fun _ => PhL) (.c0 (rnl P ops m ph.ns) (ckl P ops m ph.re) ih) (fun e => gsS P ops m e fun g => .c1 (rnl P ops m ph.ns) (ckl P ops m ph.re) g ih) ph.e) l
theorem phl_eq (ops : Array Oper) (m : Nat) : ∀ (l : List Ph) (ev : Ev) (T0 T : T) (S : St) (bs : Bs) (k : KN), (phl P ops m l).run ev T0 T S bs k = phsK P noM ev ops m T0 l T S bs k
  | [], _, _, _, _, _, _ => rfl
  | ph :: l, ev, T0, T, S, bs, k => by
    have ih := fun ev T0 T S bs k => phl_eq ops m l ev T0 T S bs k
    cases he : ph.e with
    | none =>
      have h : phl P ops m (ph :: l) = .c0 (rnl P ops m ph.ns) (ckl P ops m ph.re) (phl P ops m l) := by
        show (Option.rec (motive := fun _ => PhL) _ _ ph.e : PhL) = _
        rw [he]; rfl
      rw [h]
      show (rnl P ops m ph.ns).run T0 T S bs (fun T S bs => (ckl P ops m ph.re).run T0 T S bs (k T S)) = _
      unfold phsK
      simp only [rnl_eq, ckl_eq, he]
    | some e =>
      have h : phl P ops m (ph :: l) = .c1 (rnl P ops m ph.ns) (ckl P ops m ph.re) (fun ev T0 T S k => gS P noM ev ops m T0 e T S k) (phl P ops m l) := by
        show (Option.rec (motive := fun _ => PhL) _ _ ph.e : PhL) = _
        rw [he]
        exact gsS_eq ops m e fun g => PhL.c1 (rnl P ops m ph.ns) (ckl P ops m ph.re) g (phl P ops m l)
      rw [h]
      show (rnl P ops m ph.ns).run T0 T S bs (fun T S bs => (ckl P ops m ph.re).run T0 T S bs (gS P noM ev ops m T0 e T S fun T S' => okK (Nat.ble S.n S'.n) ((phl P ops m l).run ev T0 T S' bs k))) = _
      unfold phsK
      simp only [rnl_eq, ckl_eq, he, ih]
def drawn2 (P : Program) (ev : Ev) (m : Nat) (ops : Array Oper) (T : T) (S : St) (k : KN) : R := okK (P.follows .mixedOrders && (Nat.ble m 256 && goodPlan ops (plan P ops))) ((phl P ops m (plan P ops).phs).run ev T T S [] k)
theorem drawn2_eq (ev : Ev) (m : Nat) (ops : Array Oper) (T : T) (S : St) (k : KN) : drawn2 P ev m ops T S k = drawn P noM ev m ops T S k := by
  unfold drawn2 drawn
  rw [phl_eq]
  cases P.follows .mixedOrders <;> cases Nat.ble m 256 <;> cases goodPlan ops (plan P ops) <;> rfl
/-! ### Code -/
inductive GtC where
  | mk (g : Gt)
def regR (P : Program) (ev : Ev) (m : Nat) (ops : Array Oper) (draw : Bool) : T → St → KN → R := Bool.rec (motive := fun _ => T → St → KN → R)
  (fun T S k => (cR P ops m ops.toList).run ev T S k) (fun T S k => drawn2 P ev m ops T S k) draw
def condR (c : Operand) (T : T) (x y : R) : R := GtC.rec (motive := fun _ => R) (fun g => g T fun v => onBool v x y) (gO c .mk)
theorem condR_eq (c : Operand) (T : T) (x y : R) : condR c T x y = onBool (opnd c T) x y := by unfold condR; rw [gO_eq]
def evC2 (P : Program) (ev : Ev) (m : Nat) (c : Code) : Mo := Code.rec (motive := fun _ => Mo)
  (fun T S kn kx => kn T S)
  (fun _ ops draw T S kn kx => regR P ev m ops draw T S kn)
  (fun _ _ iha ihb T S kn kx => iha T S (fun T S => ihb T S kn kx) kx)
  (fun c _ _ iha ihb T S kn kx => condR c T (iha T S kn kx) (ihb T S kn kx))
  (fun id _ ih T S kn kx => ih T S kn (blockX id kn kx))
  (fun b _ T S kn kx => ev (.loop b) m T S kn kx)
  (fun _ _ _ _ _ _ T S kn kx => .bad 97)
  (fun id T S kn kx => kx (.ex id) T S)
  (fun b _ T S kn kx => ev (.scope b b) m T S kn kx)
  (fun _ T S kn kx => kn T S)
  (fun l T S kn kx => kx (.gt l) T S)
  (fun T S kn kx => kx .rt T S)
  (fun _ T S kn kx => .bad 98) c
theorem evC2_eq (ev : Ev) (m : Nat) (c : Code) : evC2 P ev m c = evC P (drawn P) noM ev m c := by
  induction c with
  | region id ops draw =>
    funext T S kn kx
    cases draw with
    | false => exact cR_eq ops m ops.toList ev T S kn
    | true => exact drawn2_eq ev m ops T S kn
  | seq x y ihx ihy =>
    funext T S kn kx
    show evC2 P ev m x T S (fun T S => evC2 P ev m y T S kn kx) kx = evC P (drawn P) noM ev m x T S (fun T S => evC P (drawn P) noM ev m y T S kn kx) kx
    rw [ihx, ihy]
  | cond c x y ihx ihy =>
    funext T S kn kx
    show condR c T (evC2 P ev m x T S kn kx) (evC2 P ev m y T S kn kx) = onBool (opnd c T) (evC P (drawn P) noM ev m x T S kn kx) (evC P (drawn P) noM ev m y T S kn kx)
    rw [condR_eq, ihx, ihy]
  | block id b ih =>
    funext T S kn kx
    show evC2 P ev m b T S kn (blockX id kn kx) = evC P (drawn P) noM ev m b T S kn (blockX id kn kx)
    rw [ih]
  | _ => rfl
def evJ2 (P : Program) (ev : Ev) : Ev := fun j => Job.rec (motive := fun _ => Nat → T → St → KN → KX → R)
  (fun c m T S kn kx => evC2 P ev m c T S kn kx)
  (fun b m T S kn kx => evC2 P ev m b T S (fun T S => ev (.loop b) m T S kn kx) kx)
  (fun cur body m T S kn kx => evC2 P ev m cur T S kn (scopeX ev m body kn kx))
  (fun l i n m T S kn kx => okK (Nat.beq ((l.toList.drop i).take n).length n) ((cR P l m ((l.toList.drop i).take n)).run ev T S kn)) j
theorem evJ2_eq (ev : Ev) : evJ2 P ev = evJ P (drawn P) noM ev := by
  funext j m T S kn kx
  cases j with
  | code c => show evC2 P ev m c T S kn kx = evC P (drawn P) noM ev m c T S kn kx; rw [evC2_eq]
  | loop b => show evC2 P ev m b T S _ kx = evC P (drawn P) noM ev m b T S _ kx; rw [evC2_eq]
  | scope cur body => show evC2 P ev m cur T S kn _ = evC P (drawn P) noM ev m cur T S kn _; rw [evC2_eq]
  | ops l i n => exact congrArg (okK _) (cR_eq l m _ ev T S kn)
def evN2 (P : Program) (n : Nat) : Ev := Nat.rec (motive := fun _ => Ev) (fun _ _ _ _ _ _ => .bad 99) (fun _ ev => evJ2 P ev) n
theorem evN2_eq : ∀ n, evN2 P n = evN P (drawn P) noM n
  | 0 => rfl
  | n + 1 => by
    show evJ2 P (evN2 P n) = evJ P (drawn P) noM (evN P (drawn P) noM n)
    rw [evJ2_eq, evN2_eq n]
/-- A call without arguments, run to its end: what it leaves is dropped. -/
def callS (P : Program) (n g : Nat) : R := callR P (evN2 P n) ⟨emH, 0⟩ g .nl fun v _ => onBool v (.ok .nl ⟨emH, 0⟩) (.bad 1)
theorem calls_true {P : Program} {n g : Nat} (h : callS P n g = .ok .nl ⟨emH, 0⟩) (w : World) :
    Calls P g #[] w fun e w' => e = .returned (.bool true) ∧ RowKit.Below w.heap.size w w' := by
  unfold callS at h
  rw [callR_eq, evN2_eq] at h
  obtain ⟨v, S', hk, hs⟩ := callK_inv (M := noM) (fun _ _ _ _ _ h => by cases h) (evN_ok drawn_ok (fun _ _ _ _ _ h => by cases h) n) h
  rcases onBool_inv hk with ⟨rfl, -⟩ | ⟨-, h⟩
  · refine (hs.2 (ι := Inj.zero) (vs := []) rfl HR.empty).mono ?_
    rintro e w' ⟨u, κ, rfl, hu, -, hx⟩
    exact ⟨by rw [show u = .bool true from hu], hx.below fun _ => rfl⟩
  · exact (R.bad_ne h).elim
end
end Go.Ev
