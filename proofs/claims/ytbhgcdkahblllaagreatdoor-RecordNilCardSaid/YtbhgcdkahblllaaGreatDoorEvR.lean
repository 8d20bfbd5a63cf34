/-
  An evaluator for calls whose arguments are known: code.
-/
import Derived.Test.YtbhgcdkahblllaaGreatDoorEvQ
set_option linter.unusedVariables false
set_option linter.unusedSimpArgs false
namespace Go.Ev
open Go
noncomputable section
variable {P : Program}

theorem stepK_inv {M : Memo} (hM : MemoOk P M) {ev : Ev} (hev : EvOk P ev) {ops : Array Oper} {m : Nat} {o : Oper} {T : T} {S : St} {k : KN} {r : AV} {s : St} (h : stepK P M ev ops m o T S k = .ok r s) :
    ∃ T' S', k T' S' = .ok r s ∧ ∀ {i : Nat}, ops[i]? = some o → ∀ {ι : Inj} {a : Act} {w : World}, RA ι m T a → HR ι S w → ∀ {rest : List Nat} {Q : Exit → Act → World → Prop},
      (∀ κ a' w', RA κ m T' a' → HR κ S' w' → Ext ι w κ w' → a'.defers = a.defers → wpOps P ops Q rest a' w') → wpOps P ops Q (i :: rest) a w := by
  obtain ⟨b, h, hb⟩ := guardK_inv h
  cases b with
  | false =>
    rw [if_neg (by decide)] at h
    obtain ⟨T', h, hT⟩ := putK_inv h
    refine ⟨T', S, h, fun {i} ho {ι a w} ra hr {rest Q} hn => ?_⟩
    simp only [wpOps, ho, hb ra, Bool.false_eq_true, if_false]
    exact hn ι _ w (hT ra ⟨#[], rfl, rfl⟩) hr (Ext.refl _ _) (put_defers' _ _ _)
  | true =>
    rw [if_pos rfl] at h
    obtain ⟨v, S', h, hv⟩ := doK_inv hM hev kd_ok h
    obtain ⟨T', h, hT⟩ := putK_inv h
    refine ⟨T', S', h, fun {i} ho {ι a w} ra hr {rest Q} hn => ?_⟩
    simp only [wpOps, ho, hb ra, if_true]
    exact .inl (hv ra hr fun κ u w' h1 h2 h3 => hn κ _ w' (hT (ra.mono h3.le) h1) h2 h3 (put_defers' _ _ _))
theorem opsK_inv {M : Memo} (hM : MemoOk P M) {ev : Ev} (hev : EvOk P ev) {ops : Array Oper} {m : Nat} : ∀ {l : List Oper} {T : T} {S : St} {k : KN} {r : AV} {s : St}, opsK P M ev ops m l T S k = .ok r s →
    ∃ T' S', k T' S' = .ok r s ∧ ∀ {i : Nat}, (∀ j o, l[j]? = some o → ops[i + j]? = some o) → ∀ {ι : Inj} {a : Act} {w : World}, RA ι m T a → HR ι S w → ∀ {Q : Exit → Act → World → Prop},
      (∀ κ a' w', RA κ m T' a' → HR κ S' w' → Ext ι w κ w' → a'.defers = a.defers → Q .normal a' w') → wpOps P ops Q (List.range' i l.length) a w
  | [], T, S, k, r, s, h => ⟨T, S, h, fun {i} _ {ι a w} ra hr {Q} hn => hn ι a w ra hr (Ext.refl _ _) rfl⟩
  | o :: l, T, S, k, r, s, h => by
    have h : stepK P M ev ops m o T S (fun T S => opsK P M ev ops m l T S k) = .ok r s := h
    obtain ⟨T1, S1, h, h1⟩ := stepK_inv hM hev h
    obtain ⟨T2, S2, h, h2⟩ := opsK_inv hM hev h
    refine ⟨T2, S2, h, fun {i} hl {ι a w} ra hr {Q} hn => ?_⟩
    rw [List.length_cons, List.range'_succ]
    refine h1 (hl 0 o rfl) ra hr fun κ a' w' g1 g2 g3 g4 => ?_
    refine h2 (i := i + 1) (fun j o' hj => by have := hl (j + 1) o' hj; rwa [show i + (j + 1) = i + 1 + j by omega] at this) g1 g2 fun κ' a'' w'' k1 k2 k3 k4 => ?_
    exact hn κ' a'' w'' k1 k2 (g3.trans k3) (k4.trans g4)
/-- What runs a region that draws its order. -/
abbrev Drawn := Memo → Ev → Nat → Array Oper → T → St → KN → R
def DrawnOk (P : Program) (D : Drawn) : Prop := ∀ {M : Memo}, MemoOk P M → ∀ {ev : Ev}, EvOk P ev → ∀ {m : Nat} {ops : Array Oper} {T : T} {S : St} {k : KN} {r : AV} {s : St}, D M ev m ops T S k = .ok r s →
  ∃ T' S', k T' S' = .ok r s ∧ ∀ {id : Nat} {ι : Inj} {a : Act} {w : World}, RA ι m T a → HR ι S w → (Code.region id ops true).wp P (Post ι w m a.defers .normal T' S') a w
def regK (P : Program) (D : Drawn) (M : Memo) (ev : Ev) (m : Nat) (ops : Array Oper) (draw : Bool) : T → St → KN → R := Bool.rec (motive := fun _ => T → St → KN → R)
  (fun T S k => opsK P M ev ops m ops.toList T S k) (fun T S k => D M ev m ops T S k) draw
abbrev Mo := T → St → KN → KX → R
def blockX (id : Nat) (kn : KN) (kx : KX) (e : Ex) (T : T) (S : St) : R := match e with
  | .ex i => Bool.rec (motive := fun _ => R) (kx (.ex i) T S) (kn T S) (Nat.beq i id)
  | e => kx e T S
def scopeX (ev : Ev) (m : Nat) (body : Code) (kn : KN) (kx : KX) (e : Ex) (T : T) (S : St) : R := match e with
  | .gt l => match findLabel body l with
    | some rest => ev (.scope rest body) m T S kn kx
    | none => kx (.gt l) T S
  | e => kx e T S
def evC (P : Program) (D : Drawn) (M : Memo) (ev : Ev) (m : Nat) (c : Code) : Mo := Code.rec (motive := fun _ => Mo)
  (fun T S kn kx => kn T S)
  (fun _ ops draw T S kn kx => regK P D M ev m ops draw T S kn)
  (fun _ _ iha ihb T S kn kx => iha T S (fun T S => ihb T S kn kx) kx)
  (fun c _ _ iha ihb T S kn kx => onBool (opnd c T) (iha T S kn kx) (ihb T S kn kx))
  (fun id _ ih T S kn kx => ih T S kn (blockX id kn kx))
  (fun b _ T S kn kx => ev (.loop b) m T S kn kx)
  (fun _ _ _ _ _ _ T S kn kx => .bad 97)
  (fun id T S kn kx => kx (.ex id) T S)
  (fun b _ T S kn kx => ev (.scope b b) m T S kn kx)
  (fun _ T S kn kx => kn T S)
  (fun l T S kn kx => kx (.gt l) T S)
  (fun T S kn kx => kx .rt T S)
  (fun _ T S kn kx => .bad 98) c
theorem Post.trans {ι κ : Inj} {w v : World} {m : Nat} {ds ds' : List Deferred} {e : Exit} {T : T} {S : St} (h : Ext ι w κ v) (hd : ds' = ds) {e' : Exit} {a : Act} {u : World} (hp : Post κ v m ds' e T S e' a u) : Post ι w m ds e T S e' a u := by
  obtain ⟨h1, μ, h2, h3, h4, h5⟩ := hp
  exact ⟨h1, μ, h2, h3, h.trans h4, h5.trans hd⟩
theorem evC_inv {D : Drawn} (hD : DrawnOk P D) {M : Memo} (hM : MemoOk P M) {ev : Ev} (hev : EvOk P ev) {m : Nat} : ∀ {c : Code} {T : T} {S : St} {kn : KN} {kx : KX} {r : AV} {s : St}, evC P D M ev m c T S kn kx = .ok r s →
    (∃ T' S', kn T' S' = .ok r s ∧ Says P (.code c) m T S .normal T' S') ∨ ∃ x T' S', kx x T' S' = .ok r s ∧ Says P (.code c) m T S (exitOf x) T' S' := by
  intro c
  induction c with
  | skip => exact fun {T S kn kx r s} h => .inl ⟨T, S, h, fun {ι a w} ra hr => wp_skip ⟨rfl, ι, ra, hr, Ext.refl _ _, rfl⟩⟩
  | region id ops draw =>
    intro T S kn kx r s h
    cases draw with
    | false =>
      obtain ⟨T', S', h, hs⟩ := opsK_inv hM hev (show opsK P M ev ops m ops.toList T S kn = .ok r s from h)
      refine .inl ⟨T', S', h, fun {ι a w} ra hr => wp_region ?_⟩
      have := hs (i := 0) (fun j o hj => by rw [Nat.zero_add, ← Array.getElem?_toList]; exact hj) ra hr (Q := Post ι w m a.defers .normal T' S') fun κ a' w' g1 g2 g3 g4 => ⟨rfl, κ, g1, g2, g3, g4⟩
      rw [Array.length_toList, ← List.range_eq_range'] at this
      exact this
    | true =>
      obtain ⟨T', S', h, hs⟩ := hD hM hev (show D M ev m ops T S kn = .ok r s from h)
      exact .inl ⟨T', S', h, fun {ι a w} ra hr => hs ra hr⟩
  | seq x y ihx ihy =>
    intro T S kn kx r s h
    rcases ihx (show evC P D M ev m x T S (fun T S => evC P D M ev m y T S kn kx) kx = .ok r s from h) with ⟨T1, S1, h, h1⟩ | ⟨e, T1, S1, h, h1⟩
    · rcases ihy h with ⟨T2, S2, h, h2⟩ | ⟨e, T2, S2, h, h2⟩
      · refine .inl ⟨T2, S2, h, fun {ι a w} ra hr => wp_seq (wp_mono (h1 ra hr) ?_)⟩
        rintro e a' w' ⟨rfl, κ, g1, g2, g3, g4⟩
        exact wp_mono (h2 g1 g2) fun e a w hp => hp.trans g3 g4
      · refine .inr ⟨e, T2, S2, h, fun {ι a w} ra hr => wp_seq (wp_mono (h1 ra hr) ?_)⟩
        rintro e a' w' ⟨rfl, κ, g1, g2, g3, g4⟩
        exact wp_mono (h2 g1 g2) fun e a w hp => hp.trans g3 g4
    · refine .inr ⟨e, T1, S1, h, fun {ι a w} ra hr => wp_seq (wp_mono (h1 ra hr) ?_)⟩
      rintro e' a' w' ⟨rfl, hp⟩
      cases e <;> exact ⟨rfl, hp⟩
  | cond c x y ihx ihy =>
    intro T S kn kx r s h
    rcases onBool_inv (show onBool (opnd c T) (evC P D M ev m x T S kn kx) (evC P D M ev m y T S kn kx) = .ok r s from h) with ⟨hc, h⟩ | ⟨hc, h⟩
    · have hcond : ∀ {ι : Inj} {a : Act}, RA ι m T a → a.eval c = .bool true := fun ra => by
        have e := opnd_rep ra c; rw [hc] at e; exact e
      rcases ihx h with ⟨T', S', h, h1⟩ | ⟨e, T', S', h, h1⟩
      · exact .inl ⟨T', S', h, fun {ι a w} ra hr => wp_cond_true (hcond ra) (h1 ra hr)⟩
      · exact .inr ⟨e, T', S', h, fun {ι a w} ra hr => wp_cond_true (hcond ra) (h1 ra hr)⟩
    · have hcond : ∀ {ι : Inj} {a : Act}, RA ι m T a → a.eval c = .bool false := fun ra => by
        have e := opnd_rep ra c; rw [hc] at e; exact e
      rcases ihy h with ⟨T', S', h, h1⟩ | ⟨e, T', S', h, h1⟩
      · exact .inl ⟨T', S', h, fun {ι a w} ra hr => wp_cond_false (hcond ra) (h1 ra hr)⟩
      · exact .inr ⟨e, T', S', h, fun {ι a w} ra hr => wp_cond_false (hcond ra) (h1 ra hr)⟩
  | block id b ih =>
    intro T S kn kx r s h
    rcases ih (show evC P D M ev m b T S kn (blockX id kn kx) = .ok r s from h) with ⟨T', S', h, h1⟩ | ⟨e, T', S', h, h1⟩
    · refine .inl ⟨T', S', h, fun {ι a w} ra hr => wp_block (wp_mono (h1 ra hr) ?_)⟩
      rintro e' a' w' ⟨rfl, hp⟩
      exact ⟨rfl, hp⟩
    · cases e with
      | ex i =>
        have h0 : (Bool.rec (motive := fun _ => R) (kx (.ex i) T' S') (kn T' S') (Nat.beq i id)) = .ok r s := h
        clear h
        cases hb : Nat.beq i id with
        | true =>
          rw [hb] at h0
          obtain rfl := Nat.eq_of_beq_eq_true hb
          refine .inl ⟨T', S', h0, fun {ι a w} ra hr => wp_block (wp_mono (h1 ra hr) ?_)⟩
          rintro e' a' w' ⟨rfl, hp⟩
          simp only [exitOf, Exit.inBlock, if_true]
          exact ⟨rfl, hp⟩
        | false =>
          rw [hb] at h0
          have hne : i ≠ id := Nat.ne_of_beq_eq_false hb
          refine .inr ⟨.ex i, T', S', h0, fun {ι a w} ra hr => wp_block (wp_mono (h1 ra hr) ?_)⟩
          rintro e' a' w' ⟨rfl, hp⟩
          simp only [exitOf, Exit.inBlock, hne, if_false]
          exact ⟨rfl, hp⟩
      | gt l =>
        refine .inr ⟨.gt l, T', S', h, fun {ι a w} ra hr => wp_block (wp_mono (h1 ra hr) ?_)⟩
        rintro e' a' w' ⟨rfl, hp⟩
        exact ⟨rfl, hp⟩
      | rt =>
        refine .inr ⟨.rt, T', S', h, fun {ι a w} ra hr => wp_block (wp_mono (h1 ra hr) ?_)⟩
        rintro e' a' w' ⟨rfl, hp⟩
        exact ⟨rfl, hp⟩
  | loop b ih =>
    intro T S kn kx r s h
    rcases hev (show ev (.loop b) m T S kn kx = .ok r s from h) with ⟨T', S', h, n, h1⟩ | ⟨e, T', S', h, n, h1⟩
    · exact .inl ⟨T', S', h, fun {ι a w} ra hr => wp_loop_rounds n (h1 ra hr)⟩
    · exact .inr ⟨e, T', S', h, fun {ι a w} ra hr => wp_loop_rounds n (h1 ra hr)⟩
  | rangeFunc => exact fun {T S kn kx r s} h => (R.bad_ne h).elim
  | exit id => exact fun {T S kn kx r s} h => .inr ⟨.ex id, T, S, h, fun {ι a w} ra hr => wp_exit ⟨rfl, ι, ra, hr, Ext.refl _ _, rfl⟩⟩
  | scope b ih =>
    intro T S kn kx r s h
    rcases hev (show ev (.scope b b) m T S kn kx = .ok r s from h) with ⟨T', S', h, n, h1⟩ | ⟨e, T', S', h, n, h1⟩
    · exact .inl ⟨T', S', h, fun {ι a w} ra hr => wp_scope_hops n (h1 ra hr)⟩
    · exact .inr ⟨e, T', S', h, fun {ι a w} ra hr => wp_scope_hops n (h1 ra hr)⟩
  | label l => exact fun {T S kn kx r s} h => .inl ⟨T, S, h, fun {ι a w} ra hr => wp_label ⟨rfl, ι, ra, hr, Ext.refl _ _, rfl⟩⟩
  | goto l => exact fun {T S kn kx r s} h => .inr ⟨.gt l, T, S, h, fun {ι a w} ra hr => wp_goto ⟨rfl, ι, ra, hr, Ext.refl _ _, rfl⟩⟩
  | ret => exact fun {T S kn kx r s} h => .inr ⟨.rt, T, S, h, fun {ι a w} ra hr => wp_ret ⟨rfl, ι, ra, hr, Ext.refl _ _, rfl⟩⟩
  | refuse => exact fun {T S kn kx r s} h => (R.bad_ne h).elim
/-! ### Jobs -/
def evJ (P : Program) (D : Drawn) (M : Memo) (ev : Ev) : Ev := fun j => Job.rec (motive := fun _ => Nat → T → St → KN → KX → R)
  (fun c m T S kn kx => evC P D M ev m c T S kn kx)
  (fun b m T S kn kx => evC P D M ev m b T S (fun T S => ev (.loop b) m T S kn kx) kx)
  (fun cur body m T S kn kx => evC P D M ev m cur T S kn (scopeX ev m body kn kx))
  (fun l i n m T S kn kx => okK (Nat.beq ((l.toList.drop i).take n).length n) (opsK P M ev l m ((l.toList.drop i).take n) T S kn)) j
def evN (P : Program) (D : Drawn) (M : Memo) (n : Nat) : Ev := Nat.rec (motive := fun _ => Ev) (fun _ _ _ _ _ _ => .bad 99) (fun _ ev => evJ P D M ev) n
theorem evJ_ok {D : Drawn} (hD : DrawnOk P D) {M : Memo} (hM : MemoOk P M) {ev : Ev} (hev : EvOk P ev) : EvOk P (evJ P D M ev) := by
  intro j m T S kn kx r s h
  cases j with
  | ops l i n =>
    have h : okK (Nat.beq ((l.toList.drop i).take n).length n) (opsK P M ev l m ((l.toList.drop i).take n) T S kn) = .ok r s := h
    obtain ⟨hn, h⟩ := okK_inv h
    have hn := Nat.eq_of_beq_eq_true hn
    obtain ⟨T', S', h, hs⟩ := opsK_inv hM hev h
    refine .inl ⟨T', S', h, fun {ι a w} ra hr => ?_⟩
    have := hs (i := i) (fun j o hj => by
      rw [List.getElem?_take] at hj
      split at hj
      · rw [List.getElem?_drop, Array.getElem?_toList] at hj; exact hj
      · cases hj) ra hr (Q := Post ι w m a.defers .normal T' S') fun κ a' w' g1 g2 g3 g4 => ⟨rfl, κ, g1, g2, g3, g4⟩
    rw [hn] at this
    exact this
  | code c => exact evC_inv hD hM hev (show evC P D M ev m c T S kn kx = .ok r s from h)
  | loop b =>
    rcases evC_inv hD hM hev (show evC P D M ev m b T S (fun T S => ev (.loop b) m T S kn kx) kx = .ok r s from h) with ⟨T1, S1, h, h1⟩ | ⟨e, T1, S1, h, h1⟩
    · rcases hev h with ⟨T2, S2, h, n, h2⟩ | ⟨e, T2, S2, h, n, h2⟩
      · refine .inl ⟨T2, S2, h, n + 1, fun {ι a w} ra hr => wp_mono (h1 ra hr) ?_⟩
        rintro e a' w' ⟨rfl, κ, g1, g2, g3, g4⟩
        exact rounds_mono (fun e a w hp => hp.trans g3 g4) (h2 g1 g2)
      · refine .inr ⟨e, T2, S2, h, n + 1, fun {ι a w} ra hr => wp_mono (h1 ra hr) ?_⟩
        rintro e a' w' ⟨rfl, κ, g1, g2, g3, g4⟩
        exact rounds_mono (fun e a w hp => hp.trans g3 g4) (h2 g1 g2)
    · refine .inr ⟨e, T1, S1, h, 1, fun {ι a w} ra hr => wp_mono (h1 ra hr) ?_⟩
      rintro e' a' w' ⟨rfl, hp⟩
      cases e <;> exact ⟨rfl, hp⟩
  | scope cur body =>
    rcases evC_inv hD hM hev (show evC P D M ev m cur T S kn (scopeX ev m body kn kx) = .ok r s from h) with ⟨T1, S1, h, h1⟩ | ⟨e, T1, S1, h, h1⟩
    · refine .inl ⟨T1, S1, h, 1, fun {ι a w} ra hr => wp_mono (h1 ra hr) ?_⟩
      rintro e a' w' ⟨rfl, hp⟩
      exact ⟨rfl, hp⟩
    · cases e with
      | gt l =>
        unfold scopeX at h
        dsimp only at h
        split at h
        · rename_i rest hrest
          rcases hev h with ⟨T2, S2, h, n, h2⟩ | ⟨e, T2, S2, h, n, h2⟩
          · refine .inl ⟨T2, S2, h, n + 1, fun {ι a w} ra hr => wp_mono (h1 ra hr) ?_⟩
            rintro e a' w' ⟨rfl, κ, g1, g2, g3, g4⟩
            simp only [exitOf, hrest]
            exact hops_mono (fun e a w hp => hp.trans g3 g4) (h2 g1 g2)
          · refine .inr ⟨e, T2, S2, h, n + 1, fun {ι a w} ra hr => wp_mono (h1 ra hr) ?_⟩
            rintro e a' w' ⟨rfl, κ, g1, g2, g3, g4⟩
            simp only [exitOf, hrest]
            exact hops_mono (fun e a w hp => hp.trans g3 g4) (h2 g1 g2)
        · rename_i hrest
          refine .inr ⟨.gt l, T1, S1, h, 1, fun {ι a w} ra hr => wp_mono (h1 ra hr) ?_⟩
          rintro e a' w' ⟨rfl, hp⟩
          simp only [exitOf, hrest]
          exact ⟨rfl, hp⟩
      | ex i =>
        refine .inr ⟨.ex i, T1, S1, h, 1, fun {ι a w} ra hr => wp_mono (h1 ra hr) ?_⟩
        rintro e a' w' ⟨rfl, hp⟩
        exact ⟨rfl, hp⟩
      | rt =>
        refine .inr ⟨.rt, T1, S1, h, 1, fun {ι a w} ra hr => wp_mono (h1 ra hr) ?_⟩
        rintro e a' w' ⟨rfl, hp⟩
        exact ⟨rfl, hp⟩
theorem evN_ok {D : Drawn} (hD : DrawnOk P D) {M : Memo} (hM : MemoOk P M) : ∀ n, EvOk P (evN P D M n)
  | 0 => by intro h; exact (R.bad_ne h).elim
  | n + 1 => evJ_ok hD hM (evN_ok hD hM n)
/-- A call from known arguments. -/
def call (P : Program) (D : Drawn) (M : Memo) (n g : Nat) (args : AV) (S : St) : R := match P.funcs[g]? with
    | some fn => okK (goodFn fn) (match fn.body with
      | some c => bodyX P (evN P D M n) fn c args S .ok
      | none => .bad 94)
    | none => .bad 95
theorem call_says {D : Drawn} (hD : DrawnOk P D) {M : Memo} (hM : MemoOk P M) {n g : Nat} {args v : AV} {S S' : St} (h : call P D M n g args S = .ok v S') : CallSays P g args S v S' := by
  unfold call at h
  split at h
  · rename_i fn hf
    obtain ⟨hg, h⟩ := okK_inv h
    split at h
    · rename_i c hc
      obtain ⟨v', S'', h, hs⟩ := bodyX_inv (evN_ok hD hM n) hf hg hc h
      cases h
      exact hs
    · exact (R.bad_ne h).elim
  · exact (R.bad_ne h).elim
end
end Go.Ev
