/-
  An evaluator for calls whose arguments are known: regions, code, calls.
-/
import Derived.Test.YtbhgcdkahblllaaGreatDoorEvP
import Derived.Defers
import Derived.Recover
set_option linter.unusedVariables false
set_option linter.unusedSimpArgs false
namespace Go.Ev
open Go
noncomputable section
variable {P : Program}

/-! ### What is run -/
inductive Job where
  | code (c : Code)
  | loop (b : Code)
  | scope (cur body : Code)
  | ops (l : Array Oper) (i n : Nat)
abbrev Ev := Job → Nat → T → St → KN → KX → R
/-- A call that is known: what it is asked, what it answers. -/
abbrev Memo := Nat → AV → St → Option (AV × St)

def putK (m : Nat) (d : Option Nat) (v : AV) (T : T) (k : Ev.T → R) : R := Option.rec (motive := fun _ => R) (k T) (fun d => okK (Nat.ble (Nat.succ d) m) (tsetK d v T k)) d
theorem putK_inv {m : Nat} {d : Option Nat} {v : AV} {T : T} {k : Ev.T → R} {r : AV} {s : St} (h : putK m d v T k = .ok r s) :
    ∃ T', k T' = .ok r s ∧ ∀ {ι : Inj} {a : Act} {u : Value}, RA ι m T a → RV ι v u → RA ι m T' (a.put d u) := by
  cases d with
  | none => exact ⟨T, h, fun {ι a u} ra _ => ra⟩
  | some d =>
    obtain ⟨h1, h⟩ := okK_inv h
    rw [tsetK_eq] at h
    exact ⟨_, h, fun {ι a u} ra hv => ra.put (Nat.le_of_ble_eq_true h1) hv⟩
theorem putK_lt {m d : Nat} {v : AV} {T : T} {k : Ev.T → R} {r : AV} {s : St} (h : putK m (some d) v T k = .ok r s) : d < m := by
  obtain ⟨h1, -⟩ := okK_inv h
  exact Nat.le_of_ble_eq_true h1
theorem put_defers' (a : Act) (d : Option Nat) (u : Value) : (a.put d u).defers = a.defers := by cases d <;> rfl
/-- Whether a guarded operation is wanted. -/
def wantK (ops : Array Oper) (g : Nat × Bool) (T : T) (no yes : R) : R := match ops[g.1]? with
  | some p => match p.dst with
    | some d => match tgetS d T with
      | .bool b => Bool.rec (motive := fun _ => R) no yes (b == g.2)
      | .tup _ => no
      | .int _ _ => no
      | _ => .bad 90
    | none => no
  | none => no
theorem wantK_inv {ops : Array Oper} {g : Nat × Bool} {T : T} {no yes : R} {r : AV} {s : St} (h : wantK ops g T no yes = .ok r s) :
    ∃ b, (if b then yes else no) = .ok r s ∧ ∀ {ι : Inj} {m : Nat} {a : Act}, RA ι m T a → (yielded ops a.tmps g.1 == some g.2) = b := by
  unfold wantK at h
  split at h
  · rename_i p hp
    split at h
    · rename_i d hd
      have hy : ∀ {a : Act}, yielded ops a.tmps g.1 = match a.tmps[d]? with | some (.bool b) => some b | _ => none := fun {a} => by
        unfold yielded; simp [hp, hd]; rfl
      split at h
      · rename_i b hb
        refine ⟨b == g.2, ?_, fun {ι m a} ra => ?_⟩
        · cases hbg : (b == g.2) <;> rw [hbg] at h <;> exact h
        · have := ra.tmp d
          rw [hb] at this
          have this : a.tmps.getD d undef = .bool b := this
          have h2 : a.tmps[d]? = some (.bool b) := by
            cases he : a.tmps[d]? with
            | none => simp [he, undef] at this
            | some v => simp [he] at this; rw [this]
          rw [hy, h2]; rfl
      · rename_i l hb
        refine ⟨false, h, fun {ι m a} ra => ?_⟩
        have := ra.tmp d
        rw [hb] at this
        obtain ⟨z, this, -⟩ := this
        rw [hy]
        cases he : a.tmps[d]? with
        | none => rfl
        | some v => simp [he] at this; rw [this]; rfl
      · rename_i kd n hb
        refine ⟨false, h, fun {ι m a} ra => ?_⟩
        have := ra.tmp d
        rw [hb] at this
        have this : a.tmps.getD d undef = .int kd n := this
        rw [hy]
        cases he : a.tmps[d]? with
        | none => rfl
        | some v => simp [he] at this; rw [this]; rfl
      · exact (R.bad_ne h).elim
    · rename_i hd
      refine ⟨false, h, fun {ι m a} ra => ?_⟩
      unfold yielded; simp [hp, hd]
  · rename_i hp
    refine ⟨false, h, fun {ι m a} ra => ?_⟩
    unfold yielded; simp [hp]
def guardK (ops : Array Oper) (g : Option (Nat × Bool)) (T : T) (no yes : R) : R := Option.rec (motive := fun _ => R) yes (fun g => wantK ops g T no yes) g
theorem guardK_inv {ops : Array Oper} {o : Oper} {T : T} {no yes : R} {r : AV} {s : St} (h : guardK ops o.guard T no yes = .ok r s) :
    ∃ b, (if b then yes else no) = .ok r s ∧ ∀ {ι : Inj} {m : Nat} {a : Act}, RA ι m T a → Region.wanted o (yielded ops a.tmps) = b := by
  unfold Region.wanted
  cases hg : o.guard with
  | none => rw [hg] at h; exact ⟨true, h, fun {ι m a} ra => rfl⟩
  | some g =>
    rw [hg] at h
    obtain ⟨b, h1, h2⟩ := wantK_inv (show wantK ops g T no yes = .ok r s from h)
    exact ⟨b, h1, fun {ι m a} ra => h2 ra⟩

/-! ### Calls -/
def argsK (l : AV) : Nat → T → (T → R) → R := AV.rec (motive := fun _ => Nat → T → (T → R) → R) (fun _ _ _ => .bad 91) (fun _ _ _ _ => .bad 91) (fun _ _ _ _ _ => .bad 91) (fun _ _ _ _ _ => .bad 91) (fun _ _ _ => .bad 91) (fun _ _ _ _ _ => .bad 91) (fun _ _ _ => .bad 91) (fun _ _ _ _ _ _ _ => .bad 91) (fun _ _ _ _ _ _ _ => .bad 91) (fun _ _ _ => .bad 91) (fun _ _ _ _ => .bad 91) (fun _ _ _ _ _ _ _ _ => .bad 91) (fun _ _ _ => .bad 91) (fun _ _ _ => .bad 91) (fun _ _ _ _ _ _ => .bad 91) (fun _ _ _ _ _ => .bad 91) (fun _ _ _ _ _ => .bad 91) (fun _ _ _ _ => .bad 91) (fun i T k => k T) (fun h t _ ih i T k => okK (Nat.ble i 255) (tsetK i h T fun T => ih (Nat.succ i) T k)) l
theorem argsK_inv : ∀ {l : AV} {i : Nat} {T : T} {k : Ev.T → R} {r : AV} {s : St}, argsK l i T k = .ok r s →
    ∃ T', k T' = .ok r s ∧ l.isL = true ∧ ∀ t, t < 256 → tget t T' = if i ≤ t ∧ t < i + l.len then l.nth (t - i) else tget t T
  | .nl, i, T, k, r, s, h => ⟨T, h, rfl, fun t _ => by rw [if_neg (by show ¬ (i ≤ t ∧ t < i + 0); omega)]⟩
  | .cons a l, i, T, k, r, s, h => by
    change okK (Nat.ble i 255) (tsetK i a T fun T => argsK l (Nat.succ i) T k) = _ at h
    obtain ⟨h1, h⟩ := okK_inv h
    have h1 := Nat.le_of_ble_eq_true h1
    rw [tsetK_eq] at h
    obtain ⟨T', h, hl, hT⟩ := argsK_inv h
    refine ⟨T', h, hl, fun t ht => ?_⟩
    rw [hT t ht]
    show _ = if i ≤ t ∧ t < i + (l.len + 1) then _ else _
    by_cases e : t = i
    · subst e
      rw [if_neg (by omega), if_pos (by omega), tget_same, Nat.sub_self]; rfl
    · by_cases g : i + 1 ≤ t ∧ t < i + 1 + l.len
      · rw [if_pos (by omega), if_pos (by omega), show t - i = (t - Nat.succ i) + 1 by omega]; rfl
      · rw [if_neg (by omega), if_neg (by omega), tget_other (by omega) ht (fun h => e h.symm)]
  | .top, _, _, _, _, _, h => (R.bad_ne h).elim
  | .bool _, _, _, _, _, _, h => (R.bad_ne h).elim
  | .int _ _, _, _, _, _, _, h => (R.bad_ne h).elim
  | .str _ _, _, _, _, _, _, h => (R.bad_ne h).elim
  | .pnil, _, _, _, _, _, h => (R.bad_ne h).elim
  | .ptr _ _, _, _, _, _, _, h => (R.bad_ne h).elim
  | .snil, _, _, _, _, _, h => (R.bad_ne h).elim
  | .sl _ _ _ _, _, _, _, _, _, h => (R.bad_ne h).elim
  | .slu _ _ _ _, _, _, _, _, _, h => (R.bad_ne h).elim
  | .mnil, _, _, _, _, _, h => (R.bad_ne h).elim
  | .map _, _, _, _, _, _, h => (R.bad_ne h).elim
  | .fn _ _ _, _, _, _, _, _, h => (R.bad_ne h).elim
  | .fnil, _, _, _, _, _, h => (R.bad_ne h).elim
  | .inil, _, _, _, _, _, h => (R.bad_ne h).elim
  | .iface _ _, _, _, _, _, _, h => (R.bad_ne h).elim
  | .agg _, _, _, _, _, _, h => (R.bad_ne h).elim
  | .tup _, _, _, _, _, _, h => (R.bad_ne h).elim
  | .ge _, _, _, _, _, _, h => (R.bad_ne h).elim
/-- A function's results. -/
def resK (P : Program) (T : T) (S : St) : List ResultVar → (AV → R) → R
  | [], k => k .nl
  | .tmp t :: l, k => resK P T S l fun r => k (.cons (tgetS t T) r)
  | .cell a t :: l, k => match loadA P t with
    | some f => f (tgetS a T) S.h fun v => resK P T S l fun r => k (.cons v r)
    | none => .bad 92
def resF (a : Act) : ResultVar → Sem Value
  | .tmp t => pure (a.tmps.getD t undef)
  | .cell x t => do loadVar t (← asAddr (a.tmps.getD x undef))
theorem results_eq (fn : Func) (a : Act) : results fn a.tmps = (do
    let vs ← fn.results.mapM (resF a)
    pure (if h : vs.size = 1 then vs[0] else .tuple vs)) := by
  unfold results
  have : (fun x : ResultVar => (match x with
    | .tmp t => pure (a.tmps.getD t undef)
    | .cell x t => do loadVar t (← asAddr (a.tmps.getD x undef)) : Sem Value)) = resF a := by
    funext x; cases x <;> rfl
  rw [← this]
  rfl
theorem resK_inv {T : T} {S : St} : ∀ {l : List ResultVar} {k : AV → R} {r : AV} {s : St}, resK P T S l k = .ok r s →
    ∃ v, k v = .ok r s ∧ ∀ {ι : Inj} {m : Nat} {a : Act} {w : World}, RA ι m T a → HR ι S w → ∃ vs : List Value, RL ι v vs ∧
      (l.mapM (resF a)).run P w = .ok vs w
  | [], k, r, s, h => ⟨_, h, fun {ι m a w} _ _ => ⟨[], rfl, rfl⟩⟩
  | .tmp t :: l, k, r, s, h => by
    have h : resK P T S l (fun r => k (.cons (tgetS t T) r)) = .ok r s := h
    obtain ⟨v, h, hv⟩ := resK_inv h
    refine ⟨_, h, fun {ι m a w} ra hr => ?_⟩
    obtain ⟨vs, h1, h2⟩ := hv ra hr
    refine ⟨_ :: vs, ⟨_, _, rfl, ra.tmp t, h1⟩, ?_⟩
    have h3 : (resF a (.tmp t)).run P w = .ok (a.tmps.getD t undef) w := rfl
    rw [List.mapM_cons]
    simp only [Sem.run_bind, Sem.run_pure, Result.andThen_ok, h2, h3]
  | .cell x t :: l, k, r, s, h => by
    unfold resK at h
    split at h
    · rename_i f hf
      obtain ⟨v0, h, hv0⟩ := loadA_ok hf h
      obtain ⟨v, h, hv⟩ := resK_inv h
      refine ⟨_, h, fun {ι m a w} ra hr => ?_⟩
      obtain ⟨vs, h1, h2⟩ := hv ra hr
      obtain ⟨p, z, e, g1, g2⟩ := hv0 (ra.tmp x) (n := S.n) hr
      refine ⟨z :: vs, ⟨_, _, rfl, g2, h1⟩, ?_⟩
      have h3 : (resF a (.cell x t)).run P w = .ok z w := by
        unfold resF
        dsimp only
        rw [e]
        exact g1
      rw [List.mapM_cons]
      simp only [Sem.run_bind, Sem.run_pure, Result.andThen_ok, h2, h3]
    · exact (R.bad_ne h).elim
def retV (v : AV) (k : AV → R) : R := match v with
  | .cons x .nl => k x
  | v => k (.tup v)
def retK (P : Program) (fn : Func) (T : T) (S : St) (k : AV → R) : R := resK P T S fn.results.toList fun v => retV v k
theorem retK_inv {fn : Func} {T : T} {S : St} {k : AV → R} {r : AV} {s : St} (h : retK P fn T S k = .ok r s) :
    ∃ v, k v = .ok r s ∧ ∀ {ι : Inj} {m : Nat} {a : Act} {w : World}, RA ι m T a → HR ι S w → ∃ u, (results fn a.tmps).run P w = .ok u w ∧ RV ι v u := by
  obtain ⟨l, h, hl⟩ := resK_inv h
  have hres : ∀ {a : Act} {w : World} {vs : List Value}, (fn.results.toList.mapM (resF a)).run P w = .ok vs w →
      (results fn a.tmps).run P w = .ok (if h : vs.toArray.size = 1 then vs.toArray[0] else .tuple vs.toArray) w := by
    intro a w vs h
    rw [results_eq, Array.mapM_eq_mapM_toList]
    simp only [Sem.run_bind, Sem.run_map, h, Result.andThen_ok, Sem.run_pure]
  unfold retV at h
  split at h
  · rename_i x
    refine ⟨x, h, fun {ι m a w} ra hr => ?_⟩
    obtain ⟨vs, h1, h2⟩ := hl ra hr
    obtain ⟨u, q, rfl, h3, h4⟩ := h1
    have h4 : q = [] := h4
    subst h4
    exact ⟨u, by rw [hres h2]; rfl, h3⟩
  · rename_i hx
    refine ⟨_, h, fun {ι m a w} ra hr => ?_⟩
    obtain ⟨vs, h1, h2⟩ := hl ra hr
    refine ⟨.tuple vs.toArray, ?_, ⟨vs.toArray, rfl, h1⟩⟩
    rw [hres h2, dif_neg]
    intro e
    have hlen : vs.length = 1 := by simpa using e
    match l, vs, h1, hlen with
    | .cons x .nl, [u], _, _ => exact hx x rfl
    | .cons x (.cons y t), [u], ⟨_, _, e, _, ⟨_, _, e2, _⟩⟩, _ => cases e; cases e2
    | .nl, [u], e, _ => cases e
def goodFn (fn : Func) : Bool := match fn.name == "runtime.NumGoroutine", fn.body, Nat.ble fn.ntmps 256 with
  | false, some _, true => true
  | _, _, _ => false
def bodyK (P : Program) (ev : Ev) (fn : Func) (c : Code) (args : AV) (S : St) (k : K) : R := argsK args 0 emT fun T =>
  ev (.code c) fn.ntmps T S (fun T S => retK P fn T S fun v => k v S) (fun e T S => match e with
    | .rt => retK P fn T S fun v => k v S
    | _ => .bad 93)
/-- What a call comes to. -/
def CallSays (P : Program) (g : Nat) (args : AV) (S : St) (v : AV) (S' : St) : Prop := (∃ fn, P.funcs[g]? = some fn ∧ goodFn fn = true) ∧ ∀ {ι : Inj} {vs : List Value} {w : World}, RL ι args vs → HR ι S w →
  Calls P g vs.toArray w fun e w' => ∃ u κ, e = .returned u ∧ RV κ v u ∧ HR κ S' w' ∧ Ext ι w κ w'
def MemoOk (P : Program) (M : Memo) : Prop := ∀ g args S v S', M g args S = some (v, S') → CallSays P g args S v S'

/-! ### Where a piece of code leads -/
def Post (ι : Inj) (w : World) (m : Nat) (dfs : List Deferred) (e : Exit) (T : T) (S : St) : Exit → Act → World → Prop := fun e' a w' =>
  e' = e ∧ ∃ κ, RA κ m T a ∧ HR κ S w' ∧ Ext ι w κ w' ∧ a.defers = dfs
def exitOf : Ex → Exit
  | .ex id => .exit id
  | .gt l => .goto l
  | .rt => .ret
/-- The jumps within a scope. -/
def hops (P : Program) (body : Code) (Q : Exit → Act → World → Prop) : Nat → Code → Act → World → Prop
  | 0, _, _, _ => False
  | n + 1, cur, a, w => cur.wp P (fun e a w => match e with
    | .goto l => match findLabel body l with
      | some rest => hops P body Q n rest a w
      | none => Q (.goto l) a w
    | e => Q e a w) a w
theorem wp_scope_hops {body : Code} {Q : Exit → Act → World → Prop} {a : Act} {w : World} (n : Nat) (h : hops P body Q n body a w) : (Code.scope body).wp P Q a w := by
  intro b k cs
  have key : ∀ n cur a w, hops P body Q n cur a w → ∃ e a' w', Q e a' w' ∧ Arrives P (lone (b.at a (.code cur :: .inScope body :: k)) cs w) b k cs e a' w' := by
    intro n
    induction n with
    | zero => intro cur a w h; exact h.elim
    | succ n ih =>
      intro cur a w h
      obtain ⟨e, a₁, w₁, hq, harr⟩ := h b (.inScope body :: k) cs
      cases e with
      | normal => exact ⟨.normal, a₁, w₁, hq, Steps.trans harr (.one step_inScope)⟩
      | exit id => exact ⟨.exit id, a₁, w₁, hq, fun k' hk => harr k' (by simp [exitTo, hk])⟩
      | goto l =>
        dsimp only at hq
        split at hq
        · rename_i rest hr
          obtain ⟨e₂, a₂, w₂, hq₂, harr₂⟩ := ih rest a₁ w₁ hq
          exact ⟨e₂, a₂, w₂, hq₂, .of_steps (harr _ (by simp [gotoIn, hr])) harr₂⟩
        · rename_i hr
          exact ⟨.goto l, a₁, w₁, hq, fun k' hk => harr k' (by simp [gotoIn, hr, hk])⟩
      | ret => exact ⟨_, a₁, w₁, hq, harr⟩
      | panic ch => exact ⟨_, a₁, w₁, hq, harr⟩
      | outgrown => exact ⟨_, a₁, w₁, hq, harr⟩
  obtain ⟨e, a', w', hq, harr⟩ := key n body a w h
  exact ⟨e, a', w', hq, .of_steps (.one step_scope) harr⟩
theorem hops_mono {body : Code} {Q Q' : Exit → Act → World → Prop} (hq : ∀ e a w, Q e a w → Q' e a w) : ∀ {n : Nat} {cur : Code} {a : Act} {w : World}, hops P body Q n cur a w → hops P body Q' n cur a w
  | 0, _, _, _, h => h.elim
  | n + 1, cur, a, w, h => wp_mono h fun e a w h => by
    cases e <;> first | exact hq _ _ _ h | skip
    dsimp only at h ⊢
    split at h
    · exact hops_mono hq h
    · exact hq _ _ _ h
theorem rounds_mono {c : Code} {Q Q' : Exit → Act → World → Prop} (hq : ∀ e a w, Q e a w → Q' e a w) : ∀ {n : Nat} {a : Act} {w : World}, Code.rounds P c Q n a w → Code.rounds P c Q' n a w
  | 0, _, _, h => h.elim
  | n + 1, a, w, h => wp_mono h fun e a w h => by
    cases e <;> first | exact hq _ _ _ h | exact rounds_mono hq h
/-- What a job comes to. -/
def Says (P : Program) (j : Job) (m : Nat) (T : T) (S : St) (e : Exit) (T' : Ev.T) (S' : St) : Prop := match j with
  | .code c => ∀ {ι : Inj} {a : Act} {w : World}, RA ι m T a → HR ι S w → c.wp P (Post ι w m a.defers e T' S') a w
  | .loop b => ∃ n, ∀ {ι : Inj} {a : Act} {w : World}, RA ι m T a → HR ι S w → Code.rounds P b (Post ι w m a.defers e T' S') n a w
  | .scope cur body => ∃ n, ∀ {ι : Inj} {a : Act} {w : World}, RA ι m T a → HR ι S w → hops P body (Post ι w m a.defers e T' S') n cur a w
  | .ops l i n => ∀ {ι : Inj} {a : Act} {w : World}, RA ι m T a → HR ι S w → wpOps P l (Post ι w m a.defers e T' S') (List.range' i n) a w
def EvOk (P : Program) (ev : Ev) : Prop := ∀ {j : Job} {m : Nat} {T : T} {S : St} {kn : KN} {kx : KX} {r : AV} {s : St}, ev j m T S kn kx = .ok r s →
  (∃ T' S', kn T' S' = .ok r s ∧ Says P j m T S .normal T' S') ∨ ∃ x T' S', kx x T' S' = .ok r s ∧ Says P j m T S (exitOf x) T' S'
theorem bodyK_inv {ev : Ev} (hev : EvOk P ev) {g : Nat} {fn : Func} (hf : P.funcs[g]? = some fn) (hg : goodFn fn = true) {c : Code} (hc : fn.body = some c) {args : AV} {S : St} {k : K} {r : AV} {s : St} (h : bodyK P ev fn c args S k = .ok r s) :
    ∃ v S', k v S' = .ok r s ∧ CallSays P g args S v S' := by
  obtain ⟨T, h, hl, hT⟩ := argsK_inv h
  have hm : fn.ntmps ≤ 256 := by
    unfold goodFn at hg
    split at hg
    · rename_i h; exact Nat.le_of_ble_eq_true h
    · cases hg
  have start : ∀ {ι : Inj} {vs : List Value}, RL ι args vs → RA ι fn.ntmps T { tmps := vs.toArray ++ Array.replicate (fn.ntmps - vs.toArray.size) undef, defers := [] } := by
    intro ι vs hvs
    refine ⟨by simp; omega, hm, fun t ht => ?_⟩
    rw [hT t ht]
    have hlen := hvs.len
    by_cases e : 0 ≤ t ∧ t < 0 + args.len
    · rw [if_pos e, Nat.sub_zero]
      obtain ⟨u, h1, h2⟩ := hvs.nth t (by omega)
      have : (vs.toArray ++ Array.replicate (fn.ntmps - vs.toArray.size) undef).getD t undef = u := by
        rw [Array.getD_eq_getD_getElem?, Array.getElem?_append_left (by simp; omega)]
        simp [h1]
      rw [this]; exact h2
    · rw [if_neg e, tget_em]; exact trivial
  have fin : ∀ {e : Exit} {T' : Ev.T} {S' : St}, (e = .normal ∨ e = .ret) → retK P fn T' S' (fun v => k v S') = .ok r s → Says P (.code c) fn.ntmps T S e T' S' → ∃ v S', k v S' = .ok r s ∧ CallSays P g args S v S' := by
    intro e T' S' he hr hs
    obtain ⟨v, h, hv⟩ := retK_inv hr
    refine ⟨v, S', h, ⟨fn, hf, hg⟩, fun {ι vs w} hvs hh => ?_⟩
    refine calls_of_wp hf hc (wp_mono (hs (start hvs) hh) ?_)
    rintro e' a' w' ⟨rfl, κ, ra, hr', hx, hd⟩
    obtain ⟨u, h1, h2⟩ := hv ra hr'
    rcases he with rfl | rfl
    · exact ⟨hd, u, h1, u, κ, rfl, h2, hr', hx⟩
    · exact ⟨hd, u, h1, u, κ, rfl, h2, hr', hx⟩
  rcases hev h with ⟨T', S', h, hs⟩ | ⟨x, T', S', h, hs⟩
  · exact fin (.inl rfl) h hs
  · cases x with
    | rt => exact fin (.inr rfl) h hs
    | ex => exact (R.bad_ne h).elim
    | gt => exact (R.bad_ne h).elim
/-! ### A call that is put off, and finds nothing to recover -/
def isRec (o : Oper) : Bool := match o.op, o.guard with
  | .call c, none => match c.callee with
    | .builtin .recover => true
    | _ => false
  | _, _ => false
/-- What comes behind the operations of which it is known that they go on. -/
theorem wpOpsS_of {ops : Array Oper} {Q0 : Exit → Act → World → Prop} {Q : Exit → Act → List Frame → World → Prop} {cs : List Frame} (hn : ∀ e a w, Q0 e a w → e = .normal) (hq : ∀ a w, Q0 .normal a w → Q .normal a cs w) :
    ∀ {l : List Nat} {a : Act} {w : World}, wpOps P ops Q0 l a w → wpOpsS P ops Q l a cs w
  | [], a, w, h => hq _ _ h
  | i :: l, a, w, h => by
    simp only [wpOps] at h
    simp only [wpOpsS]
    cases ho : ops[i]? with
    | none => simp only [ho] at h ⊢; exact wpOpsS_of hn hq h
    | some o =>
      simp only [ho] at h ⊢
      split
      · rename_i hw
        rw [if_pos hw] at h
        have h : o.wp P a w (wpOps P ops Q0 l) Q0 := h.resolve_right fun hh => by
          obtain ⟨_, a', w', h2⟩ := hh
          cases hn _ _ _ h2
        unfold Oper.wp at h
        generalize (execOp a.eval o).run P w = r at h ⊢
        cases r with
        | ok n w' =>
          cases n <;> simp only [Oper.upon] at h ⊢ <;> first
            | exact wpOpsS_of hn hq h
            | exact h.elim
            | exact Rows.mono h fun v w hv => wpOpsS_of hn hq hv
            | exact Calls.mono h fun e w he => by
                cases e with
                | returned v => exact wpOpsS_of hn hq he
                | panicked c => cases hn _ _ _ he
                | outgrown => obtain ⟨a', w', h2⟩ := he; cases hn _ _ _ h2
        | halt x w' =>
          cases x <;> simp only [Oper.upon] at h ⊢ <;> first
            | exact h.elim
            | cases hn _ _ _ h
      · rename_i hw
        rw [if_neg hw] at h
        exact wpOpsS_of hn hq h
theorem wpOps_then {ops : Array Oper} {Q0 Q : Exit → Act → World → Prop} {l2 : List Nat} (hn : ∀ e a w, Q0 e a w → e = .normal) (hq : ∀ a w, Q0 .normal a w → wpOps P ops Q l2 a w) :
    ∀ {l : List Nat} {a : Act} {w : World}, wpOps P ops Q0 l a w → wpOps P ops Q (l ++ l2) a w
  | [], a, w, h => hq _ _ h
  | i :: l, a, w, h => by
    rw [List.cons_append]
    simp only [wpOps] at h ⊢
    cases ho : ops[i]? with
    | none => simp only [ho] at h ⊢; exact wpOps_then hn hq h
    | some o =>
      simp only [ho] at h ⊢
      split
      · rename_i hw
        rw [if_pos hw] at h
        have h : o.wp P a w (wpOps P ops Q0 l) Q0 := h.resolve_right fun hh => by
          obtain ⟨_, a', w', h2⟩ := hh
          cases hn _ _ _ h2
        refine .inl ?_
        unfold Oper.wp at h ⊢
        generalize (execOp a.eval o).run P w = r at h ⊢
        cases r with
        | ok n w' =>
          cases n <;> simp only [Oper.upon] at h ⊢ <;> first
            | exact wpOps_then hn hq h
            | exact h.elim
            | exact Rows.mono h fun v w hv => wpOps_then hn hq hv
            | exact Calls.mono h fun e w he => by
                cases e with
                | returned v => exact wpOps_then hn hq he
                | panicked c => cases hn _ _ _ he
                | outgrown => obtain ⟨a', w', h2⟩ := he; cases hn _ _ _ h2
        | halt x w' =>
          cases x <;> simp only [Oper.upon] at h ⊢ <;> first
            | exact h.elim
            | cases hn _ _ _ h
      · rename_i hw
        rw [if_neg hw] at h
        exact wpOps_then hn hq h
def closeK (P : Program) (ev : Ev) (g : Nat) (l : AV) (S : St) (k : St → R) : R := match P.funcs[g]? with
  | some fn => okK (goodFn fn) (match fn.body with
    | some (.seq (.region _ ops false) rest) => match ops[0]? with
      | some o => match o.dst with
        | some d => okK (isRec o) (argsK l 0 emT fun T => putK fn.ntmps (some d) .inil T fun T => ev (.ops ops 1 (Nat.sub ops.size 1)) fn.ntmps T S (fun T S =>
          ev (.code rest) fn.ntmps T S (fun T S => retK P fn T S fun _ => k S) (fun e T S => match e with
            | .rt => retK P fn T S fun _ => k S
            | _ => .bad 106)) (fun _ _ _ => .bad 117))
        | none => .bad 107
      | none => .bad 107
    | _ => .bad 108)
  | none => .bad 109
def CloseSays (P : Program) (g : Nat) (l : AV) (S S' : St) : Prop := (∃ fn, P.funcs[g]? = some fn ∧ goodFn fn = true) ∧ ∀ {ι : Inj} {vs : List Value} {w : World}, RL ι l vs → HR ι S w →
  CallsD P g vs.toArray .returning w fun e u w' => u = .returning ∧ ∃ v κ, e = .returned v ∧ HR κ S' w' ∧ Ext ι w κ w'
theorem args_start {fn : Func} (hm : fn.ntmps ≤ 256) {l : AV} {T : T} (hT : ∀ t, t < 256 → tget t T = if 0 ≤ t ∧ t < 0 + l.len then l.nth (t - 0) else tget t emT) {ds : List Deferred} {ι : Inj} {vs : List Value} (hvs : RL ι l vs) :
    RA ι fn.ntmps T { tmps := vs.toArray ++ Array.replicate (fn.ntmps - vs.toArray.size) undef, defers := ds } := by
  refine ⟨by simp; omega, hm, fun t ht => ?_⟩
  rw [hT t ht]
  have hlen := hvs.len
  by_cases e : 0 ≤ t ∧ t < 0 + l.len
  · rw [if_pos e, Nat.sub_zero]
    obtain ⟨u, h1, h2⟩ := hvs.nth t (by omega)
    have : (vs.toArray ++ Array.replicate (fn.ntmps - vs.toArray.size) undef).getD t undef = u := by
      rw [Array.getD_eq_getD_getElem?, Array.getElem?_append_left (by simp; omega)]
      simp [h1]
    rw [this]; exact h2
  · rw [if_neg e, tget_em]; exact trivial
theorem goodFn_le {fn : Func} (hg : goodFn fn = true) : fn.ntmps ≤ 256 := by
  unfold goodFn at hg
  split at hg
  · rename_i h; exact Nat.le_of_ble_eq_true h
  · cases hg
theorem closeK_inv {ev : Ev} (hev : EvOk P ev) {g : Nat} {l : AV} {S : St} {k : St → R} {r : AV} {s : St} (h : closeK P ev g l S k = .ok r s) :
    ∃ S', k S' = .ok r s ∧ CloseSays P g l S S' := by
  unfold closeK at h
  split at h
  · rename_i fn hf
    obtain ⟨hg, h⟩ := okK_inv h
    have hm := goodFn_le hg
    split at h
    · rename_i id ops rest hb
      split at h
      · rename_i o ho
        split at h
        · rename_i d hd
          obtain ⟨hrec, h⟩ := okK_inv h
          obtain ⟨T0, h, hl, hT0⟩ := argsK_inv h
          obtain ⟨T1, h, hT1⟩ := putK_inv h
          have hro : o.guard = none ∧ ∀ (ρ : Operand → Value) (w : World), (execOp ρ o).run P w = .ok .recover w := by
            unfold isRec at hrec
            split at hrec
            · rename_i c ho hgu
              split at hrec
              · rename_i hc
                refine ⟨hgu, fun ρ w => ?_⟩
                unfold execOp; rw [ho]
                simp only [resolve, hc, Sem.run_bind, Sem.run_pure, Result.andThen_ok, invoke]
                rfl
              · cases hrec
            · cases hrec
          obtain ⟨n, hn⟩ : ∃ n, ops.size = n + 1 := ⟨ops.size - 1, by have := (Array.getElem?_eq_some_iff.1 ho).1; omega⟩
          rcases hev h with ⟨T2, S2, h, hs2⟩ | ⟨x, T2, S2, h, hs2⟩
          · have fin : ∀ {e : Exit} {T' : Ev.T} {S' : St}, (e = .normal ∨ e = .ret) → retK P fn T' S' (fun _ => k S') = .ok r s → Says P (.code rest) fn.ntmps T2 S2 e T' S' → ∃ S', k S' = .ok r s ∧ CloseSays P g l S S' := by
              intro e T' S' he hr hs
              obtain ⟨v, h, hv⟩ := retK_inv hr
              refine ⟨S', h, ⟨fn, hf, hg⟩, fun {ι vs w} hvs hh => callsD_of_wpS hf hb fun c₀ cs hc₀ => wpS_seq (wpS_region ?_)⟩
              have hmode : recoverD (c₀ :: cs) = none := by simp only [recoverD, hc₀]
              have ra0 := args_start hm hT0 (ds := []) hvs
              have ra1 := hT1 ra0 (u := .nilIface) rfl
              have hw1 : ∀ y, Region.wanted o y = true := fun y => by unfold Region.wanted; rw [hro.1]
              rw [hn, List.range_eq_range', List.range'_succ]
              simp only [wpOpsS, ho, hw1, if_true, hro.2, hmode, hd]
              have hsays := hs2 ra1 hh
              rw [show Nat.sub ops.size 1 = n by rw [hn]; rfl] at hsays
              refine wpOpsS_of (fun e a w hp => hp.1) ?_ hsays
              rintro a2 w2 ⟨-, κ2, ra2, hr2, hx2, hd2⟩
              refine wpS_of_wp (wp_mono (hs ra2 hr2) ?_)
              rintro e' a' w' ⟨rfl, κ, ra, hr', hx, hdf⟩
              obtain ⟨u, h1, h2⟩ := hv ra hr'
              have hc : c₀ = { c₀ with mode := .returning } := by rw [← hc₀]
              have hdf : a'.defers = [] := hdf.trans hd2
              rcases he with rfl | rfl
              · exact ⟨hdf, .returning, by rw [← hc], u, h1, rfl, u, κ, rfl, hr', hx2.trans hx⟩
              · exact ⟨hdf, .returning, by rw [← hc], u, h1, rfl, u, κ, rfl, hr', hx2.trans hx⟩
            rcases hev h with ⟨T', S', h, hs⟩ | ⟨x, T', S', h, hs⟩
            · exact fin (.inl rfl) h hs
            · cases x with
              | rt => exact fin (.inr rfl) h hs
              | ex => exact (R.bad_ne h).elim
              | gt => exact (R.bad_ne h).elim
          · exact (R.bad_ne h).elim
        · exact (R.bad_ne h).elim
      · exact (R.bad_ne h).elim
    · exact (R.bad_ne h).elim
  · exact (R.bad_ne h).elim
/-- A body that puts off one call ahead of all else. -/
def isOff (p : Oper) : Option Operand := match p.op, p.dst, p.guard with
  | .defer c, none, none => match c.callee, c.args with
    | .value x, ⟨[]⟩ => some x
    | _, _ => none
  | _, _, _ => none
def offK (c : Code) : Option (Code × Array Oper × Operand × Code) := match c with
  | .seq r0 (.seq (.region id ops false) rest) => match ops[Nat.sub ops.size 1]? with
    | some p => match isOff p with
      | some x => some (r0, ops, x, rest)
      | none => none
    | none => none
  | _ => none
def bodyD (P : Program) (ev : Ev) (fn : Func) (r0 : Code) (ops : Array Oper) (x : Operand) (rest : Code) (args : AV) (S : St) (k : K) : R := argsK args 0 emT fun T =>
  ev (.code r0) fn.ntmps T S (fun T S => ev (.ops ops 0 (Nat.sub ops.size 1)) fn.ntmps T S (fun T S => onFn (opnd x T) fun g first cap => match first with
    | .nl => ev (.code rest) fn.ntmps T S (fun T S => closeK P ev g cap S fun S => retK P fn T S fun v => k v S) (fun e T S => match e with
      | .rt => closeK P ev g cap S fun S => retK P fn T S fun v => k v S
      | _ => .bad 110)
    | _ => .bad 116) (fun _ _ _ => .bad 118)) (fun _ _ _ => .bad 111)
def bodyX (P : Program) (ev : Ev) (fn : Func) (c : Code) (args : AV) (S : St) (k : K) : R := match offK c with
  | none => bodyK P ev fn c args S k
  | some (r0, ops, x, rest) => bodyD P ev fn r0 ops x rest args S k
theorem goodFn_call {g : Nat} {fn : Func} (hf : P.funcs[g]? = some fn) (hg : goodFn fn = true) (args : Array Value) (w : World) : (callFunc g args).run P w = .ok (.enter g args) w := by
  have h2 : (fn.name == "runtime.NumGoroutine") = false := by unfold goodFn at hg; split at hg; assumption; cases hg
  have h3 : fn.body.isNone = false := by unfold goodFn at hg; split at hg; rename_i hb _; rw [hb]; rfl; cases hg
  simp only [callFunc, Sem.run_bind, run_program, Result.andThen_ok, hf, h2, h3, Bool.false_eq_true, if_false]
  rfl
theorem bodyD_inv {ev : Ev} (hev : EvOk P ev) {g : Nat} {fn : Func} (hf : P.funcs[g]? = some fn) (hg : goodFn fn = true) {r0 rest : Code} {id : Nat} {ops : Array Oper} {p : Oper} {x : Operand}
    (hc : fn.body = some (.seq r0 (.seq (.region id ops false) rest))) (ho : ops[Nat.sub ops.size 1]? = some p) (hp : isOff p = some x) {args : AV} {S : St} {k : K} {r : AV} {s : St} (h : bodyD P ev fn r0 ops x rest args S k = .ok r s) :
    ∃ v S', k v S' = .ok r s ∧ CallSays P g args S v S' := by
  have hm := goodFn_le hg
  obtain ⟨T0, h, hl, hT0⟩ := argsK_inv h
  have hpp : p.guard = none ∧ p.dst = none ∧ ∀ (ρ : Operand → Value) (w : World) (g' : Nat) (c : Array Value), ρ x = .func (.func g') #[] c → (execOp ρ p).run P w = .ok (.defer { target := .fn (.func g') c, args := #[] }) w := by
    unfold isOff at hp
    split at hp
    · rename_i c h1 h2 h3
      split at hp
      · rename_i t h4 h5
        cases hp
        refine ⟨h3, h2, fun ρ w g' cap he => ?_⟩
        unfold execOp; rw [h1]
        simp only [resolve, h4, h5, he, Deferred.ofValue, Sem.run_bind, Sem.run_pure, Result.andThen_ok, List.map_toArray, List.map_nil, Array.append_empty]
      · cases hp
    · cases hp
  have hw2 : ∀ y, Region.wanted p y = true := fun y => by unfold Region.wanted; rw [hpp.1]
  obtain ⟨n, hn⟩ : ∃ n, ops.size = n + 1 := ⟨ops.size - 1, by have h1 := (Array.getElem?_eq_some_iff.1 ho).1; have h2 : Nat.sub ops.size 1 = ops.size - 1 := rfl; omega⟩
  have hno : Nat.sub ops.size 1 = n := by rw [hn]; rfl
  rw [hno] at ho
  rcases hev h with ⟨T1, S1, h, hs1⟩ | ⟨x, T1, S1, h, hs1⟩
  · rcases hev h with ⟨T2, S2, h, hs2⟩ | ⟨x, T2, S2, h, hs2⟩
    · obtain ⟨g', first, cap, hx0, h⟩ := onFn_inv h
      split at h
      · have fin : ∀ {e : Exit} {T3 : Ev.T} {S3 : St}, (e = .normal ∨ e = .ret) → closeK P ev g' cap S3 (fun S => retK P fn T3 S fun v => k v S) = .ok r s → Says P (.code rest) fn.ntmps T2 S2 e T3 S3 → ∃ v S', k v S' = .ok r s ∧ CallSays P g args S v S' := by
          intro e T3 S3 he h hs3
          obtain ⟨S4, h, ⟨fn', hf', hg'⟩, hcl⟩ := closeK_inv hev h
          obtain ⟨v, h, hv⟩ := retK_inv h
          refine ⟨v, S4, h, ⟨fn, hf, hg⟩, fun {ι vs w} hvs hh => calls_of_wp_defers hf hc (wp_seq (wp_mono (hs1 (args_start hm hT0 hvs) hh) ?_))⟩
          rintro e1 a1 w1 ⟨rfl, κ1, ra1, hr1, hx1, hd1⟩
          refine wp_seq (wp_region ?_)
          rw [hn, List.range_succ, List.range_eq_range']
          have hsays := hs2 ra1 hr1
          rw [hno] at hsays
          refine wpOps_then (fun e a w hp => hp.1) ?_ hsays
          rintro a2 w2 ⟨-, κ2, ra2, hr2, hx2, hd2⟩
          have e1 := opnd_rep ra2 x; rw [hx0] at e1
          obtain ⟨f1, c1, e1, e2, e3⟩ := e1
          have hf1 : f1 = #[] := by
            have e2 : f1.toList = [] := e2
            simpa using e2
          subst hf1
          simp only [wpOps, ho, hw2, if_true, Oper.wp, hpp.2.2 _ w2 g' c1 e1, Oper.upon_defer, hpp.2.1]
          refine .inl ?_
          have ra2' : RA κ2 fn.ntmps T2 { a2 with defers := [{ target := .fn (.func g') c1, args := #[] }] } := ⟨ra2.size, ra2.le, ra2.val⟩
          have hdd : a2.defers = [] := hd2.trans hd1
          show (rest.wp P _ ({ a2 with defers := _ :: a2.defers } : Act) w2)
          rw [hdd]
          refine wp_mono (hs3 ra2' hr2) ?_
          rintro e3' a3 w3 ⟨rfl, κ3, ra3, hr3, hx3, hd3⟩
          have hd3 : a3.defers = [{ target := .fn (.func g') c1, args := #[] }] := hd3
          have hle : Leaves P fn a3.tmps (fun e w' => ∃ u κ, e = .returned u ∧ RV κ v u ∧ HR κ S4 w' ∧ Ext ι w κ w') a3.defers .returning w3 := by
            rw [hd3]
            refine leaves_cons (fun e => by cases e) (args := #[] ++ c1) (goodFn_call hf' hg' _ _) ?_
            have hcl' := hcl (vs := c1.toList) (e3.mono hx3.le) hr3
            rw [show (#[] ++ c1 : Array Value) = c1.toList.toArray by simp]
            refine CallsD.mono hcl' ?_
            rintro e4 u4 w4 ⟨rfl, v4, κ4, rfl, hr4, hx4⟩
            obtain ⟨z, k1, k2⟩ := hv (ra3.mono hx4.le) hr4
            exact ⟨z, k1, z, κ4, rfl, k2, hr4, (((hx1.trans hx2).trans hx3).trans hx4)⟩
          rcases he with rfl | rfl
          · exact hle
          · exact hle
        rcases hev h with ⟨T3, S3, h, hs3⟩ | ⟨x, T3, S3, h, hs3⟩
        · exact fin (.inl rfl) h hs3
        · cases x with
          | rt => exact fin (.inr rfl) h hs3
          | ex => exact (R.bad_ne h).elim
          | gt => exact (R.bad_ne h).elim
      · exact (R.bad_ne h).elim
    · exact (R.bad_ne h).elim
  · exact (R.bad_ne h).elim
theorem bodyX_inv {ev : Ev} (hev : EvOk P ev) {g : Nat} {fn : Func} (hf : P.funcs[g]? = some fn) (hg : goodFn fn = true) {c : Code} (hc : fn.body = some c) {args : AV} {S : St} {k : K} {r : AV} {s : St} (h : bodyX P ev fn c args S k = .ok r s) :
    ∃ v S', k v S' = .ok r s ∧ CallSays P g args S v S' := by
  unfold bodyX at h
  split at h
  · exact bodyK_inv hev hf hg hc h
  · rename_i r0 ops x rest ho
    unfold offK at ho
    split at ho
    · split at ho
      · rename_i p hp
        split at ho
        · rename_i x2 hx2
          cases ho
          exact bodyD_inv hev hf hg hc hp hx2 h
        · cases ho
      · cases ho
    · cases ho
def callK (P : Program) (M : Memo) (ev : Ev) (S : St) (g : Nat) (args : AV) (k : K) : R := match M g args S with
  | some (v, S') => k v S'
  | none => match P.funcs[g]? with
    | some fn => okK (goodFn fn) (match fn.body with
      | some c => bodyX P ev fn c args S k
      | none => .bad 94)
    | none => .bad 95
theorem callK_inv {M : Memo} (hM : MemoOk P M) {ev : Ev} (hev : EvOk P ev) {S : St} {g : Nat} {args : AV} {k : K} {r : AV} {s : St} (h : callK P M ev S g args k = .ok r s) :
    ∃ v S', k v S' = .ok r s ∧ CallSays P g args S v S' := by
  unfold callK at h
  split at h
  · rename_i v S' hm
    exact ⟨v, S', h, hM _ _ _ _ _ hm⟩
  · split at h
    · rename_i fn hf
      obtain ⟨hg, h⟩ := okK_inv h
      split at h
      · rename_i c hc
        exact bodyX_inv hev hf hg hc h
      · exact (R.bad_ne h).elim
    · exact (R.bad_ne h).elim

/-! ### Operations one after another -/
def doK (P : Program) (M : Memo) (ev : Ev) (x : Kd) (T : T) (S : St) (k : K) : R := match x with
  | .pure f => f T fun v => k v S
  | .load f => f T S.h fun v => k v S
  | .make f => f T fun b mk => newK S b fun i S => k (mk i) S
  | .eff f => f T S k
  | .call f => f T fun g l => callK P M ev S g l k
  | .no => .bad 96
theorem doK_inv {M : Memo} (hM : MemoOk P M) {ev : Ev} (hev : EvOk P ev) {o : Oper} {x : Kd} (hx : KdOk P o x) {T : T} {S : St} {k : K} {r : AV} {s : St} (h : doK P M ev x T S k = .ok r s) :
    ∃ v S', k v S' = .ok r s ∧ ∀ {ι : Inj} {m : Nat} {a : Act} {w : World}, RA ι m T a → HR ι S w → ∀ {next : Act → World → Prop} {Q : Exit → Act → World → Prop},
      (∀ κ u w', RV κ v u → HR κ S' w' → Ext ι w κ w' → next (a.put o.dst u) w') → o.wp P a w next Q := by
  cases x with
  | pure f =>
    obtain ⟨v, h, hv⟩ := hx h
    refine ⟨v, S, h, fun {ι m a w} ra hr {next Q} hn => ?_⟩
    obtain ⟨u, h1, h2⟩ := hv (w := w) ra
    unfold Oper.wp
    rw [h1, Oper.upon_value]
    exact hn ι u w h2 hr (Ext.refl _ _)
  | load f =>
    obtain ⟨v, h, hv⟩ := hx h
    refine ⟨v, S, h, fun {ι m a w} ra hr {next Q} hn => ?_⟩
    obtain ⟨u, h1, h2⟩ := hv ra (n := S.n) hr
    unfold Oper.wp
    rw [h1, Oper.upon_value]
    exact hn ι u w h2 hr (Ext.refl _ _)
  | make f =>
    obtain ⟨b, mk, h, hb, hv⟩ := hx h
    obtain ⟨hlt, h⟩ := newK_inv h
    refine ⟨_, _, h, fun {ι m a w} ra hr {next Q} hn => ?_⟩
    obtain ⟨ob, sz, u, h1, h2, h3⟩ := hv (w := w) ra
    have hSn : ι S.n = none := hr.fresh _ (Nat.le_refl _)
    have hmk := (hr.reserve hlt b).make (b := S.n) hSn (fun h' => Nat.lt_irrefl _ (hr.resv _ h')) (Nat.lt_succ_self _) ⟨w.heap.size, 0, sz⟩ (w' := w.alloc ob) rfl rfl rfl (by simp) (fun k hk => heap_alloc_old hk) (Nat.le_refl _) (by
      show RO _ (hget S.n (hset S.n b S.h)) _ _
      rw [hget_same]; exact h2 _ (Inj.le_put hSn _))
    unfold Oper.wp
    rw [h1, Oper.upon_value]
    exact hn _ u _ (h3 _ _ (Inj.put_same _ _ _)) hmk.1 hmk.2
  | eff f =>
    obtain ⟨v, S', h, hv⟩ := hx h
    refine ⟨v, S', h, fun {ι m a w} ra hr {next Q} hn => ?_⟩
    obtain ⟨nx, w', κ, u, h1, h2, h3, h4, h5⟩ := hv ra hr
    unfold Oper.wp
    rw [h1]
    rcases h2 with rfl | ⟨rfl, rfl⟩
    · rw [Oper.upon_value]; exact hn κ u w' h3 h4 h5
    · rw [Oper.upon_skip]; exact hn κ undef w' h3 h4 h5
  | call f =>
    obtain ⟨g, l, h, hv⟩ := hx h
    obtain ⟨v, S', h, ⟨fn, hf, hg⟩, hc⟩ := callK_inv hM hev h
    refine ⟨v, S', h, fun {ι m a w} ra hr {next Q} hn => ?_⟩
    obtain ⟨vs, h1, h2⟩ := hv (w := w) ra
    have h3 := h2 fn hf (by unfold goodFn at hg; split at hg; assumption; cases hg) (by unfold goodFn at hg; split at hg; rename_i hb _; rw [hb]; rfl; cases hg)
    unfold Oper.wp
    rw [h3, Oper.upon_enter]
    refine (hc h1 hr).mono ?_
    rintro e w' ⟨u, κ, rfl, g1, g2, g3⟩
    exact hn κ u w' g1 g2 g3
  | no => exact (R.bad_ne h).elim
def stepK (P : Program) (M : Memo) (ev : Ev) (ops : Array Oper) (m : Nat) (o : Oper) (T : T) (S : St) (k : KN) : R :=
  guardK ops o.guard T (putK m o.dst (.tup .nl) T fun T => k T S) (doK P M ev (kd P o.op) T S fun v S => putK m o.dst v T fun T => k T S)
def opsK (P : Program) (M : Memo) (ev : Ev) (ops : Array Oper) (m : Nat) (l : List Oper) : T → St → KN → R := List.rec (motive := fun _ => T → St → KN → R)
  (fun T S k => k T S) (fun o _ ih T S k => stepK P M ev ops m o T S fun T S => ih T S k) l

end
end Go.Ev
