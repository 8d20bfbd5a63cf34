/-
  An evaluator for calls whose arguments are known: lengths, least and greatest, maps.
  An evaluator for calls whose arguments are known: maps that are written, append, copy, clear.
  An evaluator for calls whose arguments are known: append, copy, clear.
  An evaluator for calls whose arguments are known: append as the evaluator has it.
  An evaluator for calls whose arguments are known: structs that are compared.
  An evaluator for calls whose arguments are known: capacities of which a bound is known.
  An evaluator for calls whose arguments are known: a string's bytes in a row of their own.
  An evaluator for calls whose arguments are known: copy, clear, calls; all operations.
  An evaluator for calls whose arguments are known: regions, code, calls.
-/
import Derived.Test.YtdpoecjbofofoaaGreatDoorEvMa
import Derived.Laws.StructEq
import Derived.Lib.ConvBytes
import Derived.Defers
import Derived.Recover
set_option linter.unusedVariables false
set_option linter.unusedSimpArgs false
namespace Go.Ev
open Go
noncomputable section
variable {P : Program} {o : Oper}

theorem run_builtin {b : Builtin} {args : Array Operand} {ts : Array TypeId} {a : Act} {w : World} (ho : o.op = .call { callee := .builtin b, args := args, argTypes := ts }) :
    ∃ consts, (execOp a.eval o).run P w = (builtin b ts o.type consts (args.map a.eval)).run P w := by
  refine ⟨args.map fun | .const _ => true | _ => false, ?_⟩
  unfold execOp; rw [ho]
  simp [resolve, invoke]
  rfl
theorem beq_bytes (p q : ByteArray) : (p == q) = true ↔ p = q := by
  show (p.data == q.data) = true ↔ p = q
  rw [beq_iff_eq]
  exact ⟨fun h => by cases p; cases q; simp at h; rw [h], fun h => by rw [h]⟩
/-! ### Lengths -/
def lenA (v : AV) (k : AV → R) : R := match v with
  | .str n _ => k (.int .i64 (.ofNat n))
  | .sl _ _ n _ => k (.int .i64 (.ofNat n))
  | .slu _ _ n _ => k (.int .i64 (.ofNat n))
  | .snil => k (.int .i64 (.ofNat 0))
  | .mnil => k (.int .i64 (.ofNat 0))
  | _ => .bad 60
def lenD (d : TypeDesc) (v : AV) : Bool := match d, v with
  | .string, .str _ _ => true
  | .slice _, .sl _ _ _ _ => true
  | .slice _, .slu _ _ _ _ => true
  | .slice _, .snil => true
  | .map _ _, .mnil => true
  | _, _ => false
def kLen (P : Program) (ts : Array TypeId) (args : Array Operand) : Kd := match args, ts[0]? with
  | ⟨[x]⟩, some t => match P.underlying t with
    | some (.map kt et) => .load fun T H k => match opnd x T with
      | .mnil => k (.int .i64 (.ofNat 0))
      | .map b => onMap (hget b H) fun es => k (.int .i64 (.ofNat es.length))
      | _ => .bad 61
    | some d => .pure fun T k => okK (lenD d (opnd x T)) (lenA (opnd x T) k)
    | none => .no
  | _, _ => .no
theorem RM.len {ι : Inj} : ∀ {es : List (AV × AV)} {l : List MapEntry}, RM ι es l → es.length = l.length
  | [], l, h => by cases h; rfl
  | (a, v) :: r, l, h => by
    obtain ⟨e, q, rfl, -, -, h2⟩ := h
    exact congrArg Nat.succ (RM.len h2)
theorem HR.map {ι : Inj} {S : St} {w : World} (h : HR ι S w) {b : Nat} {l : Loc} (hb : ι b = some l) {es : List (AV × AV)} (hc : hget b S.h = .map es) :
    ∃ a k, w.heap[l.b]? = some (.map a k) ∧ RM ι es a.toList := by
  have := h.live b l hb
  rw [hc] at this
  exact this
theorem kLen_ok {ts : Array TypeId} {args : Array Operand} (ho : o.op = .call { callee := .builtin .len, args := args, argTypes := ts }) : KdOk P o (kLen P ts args) := by
  unfold kLen
  split
  · rename_i x t ht
    split
    · rename_i kt et h1
      intro T H k r s h
      dsimp only at h
      split at h
      · rename_i hc
        refine ⟨_, h, fun {ι m n a w} ra hr => ⟨.int .i64 (.ofNat 0), ?_, rfl⟩⟩
        have e1 := opnd_rep ra x; rw [hc] at e1; have e1 : a.eval x = _ := e1
        obtain ⟨cs, hb⟩ := run_builtin (P := P) (a := a) (w := w) ho
        rw [hb]
        simp [builtin, Builtin.len_, ht, e1, run_under h1, goInt]
      · rename_i b hc
        obtain ⟨es, hes, h⟩ := onMap_inv h
        refine ⟨_, h, fun {ι m n a w} ra hr => ⟨.int .i64 (.ofNat es.length), ?_, rfl⟩⟩
        have e1 := opnd_rep ra x; rw [hc] at e1; obtain ⟨l, hl, e1⟩ := e1
        obtain ⟨ar, kk, g1, g2⟩ := hr.map hl hes
        obtain ⟨cs, hb⟩ := run_builtin (P := P) (a := a) (w := w) ho
        rw [hb]
        have hlen := g2.len
        have hg : (getObj l.b).run P w = .ok (.map ar kk) w := by simp [getObj, Sem.run, g1]
        simp [builtin, Builtin.len_, ht, e1, run_under h1, hg, goInt, hlen]
      · exact (R.bad_ne h).elim
    · rename_i d h1 h2
      intro T k r s h
      obtain ⟨hd, h⟩ := okK_inv h
      generalize hc : opnd x T = v at hd h
      unfold lenA at h
      split at h
      · refine ⟨_, h, fun {ι m a w} ra => ⟨_, ?_, rfl⟩⟩
        have e1 := opnd_rep ra x; rw [hc] at e1; obtain ⟨z, e1, hz, -⟩ := e1
        obtain ⟨cs, hb⟩ := run_builtin (P := P) (a := a) (w := w) ho
        cases d <;> first | (cases hd; done) | skip
        rw [hb]
        simp [builtin, Builtin.len_, ht, e1, run_under h2, goInt, hz]
      · refine ⟨_, h, fun {ι m a w} ra => ⟨_, ?_, rfl⟩⟩
        have e1 := opnd_rep ra x; rw [hc] at e1; obtain ⟨z, -, e1⟩ := e1
        obtain ⟨cs, hb⟩ := run_builtin (P := P) (a := a) (w := w) ho
        cases d <;> first | (cases hd; done) | skip
        rw [hb]
        simp [builtin, Builtin.len_, ht, e1, run_under h2, goInt]
      · refine ⟨_, h, fun {ι m a w} ra => ⟨_, ?_, rfl⟩⟩
        have e1 := opnd_rep ra x; rw [hc] at e1
        obtain ⟨cs, hb⟩ := run_builtin (P := P) (a := a) (w := w) ho
        cases d <;> first | (cases hd; done) | skip
        rw [hb]
        obtain ⟨z, -, ⟨_, e1, -⟩ | ⟨rfl, _, e1⟩⟩ := e1 <;> simp [builtin, Builtin.len_, ht, e1, run_under h2, goInt]
      · refine ⟨_, h, fun {ι m a w} ra => ⟨_, ?_, rfl⟩⟩
        have e1 := opnd_rep ra x; rw [hc] at e1; have e1 : a.eval x = _ := e1
        obtain ⟨cs, hb⟩ := run_builtin (P := P) (a := a) (w := w) ho
        cases d <;> first | (cases hd; done) | skip
        rw [hb]
        simp [builtin, Builtin.len_, ht, e1, run_under h2, goInt]
      · refine ⟨_, h, fun {ι m a w} ra => ⟨_, ?_, rfl⟩⟩
        have e1 := opnd_rep ra x; rw [hc] at e1; have e1 : a.eval x = _ := e1
        obtain ⟨cs, hb⟩ := run_builtin (P := P) (a := a) (w := w) ho
        cases d <;> first | (cases hd; done) | skip
        rw [hb]
        simp [builtin, Builtin.len_, ht, e1, run_under h2, goInt]
      · exact (R.bad_ne h).elim
    · exact trivial
  · exact trivial
def kCap (P : Program) (ts : Array TypeId) (args : Array Operand) : Kd := match args, ts[0]? with
  | ⟨[x]⟩, some t => match P.underlying t with
    | some (.slice e) => .pure fun T k => match opnd x T with
      | .snil => k (.int .i64 (.ofNat 0))
      | .sl _ _ _ c => k (.int .i64 (.ofNat c))
      | _ => .bad 62
    | _ => .no
  | _, _ => .no
theorem kCap_ok {ts : Array TypeId} {args : Array Operand} (ho : o.op = .call { callee := .builtin .cap, args := args, argTypes := ts }) : KdOk P o (kCap P ts args) := by
  unfold kCap
  split
  · rename_i x t ht
    split
    · rename_i e h1
      intro T k r s h
      dsimp only at h
      split at h
      · rename_i hc
        refine ⟨_, h, fun {ι m a w} ra => ⟨_, ?_, rfl⟩⟩
        have e1 := opnd_rep ra x; rw [hc] at e1; have e1 : a.eval x = _ := e1
        obtain ⟨cs, hb⟩ := run_builtin (P := P) (a := a) (w := w) ho
        rw [hb]
        simp [builtin, Builtin.cap_, ht, e1, run_under h1, goInt]
      · rename_i hc
        refine ⟨_, h, fun {ι m a w} ra => ⟨_, ?_, rfl⟩⟩
        have e1 := opnd_rep ra x; rw [hc] at e1; obtain ⟨z, -, e1⟩ := e1
        obtain ⟨cs, hb⟩ := run_builtin (P := P) (a := a) (w := w) ho
        rw [hb]
        simp [builtin, Builtin.cap_, ht, e1, run_under h1, goInt]
      · exact (R.bad_ne h).elim
    · exact trivial
  · exact trivial
def kMinMax (mx : Bool) (args : Array Operand) : Kd := match args with
  | ⟨[x, y]⟩ => .pure fun T k => onInt (opnd x T) (.bad 63) fun kx a => onInt (opnd y T) (.bad 63) fun _ b => match mx with
    | true => iK kx (cond (leI a b) b a) k
    | false => iK kx (cond (leI a b) a b) k
  | _ => .no
theorem kMinMax_ok {mx : Bool} {ts : Array TypeId} {args : Array Operand} (ho : o.op = .call { callee := .builtin (if mx then .max else .min), args := args, argTypes := ts }) : KdOk P o (kMinMax mx args) := by
  unfold kMinMax
  split
  · rename_i x y
    intro T k r s h
    rcases onInt_inv h with ⟨kx, a, h1, h⟩ | ⟨-, h⟩
    · rcases onInt_inv h with ⟨ky, b, h2, h⟩ | ⟨-, h⟩
      · cases mx
        · simp only [iK_eq, leI_eq] at h
          refine ⟨_, h, fun {ι m ac w} ra => ⟨_, ?_, rfl⟩⟩
          have e1 := opnd_rep ra x; rw [h1] at e1; have e1 : ac.eval x = _ := e1
          have e2 := opnd_rep ra y; rw [h2] at e2; have e2 : ac.eval y = _ := e2
          obtain ⟨cs, hb⟩ := run_builtin (P := P) (a := ac) (w := w) ho
          rw [hb]
          by_cases g : a ≤ b
          · have : ¬ b < a := by omega
            simp [builtin, Builtin.min_, Builtin.min2, e1, e2, g, this]
          · have : b < a := by omega
            simp [builtin, Builtin.min_, Builtin.min2, e1, e2, g, this]
        · simp only [iK_eq, leI_eq] at h
          refine ⟨_, h, fun {ι m ac w} ra => ⟨_, ?_, rfl⟩⟩
          have e1 := opnd_rep ra x; rw [h1] at e1; have e1 : ac.eval x = _ := e1
          have e2 := opnd_rep ra y; rw [h2] at e2; have e2 : ac.eval y = _ := e2
          obtain ⟨cs, hb⟩ := run_builtin (P := P) (a := ac) (w := w) ho
          rw [hb]
          rcases Int.lt_trichotomy a b with g | g | g
          · have g2 : a ≤ b := by omega
            have g3 : ¬ b < a := by omega
            simp [builtin, Builtin.max_, Builtin.max2, e1, e2, g, g2, g3]
          · subst g
            simp [builtin, Builtin.max_, Builtin.max2, e1, e2]
          · have g2 : ¬ a ≤ b := by omega
            have g3 : ¬ a < b := by omega
            simp [builtin, Builtin.max_, Builtin.max2, e1, e2, g, g2, g3]
      · exact (R.bad_ne h).elim
    · exact (R.bad_ne h).elim
  · exact trivial
/-! ### Maps -/
/-- Whether two keys are one. -/
def keyA (x y : AV) : Option Bool := match x, y with
  | .int k a, .int l b => match eqKd k l with
    | true => some (eqI a b)
    | false => none
  | .str n a, .str m b => some (Nat.beq n m && Nat.beq a b)
  | .bool a, .bool b => some (a == b)
  | _, _ => none
def plainKey (d : TypeDesc) (x : AV) : Bool := match d, x with
  | .int _, .int _ _ => true
  | .string, .str _ _ => true
  | .bool, .bool _ => true
  | _, _ => false
theorem keyA_ok {x y : AV} {b : Bool} (h : keyA x y = some b) {d : TypeDesc} (hd : plainKey d x = true) {ι : Inj} {u v : Value} (hu : RV ι x u) (hv : RV ι y v) :
    Instr.sameNow d u v = some b ∧ (b = true → ∀ n, Instr.sameBits n v u = true) := by
  unfold keyA at h
  split at h
  · split at h <;> cases h
    rename_i k a l b hk
    obtain rfl := eqKd_eq hk
    cases d <;> first | (cases hd; done) | skip
    cases hu; cases hv
    refine ⟨by simp [Instr.sameNow, eqI_eq]; rfl, fun hb n => ?_⟩
    rw [eqI_eq, decide_eq_true_eq] at hb
    subst hb
    cases n <;> simp [Instr.sameBits]
  · rename_i n a m b
    cases h
    cases d <;> first | (cases hd; done) | skip
    obtain ⟨p, rfl, hp, hpa⟩ := hu
    obtain ⟨q, rfl, hq, hqa⟩ := hv
    have hb : (Nat.beq n m && Nat.beq a b) = decide (p = q) := by
      rw [Bool.eq_iff_iff, Bool.and_eq_true, decide_eq_true_eq, Nat.beq_eq, Nat.beq_eq, ← hp, ← hq, ← hpa, ← hqa, str_eq, ByteArray.toList_eq, ByteArray.toList_eq]
      exact ⟨fun h => by cases p; cases q; simp at h; rw [h], fun h => by rw [h]⟩
    refine ⟨?_, fun he k => ?_⟩
    · rw [hb]; simp [Instr.sameNow]
      rw [Bool.eq_iff_iff, beq_bytes]; simp
    · rw [hb, decide_eq_true_eq] at he
      subst he
      cases k <;> exact (beq_bytes _ _).2 rfl
  · cases h
    cases d <;> first | (cases hd; done) | skip
    cases hu; cases hv
    rename_i a b
    refine ⟨rfl, fun he n => ?_⟩
    have : a = b := by simpa using he
    subst this
    cases n <;> simp [Instr.sameBits]
  · cases h
/-- The place of a key among the entries. -/
def findA (x : AV) : List (AV × AV) → Nat → (Option (Nat × AV) → R) → R
  | [], _, k => k none
  | (a, v) :: r, i, k => match keyA x a with
    | some true => k (some (i, v))
    | some false => findA x r (i + 1) k
    | none => .bad 64
theorem findA_inv {x : AV} : ∀ {es : List (AV × AV)} {i : Nat} {k : Option (Nat × AV) → R} {r : AV} {s : St}, findA x es i k = .ok r s →
    ∃ q, k q = .ok r s ∧ ∀ {d : TypeDesc}, plainKey d x = true → ∀ {ι : Inj} {u : Value} {l : List MapEntry}, RV ι x u → RM ι es l →
      match q with
      | none => Instr.findNow d u l i = some none
      | some (j, v) => ∃ z e, Instr.findNow d u l i = some (some (j, z)) ∧ RV ι v z ∧ i ≤ j ∧ l[j - i]? = some e ∧ ∀ n, Instr.sameBits n e.key u = true
  | [], i, k, r, s, h => ⟨none, h, fun {d} _ {ι u l} _ hl => by cases hl; rfl⟩
  | (a, v) :: es, i, k, r, s, h => by
    unfold findA at h
    split at h
    · rename_i hk
      refine ⟨some (i, v), h, fun {d} hd {ι u l} hu hl => ?_⟩
      obtain ⟨e, q, rfl, h1, h2, -⟩ := hl
      obtain ⟨g1, g2⟩ := keyA_ok hk hd hu h1
      exact ⟨e.val, e, by simp [Instr.findNow, g1], h2, Nat.le_refl _, by simp, g2 rfl⟩
    · rename_i hk
      obtain ⟨q, h, hq⟩ := findA_inv h
      refine ⟨q, h, fun {d} hd {ι u l} hu hl => ?_⟩
      obtain ⟨e, p, rfl, h1, -, h3⟩ := hl
      obtain ⟨g1, -⟩ := keyA_ok hk hd hu h1
      have := hq hd hu h3
      cases q with
      | none => simp only [Instr.findNow, g1]; exact this
      | some jv =>
        obtain ⟨j, v'⟩ := jv
        obtain ⟨z, e', k1, k2, k3, k4, k5⟩ := this
        refine ⟨z, e', by simp only [Instr.findNow, g1]; exact k1, k2, by omega, ?_, k5⟩
        rw [show j - i = (j - (i + 1)) + 1 by omega]; exact k4
    · exact (R.bad_ne h).elim
theorem run_checkKey {d : TypeDesc} {t : TypeId} (ht : P.underlying t = some d) {x : AV} (hd : plainKey d x = true) {e : Bool} {v : Value} {w : World} : (Instr.checkKey e 10000 t v).run P w = .ok () w := by
  show (Instr.checkKey e (9999 + 1) t v).run P w = _
  generalize 9999 = n
  unfold Instr.checkKey
  cases d <;> first | (cases hd; done) | skip
  all_goals simp only [Sem.run_bind, run_under ht, Result.andThen_ok]
  all_goals rfl
/-- What a map holds: a key's type that is plain, an element's zero value. -/
def kLookup (P : Program) (t : TypeId) (x y : Operand) (ok : Bool) : Kd := match P.underlying t with
  | some (.map kt et) => match P.underlying kt, zeroA P et, P.underlying et with
    | some d, some (z, l), some ed => .load fun T H k => okK (plainKey d (opnd y T)) (mapK (opnd x T) H fun es => findA (opnd y T) es 0 fun q => match q with
      | some (_, v) => fin ok true v k
      | none => fin ok false (toAV z) k)
    | _, _, _ => .no
  | _ => .no
where
  mapK (m : AV) (H : Hp) (k : List (AV × AV) → R) : R := match m with
    | .mnil => k []
    | .map b => onMap (hget b H) k
    | _ => .bad 65
  fin (ok b : Bool) (v : AV) (k : AV → R) : R := match ok with
    | true => k (.tup (.cons v (.cons (.bool b) .nl)))
    | false => k v
theorem mapK_inv {m : AV} {H : Hp} {k : List (AV × AV) → R} {r : AV} {s : St} (h : kLookup.mapK m H k = .ok r s) :
    ∃ es, k es = .ok r s ∧ ∀ {ι : Inj} {n : Nat} {u : Value} {w : World}, RV ι m u → HR ι ⟨H, n⟩ w → ∃ a, RM ι es a.toList ∧ (u = .map none ∧ a = #[] ∨ ∃ b c, u = .map (some b) ∧ w.heap[b]? = some (.map a c)) := by
  unfold kLookup.mapK at h
  split at h
  · exact ⟨[], h, fun {ι n u w} hu hr => ⟨#[], rfl, .inl ⟨hu, rfl⟩⟩⟩
  · obtain ⟨es, he, h⟩ := onMap_inv h
    refine ⟨es, h, fun {ι n u w} hu hr => ?_⟩
    obtain ⟨l, hl, rfl⟩ := hu
    obtain ⟨a, c, h1, h2⟩ := hr.map hl he
    exact ⟨a, h2, .inr ⟨_, c, rfl, h1⟩⟩
  · exact (R.bad_ne h).elim
theorem kLookup_ok {t : TypeId} {x y : Operand} {ok : Bool} (ho : o.op = .lookup t x y ok) : KdOk P o (kLookup P t x y ok) := by
  unfold kLookup
  split
  · rename_i kt et h1
    split
    · rename_i d z l ed h2 h3 h4
      obtain ⟨z1, -⟩ := zeroA_ok h3
      intro T H k r s h
      obtain ⟨hd, h⟩ := okK_inv h
      obtain ⟨es, h, hm⟩ := mapK_inv h
      obtain ⟨q, h, hq⟩ := findA_inv h
      have main : ∀ {ι : Inj} {m n : Nat} {a : Act} {w : World}, RA ι m T a → HR ι ⟨H, n⟩ w → ∃ v b, RV ι (match q with | some (_, v) => v | none => toAV z) v ∧ b = q.isSome ∧
          (execOp a.eval o).run P w = .ok (.value (if ok then .tuple #[v, .bool b] else v)) w := by
        intro ι m n a w ra hr
        obtain ⟨ar, hl, hu⟩ := hm (opnd_rep ra x) hr
        have hf := hq hd (opnd_rep ra y) hl
        have hck : ∀ e, (Instr.checkKey e 10000 kt (a.eval y)).run P w = .ok () w := fun e => run_checkKey h2 hd
        cases q with
        | none =>
          refine ⟨z, false, toAV_rep ι z, rfl, ?_⟩
          have hfk : (Instr.findKey kt (a.eval y) ar.toList).run P w = .ok none w := by
            unfold Instr.findKey
            simp only [Sem.run_bind, run_under h2, Result.andThen_ok]
            rw [hf]; rfl
          unfold execOp; rw [ho]
          rcases hu with ⟨e, rfl⟩ | ⟨b, c, e, hb⟩
          · simp [Instr.lookup, run_under h1, e, hck]
            simp at hfk
            cases ok <;> simp [hfk, z1]
          · have hg : (getObj b).run P w = .ok (.map ar c) w := by simp [getObj, Sem.run, hb]
            simp [Instr.lookup, run_under h1, e, hck, hg]
            cases ok <;> simp [hfk, z1]
        | some jv =>
          obtain ⟨j, v⟩ := jv
          obtain ⟨zz, en, k1, k2, -⟩ := hf
          refine ⟨zz, true, k2, rfl, ?_⟩
          have hfk : (Instr.findKey kt (a.eval y) ar.toList).run P w = .ok (some (j, zz)) w := by
            unfold Instr.findKey
            simp only [Sem.run_bind, run_under h2, Result.andThen_ok]
            rw [k1]; rfl
          unfold execOp; rw [ho]
          rcases hu with ⟨e, rfl⟩ | ⟨b, c, e, hb⟩
          · simp [Instr.lookup, run_under h1, e, hck]
            simp at hfk
            cases ok <;> simp [hfk]
          · have hg : (getObj b).run P w = .ok (.map ar c) w := by simp [getObj, Sem.run, hb]
            simp [Instr.lookup, run_under h1, e, hck, hg]
            cases ok <;> simp [hfk]
      cases q with
      | none =>
        unfold kLookup.fin at h
        cases ok
        · refine ⟨_, h, fun {ι m n a w} ra hr => ?_⟩
          obtain ⟨v, b, g1, rfl, g2⟩ := main ra hr
          exact ⟨v, by simpa using g2, g1⟩
        · refine ⟨_, h, fun {ι m n a w} ra hr => ?_⟩
          obtain ⟨v, b, g1, rfl, g2⟩ := main ra hr
          exact ⟨_, by simpa using g2, ⟨_, rfl, _, _, rfl, g1, _, _, rfl, rfl, rfl⟩⟩
      | some jv =>
        unfold kLookup.fin at h
        cases ok
        · refine ⟨_, h, fun {ι m n a w} ra hr => ?_⟩
          obtain ⟨v, b, g1, rfl, g2⟩ := main ra hr
          exact ⟨v, by simpa using g2, g1⟩
        · refine ⟨_, h, fun {ι m n a w} ra hr => ?_⟩
          obtain ⟨v, b, g1, rfl, g2⟩ := main ra hr
          exact ⟨_, by simpa using g2, ⟨_, rfl, _, _, rfl, g1, _, _, rfl, rfl, rfl⟩⟩
    · exact trivial
  · exact trivial
end
end Go.Ev
set_option linter.unusedVariables false
set_option linter.unusedSimpArgs false
namespace Go.Ev
open Go
noncomputable section
variable {P : Program} {o : Oper}

/-! ### A map is written -/
def putM (x v : AV) : List (AV × AV) → Nat → List (AV × AV)
  | [], _ => []
  | (a, u) :: r, 0 => (x, v) :: r
  | (a, u) :: r, i + 1 => (a, u) :: putM x v r i
theorem RM.put {ι : Inj} {x v : AV} {p q : Value} (hx : RV ι x p) (hv : RV ι v q) : ∀ {es : List (AV × AV)} {l : List MapEntry} (i : Nat), RM ι es l →
    RM ι (putM x v es i) (l.modify i fun e => { e with key := p, val := q })
  | [], l, i, h => by
    cases h
    show List.modify [] i _ = []
    cases i <;> simp
  | (a, u) :: r, l, 0, h => by
    obtain ⟨e, t, rfl, h1, h2, h3⟩ := h
    exact ⟨{ e with key := p, val := q }, t, by simp, hx, hv, h3⟩
  | (a, u) :: r, l, i + 1, h => by
    obtain ⟨e, t, rfl, h1, h2, h3⟩ := h
    exact ⟨e, _, by simp, h1, h2, RM.put hx hv i h3⟩
theorem RM.snoc {ι : Inj} {x v : AV} {e : MapEntry} (hx : RV ι x e.key) (hv : RV ι v e.val) : ∀ {es : List (AV × AV)} {l : List MapEntry}, RM ι es l → RM ι (es ++ [(x, v)]) (l ++ [e])
  | [], l, h => by cases h; exact ⟨e, [], rfl, hx, hv, rfl⟩
  | (a, u) :: r, l, h => by
    obtain ⟨d, t, rfl, h1, h2, h3⟩ := h
    exact ⟨d, t ++ [e], rfl, h1, h2, RM.snoc hx hv h3⟩
def kMapPut (P : Program) (t : TypeId) (m x y : Operand) : Kd := match P.underlying t with
  | some (.map kt _) => match P.underlying kt with
    | some d => .eff fun T S k => match opnd m T with
      | .map b => onMap (hget b S.h) fun es => okK (plainKey d (opnd x T)) (findA (opnd x T) es 0 fun q => match q with
        | some (i, _) => hsetK b (.map (putM (opnd x T) (opnd y T) es i)) S.h fun h => k (.tup .nl) ⟨h, S.n⟩
        | none => hsetK b (.map (es ++ [(opnd x T, opnd y T)])) S.h fun h => k (.tup .nl) ⟨h, S.n⟩)
      | _ => .bad 66
    | none => .no
  | _ => .no
theorem heap_setObj {w : World} {r : Nat} {o : Obj} (h : r < w.heap.size) : ({ w with heap := w.heap.setIfInBounds r o } : World).heap[r]? = some o := by
  simp [Array.getElem?_setIfInBounds, h]
theorem heap_setObj_other {w : World} {r k : Nat} {o : Obj} (h : k ≠ r) : ({ w with heap := w.heap.setIfInBounds r o } : World).heap[k]? = w.heap[k]? := by
  simp [Array.getElem?_setIfInBounds, Ne.symm h]
theorem kMapPut_ok {t : TypeId} {m x y : Operand} (ho : o.op = .mapUpdate t m x y ∨ o.op = .insert t m x y) : KdOk P o (kMapPut P t m x y) := by
  unfold kMapPut
  split
  · rename_i kt et h1
    split
    · rename_i d h2
      intro T S k r s h
      dsimp only at h
      split at h
      · rename_i b hc
        obtain ⟨es, hes, h⟩ := onMap_inv h
        obtain ⟨hd, h⟩ := okK_inv h
        obtain ⟨q, h, hq⟩ := findA_inv h
        have hne : hget b S.h ≠ .gone := by rw [hes]; exact fun e => by cases e
        have ex : ∀ {a : Act}, execOp a.eval o = (do Instr.mapUpdate t (a.eval m) (a.eval x) (a.eval y); pure .skip) := by
          intro a; rcases ho with ho | ho <;> (unfold execOp; rw [ho])
        cases q with
        | none =>
          dsimp only at h
          rw [hsetK_eq] at h
          refine ⟨_, _, h, fun {ι mm a w} ra hr => ?_⟩
          have e1 := opnd_rep ra m; rw [hc] at e1; obtain ⟨l, hl, e1⟩ := e1
          obtain ⟨ar, c, g1, g2⟩ := hr.map hl hes
          have hf := hq hd (opnd_rep ra x) g2
          have hlt : l.b < w.heap.size := (Array.getElem?_eq_some_iff.1 g1).1
          have hfk : (Instr.findKey kt (a.eval x) ar.toList).run P w = .ok none w := by
            unfold Instr.findKey
            simp only [Sem.run_bind, run_under h2, Result.andThen_ok]
            rw [hf]; rfl
          have hg : (getObj l.b).run P w = .ok (.map ar c) w := by simp [getObj, Sem.run, g1]
          have hset : ∀ ob, (setObj l.b ob).run P w = .ok () { w with heap := w.heap.setIfInBounds l.b ob } := fun ob => by simp [setObj, Sem.run, g1]
          obtain ⟨k1, k2⟩ := hr.turn hl hne (.map (es ++ [(opnd x T, opnd y T)])) (w' := { w with heap := w.heap.setIfInBounds l.b (.map (ar.push { key := a.eval x, val := a.eval y, born := c }) (c + 1)) }) rfl rfl rfl (by simp) (fun k hk => heap_setObj_other hk)
            ⟨_, _, heap_setObj hlt, by rw [Array.toList_push]; exact RM.snoc (opnd_rep ra x) (opnd_rep ra y) g2⟩
          refine ⟨.skip, _, ι, undef, ?_, .inr ⟨rfl, rfl⟩, ⟨#[], rfl, rfl⟩, k1, k2⟩
          rw [ex]
          simp [Instr.mapUpdate, run_under h1, e1, hg, run_checkKey h2 hd, hfk, hset]
        | some jv =>
          obtain ⟨j, v⟩ := jv
          dsimp only at h
          rw [hsetK_eq] at h
          refine ⟨_, _, h, fun {ι mm a w} ra hr => ?_⟩
          have e1 := opnd_rep ra m; rw [hc] at e1; obtain ⟨l, hl, e1⟩ := e1
          obtain ⟨ar, c, g1, g2⟩ := hr.map hl hes
          obtain ⟨z, en, f1, -, -, f4, f5⟩ := hq hd (opnd_rep ra x) g2
          rw [Nat.sub_zero] at f4
          have hlt : l.b < w.heap.size := (Array.getElem?_eq_some_iff.1 g1).1
          have hfk : (Instr.findKey kt (a.eval x) ar.toList).run P w = .ok (some (j, z)) w := by
            unfold Instr.findKey
            simp only [Sem.run_bind, run_under h2, Result.andThen_ok]
            rw [f1]; rfl
          have hg : (getObj l.b).run P w = .ok (.map ar c) w := by simp [getObj, Sem.run, g1]
          have hset : ∀ ob, (setObj l.b ob).run P w = .ok () { w with heap := w.heap.setIfInBounds l.b ob } := fun ob => by simp [setObj, Sem.run, g1]
          have hen : ar[j]? = some en := by rw [← Array.getElem?_toList]; exact f4
          have hst : (Instr.keyThatStays en.key (a.eval x)).run P w = .ok (a.eval x) w := by
            unfold Instr.keyThatStays
            rw [f5 10000]; rfl
          obtain ⟨k1, k2⟩ := hr.turn hl hne (.map (putM (opnd x T) (opnd y T) es j)) (w' := { w with heap := w.heap.setIfInBounds l.b (.map (ar.modify j fun e => { e with key := a.eval x, val := a.eval y }) c) }) rfl rfl rfl (by simp) (fun k hk => heap_setObj_other hk)
            ⟨_, _, heap_setObj hlt, by rw [Array.toList_modify]; exact RM.put (opnd_rep ra x) (opnd_rep ra y) j g2⟩
          refine ⟨.skip, _, ι, undef, ?_, .inr ⟨rfl, rfl⟩, ⟨#[], rfl, rfl⟩, k1, k2⟩
          rw [ex]
          simp [Instr.mapUpdate, run_under h1, e1, hg, run_checkKey h2 hd, hfk, hset, hen, hst]
      · exact (R.bad_ne h).elim
    · exact trivial
  · exact trivial
/-! ### What is appended or copied -/
def strA : Nat → Nat → AV
  | 0, _ => .nl
  | n + 1, x => .cons (.int .u8 (.ofNat (Nat.mod x 256))) (strA n (Nat.div x 256))
theorem strA_rep {ι : Inj} : ∀ (l : List UInt8), RL ι (strA l.length (packB l)) (l.map fun b => .int .u8 b.toNat)
  | [] => rfl
  | b :: l => by
    have h1 : b.toNat < 256 := UInt8.toNat_lt b
    refine ⟨.int .u8 b.toNat, l.map fun b => .int .u8 b.toNat, rfl, ?_, ?_⟩
    · show Value.int .u8 (b.toNat : Int) = .int .u8 _
      congr 2
      show b.toNat = Nat.mod (packB (b :: l)) 256
      rw [packB_cons]
      show _ = (b.toNat + 256 * packB l) % 256
      omega
    · have : Nat.div (packB (b :: l)) 256 = packB l := by
        rw [packB_cons]
        show (b.toNat + 256 * packB l) / 256 = _
        omega
      rw [this]
      exact strA_rep l
/-- The elements of a source: how many there are, their cells. -/
def srcK (sz : Nat) (v : AV) (H : Hp) (k : Nat → AV → R) : R := match v with
  | .snil => k 0 .nl
  | .sl b o n _ => fN (Nat.mul n sz) fun m => Bool.rec (motive := fun _ => R) (onCells (hget b H) fun q c => okK (Nat.ble (Nat.add o m) q) (takeK c m o fun l => k n l)) (k 0 .nl) (Nat.beq n 0)
  | .slu b o n _ => fN (Nat.mul n sz) fun m => Bool.rec (motive := fun _ => R) (onCells (hget b H) fun q c => okK (Nat.ble (Nat.add o m) q) (takeK c m o fun l => k n l)) (k 0 .nl) (Nat.beq n 0)
  | .str n b => k n (strA n b)
  | _ => .bad 67
theorem srcK_inv {sz : Nat} {v : AV} {H : Hp} {k : Nat → AV → R} {r : AV} {s : St} (h : srcK sz v H k = .ok r s) :
    ∃ n l, k n l = .ok r s ∧ ((∃ a b, v = .str a b) ∨ l.len = n * sz) ∧ ∀ {ι : Inj} {N : Nat} {u : Value} {w : World}, RV ι v u → HR ι ⟨H, N⟩ w →
      (Builtin.lenOf u).run P w = .ok n w ∧ ∃ vs : List Value, RL ι l vs ∧ (Builtin.firstCells sz n u).run P w = .ok vs.toArray w := by
  have main : ∀ {b q n : Nat}, (Bool.rec (motive := fun _ => R) (onCells (hget b H) fun t c => okK (Nat.ble (Nat.add q (Nat.mul n sz)) t) (takeK c (Nat.mul n sz) q fun l => k n l)) (k 0 .nl) (Nat.beq n 0) : R) = .ok r s →
      ∃ l, k n l = .ok r s ∧ l.len = n * sz ∧ (n = 0 → l = .nl) ∧ ∀ {ι : Inj} {N : Nat} {L : Loc} {w : World}, 0 < n → ι b = some L → HR ι ⟨H, N⟩ w → ∃ vs : List Value, RL ι l vs ∧ (loadCells ⟨L.b, L.d + q, none⟩ (n * sz)).run P w = .ok vs.toArray w := by
    intro b q n h
    cases hn : Nat.beq n 0 with
    | true =>
      rw [hn] at h
      have : n = 0 := Nat.eq_of_beq_eq_true hn
      subst this
      exact ⟨.nl, h, by simp [AV.len], fun _ => rfl, fun hp => absurd hp (Nat.lt_irrefl _)⟩
    | false =>
      rw [hn] at h
      obtain ⟨t, c, hc, h⟩ := onCells_inv h
      obtain ⟨hle, h⟩ := okK_inv h
      rw [takeK_eq] at h
      have hn0 : n ≠ 0 := Nat.ne_of_beq_eq_false hn
      refine ⟨_, h, takeL_len _ _ _, fun e => absurd e hn0, fun {ι N L w} _ hb hr => ?_⟩
      obtain ⟨vs, g1, g2⟩ := hr.cells (P := P) hb hc (n * sz) q (Nat.le_of_ble_eq_true hle)
      exact ⟨vs, g2, g1⟩
  unfold srcK at h
  split at h
  · refine ⟨0, .nl, h, .inr (by simp [AV.len]), fun {ι N u w} hu hr => ?_⟩
    have hu : u = _ := hu
    subst hu
    exact ⟨rfl, [], rfl, rfl⟩
  · rename_i b q n c
    rw [fN_eq] at h
    obtain ⟨l, h, hlen, h0, hm⟩ := main h
    refine ⟨n, l, h, .inr hlen, fun {ι N u w} hu hr => ?_⟩
    obtain ⟨L, hL, rfl⟩ := hu
    refine ⟨rfl, ?_⟩
    rcases Nat.eq_zero_or_pos n with e | e
    · subst e
      rw [h0 rfl]
      exact ⟨[], rfl, by simp [Builtin.firstCells, loadCells, loadCellsFrom]⟩
    · obtain ⟨vs, g1, g2⟩ := hm e hL hr
      exact ⟨vs, g1, by simp only [Builtin.firstCells]; exact g2⟩
  · rename_i b q n z
    rw [fN_eq] at h
    obtain ⟨l, h, hlen, h0, hm⟩ := main h
    refine ⟨n, l, h, .inr hlen, fun {ι N u w} hu hr => ?_⟩
    obtain ⟨L, hL, ⟨cap, rfl, -⟩ | ⟨rfl, ad, rfl⟩⟩ := hu
    · refine ⟨rfl, ?_⟩
      rcases Nat.eq_zero_or_pos n with e | e
      · subst e
        rw [h0 rfl]
        exact ⟨[], rfl, by simp [Builtin.firstCells, loadCells, loadCellsFrom]⟩
      · obtain ⟨vs, g1, g2⟩ := hm e hL hr
        exact ⟨vs, g1, by simp only [Builtin.firstCells]; exact g2⟩
    · refine ⟨rfl, ?_⟩
      rw [h0 rfl]
      exact ⟨[], rfl, by simp [Builtin.firstCells, loadCells, loadCellsFrom]⟩
  · rename_i n b
    refine ⟨n, _, h, .inl ⟨_, _, rfl⟩, fun {ι N u w} hu hr => ?_⟩
    obtain ⟨z, rfl, hz, hb⟩ := hu
    refine ⟨by simp [Builtin.lenOf, hz], z.data.toList.map fun b => .int .u8 b.toNat, ?_, ?_⟩
    · have := strA_rep (ι := ι) z.data.toList
      rw [size_list, hz, hb] at this
      exact this
    · have he : z.extract 0 n = z := by
        rw [← hz]
        apply ByteArray.ext
        rw [ByteArray.data_extract]
        exact Array.extract_size
      simp only [Builtin.firstCells, Sem.run_pure, he]
      congr 1
      rw [← Array.toList_map, Array.toArray_toList]
  · exact (R.bad_ne h).elim
end
end Go.Ev
set_option linter.unusedVariables false
set_option linter.unusedSimpArgs false
namespace Go.Ev
open Go
noncomputable section
variable {P : Program} {o : Oper}

theorem growBy_le (n : Nat) : ∀ (r c : Nat), c < n → Builtin.growBy n r c ≤ n + (n + 768) / 4
  | 0, c, h => by unfold Builtin.growBy; omega
  | r + 1, c, h => by
    unfold Builtin.growBy
    split
    · omega
    · by_cases g : c + (c + 768) / 4 < n
      · exact growBy_le n r _ g
      · cases r with
        | zero => unfold Builtin.growBy; omega
        | succ r => unfold Builtin.growBy; rw [if_pos (by omega)]; omega
theorem nextcap_le {n c : Nat} (h : c < n) : Builtin.nextslicecap n c ≤ 2 * n + 4000 := by
  unfold Builtin.nextslicecap
  split
  · omega
  · split
    · omega
    · have := growBy_le n 4 c h; omega
/-- What the second argument's type must be. -/
def srcT (P : Program) (t : TypeId) : Bool := match P.underlying t with
  | some (.slice _) => true
  | some .string => true
  | _ => false
theorem srcT_ok {t : TypeId} (h : srcT P t = true) : (∃ e, P.underlying t = some (.slice e)) ∨ P.underlying t = some .string := by
  unfold srcT at h
  split at h
  · exact .inl ⟨_, by assumption⟩
  · exact .inr (by assumption)
  · cases h
section
variable {t t1 ty : TypeId} {x : El} (hz : srcT P t1 = true) (ok : ElOk P t x) {base : Option Addr} {l cap n : Nat} {y : Value} {w : World} {vs : List Value}
include hz ok
theorem run_append_in (hn : (Builtin.lenOf y).run P w = .ok n w) (hf : (Builtin.firstCells x.size n y).run P w = .ok vs.toArray w) (hc : l + n ≤ cap) : (Builtin.append_ #[t, t1] ty #[.slice base l cap, y]).run P w = ((match base with | some a => storeCells (a.add (l * x.size)) vs | none => pure ()).run P w).andThen fun _ w' => .ok (.slice base (l + n) cap) w' := by
  rcases srcT_ok hz with ⟨d, hd⟩ | hd <;> cases base <;> simp [Builtin.append_, run_under ok.under, ok.sizeOf, run_under hd, hn, hf, hc]
theorem run_append_new (hn : (Builtin.lenOf y).run P w = .ok n w) (hf : (Builtin.firstCells x.size n y).run P w.drew = .ok vs.toArray w.drew) (hc : cap < l + n) (hl : l + n ≤ 1000000) {old : List Value} (ho : (Builtin.firstCells x.size l (.slice base l cap)).run P w.drew = .ok old.toArray w.drew) :
    ∃ nc, l + n ≤ nc ∧ nc < 9223372036854775808 ∧ (Builtin.append_ #[t, t1] ty #[.slice base l cap, y]).run P w = .ok (.slice (some ⟨w.heap.size, 0, none⟩) (l + n) nc) (w.drew.alloc (.cells (old ++ vs ++ (Builtin.zeroCells x.z.cells (nc - (l + n))).toList).toArray x.e)) := by
  obtain ⟨i, hi, hi1, hi2⟩ := ok.info
  have hb := ok.small
  have hnext := nextcap_le hc
  have hmul : Builtin.nextslicecap (l + n) cap * x.bytes ≤ 2004000 * 65536 := Nat.mul_le_mul (by omega) hb
  refine ⟨(Question.appendCap (l + n) cap x.e).cut (w.tape w.drawn (.appendCap (l + n) cap x.e)), by show _ ≤ _ + _; omega, by
    have := Nat.mod_lt (w.tape w.drawn (.appendCap (l + n) cap x.e)) (show 0 < 2 ^ 63 - (l + n) by omega)
    show _ + _ < _; omega, ?_⟩
  have h1 : ¬ (l + n ≤ cap) := by omega
  have h63 : ¬ (9223372036854775807 < ((l : Int) + (n : Int))) := by omega
  have h48 : ¬ (281474976710656 < Builtin.nextslicecap (l + n) cap * x.bytes) := by omega
  have hti : ∀ w, (typeInfo x.e).run P w = .ok i w := fun w => by simp [typeInfo, hi]
  have hsz := ok.sizeOf
  have hzero := ok.zero
  rcases srcT_ok hz with ⟨d, hd⟩ | hd <;> simp [Builtin.append_, run_under ok.under, hsz, hti, hi2, run_under hd, hn, hf, ho, h1, h63, h48, Question.forced, hzero, newRow]
  all_goals
    congr 2
    apply Array.ext'
    simp [List.append_assoc]
end
end
end Go.Ev
set_option linter.unusedVariables false
set_option linter.unusedSimpArgs false
namespace Go.Ev
open Go
noncomputable section
variable {P : Program} {o : Oper}

def newK (S : St) (o : AO) (k : Nat → St → R) : R := okK (Nat.ble (Nat.succ S.n) 65536) (hsetK S.n o S.h fun h => fN (Nat.succ S.n) fun n => k S.n ⟨h, n⟩)
theorem newK_inv {S : St} {o : AO} {k : Nat → St → R} {r : AV} {s : St} (h : newK S o k = .ok r s) : S.n < 65536 ∧ k S.n ⟨hset S.n o S.h, S.n + 1⟩ = .ok r s := by
  obtain ⟨h1, h⟩ := okK_inv h
  rw [hsetK_eq, fN_eq] at h
  exact ⟨Nat.le_of_ble_eq_true h1, h⟩
/-- A slice's elements in a block of their own, whose end is not known. -/
def freshK (S : St) (l : AV) (n sz : Nat) (k : K) : R := putsK (R.bad 70) l 0 (Cs.new l.len) fun m c => newK S (.cells m c) fun b S => k (.slu b 0 n sz) S
theorem freshK_inv {S : St} {l : AV} {n sz : Nat} {k : K} {r : AV} {s : St} (h : freshK S l n sz k = .ok r s) :
    ∃ v S', k v S' = .ok r s ∧ ∀ {ι : Inj} {w : World} {vs zs : List Value} {e : TypeId} {nc : Nat}, HR ι S w → RL ι l vs → vs.length = n * sz → n ≤ nc → nc < 9223372036854775808 → (vs ++ zs).length = nc * sz →
      ∃ κ, RV κ v (.slice (some ⟨w.heap.size, 0, none⟩) n nc) ∧ HR κ S' (w.drew.alloc (.cells (vs ++ zs).toArray e)) ∧ Ext ι w κ (w.drew.alloc (.cells (vs ++ zs).toArray e)) := by
  rcases putsK_inv h with h | ⟨c, h, -, hr, hd, hg, -⟩
  · exact (R.bad_ne h.symm).elim
  obtain ⟨h1, h⟩ := newK_inv h
  refine ⟨_, _, h, fun {ι w vs zs e nc} hh hl hlen hn hn63 htot => ?_⟩
  have hroom := puts_room hr hd
  have hll := hl.len
  have hres := hh.reserve h1 (.cells (0 + l.len) c)
  have hput := hres.make (b := S.n) (hh.fresh _ (Nat.le_refl _)) (fun h' => Nat.lt_irrefl _ (hh.resv _ h')) (Nat.lt_succ_self _) ⟨w.heap.size, 0, nc * sz⟩ (w' := w.drew.alloc (.cells (vs ++ zs).toArray e)) rfl rfl rfl (by simp) (fun k hk => heap_alloc_old (w := w.drew) hk) (Nat.le_refl _) ?_
  · refine ⟨_, ?_, hput⟩
    exact ⟨_, Inj.put_same _ _ _,   .inl ⟨nc, by simp, by simp, hn, hn63⟩⟩
  · show RO _ (hget S.n (hset S.n (.cells (0 + l.len) c) S.h)) _ _
    rw [hget_same]
    refine ⟨hroom, ?_, (vs ++ zs).toArray, e, (0, 0), heap_alloc_at (w := w.drew), .inl rfl, by simpa using htot, fun i hi => ?_⟩
    · show 0 + l.len ≤ nc * sz
      rw [Nat.zero_add, hll, hlen]; exact Nat.mul_le_mul_right _ hn
    · obtain ⟨u, k1, k2⟩ := (hl.mono (Inj.le_put (hh.fresh S.n (Nat.le_refl _)) ⟨w.heap.size, 0, nc * sz⟩)).nth i (by omega)
      refine ⟨u, ?_, ?_⟩
      · simp only [Nat.zero_add, List.getElem?_toArray]
        rw [List.getElem?_append_left (by omega)]; exact k1
      · have := hg i (by omega)
        rw [Nat.zero_add] at this
        rw [this]; exact k2
/-! ### A block that grows -/
def growK (c : Cs) (m : Nat) (k : Cs → R) : R := match c with
  | .c1 a => (match Nat.ble m 16 with
    | true => k (.c1 a)
    | false => N16.setK .d0 a (N16.all (N16.all .top)) fun a => (match Nat.ble m 256 with
      | true => k (.c2 a)
      | false => N16.setK .d0 a (N16.all (N16.all (N16.all .top))) fun a => k (.c3 a)))
  | .c2 a => (match Nat.ble m 256 with
    | true => k (.c2 a)
    | false => N16.setK .d0 a (N16.all (N16.all (N16.all .top))) fun a => k (.c3 a))
  | .c3 a => k (.c3 a)
theorem toD_zero {k : Nat} (h : k % 16 = 0) : toD k = .d0 := by rw [toD_mod, h]; rfl
theorem grow12 (a : N16 AV) {j : Nat} (hj : j < 16) : Cs.get j (.c2 (N16.set .d0 a (N16.all (N16.all .top)))) = Cs.get j (.c1 a) := by
  simp only [Cs.get, toD_land]
  rw [toD_zero (k := Nat.div j 16) (by show (j / 16) % 16 = 0; omega), N16.get_set_same]
theorem grow23 (a : N16 (N16 AV)) {j : Nat} (hj : j < 256) : Cs.get j (.c3 (N16.set .d0 a (N16.all (N16.all (N16.all .top))))) = Cs.get j (.c2 a) := by
  simp only [Cs.get, toD_land]
  rw [toD_zero (k := Nat.div j 256) (by show (j / 256) % 16 = 0; omega), N16.get_set_same]
theorem growK_inv {c : Cs} {m : Nat} {k : Cs → R} {r : AV} {s : St} (h : growK c m k = .ok r s) : ∃ c' : Cs, k c' = .ok r s ∧ c.room ≤ c'.room ∧ ∀ j, j < c.room → c'.get j = c.get j := by
  unfold growK at h
  split at h
  · split at h
    · exact ⟨_, h, Nat.le_refl _, fun _ _ => rfl⟩
    · rw [N16.setK_eq] at h
      split at h
      · exact ⟨_, h, by show 16 ≤ 256; decide, fun j hj => grow12 _ hj⟩
      · rw [N16.setK_eq] at h
        exact ⟨_, h, by show 16 ≤ 4096; decide, fun j hj => (grow23 _ (Nat.lt_trans (show j < 16 from hj) (by decide))).trans (grow12 _ hj)⟩
  · split at h
    · exact ⟨_, h, Nat.le_refl _, fun _ _ => rfl⟩
    · rw [N16.setK_eq] at h
      exact ⟨_, h, by show 256 ≤ 4096; decide, fun j hj => grow23 _ hj⟩
  · exact ⟨_, h, Nat.le_refl _, fun _ _ => rfl⟩
/-- What stands in the new block: m old cells from q on, and new ones behind them. -/
def moreK (c : Cs) (q m : Nat) (new : AV) (k : Cs → R) : R := match q with
  | 0 => fN (Nat.add m new.len) fun t => growK c t fun c => putsK (R.bad 71) new m c fun _ c => k c
  | _ => takeK c m q fun old => fN (Nat.add m new.len) fun t => putsK (R.bad 71) (old.app new) 0 (Cs.new t) fun _ c => k c
theorem app_nth : ∀ (x y : AV) (j : Nat), x.isL = true → (x.app y).nth j = if j < x.len then x.nth j else y.nth (j - x.len)
  | .nl, y, j, _ => by simp [AV.app, AV.len]
  | .cons a t, y, 0, _ => by simp [AV.app, AV.len, AV.nth]
  | .cons a t, y, j + 1, h => by
    have := app_nth t y j h
    simp only [AV.app, AV.nth, AV.len, Nat.succ_eq_add_one, Nat.add_lt_add_iff_right]
    rw [this]
    split
    · rfl
    · congr 1; omega
  | .top, _, _, h => by cases h
  | .bool _, _, _, h => by cases h
  | .int _ _, _, _, h => by cases h
  | .str _ _, _, _, h => by cases h
  | .pnil, _, _, h => by cases h
  | .ptr _ _, _, _, h => by cases h
  | .snil, _, _, h => by cases h
  | .sl _ _ _ _, _, _, h => by cases h
  | .slu _ _ _ _, _, _, h => by cases h
  | .mnil, _, _, h => by cases h
  | .map _, _, _, h => by cases h
  | .fn _ _ _, _, _, h => by cases h
  | .fnil, _, _, h => by cases h
  | .inil, _, _, h => by cases h
  | .iface _ _, _, _, h => by cases h
  | .agg _, _, _, h => by cases h
  | .tup _, _, _, h => by cases h
  | .ge _, _, _, h => by cases h
theorem app_len : ∀ (x y : AV), x.isL = true → (x.app y).len = x.len + y.len
  | .nl, y, _ => by simp [AV.app, AV.len]
  | .cons a t, y, h => by simp only [AV.app, AV.len, app_len t y h]; omega
  | .top, _, h => by cases h
  | .bool _, _, h => by cases h
  | .int _ _, _, h => by cases h
  | .str _ _, _, h => by cases h
  | .pnil, _, h => by cases h
  | .ptr _ _, _, h => by cases h
  | .snil, _, h => by cases h
  | .sl _ _ _ _, _, h => by cases h
  | .slu _ _ _ _, _, h => by cases h
  | .mnil, _, h => by cases h
  | .map _, _, h => by cases h
  | .fn _ _ _, _, h => by cases h
  | .fnil, _, h => by cases h
  | .inil, _, h => by cases h
  | .iface _ _, _, h => by cases h
  | .agg _, _, h => by cases h
  | .tup _, _, h => by cases h
  | .ge _, _, h => by cases h
theorem moreK_inv {c : Cs} {q m : Nat} {new : AV} {k : Cs → R} {r : AV} {s : St} (h : moreK c q m new k = .ok r s) :
    ∃ c' : Cs, k c' = .ok r s ∧ (new.len = 0 ∨ m + new.len ≤ c'.room) ∧ (new.len ≠ 0 → q + m ≤ c.room → (∀ j, j < m → c'.get j = c.get (q + j)) ∧ ∀ j, j < new.len → c'.get (m + j) = new.nth j) := by
  unfold moreK at h
  split at h
  · rw [fN_eq] at h
    obtain ⟨c1, h, h1, h2⟩ := growK_inv h
    rcases putsK_inv h with h | ⟨c2, h, -, hr, hd, hg, hk⟩
    · exact (R.bad_ne h.symm).elim
    refine ⟨c2, h, ?_, fun hne hq => ⟨fun j hj => ?_, hg⟩⟩
    · rcases hd with hd | hd
      · exact .inl hd
      · exact .inr (by rw [hr]; exact hd)
    · rw [hk j (by omega) (.inl hj), h2 j (by omega), Nat.zero_add]
  · rw [takeK_eq, fN_eq] at h
    rcases putsK_inv h with h | ⟨c2, h, -, hr, hd, hg, hk⟩
    · exact (R.bad_ne h.symm).elim
    have hl := app_len (takeL c m q) new (takeL_isL _ _ _)
    rw [takeL_len] at hl
    refine ⟨c2, h, ?_, fun hne hq => ⟨fun j hj => ?_, fun j hj => ?_⟩⟩
    · rcases hd with hd | hd
      · left; omega
      · right; omega
    · have := hg j (by omega)
      rw [Nat.zero_add, app_nth _ _ _ (takeL_isL _ _ _), takeL_len, if_pos hj, takeL_nth _ _ _ _ hj] at this
      exact this
    · have := hg (m + j) (by omega)
      rw [Nat.zero_add, app_nth _ _ _ (takeL_isL _ _ _), takeL_len, if_neg (by omega), show m + j - m = j by omega] at this
      exact this
/-- A block that takes over the world's block of one that has been given up. -/
theorem HR.take {ι : Inj} {S : St} {w w' : World} (h : HR ι S w) {b : Nat} (hb : ι b = none) (hv : ¬ ι.res b) (l : Loc)
    (hos : w'.os = w.os) (htape : w'.tape = w.tape) (hout : w'.output = w.output) (hsz : w.heap.size ≤ w'.heap.size)
    (hk : ∀ k : Nat, k < w.heap.size → k ≠ l.b → w'.heap[k]? = w.heap[k]?) (happ : ∀ c m, ι c = some m → hget c S.h ≠ .gone → m.b ≠ l.b) (hlt : b < S.n)
    (hnew : (∃ b' l', ι b' = some l' ∧ l'.b = l.b) ∨ w.heap.size ≤ l.b) (ho : RO (ι.put b l) (hget b S.h) l w') :
    HR (ι.put b l) S w' ∧ Ext ι w (ι.put b l) w' := by
  have hle := Inj.le_put hb l
  refine ⟨⟨h.lim, ?_, ?_, ?_, h.resv⟩, ⟨hos, htape, hout, hsz, hle, fun k hlt hn => hk k hlt ?_, ?_, rfl, fun c hc hn => by rw [Inj.put_other _ _ (by rintro rfl; exact hv hc)]; exact hn⟩⟩
  · intro c hc
    rw [Inj.put_other _ _ (by omega)]
    exact h.fresh c hc
  · intro c m e
    by_cases hcb : c = b
    · subst hcb; rw [Inj.put_same] at e; cases e; exact ho
    · rw [Inj.put_other _ _ hcb] at e
      have := h.live c m e
      by_cases hg : hget c S.h = .gone
      · rw [hg]; exact trivial
      · exact (this.mono hle).world (hk _ (this.lt hg) (happ c m e hg))
  · intro c e m n hc he hgc hge hne
    by_cases hcb : c = b
    · subst hcb
      rw [Inj.put_same] at hc; cases hc
      rw [Inj.put_other _ _ (fun h => hne h.symm)] at he
      exact (happ e n he hge).symm
    · rw [Inj.put_other _ _ hcb] at hc
      by_cases heb : e = b
      · subst heb
        rw [Inj.put_same] at he; cases he
        exact happ c m hc hgc
      · rw [Inj.put_other _ _ heb] at he
        exact h.apart c e m n hc he hgc hge hne
  · rcases hnew with ⟨b', l', h1, h2⟩ | h1
    · exact fun e => hn b' l' h1 (h2.trans e.symm)
    · omega
  · intro c m e
    by_cases hcb : c = b
    · subst hcb; rw [Inj.put_same] at e; cases e; exact hnew
    · rw [Inj.put_other _ _ hcb] at e; exact .inl ⟨c, m, e, rfl⟩
/-- What the new block holds. -/
theorem more_cells {κ : Inj} {c c' : Cs} {q m : Nat} {new : AV} {os vs : List Value} (h1 : ∀ j, j < m → c'.get j = c.get (q + j)) (h2 : ∀ j, j < new.len → c'.get (m + j) = new.nth j)
    (ho : ∀ j, j < m → ∃ x, os[j]? = some x ∧ RV κ (c.get (q + j)) x) (hl : os.length = m) (hn : RL κ new vs) : ∀ i, i < m + new.len → ∃ x, (os ++ vs)[i]? = some x ∧ RV κ (c'.get i) x := by
  intro i hi
  by_cases g : i < m
  · obtain ⟨x, a, b⟩ := ho i g
    exact ⟨x, by rw [List.getElem?_append_left (by omega)]; exact a, by rw [h1 i g]; exact b⟩
  · obtain ⟨x, a, b⟩ := hn.nth (i - m) (by omega)
    refine ⟨x, by rw [List.getElem?_append_right (by omega), hl]; exact a, ?_⟩
    have := h2 (i - m) (by omega)
    rw [show m + (i - m) = i by omega] at this
    rw [this]; exact b
/-! ### append -/
def appendK (sz : Nat) (s y : AV) (S : St) (k : K) : R := srcK sz y S.h fun n new => okK (Nat.ble n 100000) (okK (Nat.beq new.len (Nat.mul n sz)) (match s with
  | .snil => (match n with
    | 0 => k .snil S
    | _ => freshK S new n sz k)
  | .sl b o l c => fN (Nat.add l n) fun need => (match Nat.ble need c with
    | true => setK b (Nat.add o (Nat.mul l sz)) new S fun S => k (.sl b o need c) S
    | false => srcK sz s S.h fun l2 old => okK (Nat.beq l2 l) (okK (Nat.ble need 1000000) (freshK S (old.app new) need sz k)))
  | .slu b o l z => okK (Nat.beq z sz) (match n with
    | 0 => k s S
    | _ => fN (Nat.add l n) fun need => okK (Nat.ble need 1000000) (onCells (hget b S.h) fun m c => (match Nat.ble 1 l && Nat.ble (Nat.add o (Nat.mul need sz)) m with
      | true => setK b (Nat.add o (Nat.mul l sz)) new S fun S => k (.slu b o need sz) S
      | false => okK (Nat.beq (Nat.add o (Nat.mul l sz)) m) (okK new.ones (moreK c o (Nat.mul l sz) new fun c => hsetK b .gone S.h fun h => fN (Nat.mul need sz) fun m => newK ⟨h, S.n⟩ (.cells m c) fun b S => k (.slu b 0 need sz) S)))))
  | _ => .bad 72))
def kAppend (P : Program) (ts : Array TypeId) (args : Array Operand) : Kd := match args, ts with
  | ⟨[x, y]⟩, ⟨[t, t1]⟩ => match elA P t, srcT P t1 with
    | some e, true => .eff fun T S k => appendK e.size (opnd x T) (opnd y T) S k
    | _, _ => .no
  | _, _ => .no
theorem appendK_inv {t t1 : TypeId} {e : El} (ok : ElOk P t e) (hz : srcT P t1 = true) {s y : AV} {S : St} {k : K} {r : AV} {q : St} (h : appendK e.size s y S k = .ok r q) :
    ∃ v S', k v S' = .ok r q ∧ ∀ {ι : Inj} {w : World} {us uy : Value} {ty : TypeId}, HR ι S w → RV ι s us → RV ι y uy →
      ∃ u w' κ, (Builtin.append_ #[t, t1] ty #[us, uy]).run P w = .ok u w' ∧ RV κ v u ∧ HR κ S' w' ∧ Ext ι w κ w' := by
  obtain ⟨n, new, h, -, hsrc⟩ := srcK_inv (P := P) h
  obtain ⟨hn, h⟩ := okK_inv h
  obtain ⟨hnl, h⟩ := okK_inv h
  have hn := Nat.le_of_ble_eq_true hn
  have hnl : new.len = n * e.size := Nat.eq_of_beq_eq_true hnl
  have drew : ∀ {w : World} {ι : Inj}, HR ι S w → HR ι S w.drew := fun h => h.world fun _ => rfl
  have hzc : ∀ m, (Builtin.zeroCells e.z.cells m).toList.length = m * e.size := fun m => by simp [Builtin.zeroCells, ok.len]
  have hpos := ok.pos
  cases s with
  | snil =>
    dsimp only at h
    split at h
    · refine ⟨_, _, h, fun {ι w us uy ty} hh hs hy => ?_⟩
      have hs : us = _ := hs
      subst hs
      obtain ⟨h1, vs, h2, h3⟩ := hsrc hy hh
      have hr := run_append_in (P := P) hz ok (base := none) (l := 0) (cap := 0) (ty := ty) h1 h3 (Nat.le_refl _)
      exact ⟨_, _, ι, hr, rfl, hh, Ext.refl _ _⟩
    · rename_i hn0
      obtain ⟨v, S', h, hv⟩ := freshK_inv h
      refine ⟨_, _, h, fun {ι w us uy ty} hh hs hy => ?_⟩
      have hs : us = _ := hs
      subst hs
      obtain ⟨h1, vs, h2, h3⟩ := hsrc hy hh
      obtain ⟨h1', vs', h2', h3'⟩ := hsrc hy (drew hh)
      have hpos' : 0 < n := Nat.pos_of_ne_zero hn0
      obtain ⟨nc, g1, g163, g2⟩ := run_append_new (P := P) hz ok (base := none) (l := 0) (cap := 0) (ty := ty) (old := []) h1 h3' (by omega) (by omega) rfl
      simp only [Nat.zero_add, List.nil_append] at g1 g2
      have hlen := h2'.len
      obtain ⟨κ, k1, k2, k3⟩ := hv (zs := (Builtin.zeroCells e.z.cells (nc - n)).toList) (e := e.e) (nc := nc) hh h2' (by omega) g1 g163 (by
        rw [List.length_append, hzc, ← hlen, hnl, ← Nat.add_mul]; congr 1; omega)
      exact ⟨_, _, κ, g2, k1, k2, k3⟩
  | sl b o l c =>
    dsimp only at h
    rw [fN_eq] at h
    split at h
    · rename_i hc
      have hc : l + n ≤ c := Nat.le_of_ble_eq_true hc
      obtain ⟨S', h, hset⟩ := setK_inv (P := P) h
      refine ⟨_, _, h, fun {ι w us uy ty} hh hs hy => ?_⟩
      obtain ⟨L, hL, rfl⟩ := hs
      obtain ⟨h1, vs, h2, h3⟩ := hsrc hy hh
      have hr := run_append_in (P := P) hz ok (base := some ⟨L.b, L.d + o, none⟩) (l := l) (cap := c) (ty := ty) h1 h3 hc
      obtain ⟨w', g1, g2, g3⟩ := hset hh hL h2
      refine ⟨_, w', ι, ?_, ⟨L, hL, rfl⟩, g2, g3⟩
      rw [hr]
      dsimp only
      rw [addr_add, Nat.add_assoc]
      have g1' : (storeCells ⟨L.b, L.d + (o + l * e.size), none⟩ vs).run P w = .ok () w' := g1
      rw [g1']; rfl
    · rename_i hc
      have hc : c < l + n := by
        have : ¬ (l + n ≤ c) := fun h => by
          have h2 : Nat.ble (l + n) c = true := by rw [Nat.ble_eq]; exact h
          have hc : Nat.ble (l + n) c = false := hc
          rw [hc] at h2; cases h2
        omega
      obtain ⟨l2, old, h, hol, hso⟩ := srcK_inv (P := P) h
      obtain ⟨e1, h⟩ := okK_inv h
      obtain ⟨e2, h⟩ := okK_inv h
      obtain rfl := Nat.eq_of_beq_eq_true e1
      have e2 : l2 + n ≤ 1000000 := Nat.le_of_ble_eq_true e2
      have hol : old.len = l2 * e.size := by
        rcases hol with ⟨_, _, h⟩ | h
        · cases h
        · exact h
      obtain ⟨v, S', h, hv⟩ := freshK_inv h
      refine ⟨_, _, h, fun {ι w us uy ty} hh hs hy => ?_⟩
      have hs0 := hs
      obtain ⟨L, hL, rfl⟩ := hs
      obtain ⟨h1, vs, h2, h3⟩ := hsrc hy hh
      obtain ⟨h1', vs', h2', h3'⟩ := hsrc hy (drew hh)
      obtain ⟨-, os, o2, o3⟩ := hso hs0 (drew hh)
      obtain ⟨nc, g1, g163, g2⟩ := run_append_new (P := P) hz ok (base := some ⟨L.b, L.d + o, none⟩) (l := l2) (cap := c) (ty := ty) (old := os) h1 h3' hc e2 o3
      have hlen := h2'.len
      have hlen2 := o2.len
      obtain ⟨κ, k1, k2, k3⟩ := hv (zs := (Builtin.zeroCells e.z.cells (nc - (l2 + n))).toList) (e := e.e) (nc := nc) hh (o2.app h2') (by
        rw [List.length_append, ← hlen, ← hlen2, hnl, hol, ← Nat.add_mul]; rfl) g1 g163 (by
        rw [List.length_append, List.length_append, hzc, ← hlen, ← hlen2, hnl, hol, ← Nat.add_mul, ← Nat.add_mul]; congr 1; omega)
      exact ⟨_, _, κ, g2, k1, k2, k3⟩
  | slu b o l z =>
    dsimp only at h
    obtain ⟨e1, h⟩ := okK_inv h
    obtain rfl := Nat.eq_of_beq_eq_true e1
    split at h
    · refine ⟨_, _, h, fun {ι w us uy ty} hh hs hy => ?_⟩
      obtain ⟨h1, vs, h2, h3⟩ := hsrc hy hh
      have hvs : vs = [] := by
        have := h2.len
        rw [hnl, Nat.zero_mul] at this
        exact List.eq_nil_of_length_eq_zero this.symm
      subst hvs
      have hs0 := hs
      obtain ⟨L, hL, ⟨cap, rfl, hcap, hlc, h63⟩ | ⟨rfl, ad, rfl⟩⟩ := hs
      · have hr := run_append_in (P := P) hz ok (base := some ⟨L.b, L.d + o, none⟩) (l := l) (cap := cap) (ty := ty) h1 h3 (by omega)
        exact ⟨_, _, ι, hr, hs0, hh, Ext.refl _ _⟩
      · have hr := run_append_in (P := P) hz ok (base := some ad) (l := 0) (cap := 0) (ty := ty) h1 h3 (by omega)
        exact ⟨_, _, ι, hr, hs0, hh, Ext.refl _ _⟩
    · rename_i hn0
      have hpos' : 0 < n := Nat.pos_of_ne_zero hn0
      rw [fN_eq] at h
      obtain ⟨e2, h⟩ := okK_inv h
      have e2 : l + n ≤ 1000000 := Nat.le_of_ble_eq_true e2
      obtain ⟨m, c, hc, h⟩ := onCells_inv h
      have hne : hget b S.h ≠ .gone := by rw [hc]; exact fun e => by cases e
      split at h
      · rename_i hin
        rw [Bool.and_eq_true] at hin
        have i1 : 1 ≤ l := Nat.le_of_ble_eq_true hin.1
        have i2 : o + (l + n) * e.size ≤ m := Nat.le_of_ble_eq_true hin.2
        obtain ⟨S', h, hset⟩ := setK_inv (P := P) h
        refine ⟨_, _, h, fun {ι w us uy ty} hh hs hy => ?_⟩
        obtain ⟨h1, vs, h2, h3⟩ := hsrc hy hh
        obtain ⟨L, hL, ⟨cap, rfl, hcap, hlc, h63⟩ | ⟨rfl, ad, rfl⟩⟩ := hs
        · have hlive := hh.live b L hL
          rw [hc] at hlive
          obtain ⟨-, hms, -⟩ := hlive
          have hfit : l + n ≤ cap := by
            rcases Nat.lt_or_ge cap (l + n) with h | h
            · have : cap * e.size + e.size ≤ (l + n) * e.size := by rw [← Nat.succ_mul]; exact Nat.mul_le_mul_right _ h
              omega
            · exact h
          have hr := run_append_in (P := P) hz ok (base := some ⟨L.b, L.d + o, none⟩) (l := l) (cap := cap) (ty := ty) h1 h3 hfit
          obtain ⟨w', g1, g2, g3⟩ := hset hh hL h2
          refine ⟨_, w', ι, ?_, ⟨L, hL, .inl ⟨cap, rfl, hcap, hfit, h63⟩⟩, g2, g3⟩
          rw [hr]
          dsimp only
          rw [addr_add, Nat.add_assoc]
          have g1' : (storeCells ⟨L.b, L.d + (o + l * e.size), none⟩ vs).run P w = .ok () w' := g1
          rw [g1']; rfl
        · omega
      · obtain ⟨e3, h⟩ := okK_inv h
        have e3 : o + l * e.size = m := Nat.eq_of_beq_eq_true e3
        obtain ⟨e4, h⟩ := okK_inv h
        obtain ⟨c', h, hroom, hcon⟩ := moreK_inv h
        rw [hsetK_eq, fN_eq] at h
        obtain ⟨hlt, h⟩ := newK_inv h
        have hlt : S.n < 65536 := hlt
        refine ⟨_, _, h, fun {ι w us uy ty} hh hs hy => ?_⟩
        obtain ⟨h1, vs, h2, h3⟩ := hsrc hy hh
        obtain ⟨h1', vs', h2', h3'⟩ := hsrc hy (drew hh)
        obtain ⟨L, hL, hs⟩ := hs
        have hlive := hh.live b L hL
        rw [hc] at hlive
        obtain ⟨hmr, hms, ar, el, fz, hheap, hfz, harsz, hcells⟩ := hlive
        have hnl0 : new.len ≠ 0 := by
          rw [hnl]
          have : 1 * 1 ≤ n * e.size := Nat.mul_le_mul hpos' hpos
          omega
        obtain ⟨hc1, hc2⟩ := hcon hnl0 (by show o + l * e.size ≤ c.room; omega)
        have hc1 : ∀ j, j < l * e.size → c'.get j = c.get (o + j) := hc1
        have hc2 : ∀ j, j < new.len → c'.get (l * e.size + j) = new.nth j := hc2
        have hroom : l * e.size + new.len ≤ c'.room := hroom.resolve_left hnl0
        have hneed : (l + n) * e.size = l * e.size + new.len := by rw [hnl, Nat.add_mul]
        have hkill := hh.kill hL
        have hSn : ι S.n = none := hh.fresh _ (Nat.le_refl _)
        have hres := hkill.reserve (show S.n < 65536 from hlt) (.cells ((l + n) * e.size) c')
        have hgn : hget S.n (hset S.n (.cells ((l + n) * e.size) c') (hset b .gone S.h)) = .cells ((l + n) * e.size) c' := hget_same _ _ _
        have happ : ∀ c m, ι c = some m → hget c (hset S.n (.cells ((l + n) * e.size) c') (hset b .gone S.h)) ≠ .gone → m.b ≠ L.b := by
          intro d m hd hg
          have hdn : d ≠ S.n := by rintro rfl; rw [hSn] at hd; cases hd
          have hds := hh.small hd
          rw [hget_other hlt hds (fun h => hdn h.symm)] at hg
          have hdb : d ≠ b := by rintro rfl; rw [hget_same] at hg; exact hg rfl
          rw [hget_other (hh.small hL) hds (fun h => hdb h.symm)] at hg
          exact hh.apart d b m L hd hL hg hne hdb
        have hvlen := h2.len
        -- a new block
        have grow : ∀ {base : Option Addr} {cap : Nat} {os : List Value}, cap < l + n → (Builtin.firstCells e.size l (.slice base l cap)).run P w.drew = .ok os.toArray w.drew → os.length = l * e.size →
            (∀ j, j < l * e.size → ∃ x, os[j]? = some x ∧ RV ι (c.get (o + j)) x) →
            ∃ u w' κ, (Builtin.append_ #[t, t1] ty #[.slice base l cap, uy]).run P w = .ok u w' ∧ RV κ (.slu S.n 0 (l + n) e.size) u ∧ HR κ ⟨hset S.n (.cells ((l + n) * e.size) c') (hset b .gone S.h), S.n + 1⟩ w' ∧ Ext ι w κ w' := by
          intro base cap os hcap hos holen hocells
          obtain ⟨nc, g1, g163, g2⟩ := run_append_new (P := P) hz ok (base := base) (l := l) (cap := cap) (ty := ty) (old := os) h1 h3' hcap e2 hos
          have hle := Inj.le_put hSn ⟨w.heap.size, 0, nc * e.size⟩
          have hmk := hres.make (b := S.n) hSn (fun h' => Nat.lt_irrefl _ (hh.resv _ h')) (Nat.lt_succ_self _) ⟨w.heap.size, 0, nc * e.size⟩ (w' := w.drew.alloc (.cells (os ++ vs' ++ (Builtin.zeroCells e.z.cells (nc - (l + n))).toList).toArray e.e)) rfl rfl rfl (by simp) (fun k hk => heap_alloc_old (w := w.drew) hk) (Nat.le_refl _) (by
            show RO _ (hget S.n (hset S.n (.cells ((l + n) * e.size) c') (hset b .gone S.h))) _ _
            rw [hgn]
            refine ⟨by omega, Nat.mul_le_mul_right _ g1, _, _, (0, 0), heap_alloc_at (w := w.drew), .inl rfl, ?_, fun i hi => ?_⟩
            · have := h2'.len
              simp only [List.size_toArray, List.length_append, hzc, holen, ← this, hnl, Nat.zero_add]
              rw [← Nat.add_mul, ← Nat.add_mul]; congr 1; omega
            · have hi : i < (l + n) * e.size := hi
              obtain ⟨x, a1, a2⟩ := more_cells (κ := ι.put S.n ⟨w.heap.size, 0, nc * e.size⟩) hc1 hc2 (fun j hj => let ⟨x, p, q⟩ := hocells j hj; ⟨x, p, q.mono hle⟩) holen (h2'.mono hle) i (by omega)
              refine ⟨x, ?_, a2⟩
              simp only [Nat.zero_add, List.getElem?_toArray]
              rw [List.getElem?_append_left (by rw [List.length_append, holen, ← h2'.len]; omega)]
              exact a1)
          exact ⟨_, _, _, g2, ⟨_, Inj.put_same _ _ _, .inl ⟨nc, by simp, by simp, g1, g163⟩⟩, hmk.1, hmk.2⟩
        rcases hs with ⟨cap, rfl, hcap, hlc, h63⟩ | ⟨rfl, ad, rfl⟩
        · obtain ⟨os, o1, o2⟩ := (drew hh).cells (P := P) hL hc (l * e.size) o (by omega)
          have ol := o2.len
          rw [takeL_len] at ol
          have ocells : ∀ j, j < l * e.size → ∃ x, os[j]? = some x ∧ RV ι (c.get (o + j)) x := fun j hj => by
            obtain ⟨x, p, q⟩ := o2.nth j (by rw [takeL_len]; exact hj)
            rw [takeL_nth _ _ _ _ hj] at q
            exact ⟨x, p, q⟩
          rcases Nat.lt_or_ge cap (l + n) with g | g
          · exact grow g (by simp only [Builtin.firstCells]; exact o1) ol.symm ocells
          · have hr := run_append_in (P := P) hz ok (base := some ⟨L.b, L.d + o, none⟩) (l := l) (cap := cap) (ty := ty) h1 h3 g
            have hfit : (l + n) * e.size ≤ cap * e.size := Nat.mul_le_mul_right _ g
            have hst := run_storeCells_fz (P := P) L.b (L.d + (o + l * e.size)) el fz vs 0 ar w hheap hfz (by omega) (ones_cell e4 h2)
            have hle := Inj.le_put hSn ⟨L.b, L.d + o, L.s - o⟩
            have hmk := hres.take (b := S.n) hSn (fun h' => Nat.lt_irrefl _ (hh.resv _ h')) ⟨L.b, L.d + o, L.s - o⟩ (w' := w.setRow L.b (ar.toList.take (L.d + (o + l * e.size) + 0) ++ vs ++ ar.toList.drop (L.d + (o + l * e.size) + 0 + vs.length)).toArray) rfl rfl rfl (by simp) (fun k _ hk => heap_setRow_other hk) happ (Nat.lt_succ_self _) (.inl ⟨b, L, hL, rfl⟩) (by
              show RO _ (hget S.n (hset S.n (.cells ((l + n) * e.size) c') (hset b .gone S.h))) _ _
              rw [hgn]
              refine ⟨by omega, by show (l + n) * e.size ≤ L.s - o; omega, _, el, fz, heap_setRow hheap, hfz.size (by simp; omega), ?_, fun i hi => ?_⟩
              · simp
                omega
              · have hi : i < (l + n) * e.size := hi
                have hmin : min (L.d + (o + l * e.size)) ar.size = L.d + (o + l * e.size) := by omega
                by_cases gi : i < l * e.size
                · obtain ⟨x, p, q⟩ := hcells (o + i) (by omega)
                  refine ⟨x, ?_, by rw [hc1 i gi]; exact q.mono hle⟩
                  simp only [Nat.add_zero, List.append_assoc, List.getElem?_toArray]
                  rw [List.getElem?_append_left (by simp; omega), List.getElem?_take, if_pos (by omega), Array.getElem?_toList, Nat.add_assoc]
                  exact p
                · obtain ⟨x, p, q⟩ := (h2.mono hle).nth (i - l * e.size) (by omega)
                  have := hc2 (i - l * e.size) (by omega)
                  rw [show l * e.size + (i - l * e.size) = i by omega] at this
                  refine ⟨x, ?_, by rw [this]; exact q⟩
                  simp only [Nat.add_zero, List.append_assoc, List.getElem?_toArray]
                  rw [List.getElem?_append_right (by simp; omega), List.getElem?_append_left (by simp [hmin]; omega)]
                  simp only [List.length_take, Array.length_toList, hmin]
                  rw [show L.d + o + i - (L.d + (o + l * e.size)) = i - l * e.size by omega]
                  exact p)
            refine ⟨.slice (some ⟨L.b, L.d + o, none⟩) (l + n) cap, _, _, ?_, ⟨_, Inj.put_same _ _ _, .inl ⟨cap, by simp, by show 0 + cap * e.size = L.s - o; omega, g, h63⟩⟩, hmk.1, hmk.2⟩
            rw [hr]
            dsimp only
            rw [addr_add, Nat.add_assoc, hst]; rfl
        · have hl0 : 0 * e.size = 0 := Nat.zero_mul _
          exact grow (os := []) (by omega) (by simp [Builtin.firstCells, loadCells, loadCellsFrom]) (by rw [hl0]; rfl) (fun j hj => by rw [hl0] at hj; exact absurd hj (Nat.not_lt_zero _))
  | _ => exact (R.bad_ne h).elim
theorem kAppend_ok {ts : Array TypeId} {args : Array Operand} (ho : o.op = .call { callee := .builtin .append, args := args, argTypes := ts }) : KdOk P o (kAppend P ts args) := by
  unfold kAppend
  split
  · rename_i x y t t1
    split
    · rename_i e he hz
      intro T S k r s h
      obtain ⟨v, S', h, hv⟩ := appendK_inv (elA_ok he) hz h
      refine ⟨v, S', h, fun {ι m a w} ra hr => ?_⟩
      obtain ⟨u, w', κ, g1, g2, g3, g4⟩ := hv (ty := o.type) hr (opnd_rep ra x) (opnd_rep ra y)
      refine ⟨.value u, w', κ, u, ?_, .inl rfl, g2, g3, g4⟩
      obtain ⟨cs, hb⟩ := run_builtin (P := P) (a := a) (w := w) ho
      rw [hb]
      have g1' : (Builtin.append_ #[t, t1] o.type #[a.eval x, a.eval y]).run P w = .ok u w' := g1
      simp [builtin, g1']
    · exact trivial
  · exact trivial
end
end Go.Ev
set_option linter.unusedVariables false
set_option linter.unusedSimpArgs false
namespace Go.Ev
open Go
noncomputable section
variable {P : Program} {o : Oper}

def partV (P : Program) (t : TypeId) (off : Nat) (l : AV) : Option AV := match P.underlying t, P.info? t with
  | some d, some i => match isAggD d with
    | true => some (.agg ((l.drop off).take i.size))
    | false => match Nat.ble (Nat.succ off) l.len with
      | true => some (l.nth off)
      | false => none
  | _, _ => none
theorem run_partV {t : TypeId} {off : Nat} {l v : AV} (h : partV P t off l = some v) {ι : Inj} {z : Array Value} {w : World} (hl : RL ι l z.toList) : ∃ u, (part t z off).run P w = .ok u w ∧ RV ι v u := by
  unfold partV at h
  split at h
  · rename_i d i h1 h2
    split at h
    · rename_i h3
      cases h
      refine ⟨.agg (z.extract off (off + i.size)), ?_, ⟨_, rfl, ?_⟩⟩
      · unfold part
        simp [run_isAgg h1, h3, sizeOf, typeInfo, h2]
      · have : (z.extract off (off + i.size)).toList = (z.toList.drop off).take i.size := by simp [Array.toList_extract, List.extract, Nat.add_sub_cancel_left]
        rw [this]
        exact (hl.drop off).take _
    · rename_i h3
      split at h
      · rename_i hi
        cases h
        obtain ⟨u, hu, hr⟩ := hl.nth off (Nat.le_of_ble_eq_true hi)
        refine ⟨u, ?_, hr⟩
        simp at hu
        unfold part
        simp [run_isAgg h1, h3, hu]
      · cases h
  · cases h
def eqFs (P : Program) (E : TypeId → AV → AV → Option Bool) (x y : AV) : List Field → Option Bool
  | [] => some true
  | f :: fs => match decide (f.name = "_") with
    | true => none
    | false => match partV P f.type f.offset x, partV P f.type f.offset y with
      | some a, some b => match E f.type a b with
        | some true => eqFs P E x y fs
        | some false => some false
        | none => none
      | _, _ => none
def eqV (P : Program) : Nat → TypeId → AV → AV → Option Bool
  | 0, _, _, _ => none
  | n + 1, t, x, y => match P.underlying t with
    | some (.struct fs) => match x, y with
      | .agg l, .agg r => match P.stoodInHeld t with
        | false => eqFs P (eqV P n) l r fs.toList
        | true => none
      | _, _ => none
    | some d => match plainKey d x with
      | true => keyA x y
      | false => none
    | none => none
theorem eqFs_ok {E : TypeId → AV → AV → Option Bool} {ι : Inj} {d : Nat} {w : World} (hE : ∀ t x y b u v, E t x y = some b → RV ι x u → RV ι y v → (Op.equalIn d t u v).run P w = .ok b w) {x y : AV} {xs ys : Array Value} (hx : RL ι x xs.toList) (hy : RL ι y ys.toList) :
    ∀ {fs : List Field} {b : Bool}, eqFs P E x y fs = some b → (Op.eqFields d xs ys fs).run P w = .ok b w
  | [], b, h => by cases h; simp [Op.eqFields]
  | f :: fs, b, h => by
    unfold eqFs at h
    split at h
    · cases h
    · rename_i hn
      have hn : f.name ≠ "_" := by simpa using hn
      split at h
      · rename_i a c ha hc
        obtain ⟨u, h1, h2⟩ := run_partV ha hx (w := w)
        obtain ⟨v, h3, h4⟩ := run_partV hc hy (w := w)
        split at h
        · rename_i he
          have := hE _ _ _ _ _ _ he h2 h4
          have ih := eqFs_ok hE hx hy h
          simp only [Op.eqFields, hn, ne_eq, not_false_eq_true, if_true, Sem.run_bind, h1, h3, this, Result.andThen_ok]
          simpa using ih
        · rename_i he
          cases h
          have := hE _ _ _ _ _ _ he h2 h4
          simp only [Op.eqFields, hn, ne_eq, not_false_eq_true, if_true, Sem.run_bind, h1, h3, this, Result.andThen_ok]
          simp
        · cases h
      · cases h
theorem keyA_equal {x y : AV} {b : Bool} (h : keyA x y = some b) {d : TypeDesc} (hd : plainKey d x = true) {t : TypeId} (ht : P.underlying t = some d) {ι : Inj} {u v : Value} (hu : RV ι x u) (hv : RV ι y v) {n : Nat} {w : World} :
    (Op.equalIn (n + 1) t u v).run P w = .ok b w := by
  obtain ⟨h1, -⟩ := keyA_ok h hd hu hv
  unfold Instr.sameNow at h1
  split at h1
  · rename_i k k1 a k2 c
    split at h1
    · rename_i hk
      subst hk
      cases h1
      exact run_equalIn_int w n t _ _ _ _ ht
    · cases h1
  · cases h1
    simp [Op.equalIn, underlying, ht]
  · cases h1
    simp [Op.equalIn, underlying, ht]
  · cases h1
theorem eqV_ok : ∀ {n : Nat} {t : TypeId} {x y : AV} {b : Bool}, eqV P n t x y = some b → ∀ {ι : Inj} {u v : Value}, RV ι x u → RV ι y v → ∀ {d : Nat} {w : World}, (Op.equalIn (n + d) t u v).run P w = .ok b w
  | 0, t, x, y, b, h => by cases h
  | n + 1, t, x, y, b, h => by
    intro hu hv d w
    rw [show n + 1 + d = (n + d) + 1 by omega]
    unfold eqV at h
    split at h
    · rename_i fs ht
      split at h
      · rename_i l r
        split at h
        · rename_i hp
          obtain ⟨xs, rfl, hx⟩ := hu
          obtain ⟨ys, rfl, hy⟩ := hv
          have hf : P.fieldsOf t = fs := by unfold Program.fieldsOf; rw [ht]
          rw [run_equalIn_struct w (n + d) t xs ys (by rw [hf]; exact ht) hp, hf]
          exact eqFs_ok (fun t x y b u v he h1 h2 => eqV_ok he h1 h2) hx hy h
        · cases h
      · cases h
    · rename_i dd hns ht
      split at h
      · rename_i hp
        exact keyA_equal h hp ht hu hv
      · cases h
    · cases h
def kEqS (P : Program) (neg : Bool) (t : TypeId) (x y : Operand) : Kd := match P.eqGuardType P.depth t with
  | true => .no
  | false => .pure fun T k => match opnd x T with
    | .agg l => match opnd y T with
      | .agg r => match eqV P 20 t (.agg l) (.agg r) with
        | some b => bK (Bool.xor neg b) k
        | none => .bad 112
      | _ => .bad 113
    | _ => .bad 114
theorem kEqS_ok {neg : Bool} {t u : TypeId} {x y : Operand} (ho : o.op = .binOp (if neg then .neq else .eql) t x y u) : KdOk P o (kEqS P neg t x y) := by
  unfold kEqS
  split
  · exact trivial
  · rename_i hgd
    intro T k r s h
    dsimp only at h
    split at h
    · rename_i l hl
      split at h
      · rename_i q hq
        split at h
        · rename_i b hb
          rw [bK_eq] at h
          refine ⟨_, h, fun {ι mm ac w} ra => ⟨_, ?_, rfl⟩⟩
          have e1 := opnd_rep ra x; rw [hl] at e1
          have e2 := opnd_rep ra y; rw [hq] at e2
          have he := eqV_ok hb e1 e2 (d := 9980) (w := w)
          obtain ⟨xs, h1, -⟩ := e1
          obtain ⟨ys, h2, -⟩ := e2
          rw [h1, h2] at he
          have he : (Op.equal t (.agg xs) (.agg ys)).run P w = .ok b w := he
          have hg : ∀ op, (eqGuard op t x y (.agg xs) (.agg ys)).run P w = .ok () w := fun op => by
            unfold eqGuard
            cases op <;> simp [hgd]
          unfold execOp; rw [ho]
          cases neg
          · have hb : binOp .eql t (.agg xs) (.agg ys) = (do pure (.bool (← Op.equal t (.agg xs) (.agg ys)))) := rfl
            simp [h1, h2, hg, hb, he]
          · have hb : binOp .neq t (.agg xs) (.agg ys) = (do pure (.bool (!(← Op.equal t (.agg xs) (.agg ys))))) := rfl
            simp [h1, h2, hg, hb, he]
        · exact (R.bad_ne h).elim
      · exact (R.bad_ne h).elim
    · exact (R.bad_ne h).elim
/-! ### Two nil interfaces, one of them written so -/
def isC : Operand → Bool
  | .const _ => true
  | _ => false
def bothNil (x y : AV) : Bool := match x, y with
  | .inil, .inil => true
  | _, _ => false
def kEqI (neg : Bool) (d : TypeDesc) (x y : Operand) : Kd := match d, isC x || isC y with
  | .interface _, true => .pure fun T k => match bothNil (opnd x T) (opnd y T) with
    | true => bK (Bool.xor neg true) k
    | false => okK (eqD d (opnd x T)) (match eqA (opnd x T) (opnd y T) with
      | some b => bK (Bool.xor neg b) k
      | none => .bad 43)
  | d, _ => kEq neg d x y
theorem kEqI_ok {neg : Bool} {t u : TypeId} {d : TypeDesc} (ht : P.underlying t = some d) {x y : Operand} (ho : o.op = .binOp (if neg then .neq else .eql) t x y u) : KdOk P o (kEqI neg d x y) := by
  unfold kEqI
  split
  · rename_i ms hc
    intro T k r s h
    dsimp only at h
    split at h
    · rename_i hb
      rw [bK_eq] at h
      refine ⟨_, h, fun {ι mm ac w} ra => ⟨_, ?_, rfl⟩⟩
      have e1 := opnd_rep ra x
      have e2 := opnd_rep ra y
      unfold bothNil at hb
      split at hb
      · rename_i h1 h2
        rw [h1] at e1; rw [h2] at e2
        have e1 : ac.eval x = .nilIface := e1
        have e2 : ac.eval y = .nilIface := e2
        have hg : ∀ op, (eqGuard op t x y .nilIface .nilIface).run P w = .ok () w := fun op => by
          unfold eqGuard
          cases x <;> cases y <;> cases op <;> first | (cases hc; done) | rfl
        have he : (Op.equal t .nilIface .nilIface).run P w = .ok true w := by
          show (Op.equalIn (9999 + 1) t .nilIface .nilIface).run P w = _
          generalize 9999 = n
          simp [Op.equalIn, underlying, ht]
        unfold execOp; rw [ho]
        cases neg
        · have hb : binOp .eql t .nilIface .nilIface = (do pure (.bool (← Op.equal t .nilIface .nilIface))) := rfl
          simp [e1, e2, hg, hb, he]
        · have hb : binOp .neq t .nilIface .nilIface = (do pure (.bool (!(← Op.equal t .nilIface .nilIface)))) := rfl
          simp [e1, e2, hg, hb, he]
      · cases hb
    · exact kEq_ok ht ho h
  · exact kEq_ok ht ho
/-! ### An element of an array -/
def kIndexA (P : Program) (t : TypeId) (x i : Operand) : Kd := match P.underlying t with
  | some (.array len e) => match P.info? e with
    | some inf => .pure fun T k => onNat (opnd i T) fun i => onAgg (opnd x T) fun l => okK (Nat.ble (Nat.succ i) len) (match partV P e (Nat.mul i inf.size) l with
      | some v => k v
      | none => .bad 115)
    | none => .no
  | _ => kIndex P t x i
theorem kIndexA_ok {t : TypeId} {x i : Operand} (ho : o.op = .index t x i) : KdOk P o (kIndexA P t x i) := by
  unfold kIndexA
  split
  · rename_i len e h1
    split
    · rename_i inf h2
      intro T k r s h
      obtain ⟨kd, y, hi, h⟩ := onNat_inv h
      obtain ⟨l, hc, h⟩ := onAgg_inv h
      obtain ⟨hlt, h⟩ := okK_inv h
      have hlt : y < len := Nat.le_of_ble_eq_true hlt
      split at h
      · rename_i v hv
        refine ⟨v, h, fun {ι m a w} ra => ?_⟩
        have e1 := opnd_rep ra x; rw [hc] at e1; obtain ⟨z, e1, hl⟩ := e1
        have e2 := opnd_rep ra i; rw [hi] at e2; have e2 : a.eval i = _ := e2
        obtain ⟨u, g1, g2⟩ := run_partV hv hl (w := w)
        refine ⟨u, ?_, g2⟩
        have g1 : (part e z (y * inf.size)).run P w = .ok u w := g1
        unfold execOp; rw [ho]
        simp [e1, e2, Instr.index, underlying, h1, asIntOf, hlt, sizeOf, typeInfo, h2, g1]
      · exact (R.bad_ne h).elim
    · exact trivial
  · exact kIndex_ok ho
/-! ### Zeros behind a nil slice -/
theorem run_append_zeros {t t1 ty : TypeId} {x : El} {kd : IntKind} (hd : P.underlying t1 = some (.int kd)) (ok : ElOk P t x) {n : Nat} (hn : 1 ≤ n) (hl : n ≤ 100000) {k : IntKind} {w : World} :
    ∃ nc, n ≤ nc ∧ nc < 9223372036854775808 ∧ (Builtin.append_ #[t, t1] ty #[.slice none 0 0, .int k n]).run P w = .ok (.slice (some ⟨w.heap.size, 0, none⟩) n nc) (w.drew.alloc (.cells ((Builtin.zeroCells x.z.cells n).toList ++ (Builtin.zeroCells x.z.cells (nc - n)).toList).toArray x.e)) := by
  obtain ⟨i, hi, hi1, hi2⟩ := ok.info
  have hb := ok.small
  have hnext := nextcap_le (show 0 < n by omega)
  have hmul : Builtin.nextslicecap n 0 * x.bytes ≤ 204000 * 65536 := Nat.mul_le_mul (by omega) hb
  refine ⟨(Question.appendCap n 0 x.e).cut (w.tape w.drawn (.appendCap n 0 x.e)), by show _ ≤ _ + _; omega, by
    have := Nat.mod_lt (w.tape w.drawn (.appendCap n 0 x.e)) (show 0 < 2 ^ 63 - n by omega)
    show _ + _ < _; omega, ?_⟩
  have h1 : ¬ (n = 0) := by omega
  have h63 : ¬ (9223372036854775807 < (n : Int)) := by omega
  have h48 : ¬ (281474976710656 < Builtin.nextslicecap n 0 * x.bytes) := by omega
  have hti : ∀ w, (typeInfo x.e).run P w = .ok i w := fun w => by simp [typeInfo, hi]
  have hsz := ok.sizeOf
  have hzero := ok.zero
  have hpos := ok.pos
  have hw := wrap_small (show n ≤ 1000000 by omega)
  have hneg : ¬ ((n : Int) < 0) := by omega
  have hbig : ¬ (281474976710656 < (n : Int) * (x.bytes : Int)) := by
    have : n * x.bytes ≤ 100000 * 65536 := Nat.mul_le_mul hl hb
    have : ((n : Int) * (x.bytes : Int)) ≤ 100000 * 65536 := by rw [← Int.natCast_mul]; omega
    omega
  have hx0 : ¬ (x.size = 0) := by omega
  simp [Builtin.append_, run_under ok.under, hsz, hti, hi2, run_under hd, h1, h63, h48, hw, hneg, hbig, hx0, Question.forced, hzero, newRow, asInt, asIntOf, Builtin.firstCells]
  rw [if_neg (fun h => by rcases Nat.mul_eq_zero.1 h with h | h <;> omega)]
  congr 3
  apply Array.ext'
  simp

def kAppendZ (P : Program) (ts : Array TypeId) (args : Array Operand) : Kd := match args, ts with
  | ⟨[x, y]⟩, ⟨[t, t1]⟩ => match elA P t, P.underlying t1 with
    | some e, some (.int _) => .eff fun T S k => match opnd x T with
      | .snil => onNat (opnd y T) fun n => okK (Nat.ble 1 n) (okK (Nat.ble n 100000) (freshK S (zerosA e.l n) n e.size k))
      | _ => .bad 119
    | _, _ => kAppend P ⟨[t, t1]⟩ ⟨[x, y]⟩
  | args, ts => kAppend P ts args
theorem kAppendZ_ok {ts : Array TypeId} {args : Array Operand} (ho : o.op = .call { callee := .builtin .append, args := args, argTypes := ts }) : KdOk P o (kAppendZ P ts args) := by
  unfold kAppendZ
  split
  · rename_i x y t t1
    split
    · rename_i e kd he hd
      intro T S k r s h
      dsimp only at h
      split at h
      · rename_i hx
        obtain ⟨kn, n, hy, h⟩ := onNat_inv h
        obtain ⟨h3, h⟩ := okK_inv h
        obtain ⟨h4, h⟩ := okK_inv h
        have h3 := Nat.le_of_ble_eq_true h3
        have h4 := Nat.le_of_ble_eq_true h4
        obtain ⟨v, S', h, hv⟩ := freshK_inv h
        have ok := elA_ok he
        refine ⟨v, S', h, fun {ι m a w} ra hr => ?_⟩
        have e1 := opnd_rep ra x; rw [hx] at e1; have e1 : a.eval x = .slice none 0 0 := e1
        have e2 := opnd_rep ra y; rw [hy] at e2; have e2 : a.eval y = .int kn (n : Int) := e2
        obtain ⟨nc, g1, g163, g2⟩ := run_append_zeros (P := P) (ty := o.type) hd ok h3 h4 (k := kn) (w := w)
        have hsz : ∀ q, (Builtin.zeroCells e.z.cells q).toList.length = q * e.size := fun q => by simp [Builtin.zeroCells, ok.len]
        have hrl : RL ι (zerosA e.l n) (Builtin.zeroCells e.z.cells n).toList := by
          have := (ok.rep ι).zeros ok.len n
          unfold Builtin.zeroCells
          simpa only [ok.len] using this
        obtain ⟨κ, k1, k2, k3⟩ := hv (zs := (Builtin.zeroCells e.z.cells (nc - n)).toList) (e := e.e) (nc := nc) hr hrl (hsz n) g1 g163 (by
          rw [List.length_append, hsz, hsz, ← Nat.add_mul]; congr 1; omega)
        refine ⟨.value _, _, κ, _, ?_, .inl rfl, k1, k2, k3⟩
        obtain ⟨cs, hb⟩ := run_builtin (P := P) (a := a) (w := w) ho
        rw [hb]
        simp [builtin, e1, e2, g2]
      · exact (R.bad_ne h).elim
    · exact kAppend_ok ho
  · exact kAppend_ok ho
end
end Go.Ev
set_option linter.unusedVariables false
set_option linter.unusedSimpArgs false
namespace Go.Ev
open Go
noncomputable section
variable {P : Program} {o : Oper}

/-- How many elements of a slice whose end is not known are at least there. -/
def knownK (H : Hp) (b o n sz : Nat) (k : Nat → R) : R := match hget b H with
  | .cells m _ => okK (Nat.ble 1 n) (okK (Nat.ble (Nat.add o (Nat.mul n sz)) m) (okK (Nat.ble 1 sz) (fN (Nat.div (Nat.sub m o) sz) k)))
  | _ => .bad 120
theorem knownK_inv {H : Hp} {b o n sz : Nat} {k : Nat → R} {r : AV} {s : St} (h : knownK H b o n sz k = .ok r s) :
    ∃ q, k q = .ok r s ∧ n ≤ q ∧ ∀ {ι : Inj} {N : Nat} {u : Value} {w : World}, RV ι (.slu b o n sz) u → HR ι ⟨H, N⟩ w →
      ∃ l cap, ι b = some l ∧ u = .slice (some ⟨l.b, l.d + o, none⟩) n cap ∧ o + cap * sz = l.s ∧ q ≤ cap ∧ cap < 9223372036854775808 := by
  unfold knownK at h
  split at h
  · rename_i m c hc
    obtain ⟨h1, h⟩ := okK_inv h
    obtain ⟨h2, h⟩ := okK_inv h
    obtain ⟨h3, h⟩ := okK_inv h
    have h1 := Nat.le_of_ble_eq_true h1
    have h2 : o + n * sz ≤ m := Nat.le_of_ble_eq_true h2
    have h3 := Nat.le_of_ble_eq_true h3
    rw [fN_eq] at h
    refine ⟨_, h, ?_, fun {ι N u w} hu hr => ?_⟩
    · show n ≤ (m - o) / sz
      exact (Nat.le_div_iff_mul_le (by omega)).2 (by omega)
    · obtain ⟨l, hl, ⟨cap, hu, hcap, hnc, h63⟩ | ⟨h0, -⟩⟩ := hu
      · refine ⟨l, cap, hl, hu, hcap, ?_, h63⟩
        have hlive := hr.live b l hl
        rw [show hget b (St.h ⟨H, N⟩) = .cells m c from hc] at hlive
        obtain ⟨-, hms, -⟩ := hlive
        show (m - o) / sz ≤ cap
        refine Nat.div_le_of_le_mul ?_
        rw [Nat.mul_comm]; omega
      · omega
  · exact (R.bad_ne h).elim
def kCapG (P : Program) (ts : Array TypeId) (args : Array Operand) : Kd := match args, ts[0]? with
  | ⟨[x]⟩, some t => match P.underlying t with
    | some (.slice e) => .load fun T H k => match opnd x T with
      | .snil => k (.int .i64 (.ofNat 0))
      | .sl _ _ _ c => k (.int .i64 (.ofNat c))
      | .slu b o n sz => knownK H b o n sz fun q => k (.ge q)
      | _ => .bad 62
    | _ => .no
  | _, _ => .no
theorem kCapG_ok {ts : Array TypeId} {args : Array Operand} (ho : o.op = .call { callee := .builtin .cap, args := args, argTypes := ts }) : KdOk P o (kCapG P ts args) := by
  unfold kCapG
  split
  · rename_i x t ht
    split
    · rename_i e h1
      intro T H k r s h
      dsimp only at h
      split at h
      · rename_i hc
        refine ⟨_, h, fun {ι m n a w} ra hr => ⟨_, ?_, rfl⟩⟩
        have e1 := opnd_rep ra x; rw [hc] at e1; have e1 : a.eval x = _ := e1
        obtain ⟨cs, hb⟩ := run_builtin (P := P) (a := a) (w := w) ho
        rw [hb]
        simp [builtin, Builtin.cap_, ht, e1, run_under h1, goInt]
      · rename_i hc
        refine ⟨_, h, fun {ι m n a w} ra hr => ⟨_, ?_, rfl⟩⟩
        have e1 := opnd_rep ra x; rw [hc] at e1; obtain ⟨z, -, e1⟩ := e1
        obtain ⟨cs, hb⟩ := run_builtin (P := P) (a := a) (w := w) ho
        rw [hb]
        simp [builtin, Builtin.cap_, ht, e1, run_under h1, goInt]
      · rename_i b q n sz hc
        obtain ⟨y, h, -, hy⟩ := knownK_inv h
        refine ⟨_, h, fun {ι m N a w} ra hr => ?_⟩
        have e1 := opnd_rep ra x; rw [hc] at e1
        obtain ⟨l, cap, -, e1, -, g1, g2⟩ := hy e1 hr
        refine ⟨.int .i64 cap, ?_, ⟨cap, g1, g2, rfl⟩⟩
        obtain ⟨cs, hb⟩ := run_builtin (P := P) (a := a) (w := w) ho
        rw [hb]
        simp [builtin, Builtin.cap_, ht, e1, run_under h1, goInt]
      · exact (R.bad_ne h).elim
    · exact trivial
  · exact trivial
/-! ### Ints of which a bound is known -/
def geBin (op : BinOp) (x y : AV) : Option AV := match op, x, y with
  | .sub, .ge a, .int .i64 (.ofNat m) => match Nat.ble m a with
    | true => some (.ge (Nat.sub a m))
    | false => none
  | .leq, .int .i64 (.ofNat m), .ge a => match Nat.ble m a with
    | true => some (.bool true)
    | false => none
  | _, _, _ => none
def kIntG (op : BinOp) (f : B2) (x y : Operand) : Kd := .pure fun T k => match geBin op (opnd x T) (opnd y T) with
  | some v => k v
  | none => onInt (opnd x T) (.bad 40) fun kx a => onInt (opnd y T) (.bad 40) fun ky b => okK (eqKd kx ky) (f kx a b k)
theorem wrap_pos {n : Nat} (h : n < 9223372036854775808) : IntKind.i64.wrap (n : Int) = n := by
  simp only [IntKind.wrap, IntKind.bits, IntKind.signed]
  simp
  omega
theorem kIntG_ok {op : BinOp} {f : B2} (hf : binI op = some f) {t u : TypeId} {x y : Operand} (ho : o.op = .binOp op t x y u) : KdOk P o (kIntG op f x y) := fun {T k r s} h => by
  dsimp only at h
  split at h
  · rename_i v hv
    refine ⟨v, h, fun {ι m ac w} ra => ?_⟩
    have e1 := opnd_rep ra x
    have e2 := opnd_rep ra y
    unfold geBin at hv
    split at hv
    · rename_i a m h1 h2
      split at hv <;> cases hv
      rename_i hle
      have hle : m ≤ a := Nat.le_of_ble_eq_true hle
      rw [h1] at e1; rw [h2] at e2
      obtain ⟨X, g1, g2, e1⟩ := e1
      have e2 : ac.eval y = .int .i64 (m : Int) := e2
      refine ⟨.int .i64 ((X - m : Nat) : Int), ?_, ⟨X - m, by show a - m ≤ X - m; omega, by omega, rfl⟩⟩
      unfold execOp; rw [ho]
      have hw : IntKind.i64.wrap ((X : Int) - (m : Int)) = ((X - m : Nat) : Int) := by
        rw [← Int.natCast_sub (by omega)]; exact wrap_pos (by omega)
      simp [e1, e2, guard_int, binOp, Op.intArith, hw]
    · rename_i m a h1 h2
      split at hv <;> cases hv
      rename_i hle
      have hle : m ≤ a := Nat.le_of_ble_eq_true hle
      rw [h1] at e1; rw [h2] at e2
      obtain ⟨X, g1, g2, e2⟩ := e2
      have e1 : ac.eval x = .int .i64 (m : Int) := e1
      refine ⟨.bool true, ?_, rfl⟩
      unfold execOp; rw [ho]
      have hmx : m ≤ X := by omega
      simp [e1, e2, guard_int, binOp, Op.intCmp, hmx]
    · cases hv
  · exact kInt_ok (P := P) hf ho h
/-! ### Slicing past a slice's length -/
def kSliceG (P : Program) (t : TypeId) (x : Operand) (lo hi mx : Option Operand) : Kd := match mx, P.underlying t, kSlice P t x lo hi mx with
  | none, some (.slice e), .pure F => match P.info? e with
    | some j => .load fun T H k => match opnd x T with
      | .slu b o n sz => ofO hi T n fun y => match Nat.ble y n with
        | true => F T k
        | false => knownK H b o n sz fun q => ofO lo T 0 fun l => okK (Nat.beq sz j.size) (okK (Nat.ble l n) (okK (Nat.ble y q) (fN (Nat.add o (Nat.mul l j.size)) fun o' => fN (Nat.sub y l) fun n' => k (.slu b o' n' sz))))
      | _ => F T k
    | none => .no
  | _, _, z => z
theorem kSliceG_ok {t : TypeId} {x : Operand} {lo hi mx : Option Operand} (ho : o.op = .slice t x lo hi mx) : KdOk P o (kSliceG P t x lo hi mx) := by
  unfold kSliceG
  have hk := kSlice_ok (P := P) ho
  split
  · rename_i e F h1 hF
    rw [hF] at hk
    have pure : ∀ {T : T} {H : Hp} {k : AV → R} {r : AV} {s : St}, F T k = .ok r s → ∃ v, k v = .ok r s ∧ ∀ {ι : Inj} {m n : Nat} {a : Act} {w : World}, RA ι m T a → HR ι ⟨H, n⟩ w → ∃ u, (execOp a.eval o).run P w = .ok (.value u) w ∧ RV ι v u := by
      intro T H k r s h
      obtain ⟨v, h, hv⟩ := hk h
      exact ⟨v, h, fun ra _ => hv ra⟩
    split
    · rename_i j h2
      intro T H k r s h
      dsimp only at h
      split at h
      · rename_i b q n sz hc
        obtain ⟨y, h, a2, b2⟩ := ofO_inv h
        split at h
        · exact pure h
        · rename_i hyn
          have hyn : n < y := by
            rcases Nat.lt_or_ge n y with g | g
            · exact g
            · rw [Nat.ble_eq_true_of_le g] at hyn; cases hyn
          obtain ⟨kn, h, hnk, hkn⟩ := knownK_inv h
          obtain ⟨l, h, a1, b1⟩ := ofO_inv h
          obtain ⟨d1, h⟩ := okK_inv h
          obtain ⟨c1, h⟩ := okK_inv h
          obtain ⟨c2, h⟩ := okK_inv h
          obtain rfl := Nat.eq_of_beq_eq_true d1
          have c1 := Nat.le_of_ble_eq_true c1
          have c2 := Nat.le_of_ble_eq_true c2
          rw [fN_eq, fN_eq] at h
          refine ⟨_, h, fun {ι mm N a w} ra hrr => ?_⟩
          have e1 := opnd_rep ra x; rw [hc] at e1
          obtain ⟨L, cap, hL, e1, hcap, hq, h63⟩ := hkn e1 hrr
          have hr := run_bounds (P := P) (w := w) (isS := true) (len := n) (cap := cap) (a := a) (lo := lo) (hi := hi) (mx := none) (l := l) (h := y) (m := cap) (by simp) a1 a2 (fun _ => rfl)
            (fun y e => (b1 y e).imp fun _ h => h ra) (fun y e => (b2 y e).imp fun _ h => h ra) (fun y e => by cases e) (by omega) (fun _ => by omega) (Nat.le_refl _)
          simp only [Option.map_none] at hr
          refine ⟨.slice (some ((⟨L.b, L.d + q, none⟩ : Addr).add (l * j.size))) (y - l) (cap - l), ?_, ⟨L, hL, .inl ⟨cap - l, ?_, ?_, ?_, ?_⟩⟩⟩
          · unfold execOp; rw [ho]
            have hne : ¬ (cap = l) := by omega
            simp [e1, Instr.sliceAt, Instr.slice, underlying, h1, hr, sizeOf, typeInfo, h2, hne]
          · rw [addr_add, Nat.add_assoc]; rfl
          · show q + l * j.size + (cap - l) * j.size = L.s
            rw [← hcap, Nat.add_assoc, ← Nat.add_mul, show l + (cap - l) = cap by omega]
          · show y - l ≤ cap - l; omega
          · omega
      · exact pure h
    · exact trivial
  · exact hk
end
end Go.Ev
set_option linter.unusedVariables false
set_option linter.unusedSimpArgs false
namespace Go.Ev
open Go
noncomputable section
variable {P : Program} {o : Oper}

def kStrBytes (x : Operand) : Kd := .eff fun T S k => onStr (opnd x T) fun n b => okK (Nat.ble n 1000000) (putsK (R.bad 121) (strA n b) 0 (Cs.new (strA n b).len) fun m c => newK S (.cells m c) fun b S => k (.slu b 0 n 1) S)
theorem kStrBytes_ok {src dst e : TypeId} {x : Operand} {u : TypeDesc} (hs : P.underlying src = some u) (hd : P.underlying dst = some (.slice e)) (he : P.underlying e = some (.int .u8)) (ho : o.op = .convert src dst x) : KdOk P o (kStrBytes x) := by
  intro T S k r s h
  obtain ⟨n, b, hc, h⟩ := onStr_inv h
  obtain ⟨hn, h⟩ := okK_inv h
  have hn := Nat.le_of_ble_eq_true hn
  rcases putsK_inv h with h | ⟨c, h, -, hcr, hcd, hcg, -⟩
  · exact (R.bad_ne h.symm).elim
  obtain ⟨h1, h⟩ := newK_inv h
  refine ⟨_, _, h, fun {ι m a w} ra hr => ?_⟩
  have ex := opnd_rep ra x
  rw [hc] at ex
  obtain ⟨z, ex, hz, hb⟩ := ex
  have hl : RL ι (strA n b) (z.data.toList.map fun b => .int .u8 b.toNat) := by
    have := strA_rep (ι := ι) z.data.toList
    rwa [size_list, hz, hb] at this
  have hlen : (strA n b).len = n := by rw [hl.len, List.length_map, size_list, hz]
  have hroom := puts_room hcr hcd
  have hg1 : n ≤ grownCap w z.size 0 e := by
    rw [hz]
    show n ≤ n + _
    omega
  have hg2 : grownCap w z.size 0 e < 9223372036854775808 := by
    rw [hz]
    have := Nat.mod_lt (w.tape w.drawn (.appendCap n 0 e)) (show 0 < 2 ^ 63 - n by omega)
    show n + _ < _
    omega
  have hbs : (Lib.bytesCells w e z).size = grownCap w z.size 0 e := by
    have hzs : z.data.size = z.size := rfl
    simp [Lib.bytesCells, hzs]
    omega
  have hres := hr.reserve h1 (.cells (0 + (strA n b).len) c)
  have hput := hres.make (b := S.n) (hr.fresh _ (Nat.le_refl _)) (fun h' => Nat.lt_irrefl _ (hr.resv _ h')) (Nat.lt_succ_self _) ⟨w.heap.size, 0, grownCap w z.size 0 e⟩ (w' := Lib.bytesWorld w e z)
    (by simp [Lib.bytesWorld, World.freeze]; try rfl) (by simp [Lib.bytesWorld, World.freeze]; try rfl) (by simp [Lib.bytesWorld, World.freeze]; try rfl) (by rw [Lib.bytesWorld_size]; omega) (fun k hk => Lib.bytesWorld_at_old w e z k hk) (Nat.le_refl _) ?_
  · refine ⟨.value (.slice (some ⟨w.heap.size, 0, none⟩) z.size (grownCap w z.size 0 e)), _, _, _, ?_, .inl rfl, ?_, hput⟩
    · unfold execOp; rw [ho]
      have := Lib.run_convert_string_bytes (P := P) w src dst e z hs hd he
      rw [← ex] at this
      simp [this]
    · exact ⟨_, Inj.put_same _ _ _, .inl ⟨grownCap w z.size 0 e, by simp [hz], by simp, hg1, hg2⟩⟩
  · show RO _ (hget S.n (hset S.n (.cells (0 + (strA n b).len) c) S.h)) _ _
    rw [hget_same]
    refine ⟨hroom, by show 0 + (strA n b).len ≤ grownCap w z.size 0 e; omega, _, e, _, Lib.bytesWorld_at_new w e z, .inr rfl, by simpa using hbs, fun i hi => ?_⟩
    obtain ⟨u, k1, k2⟩ := (hl.mono (Inj.le_put (hr.fresh S.n (Nat.le_refl _)) ⟨w.heap.size, 0, grownCap w z.size 0 e⟩)).nth i (by omega)
    refine ⟨u, ?_, ?_⟩
    · simp only [Nat.zero_add]
      have hi2 : i < z.size := by omega
      simp only [Lib.bytesCells]
      rw [Array.getElem?_append_left (by simp; exact hi2), ← Array.getElem?_toList, Array.toList_map]
      exact k1
    · have := hcg i (by omega)
      rw [Nat.zero_add] at this
      rw [this]; exact k2
def kConvG (P : Program) (src dst : TypeId) (x : Operand) : Kd := match P.underlying src, P.underlying dst with
  | some _, some (.slice e) => match P.underlying e with
    | some (.int .u8) => kStrBytes x
    | _ => .no
  | _, _ => kConv P src dst x
theorem kConvG_ok {src dst : TypeId} {x : Operand} (ho : o.op = .convert src dst x) : KdOk P o (kConvG P src dst x) := by
  unfold kConvG
  split
  · rename_i u e h1 h2
    split
    · rename_i h3; exact kStrBytes_ok h1 h2 h3 ho
    · exact trivial
  · exact kConv_ok ho
end
end Go.Ev
set_option linter.unusedVariables false
set_option linter.unusedSimpArgs false
namespace Go.Ev
open Go
noncomputable section
variable {P : Program} {o : Oper}

/-- Values are stored into a slice from its beginning. -/
def intoK (d : AV) (n : Nat) (l : AV) (S : St) (k : St → R) : R := match d with
  | .snil => okK (Nat.beq n 0) (k S)
  | .sl b o m _ => okK (Nat.ble n m) (setK b o l S k)
  | .slu b o m _ => okK (Nat.ble n m) (okK (Nat.ble 1 m) (setK b o l S k))
  | _ => .bad 73
theorem intoK_inv {d : AV} {n : Nat} {l : AV} {S : St} {k : St → R} {r : AV} {s : St} (h : intoK d n l S k = .ok r s) :
    ∃ S', k S' = .ok r s ∧ ∀ {ι : Inj} {u : Value} {vs : List Value} {w : World}, HR ι S w → RV ι d u → RL ι l vs → ∃ base dl c w', u = .slice base dl c ∧ n ≤ dl ∧ (base = none → dl = 0) ∧ HR ι S' w' ∧ Ext ι w ι w' ∧
      (match base with | some a => (storeCells a vs).run P w = .ok () w' | none => w' = w) := by
  unfold intoK at h
  split at h
  · obtain ⟨h1, h⟩ := okK_inv h
    obtain rfl := Nat.eq_of_beq_eq_true h1
    refine ⟨S, by assumption, fun {ι u vs w} hh hu hl => ?_⟩
    have hu : u = _ := hu
    subst hu
    exact ⟨none, 0, 0, w, rfl, Nat.le_refl _, fun _ => rfl, hh, Ext.refl _ _, rfl⟩
  · obtain ⟨h1, h⟩ := okK_inv h
    obtain ⟨S', h, hs⟩ := setK_inv (P := P) h
    refine ⟨S', h, fun {ι u vs w} hh hu hl => ?_⟩
    obtain ⟨L, hL, rfl⟩ := hu
    obtain ⟨w', g1, g2, g3⟩ := hs hh hL hl
    exact ⟨_, _, _, w', rfl, Nat.le_of_ble_eq_true h1, (fun e => by cases e), g2, g3, g1⟩
  · obtain ⟨h1, h⟩ := okK_inv h
    obtain ⟨h2, h⟩ := okK_inv h
    have h2 := Nat.le_of_ble_eq_true h2
    obtain ⟨S', h, hs⟩ := setK_inv (P := P) h
    refine ⟨S', h, fun {ι u vs w} hh hu hl => ?_⟩
    obtain ⟨L, hL, ⟨cap, rfl, -⟩ | ⟨rfl, -⟩⟩ := hu
    · obtain ⟨w', g1, g2, g3⟩ := hs hh hL hl
      exact ⟨_, _, _, w', rfl, Nat.le_of_ble_eq_true h1, (fun e => by cases e), g2, g3, g1⟩
    · omega
  · exact (R.bad_ne h).elim
def kCopy (P : Program) (ts : Array TypeId) (args : Array Operand) : Kd := match args, ts[0]? with
  | ⟨[x, y]⟩, some t => match elA P t with
    | some e => .eff fun T S k => srcK e.size (opnd y T) S.h fun n l => intoK (opnd x T) n l S fun S => k (.int .i64 (.ofNat n)) S
    | none => .no
  | _, _ => .no
theorem kCopy_ok {ts : Array TypeId} {args : Array Operand} (ho : o.op = .call { callee := .builtin .copy, args := args, argTypes := ts }) : KdOk P o (kCopy P ts args) := by
  unfold kCopy
  split
  · rename_i x y t ht
    split
    · rename_i e he
      have ok := elA_ok he
      intro T S k r s h
      obtain ⟨n, l, h, -, hsrc⟩ := srcK_inv (P := P) h
      obtain ⟨S', h, hi⟩ := intoK_inv (P := P) h
      refine ⟨_, S', h, fun {ι m a w} ra hr => ?_⟩
      obtain ⟨h1, vs, h2, h3⟩ := hsrc (opnd_rep ra y) hr
      obtain ⟨base, dl, c, w', e1, e2, e3, e4, e5, e6⟩ := hi hr (opnd_rep ra x) h2
      obtain ⟨cs, hb⟩ := run_builtin (P := P) (a := a) (w := w) ho
      have hmin : Nat.min n dl = n := Nat.min_eq_left e2
      refine ⟨.value (.int .i64 n), w', ι, _, ?_, .inl rfl, rfl, e4, e5⟩
      rw [hb]
      cases base with
      | none =>
        dsimp only at e6
        subst e6
        simp [builtin, Builtin.copy_, ht, run_under ok.under, e1, h1, hmin, ok.sizeOf, h3, goInt]
      | some ad =>
        dsimp only at e6
        simp [builtin, Builtin.copy_, ht, run_under ok.under, e1, h1, hmin, ok.sizeOf, h3, goInt, e6]
    · exact trivial
  · exact trivial
/-- A slice's length, where it is one. -/
def lenS (v : AV) : Option Nat := match v with
  | .snil => some 0
  | .sl _ _ n _ => some n
  | .slu _ _ n _ => some n
  | _ => none
theorem lenS_rv {v : AV} {d : Nat} (h : lenS v = some d) {ι : Inj} {u : Value} (hr : RV ι v u) : ∃ base cap, u = .slice base d cap := by
  unfold lenS at h
  split at h
  · cases h; exact ⟨_, _, hr⟩
  · cases h; obtain ⟨L, -, rfl⟩ := hr; exact ⟨_, _, rfl⟩
  · cases h
    obtain ⟨L, -, ⟨cap, rfl, -⟩ | ⟨rfl, a, rfl⟩⟩ := hr
    · exact ⟨_, _, rfl⟩
    · exact ⟨_, _, rfl⟩
  · cases h
/-- The first ones of a slice. -/
def truncA (v : AV) (d : Nat) : AV := match v with
  | .sl b o n c => .sl b o d c
  | .slu b o n z => .slu b o d z
  | _ => .top
theorem truncA_rv {v : AV} {n d : Nat} (h : lenS v = some n) (hd : d < n) {ι : Inj} {u : Value} (hr : RV ι v u) : ∃ a cap, u = .slice (some a) n cap ∧ RV ι (truncA v d) (.slice (some a) d cap) := by
  unfold lenS at h
  split at h
  · cases h; omega
  · cases h; obtain ⟨L, hL, rfl⟩ := hr; exact ⟨_, _, rfl, L, hL, rfl⟩
  · cases h
    obtain ⟨L, hL, ⟨cap, rfl, h1, h2, h3⟩ | ⟨rfl, a, rfl⟩⟩ := hr
    · exact ⟨_, _, rfl, L, hL, .inl ⟨cap, rfl, h1, by omega, h3⟩⟩
    · omega
  · cases h
def kCopyG (P : Program) (ts : Array TypeId) (args : Array Operand) : Kd := match args, ts[0]?, kCopy P ts args with
  | ⟨[x, y]⟩, some t, .eff F => match elA P t with
    | some e => .eff fun T S k => match lenS (opnd y T), lenS (opnd x T) with
      | some n, some d => match Nat.ble n d with
        | true => F T S k
        | false => srcK e.size (truncA (opnd y T) d) S.h fun m l => okK (Nat.beq m d) (intoK (opnd x T) d l S fun S => k (.int .i64 (.ofNat d)) S)
      | _, _ => F T S k
    | none => .no
  | _, _, z => z
theorem kCopyG_ok {ts : Array TypeId} {args : Array Operand} (ho : o.op = .call { callee := .builtin .copy, args := args, argTypes := ts }) : KdOk P o (kCopyG P ts args) := by
  have hk := kCopy_ok (P := P) ho
  unfold kCopyG
  split
  · rename_i x y t F ht hF
    rw [hF] at hk
    split
    · rename_i e he
      have ok := elA_ok he
      intro T S k r s h
      dsimp only at h
      split at h
      · rename_i n d hn hd
        split at h
        · exact hk h
        · rename_i hle
          have hdn : d < n := by
            rcases Nat.lt_or_ge d n with g | g
            · exact g
            · rw [Nat.ble_eq_true_of_le g] at hle; cases hle
          obtain ⟨m, l, h, -, hsrc⟩ := srcK_inv (P := P) h
          obtain ⟨hm, h⟩ := okK_inv h
          obtain rfl := Nat.eq_of_beq_eq_true hm
          obtain ⟨S', h, hi⟩ := intoK_inv (P := P) h
          refine ⟨_, S', h, fun {ι mm a w} ra hr => ?_⟩
          obtain ⟨ad, cap, ey, hy⟩ := truncA_rv hn hdn (opnd_rep ra y)
          obtain ⟨h1, vs, h2, h3⟩ := hsrc hy hr
          obtain ⟨bx, cx, ex⟩ := lenS_rv hd (opnd_rep ra x)
          obtain ⟨base, dl, c, w', e1, e2, e3, e4, e5, e6⟩ := hi hr (opnd_rep ra x) h2
          rw [ex] at e1
          cases e1
          obtain ⟨cs, hb⟩ := run_builtin (P := P) (a := a) (w := w) ho
          have hmin : Nat.min n m = m := Nat.min_eq_right (Nat.le_of_lt hdn)
          simp only [Builtin.firstCells] at h3
          refine ⟨.value (.int .i64 m), w', ι, _, ?_, .inl rfl, rfl, e4, e5⟩
          rw [hb]
          cases bx with
          | none =>
            dsimp only at e6
            subst e6
            simp [builtin, Builtin.copy_, ht, run_under ok.under, ex, ey, Builtin.lenOf, hmin, ok.sizeOf, Builtin.firstCells, h3, goInt]
          | some ad =>
            dsimp only at e6
            simp [builtin, Builtin.copy_, ht, run_under ok.under, ex, ey, Builtin.lenOf, hmin, ok.sizeOf, Builtin.firstCells, h3, goInt, e6]
      · exact hk h
    · exact trivial
  · exact hk
/-- A slice's length. -/
def slLen (v : AV) (k : Nat → R) : R := match v with
  | .snil => k 0
  | .sl _ _ n _ => k n
  | .slu _ _ n _ => k n
  | _ => .bad 74
def kClear (P : Program) (ts : Array TypeId) (args : Array Operand) : Kd := match args, ts[0]? with
  | ⟨[x]⟩, some t => match elA P t with
    | some e => .eff fun T S k => slLen (opnd x T) fun n => match n with
      | 0 => k (.tup .nl) S
      | n + 1 => intoK (opnd x T) (n + 1) (zerosA e.l (n + 1)) S fun S => k (.tup .nl) S
    | none => .no
  | _, _ => .no
theorem kClear_ok {ts : Array TypeId} {args : Array Operand} (ho : o.op = .call { callee := .builtin .clear, args := args, argTypes := ts }) : KdOk P o (kClear P ts args) := by
  unfold kClear
  split
  · rename_i x t ht
    split
    · rename_i e he
      have ok := elA_ok he
      intro T S k r s h
      dsimp only at h
      have hz : ∀ n ι, RL ι (zerosA e.l n) (Builtin.zeroCells e.z.cells n).toList := fun n ι => by
        unfold Builtin.zeroCells
        rw [ok.len]
        have := (ok.rep ι).zeros ok.len n
        rw [ok.len] at this
        exact this
      have main : ∀ {n : Nat} {c0 : AV → Prop}, (match n with
          | 0 => k (.tup .nl) S
          | n + 1 => intoK (opnd x T) (n + 1) (zerosA e.l (n + 1)) S fun S => k (.tup .nl) S) = .ok r s →
          ((n = 0 ∧ k (.tup .nl) S = .ok r s) ∨ ∃ S', k (.tup .nl) S' = .ok r s ∧ ∀ {ι : Inj} {u : Value} {w : World}, HR ι S w → RV ι (opnd x T) u → ∃ a dl c w', u = .slice (some a) dl c ∧ n ≤ dl ∧ HR ι S' w' ∧ Ext ι w ι w' ∧ (storeCells a (Builtin.zeroCells e.z.cells n).toList).run P w = .ok () w' ∧ n ≠ 0) := by
        intro n c0 h
        cases n with
        | zero => exact .inl ⟨rfl, h⟩
        | succ n =>
          obtain ⟨S', h, hi⟩ := intoK_inv (P := P) h
          refine .inr ⟨S', h, fun {ι u w} hh hu => ?_⟩
          obtain ⟨base, dl, c, w', e1, e2, e3, e4, e5, e6⟩ := hi hh hu (hz (n + 1) ι)
          cases base with
          | none => have := e3 rfl; omega
          | some a => exact ⟨a, dl, c, w', e1, e2, e4, e5, e6, Nat.succ_ne_zero _⟩
      have fin : ∀ {n : Nat}, (∀ {ι : Inj} {u : Value}, RV ι (opnd x T) u → ∃ base c, u = .slice base n c ∧ (base = none → n = 0)) → (match n with
          | 0 => k (.tup .nl) S
          | n + 1 => intoK (opnd x T) (n + 1) (zerosA e.l (n + 1)) S fun S => k (.tup .nl) S) = .ok r s →
          ∃ v S', k v S' = .ok r s ∧ ∀ {ι : Inj} {m : Nat} {a : Act} {w : World}, RA ι m T a → HR ι S w → ∃ nx w' κ u, (execOp a.eval o).run P w = .ok nx w' ∧ (nx = .value u ∨ nx = .skip ∧ u = undef) ∧ RV κ v u ∧ HR κ S' w' ∧ Ext ι w κ w' := by
        intro n hn h
        rcases main (c0 := fun _ => True) h with ⟨rfl, h⟩ | ⟨S', h, hi⟩
        · refine ⟨_, S, h, fun {ι m a w} ra hr => ⟨.value (.tuple #[]), w, ι, _, ?_, .inl rfl, ⟨#[], rfl, rfl⟩, hr, Ext.refl _ _⟩⟩
          obtain ⟨base, c, e1, -⟩ := hn (opnd_rep ra x)
          obtain ⟨cs, hb⟩ := run_builtin (P := P) (a := a) (w := w) ho
          rw [hb]
          cases base <;> simp [builtin, Builtin.clear_, ht, run_under ok.under, e1]
        · refine ⟨_, S', h, fun {ι m a w} ra hr => ?_⟩
          obtain ⟨base, c, e1, -⟩ := hn (opnd_rep ra x)
          obtain ⟨ad, dl, c', w', f1, f2, f3, f4, f5, f6⟩ := hi hr (opnd_rep ra x)
          rw [e1] at f1
          cases f1
          refine ⟨.value (.tuple #[]), w', ι, _, ?_, .inl rfl, ⟨#[], rfl, rfl⟩, f3, f4⟩
          obtain ⟨cs, hb⟩ := run_builtin (P := P) (a := a) (w := w) ho
          rw [hb]
          cases n with
          | zero => exact absurd rfl f6
          | succ n => simp [builtin, Builtin.clear_, ht, run_under ok.under, e1, ok.zero, f5]
      generalize hc : opnd x T = v at h fin
      unfold slLen at h
      split at h
      · exact fin (n := 0) (fun {ι u} hu => ⟨none, 0, hu, fun _ => rfl⟩) h
      · exact fin (fun {ι u} hu => by obtain ⟨L, -, rfl⟩ := hu; exact ⟨_, _, rfl, fun e => by cases e⟩) h
      · exact fin (fun {ι u} hu => by
          obtain ⟨L, -, ⟨cap, rfl, -⟩ | ⟨rfl, ad, rfl⟩⟩ := hu
          · exact ⟨_, _, rfl, fun e => by cases e⟩
          · exact ⟨_, _, rfl, fun e => by cases e⟩) h
      · exact (R.bad_ne h).elim
    · exact trivial
  · exact trivial
/-! ### Calls -/
def kCall (c : Call) : Kd := match c.callee with
  | .value f => .call fun T k => onFn (opnd f T) fun g first cap => k g (first.app ((opndL c.args.toList T).app cap))
  | _ => .no
theorem kCall_ok {c : Call} (ho : o.op = .call c) : KdOk P o (kCall c) := by
  unfold kCall
  split
  · rename_i f hf
    intro T k r s h
    obtain ⟨g, p, q, hc, h⟩ := onFn_inv h
    refine ⟨g, _, h, fun {ι m a w} ra => ?_⟩
    have e1 := opnd_rep ra f; rw [hc] at e1; obtain ⟨p', q', e1, e2, e3⟩ := e1
    refine ⟨p'.toList ++ (c.args.toList.map a.eval ++ q'.toList), e2.app ((opndL_rep ra _).app e3), fun fn h1 h2 h3 => ?_⟩
    have hcf : ∀ args, (callFunc g args).run P w = .ok (.enter g args) w := fun args => by
      simp only [callFunc, Sem.run_bind, run_program, Result.andThen_ok, h1, h2, h3, Bool.false_eq_true, if_false]
      rfl
    unfold execOp; rw [ho]
    simp only [resolve, hf, e1, Deferred.ofValue, Sem.run_bind, Sem.run_pure, Result.andThen_ok, invoke, hcf]
    congr 2
    apply Array.ext'
    simp
  · exact trivial
/-- All operations. -/
def kd (P : Program) (op : Op) : Kd := match op with
  | .move x => kMove x
  | .assign x => kMove x
  | .pick c a b => kPick c a b
  | .alloc t => kAlloc P t
  | .box _ x => kBox x
  | .build t ps => kBuild P t ps
  | .buildSlice t n ps => kBuildSlice P t n ps
  | .insert t m k x => kMapPut P t m k x
  | .mapUpdate t m k x => kMapPut P t m k x
  | .load t a => kLoad P t a
  | .store t a x => kStore P t a x
  | .nilCheck x => kNil x
  | .binOp op t x y _ => match P.underlying t with
    | some (.int _) => match op with
      | .shl => kShift true x y
      | .shr => kShift false x y
      | op => match binI op with
        | some f => match op with
          | .sub => kIntG .sub f x y
          | .leq => kIntG .leq f x y
          | _ => kInt f x y
        | none => .no
    | some .string => match op with
      | .eql => kStrEq false x y
      | .neq => kStrEq true x y
      | .add => kStrAdd x y
      | _ => .no
    | some (.struct _) => match op with
      | .eql => kEqS P false t x y
      | .neq => kEqS P true t x y
      | _ => .no
    | some d => match op with
      | .eql => kEqI false d x y
      | .neq => kEqI true d x y
      | _ => .no
    | none => .no
  | .unOp .not _ x => kNot x
  | .unOp .neg _ x => kNeg x
  | .convert s d x => kConvG P s d x
  | .makeInterface t x => kIface P t x
  | .makeFunc f a b => kFunc f a b
  | .makeMap t r => kMakeMap t r
  | .makeSlice t l c => kMakeSlice P t l c
  | .slice t x lo hi mx => kSliceG P t x lo hi mx
  | .fieldAddr t x i => kFieldAddr P t x i
  | .field t x i => kField P t x i
  | .indexAddr t x i => kIndexAddr P t x i
  | .index t x i => kIndexA P t x i
  | .lookup t x k ok => kLookup P t x k ok
  | .extract t i => kExtract t i
  | .call ⟨.builtin .len, args, ts⟩ => kLen P ts args
  | .call ⟨.builtin .cap, args, ts⟩ => kCapG P ts args
  | .call ⟨.builtin .min, args, ts⟩ => kMinMax false args
  | .call ⟨.builtin .max, args, ts⟩ => kMinMax true args
  | .call ⟨.builtin .append, args, ts⟩ => kAppendZ P ts args
  | .call ⟨.builtin .copy, args, ts⟩ => kCopyG P ts args
  | .call ⟨.builtin .clear, args, ts⟩ => kClear P ts args
  | .call c => kCall c
  | _ => .no
theorem kd_ok : KdOk P o (kd P o.op) := by
  generalize he : o.op = op
  unfold kd
  split
  · exact kMove_ok (.inl he)
  · exact kMove_ok (.inr he)
  · exact kPick_ok he
  · exact kAlloc_ok he
  · exact kBox_ok he
  · exact kBuild_ok he
  · exact kBuildSlice_ok he
  · exact kMapPut_ok (.inr he)
  · exact kMapPut_ok (.inl he)
  · exact kLoad_ok he
  · exact kStore_ok he
  · exact kNil_ok he
  · split
    · split
      · exact kShift_ok (left := true) he
      · exact kShift_ok (left := false) he
      · split
        · rename_i f hf
          split
          · exact kIntG_ok hf he
          · exact kIntG_ok hf he
          · exact kInt_ok hf he
        · exact trivial
    · split
      · exact kStrEq_ok (neg := false) he
      · exact kStrEq_ok (neg := true) he
      · exact kStrAdd_ok he
      · exact trivial
    · split
      · exact kEqS_ok (neg := false) he
      · exact kEqS_ok (neg := true) he
      · exact trivial
    · rename_i d hd1 hd2 hd3 hd
      split
      · exact kEqI_ok (neg := false) hd he
      · exact kEqI_ok (neg := true) hd he
      · exact trivial
    · exact trivial
  · exact kNot_ok he
  · exact kNeg_ok he
  · exact kConvG_ok he
  · exact kIface_ok he
  · exact kFunc_ok he
  · exact kMakeMap_ok he
  · exact kMakeSlice_ok he
  · exact kSliceG_ok he
  · exact kFieldAddr_ok he
  · exact kField_ok he
  · exact kIndexAddr_ok he
  · exact kIndexA_ok he
  · exact kLookup_ok he
  · exact kExtract_ok he
  · exact kLen_ok he
  · exact kCapG_ok he
  · exact kMinMax_ok (mx := false) he
  · exact kMinMax_ok (mx := true) he
  · exact kAppendZ_ok he
  · exact kCopyG_ok he
  · exact kClear_ok he
  · exact kCall_ok he
  · exact trivial
end
end Go.Ev
set_option linter.unusedVariables false
set_option linter.unusedSimpArgs false
namespace Go.Ev
open Go
noncomputable section
variable {P : Program}

/-! ### What is run -/
inductive Job where
  | code (c : Code)
  | loop (b : Code)
  | scope (cur body : Code)
  | ops (l : Array Oper) (i n : Nat)
abbrev Ev := Job → Nat → T → St → KN → KX → R
/-- A call that is known: what it is asked, what it answers. -/
abbrev Memo := Nat → AV → St → Option (AV × St)

def putK (m : Nat) (d : Option Nat) (v : AV) (T : T) (k : Ev.T → R) : R := Option.rec (motive := fun _ => R) (k T) (fun d => okK (Nat.ble (Nat.succ d) m) (tsetK d v T k)) d
theorem putK_inv {m : Nat} {d : Option Nat} {v : AV} {T : T} {k : Ev.T → R} {r : AV} {s : St} (h : putK m d v T k = .ok r s) :
    ∃ T', k T' = .ok r s ∧ ∀ {ι : Inj} {a : Act} {u : Value}, RA ι m T a → RV ι v u → RA ι m T' (a.put d u) := by
  cases d with
  | none => exact ⟨T, h, fun {ι a u} ra _ => ra⟩
  | some d =>
    obtain ⟨h1, h⟩ := okK_inv h
    rw [tsetK_eq] at h
    exact ⟨_, h, fun {ι a u} ra hv => ra.put (Nat.le_of_ble_eq_true h1) hv⟩
theorem putK_lt {m d : Nat} {v : AV} {T : T} {k : Ev.T → R} {r : AV} {s : St} (h : putK m (some d) v T k = .ok r s) : d < m := by
  obtain ⟨h1, -⟩ := okK_inv h
  exact Nat.le_of_ble_eq_true h1
theorem put_defers' (a : Act) (d : Option Nat) (u : Value) : (a.put d u).defers = a.defers := by cases d <;> rfl
/-- Whether a guarded operation is wanted. -/
def wantK (ops : Array Oper) (g : Nat × Bool) (T : T) (no yes : R) : R := match ops[g.1]? with
  | some p => match p.dst with
    | some d => match tgetS d T with
      | .bool b => Bool.rec (motive := fun _ => R) no yes (b == g.2)
      | .tup _ => no
      | .int _ _ => no
      | _ => .bad 90
    | none => no
  | none => no
theorem wantK_inv {ops : Array Oper} {g : Nat × Bool} {T : T} {no yes : R} {r : AV} {s : St} (h : wantK ops g T no yes = .ok r s) :
    ∃ b, (if b then yes else no) = .ok r s ∧ ∀ {ι : Inj} {m : Nat} {a : Act}, RA ι m T a → (yielded ops a.tmps g.1 == some g.2) = b := by
  unfold wantK at h
  split at h
  · rename_i p hp
    split at h
    · rename_i d hd
      have hy : ∀ {a : Act}, yielded ops a.tmps g.1 = match a.tmps[d]? with | some (.bool b) => some b | _ => none := fun {a} => by
        unfold yielded; simp [hp, hd]; rfl
      split at h
      · rename_i b hb
        refine ⟨b == g.2, ?_, fun {ι m a} ra => ?_⟩
        · cases hbg : (b == g.2) <;> rw [hbg] at h <;> exact h
        · have := ra.tmp d
          rw [hb] at this
          have this : a.tmps.getD d undef = .bool b := this
          have h2 : a.tmps[d]? = some (.bool b) := by
            cases he : a.tmps[d]? with
            | none => simp [he, undef] at this
            | some v => simp [he] at this; rw [this]
          rw [hy, h2]; rfl
      · rename_i l hb
        refine ⟨false, h, fun {ι m a} ra => ?_⟩
        have := ra.tmp d
        rw [hb] at this
        obtain ⟨z, this, -⟩ := this
        rw [hy]
        cases he : a.tmps[d]? with
        | none => rfl
        | some v => simp [he] at this; rw [this]; rfl
      · rename_i kd n hb
        refine ⟨false, h, fun {ι m a} ra => ?_⟩
        have := ra.tmp d
        rw [hb] at this
        have this : a.tmps.getD d undef = .int kd n := this
        rw [hy]
        cases he : a.tmps[d]? with
        | none => rfl
        | some v => simp [he] at this; rw [this]; rfl
      · exact (R.bad_ne h).elim
    · rename_i hd
      refine ⟨false, h, fun {ι m a} ra => ?_⟩
      unfold yielded; simp [hp, hd]
  · rename_i hp
    refine ⟨false, h, fun {ι m a} ra => ?_⟩
    unfold yielded; simp [hp]
def guardK (ops : Array Oper) (g : Option (Nat × Bool)) (T : T) (no yes : R) : R := Option.rec (motive := fun _ => R) yes (fun g => wantK ops g T no yes) g
theorem guardK_inv {ops : Array Oper} {o : Oper} {T : T} {no yes : R} {r : AV} {s : St} (h : guardK ops o.guard T no yes = .ok r s) :
    ∃ b, (if b then yes else no) = .ok r s ∧ ∀ {ι : Inj} {m : Nat} {a : Act}, RA ι m T a → Region.wanted o (yielded ops a.tmps) = b := by
  unfold Region.wanted
  cases hg : o.guard with
  | none => rw [hg] at h; exact ⟨true, h, fun {ι m a} ra => rfl⟩
  | some g =>
    rw [hg] at h
    obtain ⟨b, h1, h2⟩ := wantK_inv (show wantK ops g T no yes = .ok r s from h)
    exact ⟨b, h1, fun {ι m a} ra => h2 ra⟩

/-! ### Calls -/
def argsK (l : AV) : Nat → T → (T → R) → R := AV.rec (motive := fun _ => Nat → T → (T → R) → R) (fun _ _ _ => .bad 91) (fun _ _ _ _ => .bad 91) (fun _ _ _ _ _ => .bad 91) (fun _ _ _ _ _ => .bad 91) (fun _ _ _ => .bad 91) (fun _ _ _ _ _ => .bad 91) (fun _ _ _ => .bad 91) (fun _ _ _ _ _ _ _ => .bad 91) (fun _ _ _ _ _ _ _ => .bad 91) (fun _ _ _ => .bad 91) (fun _ _ _ _ => .bad 91) (fun _ _ _ _ _ _ _ _ => .bad 91) (fun _ _ _ => .bad 91) (fun _ _ _ => .bad 91) (fun _ _ _ _ _ _ => .bad 91) (fun _ _ _ _ _ => .bad 91) (fun _ _ _ _ _ => .bad 91) (fun _ _ _ _ => .bad 91) (fun i T k => k T) (fun h t _ ih i T k => okK (Nat.ble i 255) (tsetK i h T fun T => ih (Nat.succ i) T k)) l
theorem argsK_inv : ∀ {l : AV} {i : Nat} {T : T} {k : Ev.T → R} {r : AV} {s : St}, argsK l i T k = .ok r s →
    ∃ T', k T' = .ok r s ∧ l.isL = true ∧ ∀ t, t < 256 → tget t T' = if i ≤ t ∧ t < i + l.len then l.nth (t - i) else tget t T
  | .nl, i, T, k, r, s, h => ⟨T, h, rfl, fun t _ => by rw [if_neg (by show ¬ (i ≤ t ∧ t < i + 0); omega)]⟩
  | .cons a l, i, T, k, r, s, h => by
    change okK (Nat.ble i 255) (tsetK i a T fun T => argsK l (Nat.succ i) T k) = _ at h
    obtain ⟨h1, h⟩ := okK_inv h
    have h1 := Nat.le_of_ble_eq_true h1
    rw [tsetK_eq] at h
    obtain ⟨T', h, hl, hT⟩ := argsK_inv h
    refine ⟨T', h, hl, fun t ht => ?_⟩
    rw [hT t ht]
    show _ = if i ≤ t ∧ t < i + (l.len + 1) then _ else _
    by_cases e : t = i
    · subst e
      rw [if_neg (by omega), if_pos (by omega), tget_same, Nat.sub_self]; rfl
    · by_cases g : i + 1 ≤ t ∧ t < i + 1 + l.len
      · rw [if_pos (by omega), if_pos (by omega), show t - i = (t - Nat.succ i) + 1 by omega]; rfl
      · rw [if_neg (by omega), if_neg (by omega), tget_other (by omega) ht (fun h => e h.symm)]
  | .top, _, _, _, _, _, h => (R.bad_ne h).elim
  | .bool _, _, _, _, _, _, h => (R.bad_ne h).elim
  | .int _ _, _, _, _, _, _, h => (R.bad_ne h).elim
  | .str _ _, _, _, _, _, _, h => (R.bad_ne h).elim
  | .pnil, _, _, _, _, _, h => (R.bad_ne h).elim
  | .ptr _ _, _, _, _, _, _, h => (R.bad_ne h).elim
  | .snil, _, _, _, _, _, h => (R.bad_ne h).elim
  | .sl _ _ _ _, _, _, _, _, _, h => (R.bad_ne h).elim
  | .slu _ _ _ _, _, _, _, _, _, h => (R.bad_ne h).elim
  | .mnil, _, _, _, _, _, h => (R.bad_ne h).elim
  | .map _, _, _, _, _, _, h => (R.bad_ne h).elim
  | .fn _ _ _, _, _, _, _, _, h => (R.bad_ne h).elim
  | .fnil, _, _, _, _, _, h => (R.bad_ne h).elim
  | .inil, _, _, _, _, _, h => (R.bad_ne h).elim
  | .iface _ _, _, _, _, _, _, h => (R.bad_ne h).elim
  | .agg _, _, _, _, _, _, h => (R.bad_ne h).elim
  | .tup _, _, _, _, _, _, h => (R.bad_ne h).elim
  | .ge _, _, _, _, _, _, h => (R.bad_ne h).elim
/-- A function's results. -/
def resK (P : Program) (T : T) (S : St) : List ResultVar → (AV → R) → R
  | [], k => k .nl
  | .tmp t :: l, k => resK P T S l fun r => k (.cons (tgetS t T) r)
  | .cell a t :: l, k => match loadA P t with
    | some f => f (tgetS a T) S.h fun v => resK P T S l fun r => k (.cons v r)
    | none => .bad 92
def resF (a : Act) : ResultVar → Sem Value
  | .tmp t => pure (a.tmps.getD t undef)
  | .cell x t => do loadVar t (← asAddr (a.tmps.getD x undef))
theorem results_eq (fn : Func) (a : Act) : results fn a.tmps = (do
    let vs ← fn.results.mapM (resF a)
    pure (if h : vs.size = 1 then vs[0] else .tuple vs)) := by
  unfold results
  have : (fun x : ResultVar => (match x with
    | .tmp t => pure (a.tmps.getD t undef)
    | .cell x t => do loadVar t (← asAddr (a.tmps.getD x undef)) : Sem Value)) = resF a := by
    funext x; cases x <;> rfl
  rw [← this]
  rfl
theorem resK_inv {T : T} {S : St} : ∀ {l : List ResultVar} {k : AV → R} {r : AV} {s : St}, resK P T S l k = .ok r s →
    ∃ v, k v = .ok r s ∧ ∀ {ι : Inj} {m : Nat} {a : Act} {w : World}, RA ι m T a → HR ι S w → ∃ vs : List Value, RL ι v vs ∧
      (l.mapM (resF a)).run P w = .ok vs w
  | [], k, r, s, h => ⟨_, h, fun {ι m a w} _ _ => ⟨[], rfl, rfl⟩⟩
  | .tmp t :: l, k, r, s, h => by
    have h : resK P T S l (fun r => k (.cons (tgetS t T) r)) = .ok r s := h
    obtain ⟨v, h, hv⟩ := resK_inv h
    refine ⟨_, h, fun {ι m a w} ra hr => ?_⟩
    obtain ⟨vs, h1, h2⟩ := hv ra hr
    refine ⟨_ :: vs, ⟨_, _, rfl, ra.tmp t, h1⟩, ?_⟩
    have h3 : (resF a (.tmp t)).run P w = .ok (a.tmps.getD t undef) w := rfl
    rw [List.mapM_cons]
    simp only [Sem.run_bind, Sem.run_pure, Result.andThen_ok, h2, h3]
  | .cell x t :: l, k, r, s, h => by
    unfold resK at h
    split at h
    · rename_i f hf
      obtain ⟨v0, h, hv0⟩ := loadA_ok hf h
      obtain ⟨v, h, hv⟩ := resK_inv h
      refine ⟨_, h, fun {ι m a w} ra hr => ?_⟩
      obtain ⟨vs, h1, h2⟩ := hv ra hr
      obtain ⟨p, z, e, g1, g2⟩ := hv0 (ra.tmp x) (n := S.n) hr
      refine ⟨z :: vs, ⟨_, _, rfl, g2, h1⟩, ?_⟩
      have h3 : (resF a (.cell x t)).run P w = .ok z w := by
        unfold resF
        dsimp only
        rw [e]
        exact g1
      rw [List.mapM_cons]
      simp only [Sem.run_bind, Sem.run_pure, Result.andThen_ok, h2, h3]
    · exact (R.bad_ne h).elim
def retV (v : AV) (k : AV → R) : R := match v with
  | .cons x .nl => k x
  | v => k (.tup v)
def retK (P : Program) (fn : Func) (T : T) (S : St) (k : AV → R) : R := resK P T S fn.results.toList fun v => retV v k
theorem retK_inv {fn : Func} {T : T} {S : St} {k : AV → R} {r : AV} {s : St} (h : retK P fn T S k = .ok r s) :
    ∃ v, k v = .ok r s ∧ ∀ {ι : Inj} {m : Nat} {a : Act} {w : World}, RA ι m T a → HR ι S w → ∃ u, (results fn a.tmps).run P w = .ok u w ∧ RV ι v u := by
  obtain ⟨l, h, hl⟩ := resK_inv h
  have hres : ∀ {a : Act} {w : World} {vs : List Value}, (fn.results.toList.mapM (resF a)).run P w = .ok vs w →
      (results fn a.tmps).run P w = .ok (if h : vs.toArray.size = 1 then vs.toArray[0] else .tuple vs.toArray) w := by
    intro a w vs h
    rw [results_eq, Array.mapM_eq_mapM_toList]
    simp only [Sem.run_bind, Sem.run_map, h, Result.andThen_ok, Sem.run_pure]
  unfold retV at h
  split at h
  · rename_i x
    refine ⟨x, h, fun {ι m a w} ra hr => ?_⟩
    obtain ⟨vs, h1, h2⟩ := hl ra hr
    obtain ⟨u, q, rfl, h3, h4⟩ := h1
    have h4 : q = [] := h4
    subst h4
    exact ⟨u, by rw [hres h2]; rfl, h3⟩
  · rename_i hx
    refine ⟨_, h, fun {ι m a w} ra hr => ?_⟩
    obtain ⟨vs, h1, h2⟩ := hl ra hr
    refine ⟨.tuple vs.toArray, ?_, ⟨vs.toArray, rfl, h1⟩⟩
    rw [hres h2, dif_neg]
    intro e
    have hlen : vs.length = 1 := by simpa using e
    match l, vs, h1, hlen with
    | .cons x .nl, [u], _, _ => exact hx x rfl
    | .cons x (.cons y t), [u], ⟨_, _, e, _, ⟨_, _, e2, _⟩⟩, _ => cases e; cases e2
    | .nl, [u], e, _ => cases e
def goodFn (fn : Func) : Bool := match fn.name == "runtime.NumGoroutine", fn.body, Nat.ble fn.ntmps 256 with
  | false, some _, true => true
  | _, _, _ => false
def bodyK (P : Program) (ev : Ev) (fn : Func) (c : Code) (args : AV) (S : St) (k : K) : R := argsK args 0 emT fun T =>
  ev (.code c) fn.ntmps T S (fun T S => retK P fn T S fun v => k v S) (fun e T S => match e with
    | .rt => retK P fn T S fun v => k v S
    | _ => .bad 93)
/-- What a call comes to. -/
def CallSays (P : Program) (g : Nat) (args : AV) (S : St) (v : AV) (S' : St) : Prop := (∃ fn, P.funcs[g]? = some fn ∧ goodFn fn = true) ∧ ∀ {ι : Inj} {vs : List Value} {w : World}, RL ι args vs → HR ι S w →
  Calls P g vs.toArray w fun e w' => ∃ u κ, e = .returned u ∧ RV κ v u ∧ HR κ S' w' ∧ Ext ι w κ w'
def MemoOk (P : Program) (M : Memo) : Prop := ∀ g args S v S', M g args S = some (v, S') → CallSays P g args S v S'

/-! ### Where a piece of code leads -/
def Post (ι : Inj) (w : World) (m : Nat) (dfs : List Deferred) (e : Exit) (T : T) (S : St) : Exit → Act → World → Prop := fun e' a w' =>
  e' = e ∧ ∃ κ, RA κ m T a ∧ HR κ S w' ∧ Ext ι w κ w' ∧ a.defers = dfs
def exitOf : Ex → Exit
  | .ex id => .exit id
  | .gt l => .goto l
  | .rt => .ret
/-- The jumps within a scope. -/
def hops (P : Program) (body : Code) (Q : Exit → Act → World → Prop) : Nat → Code → Act → World → Prop
  | 0, _, _, _ => False
  | n + 1, cur, a, w => cur.wp P (fun e a w => match e with
    | .goto l => match findLabel body l with
      | some rest => hops P body Q n rest a w
      | none => Q (.goto l) a w
    | e => Q e a w) a w
theorem wp_scope_hops {body : Code} {Q : Exit → Act → World → Prop} {a : Act} {w : World} (n : Nat) (h : hops P body Q n body a w) : (Code.scope body).wp P Q a w := by
  intro b k cs
  have key : ∀ n cur a w, hops P body Q n cur a w → ∃ e a' w', Q e a' w' ∧ Arrives P (lone (b.at a (.code cur :: .inScope body :: k)) cs w) b k cs e a' w' := by
    intro n
    induction n with
    | zero => intro cur a w h; exact h.elim
    | succ n ih =>
      intro cur a w h
      obtain ⟨e, a₁, w₁, hq, harr⟩ := h b (.inScope body :: k) cs
      cases e with
      | normal => exact ⟨.normal, a₁, w₁, hq, Steps.trans harr (.one step_inScope)⟩
      | exit id => exact ⟨.exit id, a₁, w₁, hq, fun k' hk => harr k' (by simp [exitTo, hk])⟩
      | goto l =>
        dsimp only at hq
        split at hq
        · rename_i rest hr
          obtain ⟨e₂, a₂, w₂, hq₂, harr₂⟩ := ih rest a₁ w₁ hq
          exact ⟨e₂, a₂, w₂, hq₂, .of_steps (harr _ (by simp [gotoIn, hr])) harr₂⟩
        · rename_i hr
          exact ⟨.goto l, a₁, w₁, hq, fun k' hk => harr k' (by simp [gotoIn, hr, hk])⟩
      | ret => exact ⟨_, a₁, w₁, hq, harr⟩
      | panic ch => exact ⟨_, a₁, w₁, hq, harr⟩
      | outgrown => exact ⟨_, a₁, w₁, hq, harr⟩
  obtain ⟨e, a', w', hq, harr⟩ := key n body a w h
  exact ⟨e, a', w', hq, .of_steps (.one step_scope) harr⟩
theorem hops_mono {body : Code} {Q Q' : Exit → Act → World → Prop} (hq : ∀ e a w, Q e a w → Q' e a w) : ∀ {n : Nat} {cur : Code} {a : Act} {w : World}, hops P body Q n cur a w → hops P body Q' n cur a w
  | 0, _, _, _, h => h.elim
  | n + 1, cur, a, w, h => wp_mono h fun e a w h => by
    cases e <;> first | exact hq _ _ _ h | skip
    dsimp only at h ⊢
    split at h
    · exact hops_mono hq h
    · exact hq _ _ _ h
theorem rounds_mono {c : Code} {Q Q' : Exit → Act → World → Prop} (hq : ∀ e a w, Q e a w → Q' e a w) : ∀ {n : Nat} {a : Act} {w : World}, Code.rounds P c Q n a w → Code.rounds P c Q' n a w
  | 0, _, _, h => h.elim
  | n + 1, a, w, h => wp_mono h fun e a w h => by
    cases e <;> first | exact hq _ _ _ h | exact rounds_mono hq h
/-- What a job comes to. -/
def Says (P : Program) (j : Job) (m : Nat) (T : T) (S : St) (e : Exit) (T' : Ev.T) (S' : St) : Prop := match j with
  | .code c => ∀ {ι : Inj} {a : Act} {w : World}, RA ι m T a → HR ι S w → c.wp P (Post ι w m a.defers e T' S') a w
  | .loop b => ∃ n, ∀ {ι : Inj} {a : Act} {w : World}, RA ι m T a → HR ι S w → Code.rounds P b (Post ι w m a.defers e T' S') n a w
  | .scope cur body => ∃ n, ∀ {ι : Inj} {a : Act} {w : World}, RA ι m T a → HR ι S w → hops P body (Post ι w m a.defers e T' S') n cur a w
  | .ops l i n => ∀ {ι : Inj} {a : Act} {w : World}, RA ι m T a → HR ι S w → wpOps P l (Post ι w m a.defers e T' S') (List.range' i n) a w
def EvOk (P : Program) (ev : Ev) : Prop := ∀ {j : Job} {m : Nat} {T : T} {S : St} {kn : KN} {kx : KX} {r : AV} {s : St}, ev j m T S kn kx = .ok r s →
  (∃ T' S', kn T' S' = .ok r s ∧ Says P j m T S .normal T' S') ∨ ∃ x T' S', kx x T' S' = .ok r s ∧ Says P j m T S (exitOf x) T' S'
theorem bodyK_inv {ev : Ev} (hev : EvOk P ev) {g : Nat} {fn : Func} (hf : P.funcs[g]? = some fn) (hg : goodFn fn = true) {c : Code} (hc : fn.body = some c) {args : AV} {S : St} {k : K} {r : AV} {s : St} (h : bodyK P ev fn c args S k = .ok r s) :
    ∃ v S', k v S' = .ok r s ∧ CallSays P g args S v S' := by
  obtain ⟨T, h, hl, hT⟩ := argsK_inv h
  have hm : fn.ntmps ≤ 256 := by
    unfold goodFn at hg
    split at hg
    · rename_i h; exact Nat.le_of_ble_eq_true h
    · cases hg
  have start : ∀ {ι : Inj} {vs : List Value}, RL ι args vs → RA ι fn.ntmps T { tmps := vs.toArray ++ Array.replicate (fn.ntmps - vs.toArray.size) undef, defers := [] } := by
    intro ι vs hvs
    refine ⟨by simp; omega, hm, fun t ht => ?_⟩
    rw [hT t ht]
    have hlen := hvs.len
    by_cases e : 0 ≤ t ∧ t < 0 + args.len
    · rw [if_pos e, Nat.sub_zero]
      obtain ⟨u, h1, h2⟩ := hvs.nth t (by omega)
      have : (vs.toArray ++ Array.replicate (fn.ntmps - vs.toArray.size) undef).getD t undef = u := by
        rw [Array.getD_eq_getD_getElem?, Array.getElem?_append_left (by simp; omega)]
        simp [h1]
      rw [this]; exact h2
    · rw [if_neg e, tget_em]; exact trivial
  have fin : ∀ {e : Exit} {T' : Ev.T} {S' : St}, (e = .normal ∨ e = .ret) → retK P fn T' S' (fun v => k v S') = .ok r s → Says P (.code c) fn.ntmps T S e T' S' → ∃ v S', k v S' = .ok r s ∧ CallSays P g args S v S' := by
    intro e T' S' he hr hs
    obtain ⟨v, h, hv⟩ := retK_inv hr
    refine ⟨v, S', h, ⟨fn, hf, hg⟩, fun {ι vs w} hvs hh => ?_⟩
    refine calls_of_wp hf hc (wp_mono (hs (start hvs) hh) ?_)
    rintro e' a' w' ⟨rfl, κ, ra, hr', hx, hd⟩
    obtain ⟨u, h1, h2⟩ := hv ra hr'
    rcases he with rfl | rfl
    · exact ⟨hd, u, h1, u, κ, rfl, h2, hr', hx⟩
    · exact ⟨hd, u, h1, u, κ, rfl, h2, hr', hx⟩
  rcases hev h with ⟨T', S', h, hs⟩ | ⟨x, T', S', h, hs⟩
  · exact fin (.inl rfl) h hs
  · cases x with
    | rt => exact fin (.inr rfl) h hs
    | ex => exact (R.bad_ne h).elim
    | gt => exact (R.bad_ne h).elim
/-! ### A call that is put off, and finds nothing to recover -/
def isRec (o : Oper) : Bool := match o.op, o.guard with
  | .call c, none => match c.callee with
    | .builtin .recover => true
    | _ => false
  | _, _ => false
/-- What comes behind the operations of which it is known that they go on. -/
theorem wpOpsS_of {ops : Array Oper} {Q0 : Exit → Act → World → Prop} {Q : Exit → Act → List Frame → World → Prop} {cs : List Frame} (hn : ∀ e a w, Q0 e a w → e = .normal) (hq : ∀ a w, Q0 .normal a w → Q .normal a cs w) :
    ∀ {l : List Nat} {a : Act} {w : World}, wpOps P ops Q0 l a w → wpOpsS P ops Q l a cs w
  | [], a, w, h => hq _ _ h
  | i :: l, a, w, h => by
    simp only [wpOps] at h
    simp only [wpOpsS]
    cases ho : ops[i]? with
    | none => simp only [ho] at h ⊢; exact wpOpsS_of hn hq h
    | some o =>
      simp only [ho] at h ⊢
      split
      · rename_i hw
        rw [if_pos hw] at h
        have h : o.wp P a w (wpOps P ops Q0 l) Q0 := h.resolve_right fun hh => by
          obtain ⟨_, a', w', h2⟩ := hh
          cases hn _ _ _ h2
        unfold Oper.wp at h
        generalize (execOp a.eval o).run P w = r at h ⊢
        cases r with
        | ok n w' =>
          cases n <;> simp only [Oper.upon] at h ⊢ <;> first
            | exact wpOpsS_of hn hq h
            | exact h.elim
            | exact Rows.mono h fun v w hv => wpOpsS_of hn hq hv
            | exact Calls.mono h fun e w he => by
                cases e with
                | returned v => exact wpOpsS_of hn hq he
                | panicked c => cases hn _ _ _ he
                | outgrown => obtain ⟨a', w', h2⟩ := he; cases hn _ _ _ h2
        | halt x w' =>
          cases x <;> simp only [Oper.upon] at h ⊢ <;> first
            | exact h.elim
            | cases hn _ _ _ h
      · rename_i hw
        rw [if_neg hw] at h
        exact wpOpsS_of hn hq h
theorem wpOps_then {ops : Array Oper} {Q0 Q : Exit → Act → World → Prop} {l2 : List Nat} (hn : ∀ e a w, Q0 e a w → e = .normal) (hq : ∀ a w, Q0 .normal a w → wpOps P ops Q l2 a w) :
    ∀ {l : List Nat} {a : Act} {w : World}, wpOps P ops Q0 l a w → wpOps P ops Q (l ++ l2) a w
  | [], a, w, h => hq _ _ h
  | i :: l, a, w, h => by
    rw [List.cons_append]
    simp only [wpOps] at h ⊢
    cases ho : ops[i]? with
    | none => simp only [ho] at h ⊢; exact wpOps_then hn hq h
    | some o =>
      simp only [ho] at h ⊢
      split
      · rename_i hw
        rw [if_pos hw] at h
        have h : o.wp P a w (wpOps P ops Q0 l) Q0 := h.resolve_right fun hh => by
          obtain ⟨_, a', w', h2⟩ := hh
          cases hn _ _ _ h2
        refine .inl ?_
        unfold Oper.wp at h ⊢
        generalize (execOp a.eval o).run P w = r at h ⊢
        cases r with
        | ok n w' =>
          cases n <;> simp only [Oper.upon] at h ⊢ <;> first
            | exact wpOps_then hn hq h
            | exact h.elim
            | exact Rows.mono h fun v w hv => wpOps_then hn hq hv
            | exact Calls.mono h fun e w he => by
                cases e with
                | returned v => exact wpOps_then hn hq he
                | panicked c => cases hn _ _ _ he
                | outgrown => obtain ⟨a', w', h2⟩ := he; cases hn _ _ _ h2
        | halt x w' =>
          cases x <;> simp only [Oper.upon] at h ⊢ <;> first
            | exact h.elim
            | cases hn _ _ _ h
      · rename_i hw
        rw [if_neg hw] at h
        exact wpOps_then hn hq h
def closeK (P : Program) (ev : Ev) (g : Nat) (l : AV) (S : St) (k : St → R) : R := match P.funcs[g]? with
  | some fn => okK (goodFn fn) (match fn.body with
    | some (.seq (.region _ ops false) rest) => match ops[0]? with
      | some o => match o.dst with
        | some d => okK (isRec o) (argsK l 0 emT fun T => putK fn.ntmps (some d) .inil T fun T => ev (.ops ops 1 (Nat.sub ops.size 1)) fn.ntmps T S (fun T S =>
          ev (.code rest) fn.ntmps T S (fun T S => retK P fn T S fun _ => k S) (fun e T S => match e with
            | .rt => retK P fn T S fun _ => k S
            | _ => .bad 106)) (fun _ _ _ => .bad 117))
        | none => .bad 107
      | none => .bad 107
    | _ => .bad 108)
  | none => .bad 109
def CloseSays (P : Program) (g : Nat) (l : AV) (S S' : St) : Prop := (∃ fn, P.funcs[g]? = some fn ∧ goodFn fn = true) ∧ ∀ {ι : Inj} {vs : List Value} {w : World}, RL ι l vs → HR ι S w →
  CallsD P g vs.toArray .returning w fun e u w' => u = .returning ∧ ∃ v κ, e = .returned v ∧ HR κ S' w' ∧ Ext ι w κ w'
theorem args_start {fn : Func} (hm : fn.ntmps ≤ 256) {l : AV} {T : T} (hT : ∀ t, t < 256 → tget t T = if 0 ≤ t ∧ t < 0 + l.len then l.nth (t - 0) else tget t emT) {ds : List Deferred} {ι : Inj} {vs : List Value} (hvs : RL ι l vs) :
    RA ι fn.ntmps T { tmps := vs.toArray ++ Array.replicate (fn.ntmps - vs.toArray.size) undef, defers := ds } := by
  refine ⟨by simp; omega, hm, fun t ht => ?_⟩
  rw [hT t ht]
  have hlen := hvs.len
  by_cases e : 0 ≤ t ∧ t < 0 + l.len
  · rw [if_pos e, Nat.sub_zero]
    obtain ⟨u, h1, h2⟩ := hvs.nth t (by omega)
    have : (vs.toArray ++ Array.replicate (fn.ntmps - vs.toArray.size) undef).getD t undef = u := by
      rw [Array.getD_eq_getD_getElem?, Array.getElem?_append_left (by simp; omega)]
      simp [h1]
    rw [this]; exact h2
  · rw [if_neg e, tget_em]; exact trivial
theorem goodFn_le {fn : Func} (hg : goodFn fn = true) : fn.ntmps ≤ 256 := by
  unfold goodFn at hg
  split at hg
  · rename_i h; exact Nat.le_of_ble_eq_true h
  · cases hg
theorem closeK_inv {ev : Ev} (hev : EvOk P ev) {g : Nat} {l : AV} {S : St} {k : St → R} {r : AV} {s : St} (h : closeK P ev g l S k = .ok r s) :
    ∃ S', k S' = .ok r s ∧ CloseSays P g l S S' := by
  unfold closeK at h
  split at h
  · rename_i fn hf
    obtain ⟨hg, h⟩ := okK_inv h
    have hm := goodFn_le hg
    split at h
    · rename_i id ops rest hb
      split at h
      · rename_i o ho
        split at h
        · rename_i d hd
          obtain ⟨hrec, h⟩ := okK_inv h
          obtain ⟨T0, h, hl, hT0⟩ := argsK_inv h
          obtain ⟨T1, h, hT1⟩ := putK_inv h
          have hro : o.guard = none ∧ ∀ (ρ : Operand → Value) (w : World), (execOp ρ o).run P w = .ok .recover w := by
            unfold isRec at hrec
            split at hrec
            · rename_i c ho hgu
              split at hrec
              · rename_i hc
                refine ⟨hgu, fun ρ w => ?_⟩
                unfold execOp; rw [ho]
                simp only [resolve, hc, Sem.run_bind, Sem.run_pure, Result.andThen_ok, invoke]
                rfl
              · cases hrec
            · cases hrec
          obtain ⟨n, hn⟩ : ∃ n, ops.size = n + 1 := ⟨ops.size - 1, by have := (Array.getElem?_eq_some_iff.1 ho).1; omega⟩
          rcases hev h with ⟨T2, S2, h, hs2⟩ | ⟨x, T2, S2, h, hs2⟩
          · have fin : ∀ {e : Exit} {T' : Ev.T} {S' : St}, (e = .normal ∨ e = .ret) → retK P fn T' S' (fun _ => k S') = .ok r s → Says P (.code rest) fn.ntmps T2 S2 e T' S' → ∃ S', k S' = .ok r s ∧ CloseSays P g l S S' := by
              intro e T' S' he hr hs
              obtain ⟨v, h, hv⟩ := retK_inv hr
              refine ⟨S', h, ⟨fn, hf, hg⟩, fun {ι vs w} hvs hh => callsD_of_wpS hf hb fun c₀ cs hc₀ => wpS_seq (wpS_region ?_)⟩
              have hmode : recoverD (c₀ :: cs) = none := by simp only [recoverD, hc₀]
              have ra0 := args_start hm hT0 (ds := []) hvs
              have ra1 := hT1 ra0 (u := .nilIface) rfl
              have hw1 : ∀ y, Region.wanted o y = true := fun y => by unfold Region.wanted; rw [hro.1]
              rw [hn, List.range_eq_range', List.range'_succ]
              simp only [wpOpsS, ho, hw1, if_true, hro.2, hmode, hd]
              have hsays := hs2 ra1 hh
              rw [show Nat.sub ops.size 1 = n by rw [hn]; rfl] at hsays
              refine wpOpsS_of (fun e a w hp => hp.1) ?_ hsays
              rintro a2 w2 ⟨-, κ2, ra2, hr2, hx2, hd2⟩
              refine wpS_of_wp (wp_mono (hs ra2 hr2) ?_)
              rintro e' a' w' ⟨rfl, κ, ra, hr', hx, hdf⟩
              obtain ⟨u, h1, h2⟩ := hv ra hr'
              have hc : c₀ = { c₀ with mode := .returning } := by rw [← hc₀]
              have hdf : a'.defers = [] := hdf.trans hd2
              rcases he with rfl | rfl
              · exact ⟨hdf, .returning, by rw [← hc], u, h1, rfl, u, κ, rfl, hr', hx2.trans hx⟩
              · exact ⟨hdf, .returning, by rw [← hc], u, h1, rfl, u, κ, rfl, hr', hx2.trans hx⟩
            rcases hev h with ⟨T', S', h, hs⟩ | ⟨x, T', S', h, hs⟩
            · exact fin (.inl rfl) h hs
            · cases x with
              | rt => exact fin (.inr rfl) h hs
              | ex => exact (R.bad_ne h).elim
              | gt => exact (R.bad_ne h).elim
          · exact (R.bad_ne h).elim
        · exact (R.bad_ne h).elim
      · exact (R.bad_ne h).elim
    · exact (R.bad_ne h).elim
  · exact (R.bad_ne h).elim
/-- A body that puts off one call ahead of all else. -/
def isOff (p : Oper) : Option Operand := match p.op, p.dst, p.guard with
  | .defer c, none, none => match c.callee, c.args with
    | .value x, ⟨[]⟩ => some x
    | _, _ => none
  | _, _, _ => none
def offK (c : Code) : Option (Code × Array Oper × Operand × Code) := match c with
  | .seq r0 (.seq (.region id ops false) rest) => match ops[Nat.sub ops.size 1]? with
    | some p => match isOff p with
      | some x => some (r0, ops, x, rest)
      | none => none
    | none => none
  | _ => none
def bodyD (P : Program) (ev : Ev) (fn : Func) (r0 : Code) (ops : Array Oper) (x : Operand) (rest : Code) (args : AV) (S : St) (k : K) : R := argsK args 0 emT fun T =>
  ev (.code r0) fn.ntmps T S (fun T S => ev (.ops ops 0 (Nat.sub ops.size 1)) fn.ntmps T S (fun T S => onFn (opnd x T) fun g first cap => match first with
    | .nl => ev (.code rest) fn.ntmps T S (fun T S => closeK P ev g cap S fun S => retK P fn T S fun v => k v S) (fun e T S => match e with
      | .rt => closeK P ev g cap S fun S => retK P fn T S fun v => k v S
      | _ => .bad 110)
    | _ => .bad 116) (fun _ _ _ => .bad 118)) (fun _ _ _ => .bad 111)
def bodyX (P : Program) (ev : Ev) (fn : Func) (c : Code) (args : AV) (S : St) (k : K) : R := match offK c with
  | none => bodyK P ev fn c args S k
  | some (r0, ops, x, rest) => bodyD P ev fn r0 ops x rest args S k
theorem goodFn_call {g : Nat} {fn : Func} (hf : P.funcs[g]? = some fn) (hg : goodFn fn = true) (args : Array Value) (w : World) : (callFunc g args).run P w = .ok (.enter g args) w := by
  have h2 : (fn.name == "runtime.NumGoroutine") = false := by unfold goodFn at hg; split at hg; assumption; cases hg
  have h3 : fn.body.isNone = false := by unfold goodFn at hg; split at hg; rename_i hb _; rw [hb]; rfl; cases hg
  simp only [callFunc, Sem.run_bind, run_program, Result.andThen_ok, hf, h2, h3, Bool.false_eq_true, if_false]
  rfl
theorem bodyD_inv {ev : Ev} (hev : EvOk P ev) {g : Nat} {fn : Func} (hf : P.funcs[g]? = some fn) (hg : goodFn fn = true) {r0 rest : Code} {id : Nat} {ops : Array Oper} {p : Oper} {x : Operand}
    (hc : fn.body = some (.seq r0 (.seq (.region id ops false) rest))) (ho : ops[Nat.sub ops.size 1]? = some p) (hp : isOff p = some x) {args : AV} {S : St} {k : K} {r : AV} {s : St} (h : bodyD P ev fn r0 ops x rest args S k = .ok r s) :
    ∃ v S', k v S' = .ok r s ∧ CallSays P g args S v S' := by
  have hm := goodFn_le hg
  obtain ⟨T0, h, hl, hT0⟩ := argsK_inv h
  have hpp : p.guard = none ∧ p.dst = none ∧ ∀ (ρ : Operand → Value) (w : World) (g' : Nat) (c : Array Value), ρ x = .func (.func g') #[] c → (execOp ρ p).run P w = .ok (.defer { target := .fn (.func g') c, args := #[] }) w := by
    unfold isOff at hp
    split at hp
    · rename_i c h1 h2 h3
      split at hp
      · rename_i t h4 h5
        cases hp
        refine ⟨h3, h2, fun ρ w g' cap he => ?_⟩
        unfold execOp; rw [h1]
        simp only [resolve, h4, h5, he, Deferred.ofValue, Sem.run_bind, Sem.run_pure, Result.andThen_ok, List.map_toArray, List.map_nil, Array.append_empty]
      · cases hp
    · cases hp
  have hw2 : ∀ y, Region.wanted p y = true := fun y => by unfold Region.wanted; rw [hpp.1]
  obtain ⟨n, hn⟩ : ∃ n, ops.size = n + 1 := ⟨ops.size - 1, by have h1 := (Array.getElem?_eq_some_iff.1 ho).1; have h2 : Nat.sub ops.size 1 = ops.size - 1 := rfl; omega⟩
  have hno : Nat.sub ops.size 1 = n := by rw [hn]; rfl
  rw [hno] at ho
  rcases hev h with ⟨T1, S1, h, hs1⟩ | ⟨x, T1, S1, h, hs1⟩
  · rcases hev h with ⟨T2, S2, h, hs2⟩ | ⟨x, T2, S2, h, hs2⟩
    · obtain ⟨g', first, cap, hx0, h⟩ := onFn_inv h
      split at h
      · have fin : ∀ {e : Exit} {T3 : Ev.T} {S3 : St}, (e = .normal ∨ e = .ret) → closeK P ev g' cap S3 (fun S => retK P fn T3 S fun v => k v S) = .ok r s → Says P (.code rest) fn.ntmps T2 S2 e T3 S3 → ∃ v S', k v S' = .ok r s ∧ CallSays P g args S v S' := by
          intro e T3 S3 he h hs3
          obtain ⟨S4, h, ⟨fn', hf', hg'⟩, hcl⟩ := closeK_inv hev h
          obtain ⟨v, h, hv⟩ := retK_inv h
          refine ⟨v, S4, h, ⟨fn, hf, hg⟩, fun {ι vs w} hvs hh => calls_of_wp_defers hf hc (wp_seq (wp_mono (hs1 (args_start hm hT0 hvs) hh) ?_))⟩
          rintro e1 a1 w1 ⟨rfl, κ1, ra1, hr1, hx1, hd1⟩
          refine wp_seq (wp_region ?_)
          rw [hn, List.range_succ, List.range_eq_range']
          have hsays := hs2 ra1 hr1
          rw [hno] at hsays
          refine wpOps_then (fun e a w hp => hp.1) ?_ hsays
          rintro a2 w2 ⟨-, κ2, ra2, hr2, hx2, hd2⟩
          have e1 := opnd_rep ra2 x; rw [hx0] at e1
          obtain ⟨f1, c1, e1, e2, e3⟩ := e1
          have hf1 : f1 = #[] := by
            have e2 : f1.toList = [] := e2
            simpa using e2
          subst hf1
          simp only [wpOps, ho, hw2, if_true, Oper.wp, hpp.2.2 _ w2 g' c1 e1, Oper.upon_defer, hpp.2.1]
          refine .inl ?_
          have ra2' : RA κ2 fn.ntmps T2 { a2 with defers := [{ target := .fn (.func g') c1, args := #[] }] } := ⟨ra2.size, ra2.le, ra2.val⟩
          have hdd : a2.defers = [] := hd2.trans hd1
          show (rest.wp P _ ({ a2 with defers := _ :: a2.defers } : Act) w2)
          rw [hdd]
          refine wp_mono (hs3 ra2' hr2) ?_
          rintro e3' a3 w3 ⟨rfl, κ3, ra3, hr3, hx3, hd3⟩
          have hd3 : a3.defers = [{ target := .fn (.func g') c1, args := #[] }] := hd3
          have hle : Leaves P fn a3.tmps (fun e w' => ∃ u κ, e = .returned u ∧ RV κ v u ∧ HR κ S4 w' ∧ Ext ι w κ w') a3.defers .returning w3 := by
            rw [hd3]
            refine leaves_cons (fun e => by cases e) (args := #[] ++ c1) (goodFn_call hf' hg' _ _) ?_
            have hcl' := hcl (vs := c1.toList) (e3.mono hx3.le) hr3
            rw [show (#[] ++ c1 : Array Value) = c1.toList.toArray by simp]
            refine CallsD.mono hcl' ?_
            rintro e4 u4 w4 ⟨rfl, v4, κ4, rfl, hr4, hx4⟩
            obtain ⟨z, k1, k2⟩ := hv (ra3.mono hx4.le) hr4
            exact ⟨z, k1, z, κ4, rfl, k2, hr4, (((hx1.trans hx2).trans hx3).trans hx4)⟩
          rcases he with rfl | rfl
          · exact hle
          · exact hle
        rcases hev h with ⟨T3, S3, h, hs3⟩ | ⟨x, T3, S3, h, hs3⟩
        · exact fin (.inl rfl) h hs3
        · cases x with
          | rt => exact fin (.inr rfl) h hs3
          | ex => exact (R.bad_ne h).elim
          | gt => exact (R.bad_ne h).elim
      · exact (R.bad_ne h).elim
    · exact (R.bad_ne h).elim
  · exact (R.bad_ne h).elim
theorem bodyX_inv {ev : Ev} (hev : EvOk P ev) {g : Nat} {fn : Func} (hf : P.funcs[g]? = some fn) (hg : goodFn fn = true) {c : Code} (hc : fn.body = some c) {args : AV} {S : St} {k : K} {r : AV} {s : St} (h : bodyX P ev fn c args S k = .ok r s) :
    ∃ v S', k v S' = .ok r s ∧ CallSays P g args S v S' := by
  unfold bodyX at h
  split at h
  · exact bodyK_inv hev hf hg hc h
  · rename_i r0 ops x rest ho
    unfold offK at ho
    split at ho
    · split at ho
      · rename_i p hp
        split at ho
        · rename_i x2 hx2
          cases ho
          exact bodyD_inv hev hf hg hc hp hx2 h
        · cases ho
      · cases ho
    · cases ho
def callK (P : Program) (M : Memo) (ev : Ev) (S : St) (g : Nat) (args : AV) (k : K) : R := match M g args S with
  | some (v, S') => k v S'
  | none => match P.funcs[g]? with
    | some fn => okK (goodFn fn) (match fn.body with
      | some c => bodyX P ev fn c args S k
      | none => .bad 94)
    | none => .bad 95
theorem callK_inv {M : Memo} (hM : MemoOk P M) {ev : Ev} (hev : EvOk P ev) {S : St} {g : Nat} {args : AV} {k : K} {r : AV} {s : St} (h : callK P M ev S g args k = .ok r s) :
    ∃ v S', k v S' = .ok r s ∧ CallSays P g args S v S' := by
  unfold callK at h
  split at h
  · rename_i v S' hm
    exact ⟨v, S', h, hM _ _ _ _ _ hm⟩
  · split at h
    · rename_i fn hf
      obtain ⟨hg, h⟩ := okK_inv h
      split at h
      · rename_i c hc
        exact bodyX_inv hev hf hg hc h
      · exact (R.bad_ne h).elim
    · exact (R.bad_ne h).elim

/-! ### Operations one after another -/
def doK (P : Program) (M : Memo) (ev : Ev) (x : Kd) (T : T) (S : St) (k : K) : R := match x with
  | .pure f => f T fun v => k v S
  | .load f => f T S.h fun v => k v S
  | .make f => f T fun b mk => newK S b fun i S => k (mk i) S
  | .eff f => f T S k
  | .call f => f T fun g l => callK P M ev S g l k
  | .no => .bad 96
theorem doK_inv {M : Memo} (hM : MemoOk P M) {ev : Ev} (hev : EvOk P ev) {o : Oper} {x : Kd} (hx : KdOk P o x) {T : T} {S : St} {k : K} {r : AV} {s : St} (h : doK P M ev x T S k = .ok r s) :
    ∃ v S', k v S' = .ok r s ∧ ∀ {ι : Inj} {m : Nat} {a : Act} {w : World}, RA ι m T a → HR ι S w → ∀ {next : Act → World → Prop} {Q : Exit → Act → World → Prop},
      (∀ κ u w', RV κ v u → HR κ S' w' → Ext ι w κ w' → next (a.put o.dst u) w') → o.wp P a w next Q := by
  cases x with
  | pure f =>
    obtain ⟨v, h, hv⟩ := hx h
    refine ⟨v, S, h, fun {ι m a w} ra hr {next Q} hn => ?_⟩
    obtain ⟨u, h1, h2⟩ := hv (w := w) ra
    unfold Oper.wp
    rw [h1, Oper.upon_value]
    exact hn ι u w h2 hr (Ext.refl _ _)
  | load f =>
    obtain ⟨v, h, hv⟩ := hx h
    refine ⟨v, S, h, fun {ι m a w} ra hr {next Q} hn => ?_⟩
    obtain ⟨u, h1, h2⟩ := hv ra (n := S.n) hr
    unfold Oper.wp
    rw [h1, Oper.upon_value]
    exact hn ι u w h2 hr (Ext.refl _ _)
  | make f =>
    obtain ⟨b, mk, h, hb, hv⟩ := hx h
    obtain ⟨hlt, h⟩ := newK_inv h
    refine ⟨_, _, h, fun {ι m a w} ra hr {next Q} hn => ?_⟩
    obtain ⟨ob, sz, u, h1, h2, h3⟩ := hv (w := w) ra
    have hSn : ι S.n = none := hr.fresh _ (Nat.le_refl _)
    have hmk := (hr.reserve hlt b).make (b := S.n) hSn (fun h' => Nat.lt_irrefl _ (hr.resv _ h')) (Nat.lt_succ_self _) ⟨w.heap.size, 0, sz⟩ (w' := w.alloc ob) rfl rfl rfl (by simp) (fun k hk => heap_alloc_old hk) (Nat.le_refl _) (by
      show RO _ (hget S.n (hset S.n b S.h)) _ _
      rw [hget_same]; exact h2 _ (Inj.le_put hSn _))
    unfold Oper.wp
    rw [h1, Oper.upon_value]
    exact hn _ u _ (h3 _ _ (Inj.put_same _ _ _)) hmk.1 hmk.2
  | eff f =>
    obtain ⟨v, S', h, hv⟩ := hx h
    refine ⟨v, S', h, fun {ι m a w} ra hr {next Q} hn => ?_⟩
    obtain ⟨nx, w', κ, u, h1, h2, h3, h4, h5⟩ := hv ra hr
    unfold Oper.wp
    rw [h1]
    rcases h2 with rfl | ⟨rfl, rfl⟩
    · rw [Oper.upon_value]; exact hn κ u w' h3 h4 h5
    · rw [Oper.upon_skip]; exact hn κ undef w' h3 h4 h5
  | call f =>
    obtain ⟨g, l, h, hv⟩ := hx h
    obtain ⟨v, S', h, ⟨fn, hf, hg⟩, hc⟩ := callK_inv hM hev h
    refine ⟨v, S', h, fun {ι m a w} ra hr {next Q} hn => ?_⟩
    obtain ⟨vs, h1, h2⟩ := hv (w := w) ra
    have h3 := h2 fn hf (by unfold goodFn at hg; split at hg; assumption; cases hg) (by unfold goodFn at hg; split at hg; rename_i hb _; rw [hb]; rfl; cases hg)
    unfold Oper.wp
    rw [h3, Oper.upon_enter]
    refine (hc h1 hr).mono ?_
    rintro e w' ⟨u, κ, rfl, g1, g2, g3⟩
    exact hn κ u w' g1 g2 g3
  | no => exact (R.bad_ne h).elim
def stepK (P : Program) (M : Memo) (ev : Ev) (ops : Array Oper) (m : Nat) (o : Oper) (T : T) (S : St) (k : KN) : R :=
  guardK ops o.guard T (putK m o.dst (.tup .nl) T fun T => k T S) (doK P M ev (kd P o.op) T S fun v S => putK m o.dst v T fun T => k T S)
def opsK (P : Program) (M : Memo) (ev : Ev) (ops : Array Oper) (m : Nat) (l : List Oper) : T → St → KN → R := List.rec (motive := fun _ => T → St → KN → R)
  (fun T S k => k T S) (fun o _ ih T S k => stepK P M ev ops m o T S fun T S => ih T S k) l

end
end Go.Ev
