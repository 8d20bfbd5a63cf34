/-
  An evaluator for calls whose arguments are known: lengths, least and greatest, maps.
-/
import Derived.Test.YtbhgcdkahblllaaGreatDoorEvJ
set_option linter.unusedVariables false
set_option linter.unusedSimpArgs false
namespace Go.Ev
open Go
noncomputable section
variable {P : Program} {o : Oper}

theorem run_builtin {b : Builtin} {args : Array Operand} {ts : Array TypeId} {a : Act} {w : World} (ho : o.op = .call { callee := .builtin b, args := args, argTypes := ts }) :
    ∃ consts, (execOp a.eval o).run P w = (builtin b ts o.type consts (args.map a.eval)).run P w := by
  refine ⟨args.map fun | .const _ => true | _ => false, ?_⟩
  unfold execOp; rw [ho]
  simp [resolve, invoke]
  rfl
theorem beq_bytes (p q : ByteArray) : (p == q) = true ↔ p = q := by
  show (p.data == q.data) = true ↔ p = q
  rw [beq_iff_eq]
  exact ⟨fun h => by cases p; cases q; simp at h; rw [h], fun h => by rw [h]⟩
/-! ### Lengths -/
def lenA (v : AV) (k : AV → R) : R := match v with
  | .str n _ => k (.int .i64 (.ofNat n))
  | .sl _ _ n _ => k (.int .i64 (.ofNat n))
  | .slu _ _ n _ => k (.int .i64 (.ofNat n))
  | .snil => k (.int .i64 (.ofNat 0))
  | .mnil => k (.int .i64 (.ofNat 0))
  | _ => .bad 60
def lenD (d : TypeDesc) (v : AV) : Bool := match d, v with
  | .string, .str _ _ => true
  | .slice _, .sl _ _ _ _ => true
  | .slice _, .slu _ _ _ _ => true
  | .slice _, .snil => true
  | .map _ _, .mnil => true
  | _, _ => false
def kLen (P : Program) (ts : Array TypeId) (args : Array Operand) : Kd := match args, ts[0]? with
  | ⟨[x]⟩, some t => match P.underlying t with
    | some (.map kt et) => .load fun T H k => match opnd x T with
      | .mnil => k (.int .i64 (.ofNat 0))
      | .map b => onMap (hget b H) fun es => k (.int .i64 (.ofNat es.length))
      | _ => .bad 61
    | some d => .pure fun T k => okK (lenD d (opnd x T)) (lenA (opnd x T) k)
    | none => .no
  | _, _ => .no
theorem RM.len {ι : Inj} : ∀ {es : List (AV × AV)} {l : List MapEntry}, RM ι es l → es.length = l.length
  | [], l, h => by cases h; rfl
  | (a, v) :: r, l, h => by
    obtain ⟨e, q, rfl, -, -, h2⟩ := h
    exact congrArg Nat.succ (RM.len h2)
theorem HR.map {ι : Inj} {S : St} {w : World} (h : HR ι S w) {b : Nat} {l : Loc} (hb : ι b = some l) {es : List (AV × AV)} (hc : hget b S.h = .map es) :
    ∃ a k, w.heap[l.b]? = some (.map a k) ∧ RM ι es a.toList := by
  have := h.live b l hb
  rw [hc] at this
  exact this
theorem kLen_ok {ts : Array TypeId} {args : Array Operand} (ho : o.op = .call { callee := .builtin .len, args := args, argTypes := ts }) : KdOk P o (kLen P ts args) := by
  unfold kLen
  split
  · rename_i x t ht
    split
    · rename_i kt et h1
      intro T H k r s h
      dsimp only at h
      split at h
      · rename_i hc
        refine ⟨_, h, fun {ι m n a w} ra hr => ⟨.int .i64 (.ofNat 0), ?_, rfl⟩⟩
        have e1 := opnd_rep ra x; rw [hc] at e1; have e1 : a.eval x = _ := e1
        obtain ⟨cs, hb⟩ := run_builtin (P := P) (a := a) (w := w) ho
        rw [hb]
        simp [builtin, Builtin.len_, ht, e1, run_under h1, goInt]
      · rename_i b hc
        obtain ⟨es, hes, h⟩ := onMap_inv h
        refine ⟨_, h, fun {ι m n a w} ra hr => ⟨.int .i64 (.ofNat es.length), ?_, rfl⟩⟩
        have e1 := opnd_rep ra x; rw [hc] at e1; obtain ⟨l, hl, e1⟩ := e1
        obtain ⟨ar, kk, g1, g2⟩ := hr.map hl hes
        obtain ⟨cs, hb⟩ := run_builtin (P := P) (a := a) (w := w) ho
        rw [hb]
        have hlen := g2.len
        have hg : (getObj l.b).run P w = .ok (.map ar kk) w := by simp [getObj, Sem.run, g1]
        simp [builtin, Builtin.len_, ht, e1, run_under h1, hg, goInt, hlen]
      · exact (R.bad_ne h).elim
    · rename_i d h1 h2
      intro T k r s h
      obtain ⟨hd, h⟩ := okK_inv h
      generalize hc : opnd x T = v at hd h
      unfold lenA at h
      split at h
      · refine ⟨_, h, fun {ι m a w} ra => ⟨_, ?_, rfl⟩⟩
        have e1 := opnd_rep ra x; rw [hc] at e1; obtain ⟨z, e1, hz, -⟩ := e1
        obtain ⟨cs, hb⟩ := run_builtin (P := P) (a := a) (w := w) ho
        cases d <;> first | (cases hd; done) | skip
        rw [hb]
        simp [builtin, Builtin.len_, ht, e1, run_under h2, goInt, hz]
      · refine ⟨_, h, fun {ι m a w} ra => ⟨_, ?_, rfl⟩⟩
        have e1 := opnd_rep ra x; rw [hc] at e1; obtain ⟨z, -, e1⟩ := e1
        obtain ⟨cs, hb⟩ := run_builtin (P := P) (a := a) (w := w) ho
        cases d <;> first | (cases hd; done) | skip
        rw [hb]
        simp [builtin, Builtin.len_, ht, e1, run_under h2, goInt]
      · refine ⟨_, h, fun {ι m a w} ra => ⟨_, ?_, rfl⟩⟩
        have e1 := opnd_rep ra x; rw [hc] at e1
        obtain ⟨cs, hb⟩ := run_builtin (P := P) (a := a) (w := w) ho
        cases d <;> first | (cases hd; done) | skip
        rw [hb]
        obtain ⟨z, -, ⟨_, e1, -⟩ | ⟨rfl, _, e1⟩⟩ := e1 <;> simp [builtin, Builtin.len_, ht, e1, run_under h2, goInt]
      · refine ⟨_, h, fun {ι m a w} ra => ⟨_, ?_, rfl⟩⟩
        have e1 := opnd_rep ra x; rw [hc] at e1; have e1 : a.eval x = _ := e1
        obtain ⟨cs, hb⟩ := run_builtin (P := P) (a := a) (w := w) ho
        cases d <;> first | (cases hd; done) | skip
        rw [hb]
        simp [builtin, Builtin.len_, ht, e1, run_under h2, goInt]
      · refine ⟨_, h, fun {ι m a w} ra => ⟨_, ?_, rfl⟩⟩
        have e1 := opnd_rep ra x; rw [hc] at e1; have e1 : a.eval x = _ := e1
        obtain ⟨cs, hb⟩ := run_builtin (P := P) (a := a) (w := w) ho
        cases d <;> first | (cases hd; done) | skip
        rw [hb]
        simp [builtin, Builtin.len_, ht, e1, run_under h2, goInt]
      · exact (R.bad_ne h).elim
    · exact trivial
  · exact trivial
def kCap (P : Program) (ts : Array TypeId) (args : Array Operand) : Kd := match args, ts[0]? with
  | ⟨[x]⟩, some t => match P.underlying t with
    | some (.slice e) => .pure fun T k => match opnd x T with
      | .snil => k (.int .i64 (.ofNat 0))
      | .sl _ _ _ c => k (.int .i64 (.ofNat c))
      | _ => .bad 62
    | _ => .no
  | _, _ => .no
theorem kCap_ok {ts : Array TypeId} {args : Array Operand} (ho : o.op = .call { callee := .builtin .cap, args := args, argTypes := ts }) : KdOk P o (kCap P ts args) := by
  unfold kCap
  split
  · rename_i x t ht
    split
    · rename_i e h1
      intro T k r s h
      dsimp only at h
      split at h
      · rename_i hc
        refine ⟨_, h, fun {ι m a w} ra => ⟨_, ?_, rfl⟩⟩
        have e1 := opnd_rep ra x; rw [hc] at e1; have e1 : a.eval x = _ := e1
        obtain ⟨cs, hb⟩ := run_builtin (P := P) (a := a) (w := w) ho
        rw [hb]
        simp [builtin, Builtin.cap_, ht, e1, run_under h1, goInt]
      · rename_i hc
        refine ⟨_, h, fun {ι m a w} ra => ⟨_, ?_, rfl⟩⟩
        have e1 := opnd_rep ra x; rw [hc] at e1; obtain ⟨z, -, e1⟩ := e1
        obtain ⟨cs, hb⟩ := run_builtin (P := P) (a := a) (w := w) ho
        rw [hb]
        simp [builtin, Builtin.cap_, ht, e1, run_under h1, goInt]
      · exact (R.bad_ne h).elim
    · exact trivial
  · exact trivial
def kMinMax (mx : Bool) (args : Array Operand) : Kd := match args with
  | ⟨[x, y]⟩ => .pure fun T k => onInt (opnd x T) (.bad 63) fun kx a => onInt (opnd y T) (.bad 63) fun _ b => match mx with
    | true => iK kx (cond (leI a b) b a) k
    | false => iK kx (cond (leI a b) a b) k
  | _ => .no
theorem kMinMax_ok {mx : Bool} {ts : Array TypeId} {args : Array Operand} (ho : o.op = .call { callee := .builtin (if mx then .max else .min), args := args, argTypes := ts }) : KdOk P o (kMinMax mx args) := by
  unfold kMinMax
  split
  · rename_i x y
    intro T k r s h
    rcases onInt_inv h with ⟨kx, a, h1, h⟩ | ⟨-, h⟩
    · rcases onInt_inv h with ⟨ky, b, h2, h⟩ | ⟨-, h⟩
      · cases mx
        · simp only [iK_eq, leI_eq] at h
          refine ⟨_, h, fun {ι m ac w} ra => ⟨_, ?_, rfl⟩⟩
          have e1 := opnd_rep ra x; rw [h1] at e1; have e1 : ac.eval x = _ := e1
          have e2 := opnd_rep ra y; rw [h2] at e2; have e2 : ac.eval y = _ := e2
          obtain ⟨cs, hb⟩ := run_builtin (P := P) (a := ac) (w := w) ho
          rw [hb]
          by_cases g : a ≤ b
          · have : ¬ b < a := by omega
            simp [builtin, Builtin.min_, Builtin.min2, e1, e2, g, this]
          · have : b < a := by omega
            simp [builtin, Builtin.min_, Builtin.min2, e1, e2, g, this]
        · simp only [iK_eq, leI_eq] at h
          refine ⟨_, h, fun {ι m ac w} ra => ⟨_, ?_, rfl⟩⟩
          have e1 := opnd_rep ra x; rw [h1] at e1; have e1 : ac.eval x = _ := e1
          have e2 := opnd_rep ra y; rw [h2] at e2; have e2 : ac.eval y = _ := e2
          obtain ⟨cs, hb⟩ := run_builtin (P := P) (a := ac) (w := w) ho
          rw [hb]
          rcases Int.lt_trichotomy a b with g | g | g
          · have g2 : a ≤ b := by omega
            have g3 : ¬ b < a := by omega
            simp [builtin, Builtin.max_, Builtin.max2, e1, e2, g, g2, g3]
          · subst g
            simp [builtin, Builtin.max_, Builtin.max2, e1, e2]
          · have g2 : ¬ a ≤ b := by omega
            have g3 : ¬ a < b := by omega
            simp [builtin, Builtin.max_, Builtin.max2, e1, e2, g, g2, g3]
      · exact (R.bad_ne h).elim
    · exact (R.bad_ne h).elim
  · exact trivial
/-! ### Maps -/
/-- Whether two keys are one. -/
def keyA (x y : AV) : Option Bool := match x, y with
  | .int k a, .int l b => match eqKd k l with
    | true => some (eqI a b)
    | false => none
  | .str n a, .str m b => some (Nat.beq n m && Nat.beq a b)
  | .bool a, .bool b => some (a == b)
  | _, _ => none
def plainKey (d : TypeDesc) (x : AV) : Bool := match d, x with
  | .int _, .int _ _ => true
  | .string, .str _ _ => true
  | .bool, .bool _ => true
  | _, _ => false
theorem keyA_ok {x y : AV} {b : Bool} (h : keyA x y = some b) {d : TypeDesc} (hd : plainKey d x = true) {ι : Inj} {u v : Value} (hu : RV ι x u) (hv : RV ι y v) :
    Instr.sameNow d u v = some b ∧ (b = true → ∀ n, Instr.sameBits n v u = true) := by
  unfold keyA at h
  split at h
  · split at h <;> cases h
    rename_i k a l b hk
    obtain rfl := eqKd_eq hk
    cases d <;> first | (cases hd; done) | skip
    cases hu; cases hv
    refine ⟨by simp [Instr.sameNow, eqI_eq]; rfl, fun hb n => ?_⟩
    rw [eqI_eq, decide_eq_true_eq] at hb
    subst hb
    cases n <;> simp [Instr.sameBits]
  · rename_i n a m b
    cases h
    cases d <;> first | (cases hd; done) | skip
    obtain ⟨p, rfl, hp, hpa⟩ := hu
    obtain ⟨q, rfl, hq, hqa⟩ := hv
    have hb : (Nat.beq n m && Nat.beq a b) = decide (p = q) := by
      rw [Bool.eq_iff_iff, Bool.and_eq_true, decide_eq_true_eq, Nat.beq_eq, Nat.beq_eq, ← hp, ← hq, ← hpa, ← hqa, str_eq, ByteArray.toList_eq, ByteArray.toList_eq]
      exact ⟨fun h => by cases p; cases q; simp at h; rw [h], fun h => by rw [h]⟩
    refine ⟨?_, fun he k => ?_⟩
    · rw [hb]; simp [Instr.sameNow]
      rw [Bool.eq_iff_iff, beq_bytes]; simp
    · rw [hb, decide_eq_true_eq] at he
      subst he
      cases k <;> exact (beq_bytes _ _).2 rfl
  · cases h
    cases d <;> first | (cases hd; done) | skip
    cases hu; cases hv
    rename_i a b
    refine ⟨rfl, fun he n => ?_⟩
    have : a = b := by simpa using he
    subst this
    cases n <;> simp [Instr.sameBits]
  · cases h
/-- The place of a key among the entries. -/
def findA (x : AV) : List (AV × AV) → Nat → (Option (Nat × AV) → R) → R
  | [], _, k => k none
  | (a, v) :: r, i, k => match keyA x a with
    | some true => k (some (i, v))
    | some false => findA x r (i + 1) k
    | none => .bad 64
theorem findA_inv {x : AV} : ∀ {es : List (AV × AV)} {i : Nat} {k : Option (Nat × AV) → R} {r : AV} {s : St}, findA x es i k = .ok r s →
    ∃ q, k q = .ok r s ∧ ∀ {d : TypeDesc}, plainKey d x = true → ∀ {ι : Inj} {u : Value} {l : List MapEntry}, RV ι x u → RM ι es l →
      match q with
      | none => Instr.findNow d u l i = some none
      | some (j, v) => ∃ z e, Instr.findNow d u l i = some (some (j, z)) ∧ RV ι v z ∧ i ≤ j ∧ l[j - i]? = some e ∧ ∀ n, Instr.sameBits n e.key u = true
  | [], i, k, r, s, h => ⟨none, h, fun {d} _ {ι u l} _ hl => by cases hl; rfl⟩
  | (a, v) :: es, i, k, r, s, h => by
    unfold findA at h
    split at h
    · rename_i hk
      refine ⟨some (i, v), h, fun {d} hd {ι u l} hu hl => ?_⟩
      obtain ⟨e, q, rfl, h1, h2, -⟩ := hl
      obtain ⟨g1, g2⟩ := keyA_ok hk hd hu h1
      exact ⟨e.val, e, by simp [Instr.findNow, g1], h2, Nat.le_refl _, by simp, g2 rfl⟩
    · rename_i hk
      obtain ⟨q, h, hq⟩ := findA_inv h
      refine ⟨q, h, fun {d} hd {ι u l} hu hl => ?_⟩
      obtain ⟨e, p, rfl, h1, -, h3⟩ := hl
      obtain ⟨g1, -⟩ := keyA_ok hk hd hu h1
      have := hq hd hu h3
      cases q with
      | none => simp only [Instr.findNow, g1]; exact this
      | some jv =>
        obtain ⟨j, v'⟩ := jv
        obtain ⟨z, e', k1, k2, k3, k4, k5⟩ := this
        refine ⟨z, e', by simp only [Instr.findNow, g1]; exact k1, k2, by omega, ?_, k5⟩
        rw [show j - i = (j - (i + 1)) + 1 by omega]; exact k4
    · exact (R.bad_ne h).elim
theorem run_checkKey {d : TypeDesc} {t : TypeId} (ht : P.underlying t = some d) {x : AV} (hd : plainKey d x = true) {e : Bool} {v : Value} {w : World} : (Instr.checkKey e 10000 t v).run P w = .ok () w := by
  show (Instr.checkKey e (9999 + 1) t v).run P w = _
  generalize 9999 = n
  unfold Instr.checkKey
  cases d <;> first | (cases hd; done) | skip
  all_goals simp only [Sem.run_bind, run_under ht, Result.andThen_ok]
  all_goals rfl
/-- What a map holds: a key's type that is plain, an element's zero value. -/
def kLookup (P : Program) (t : TypeId) (x y : Operand) (ok : Bool) : Kd := match P.underlying t with
  | some (.map kt et) => match P.underlying kt, zeroA P et, P.underlying et with
    | some d, some (z, l), some ed => .load fun T H k => okK (plainKey d (opnd y T)) (mapK (opnd x T) H fun es => findA (opnd y T) es 0 fun q => match q with
      | some (_, v) => fin ok true v k
      | none => fin ok false (toAV z) k)
    | _, _, _ => .no
  | _ => .no
where
  mapK (m : AV) (H : Hp) (k : List (AV × AV) → R) : R := match m with
    | .mnil => k []
    | .map b => onMap (hget b H) k
    | _ => .bad 65
  fin (ok b : Bool) (v : AV) (k : AV → R) : R := match ok with
    | true => k (.tup (.cons v (.cons (.bool b) .nl)))
    | false => k v
theorem mapK_inv {m : AV} {H : Hp} {k : List (AV × AV) → R} {r : AV} {s : St} (h : kLookup.mapK m H k = .ok r s) :
    ∃ es, k es = .ok r s ∧ ∀ {ι : Inj} {n : Nat} {u : Value} {w : World}, RV ι m u → HR ι ⟨H, n⟩ w → ∃ a, RM ι es a.toList ∧ (u = .map none ∧ a = #[] ∨ ∃ b c, u = .map (some b) ∧ w.heap[b]? = some (.map a c)) := by
  unfold kLookup.mapK at h
  split at h
  · exact ⟨[], h, fun {ι n u w} hu hr => ⟨#[], rfl, .inl ⟨hu, rfl⟩⟩⟩
  · obtain ⟨es, he, h⟩ := onMap_inv h
    refine ⟨es, h, fun {ι n u w} hu hr => ?_⟩
    obtain ⟨l, hl, rfl⟩ := hu
    obtain ⟨a, c, h1, h2⟩ := hr.map hl he
    exact ⟨a, h2, .inr ⟨_, c, rfl, h1⟩⟩
  · exact (R.bad_ne h).elim
theorem kLookup_ok {t : TypeId} {x y : Operand} {ok : Bool} (ho : o.op = .lookup t x y ok) : KdOk P o (kLookup P t x y ok) := by
  unfold kLookup
  split
  · rename_i kt et h1
    split
    · rename_i d z l ed h2 h3 h4
      obtain ⟨z1, -⟩ := zeroA_ok h3
      intro T H k r s h
      obtain ⟨hd, h⟩ := okK_inv h
      obtain ⟨es, h, hm⟩ := mapK_inv h
      obtain ⟨q, h, hq⟩ := findA_inv h
      have main : ∀ {ι : Inj} {m n : Nat} {a : Act} {w : World}, RA ι m T a → HR ι ⟨H, n⟩ w → ∃ v b, RV ι (match q with | some (_, v) => v | none => toAV z) v ∧ b = q.isSome ∧
          (execOp a.eval o).run P w = .ok (.value (if ok then .tuple #[v, .bool b] else v)) w := by
        intro ι m n a w ra hr
        obtain ⟨ar, hl, hu⟩ := hm (opnd_rep ra x) hr
        have hf := hq hd (opnd_rep ra y) hl
        have hck : ∀ e, (Instr.checkKey e 10000 kt (a.eval y)).run P w = .ok () w := fun e => run_checkKey h2 hd
        cases q with
        | none =>
          refine ⟨z, false, toAV_rep ι z, rfl, ?_⟩
          have hfk : (Instr.findKey kt (a.eval y) ar.toList).run P w = .ok none w := by
            unfold Instr.findKey
            simp only [Sem.run_bind, run_under h2, Result.andThen_ok]
            rw [hf]; rfl
          unfold execOp; rw [ho]
          rcases hu with ⟨e, rfl⟩ | ⟨b, c, e, hb⟩
          · simp [Instr.lookup, run_under h1, e, hck]
            simp at hfk
            cases ok <;> simp [hfk, z1]
          · have hg : (getObj b).run P w = .ok (.map ar c) w := by simp [getObj, Sem.run, hb]
            simp [Instr.lookup, run_under h1, e, hck, hg]
            cases ok <;> simp [hfk, z1]
        | some jv =>
          obtain ⟨j, v⟩ := jv
          obtain ⟨zz, en, k1, k2, -⟩ := hf
          refine ⟨zz, true, k2, rfl, ?_⟩
          have hfk : (Instr.findKey kt (a.eval y) ar.toList).run P w = .ok (some (j, zz)) w := by
            unfold Instr.findKey
            simp only [Sem.run_bind, run_under h2, Result.andThen_ok]
            rw [k1]; rfl
          unfold execOp; rw [ho]
          rcases hu with ⟨e, rfl⟩ | ⟨b, c, e, hb⟩
          · simp [Instr.lookup, run_under h1, e, hck]
            simp at hfk
            cases ok <;> simp [hfk]
          · have hg : (getObj b).run P w = .ok (.map ar c) w := by simp [getObj, Sem.run, hb]
            simp [Instr.lookup, run_under h1, e, hck, hg]
            cases ok <;> simp [hfk]
      cases q with
      | none =>
        unfold kLookup.fin at h
        cases ok
        · refine ⟨_, h, fun {ι m n a w} ra hr => ?_⟩
          obtain ⟨v, b, g1, rfl, g2⟩ := main ra hr
          exact ⟨v, by simpa using g2, g1⟩
        · refine ⟨_, h, fun {ι m n a w} ra hr => ?_⟩
          obtain ⟨v, b, g1, rfl, g2⟩ := main ra hr
          exact ⟨_, by simpa using g2, ⟨_, rfl, _, _, rfl, g1, _, _, rfl, rfl, rfl⟩⟩
      | some jv =>
        unfold kLookup.fin at h
        cases ok
        · refine ⟨_, h, fun {ι m n a w} ra hr => ?_⟩
          obtain ⟨v, b, g1, rfl, g2⟩ := main ra hr
          exact ⟨v, by simpa using g2, g1⟩
        · refine ⟨_, h, fun {ι m n a w} ra hr => ?_⟩
          obtain ⟨v, b, g1, rfl, g2⟩ := main ra hr
          exact ⟨_, by simpa using g2, ⟨_, rfl, _, _, rfl, g1, _, _, rfl, rfl, rfl⟩⟩
    · exact trivial
  · exact trivial
end
end Go.Ev
