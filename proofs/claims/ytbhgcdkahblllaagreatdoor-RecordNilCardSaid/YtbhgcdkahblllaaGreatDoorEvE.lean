/-
  An evaluator for calls whose arguments are known: the operations that only compute.
-/
import Derived.Test.YtbhgcdkahblllaaGreatDoorEvD
set_option linter.unusedVariables false
set_option linter.unusedSimpArgs false
namespace Go.Ev
open Go
noncomputable section

inductive Kd where
  | pure (f : T → (AV → R) → R)
  | load (f : T → Hp → (AV → R) → R)
  | make (f : T → (AO → (Nat → AV) → R) → R)
  | eff (f : T → St → K → R)
  | call (f : T → (Nat → AV → R) → R)
  | no
def PureOk (P : Program) (o : Oper) (f : T → (AV → R) → R) : Prop := ∀ {T : T} {k : AV → R} {r : AV} {s : St}, f T k = .ok r s →
  ∃ v, k v = .ok r s ∧ ∀ {ι : Inj} {m : Nat} {a : Act} {w : World}, RA ι m T a → ∃ u, (execOp a.eval o).run P w = .ok (.value u) w ∧ RV ι v u
def LoadOk (P : Program) (o : Oper) (f : T → Hp → (AV → R) → R) : Prop := ∀ {T : T} {H : Hp} {k : AV → R} {r : AV} {s : St}, f T H k = .ok r s →
  ∃ v, k v = .ok r s ∧ ∀ {ι : Inj} {m n : Nat} {a : Act} {w : World}, RA ι m T a → HR ι ⟨H, n⟩ w → ∃ u, (execOp a.eval o).run P w = .ok (.value u) w ∧ RV ι v u
def MakeOk (P : Program) (o : Oper) (f : T → (AO → (Nat → AV) → R) → R) : Prop := ∀ {T : T} {k : AO → (Nat → AV) → R} {r : AV} {s : St}, f T k = .ok r s →
  ∃ b mk, k b mk = .ok r s ∧ b ≠ .gone ∧ ∀ {ι : Inj} {m : Nat} {a : Act} {w : World}, RA ι m T a → ∃ x sz u, (execOp a.eval o).run P w = .ok (.value u) (w.alloc x) ∧
    (∀ κ : Inj, ι.le κ → RO κ b ⟨w.heap.size, 0, sz⟩ (w.alloc x)) ∧ ∀ (κ : Inj) i, κ i = some ⟨w.heap.size, 0, sz⟩ → RV κ (mk i) u
def EffOk (P : Program) (o : Oper) (f : T → St → K → R) : Prop := ∀ {T : T} {S : St} {k : K} {r : AV} {s : St}, f T S k = .ok r s →
  ∃ v S', k v S' = .ok r s ∧ ∀ {ι : Inj} {m : Nat} {a : Act} {w : World}, RA ι m T a → HR ι S w → ∃ nx w' κ u, (execOp a.eval o).run P w = .ok nx w' ∧ (nx = .value u ∨ nx = .skip ∧ u = undef) ∧ RV κ v u ∧ HR κ S' w' ∧ Ext ι w κ w'
def CallOk (P : Program) (o : Oper) (f : T → (Nat → AV → R) → R) : Prop := ∀ {T : T} {k : Nat → AV → R} {r : AV} {s : St}, f T k = .ok r s →
  ∃ g l, k g l = .ok r s ∧ ∀ {ι : Inj} {m : Nat} {a : Act} {w : World}, RA ι m T a → ∃ vs : List Value, RL ι l vs ∧ ∀ fn, P.funcs[g]? = some fn → (fn.name == "runtime.NumGoroutine") = false → fn.body.isNone = false → (execOp a.eval o).run P w = .ok (.enter g vs.toArray) w
def KdOk (P : Program) (o : Oper) : Kd → Prop
  | .pure f => PureOk P o f
  | .load f => LoadOk P o f
  | .make f => MakeOk P o f
  | .eff f => EffOk P o f
  | .call f => CallOk P o f
  | .no => True

variable {P : Program} {o : Oper}
/-! ### Moving -/
def kMove (x : Operand) : Kd := .pure fun T k => k (opnd x T)
theorem kMove_ok {x : Operand} (ho : o.op = .move x ∨ o.op = .assign x) : KdOk P o (kMove x) := fun {T k r s} h =>
  ⟨_, h, fun {ι m a w} ra => ⟨a.eval x, by rcases ho with ho | ho <;> (unfold execOp; rw [ho]; rfl), opnd_rep ra x⟩⟩
def kPick (c x y : Operand) : Kd := .pure fun T k => onBool (opnd c T) (k (opnd x T)) (k (opnd y T))
theorem kPick_ok {c x y : Operand} (ho : o.op = .pick c x y) : KdOk P o (kPick c x y) := fun {T k r s} h => by
  rcases onBool_inv h with ⟨hc, h⟩ | ⟨hc, h⟩ <;> refine ⟨_, h, fun {ι m a w} ra => ⟨_, ?_, opnd_rep ra _⟩⟩ <;>
    (have e := opnd_rep ra c; rw [hc] at e; have e : a.eval c = _ := e; unfold execOp; rw [ho]; simp [e, asBool])
def nilK (v : AV) (k : R) : R := match v with
  | .ptr _ _ => k
  | .sl _ _ _ _ => k
  | .slu _ _ _ _ => k
  | .map _ => k
  | .iface _ _ => k
  | .fn (.func _) _ _ => k
  | _ => .bad 30
def kNil (x : Operand) : Kd := .pure fun T k => nilK (opnd x T) (k (opnd x T))
theorem kNil_ok {x : Operand} (ho : o.op = .nilCheck x) : KdOk P o (kNil x) := fun {T k r s} h => by
  have h : nilK (opnd x T) (k (opnd x T)) = .ok r s := h
  generalize hv : opnd x T = v at h
  cases v with
  | ptr b i =>
    refine ⟨_, h, fun {ι m a w} ra => ⟨a.eval x, ?_, hv ▸ opnd_rep ra x⟩⟩
    have e := opnd_rep ra x; rw [hv] at e
    obtain ⟨l, -, e⟩ := e
    unfold execOp; rw [ho]; simp [e]
  | sl b i n c =>
    refine ⟨_, h, fun {ι m a w} ra => ⟨a.eval x, ?_, hv ▸ opnd_rep ra x⟩⟩
    have e := opnd_rep ra x; rw [hv] at e
    obtain ⟨l, -, e⟩ := e
    unfold execOp; rw [ho]; simp [e]
  | slu b i n c =>
    refine ⟨_, h, fun {ι m a w} ra => ⟨a.eval x, ?_, hv ▸ opnd_rep ra x⟩⟩
    have e := opnd_rep ra x; rw [hv] at e
    obtain ⟨l, -, ⟨cap, e, -⟩ | ⟨-, cap, e⟩⟩ := e <;> (unfold execOp; rw [ho]; simp [e])
  | map b =>
    refine ⟨_, h, fun {ι m a w} ra => ⟨a.eval x, ?_, hv ▸ opnd_rep ra x⟩⟩
    have e := opnd_rep ra x; rw [hv] at e
    obtain ⟨l, -, e⟩ := e
    unfold execOp; rw [ho]; simp [e]
  | iface t y =>
    refine ⟨_, h, fun {ι m a w} ra => ⟨a.eval x, ?_, hv ▸ opnd_rep ra x⟩⟩
    have e := opnd_rep ra x; rw [hv] at e
    obtain ⟨u, e, -⟩ := e
    unfold execOp; rw [ho]; simp [e]
  | fn f p q =>
    cases f with
    | func g =>
      refine ⟨_, h, fun {ι m a w} ra => ⟨a.eval x, ?_, hv ▸ opnd_rep ra x⟩⟩
      have e := opnd_rep ra x; rw [hv] at e
      obtain ⟨p', q', e, -⟩ := e
      unfold execOp; rw [ho]; simp [e]
    | _ => exact (R.bad_ne h).elim
  | _ => exact (R.bad_ne h).elim
/-! ### One operand -/
def kNot (x : Operand) : Kd := .pure fun T k => onBool (opnd x T) (k (.bool false)) (k (.bool true))
theorem kNot_ok {x : Operand} {t : TypeId} (ho : o.op = .unOp .not t x) : KdOk P o (kNot x) := fun {T k r s} h => by
  rcases onBool_inv h with ⟨hc, h⟩ | ⟨hc, h⟩ <;> refine ⟨_, h, fun {ι m a w} ra => ⟨_, ?_, rfl⟩⟩ <;>
    (have e := opnd_rep ra x; rw [hc] at e; have e : a.eval x = _ := e; unfold execOp; rw [ho]; simp [e, Op.unary])
def kNeg (x : Operand) : Kd := .pure fun T k => onInt (opnd x T) (.bad 31) fun kd n => iK kd (wrapF kd (0 - n)) k
theorem kNeg_ok {x : Operand} {t : TypeId} (ho : o.op = .unOp .neg t x) : KdOk P o (kNeg x) := fun {T k r s} h => by
  rcases onInt_inv h with ⟨kd, n, hc, h⟩ | ⟨-, h⟩
  · rw [iK_eq, wrapF_eq] at h
    refine ⟨_, h, fun {ι m a w} ra => ⟨_, ?_, rfl⟩⟩
    have e := opnd_rep ra x; rw [hc] at e; have e : a.eval x = _ := e
    unfold execOp; rw [ho]; simp [e, Op.unary, Op.intArith]
  · exact (R.bad_ne h).elim
def kConv (P : Program) (src dst : TypeId) (x : Operand) : Kd := match P.underlying src, P.underlying dst with
  | some _, some (.int kd) => .pure fun T k => onInt (opnd x T) (.bad 32) fun _ n => iK kd (wrapF kd n) k
  | some _, some .string => .pure fun T k => match opnd x T with
    | .str n b => k (.str n b)
    | _ => .bad 32
  | _, _ => .no
theorem kConv_ok {src dst : TypeId} {x : Operand} (ho : o.op = .convert src dst x) : KdOk P o (kConv P src dst x) := by
  unfold kConv
  split
  · rename_i d kd h1 h2
    intro T k r s h
    rcases onInt_inv h with ⟨kd', n, hc, h⟩ | ⟨-, h⟩
    · rw [iK_eq, wrapF_eq] at h
      refine ⟨_, h, fun {ι m a w} ra => ⟨_, ?_, rfl⟩⟩
      have e := opnd_rep ra x; rw [hc] at e; have e : a.eval x = _ := e
      unfold execOp; rw [ho]; simp [e, convert, underlying, h1, h2, Conv.intToInt]
    · exact (R.bad_ne h).elim
  · rename_i d h1 h2
    intro T k r s h
    dsimp only at h
    split at h
    · rename_i n b hc
      refine ⟨_, h, fun {ι m a w} ra => ⟨a.eval x, ?_, hc ▸ opnd_rep ra x⟩⟩
      have e := opnd_rep ra x; rw [hc] at e; obtain ⟨z, e, -⟩ := e
      unfold execOp; rw [ho]; simp [e, convert, underlying, h1, h2]
    · exact (R.bad_ne h).elim
  · exact trivial
def kIface (P : Program) (t : TypeId) (x : Operand) : Kd := match P.underlying t with
  | some (.interface _) => .no
  | some _ => .pure fun T k => k (.iface t (opnd x T))
  | none => .no
theorem kIface_ok {t : TypeId} {x : Operand} (ho : o.op = .makeInterface t x) : KdOk P o (kIface P t x) := by
  unfold kIface
  split
  · exact trivial
  · rename_i d h1 h2
    intro T k r s h
    refine ⟨_, h, fun {ι m a w} ra => ⟨.iface t (a.eval x), ?_, ⟨_, rfl, opnd_rep ra x⟩⟩⟩
    unfold execOp; rw [ho]
    simp [Instr.makeInterface, underlying, h2]
  · exact trivial
def kFunc (f : Fn) (x y : Array Operand) : Kd := .pure fun T k => k (.fn f (opndL x.toList T) (opndL y.toList T))
theorem kFunc_ok {f : Fn} {x y : Array Operand} (ho : o.op = .makeFunc f x y) : KdOk P o (kFunc f x y) := fun {T k r s} h =>
  ⟨_, h, fun {ι m a w} ra => ⟨.func f (x.map a.eval) (y.map a.eval), by unfold execOp; rw [ho]; rfl,
    ⟨_, _, rfl, by rw [Array.toList_map]; exact opndL_rep ra _, by rw [Array.toList_map]; exact opndL_rep ra _⟩⟩⟩
def kExtract (x : Operand) (i : Nat) : Kd := .pure fun T k => onTup (opnd x T) fun l => okK (Nat.ble (Nat.succ i) l.len) (k (l.nth i))
theorem kExtract_ok {x : Operand} {i : Nat} (ho : o.op = .extract x i) : KdOk P o (kExtract x i) := fun {T k r s} h => by
  obtain ⟨l, hc, h⟩ := onTup_inv h
  obtain ⟨hi, h⟩ := okK_inv h
  refine ⟨_, h, fun {ι m a w} ra => ?_⟩
  have e := opnd_rep ra x; rw [hc] at e; obtain ⟨z, e, hl⟩ := e
  obtain ⟨u, hu, hr⟩ := hl.nth i (Nat.le_of_ble_eq_true hi)
  refine ⟨u, ?_, hr⟩
  unfold execOp; rw [ho]
  simp at hu
  simp [e, Instr.extract, hu]
/-! ### Parts of structs -/
def isAggD : TypeDesc → Bool
  | .struct _ => true
  | .array _ _ => true
  | _ => false
theorem run_isAgg {t : TypeId} {d : TypeDesc} {w : World} (h : P.underlying t = some d) : (isAgg t).run P w = .ok (isAggD d) w := by
  unfold isAgg underlying
  simp [h]
  cases d <;> rfl
/-- The part of a type at a place. -/
def partA (P : Program) (t : TypeId) (off : Nat) : Option (AV → (AV → R) → R) := match P.underlying t, P.info? t with
  | some d, some i => match isAggD d with
    | true => some fun l k => k (.agg ((l.drop off).take i.size))
    | false => some fun l k => okK (Nat.ble (Nat.succ off) l.len) (k (l.nth off))
  | _, _ => none
theorem run_part {t : TypeId} {off : Nat} {f : AV → (AV → R) → R} (hf : partA P t off = some f) {l : AV} {k : AV → R} {r : AV} {s : St} (h : f l k = .ok r s) :
    ∃ v, k v = .ok r s ∧ ∀ {ι : Inj} {z : Array Value} {w : World}, RL ι l z.toList → ∃ u, (part t z off).run P w = .ok u w ∧ RV ι v u := by
  unfold partA at hf
  split at hf
  · rename_i d i h1 h2
    split at hf
    · rename_i h3
      cases hf
      refine ⟨_, h, fun {ι z w} hl => ⟨.agg (z.extract off (off + i.size)), ?_, ⟨_, rfl, ?_⟩⟩⟩
      · unfold part
        simp [run_isAgg h1, h3, sizeOf, typeInfo, h2]
      · have : (z.extract off (off + i.size)).toList = (z.toList.drop off).take i.size := by simp [Array.toList_extract, List.extract, Nat.add_sub_cancel_left]
        rw [this]
        exact (hl.drop off).take _
    · rename_i h3
      cases hf
      obtain ⟨hi, h⟩ := okK_inv h
      refine ⟨_, h, fun {ι z w} hl => ?_⟩
      obtain ⟨u, hu, hr⟩ := hl.nth off (Nat.le_of_ble_eq_true hi)
      refine ⟨u, ?_, hr⟩
      simp at hu
      unfold part
      simp [run_isAgg h1, h3, hu]
  · cases hf
def kField (P : Program) (t : TypeId) (x : Operand) (i : Nat) : Kd := match P.underlying t with
  | some (.struct fs) => match fs[i]? with
    | some f => match partA P f.type f.offset with
      | some g => .pure fun T k => onAgg (opnd x T) fun l => g l k
      | none => .no
    | none => .no
  | _ => .no
theorem kField_ok {t : TypeId} {x : Operand} {i : Nat} (ho : o.op = .field t x i) : KdOk P o (kField P t x i) := by
  unfold kField
  split
  · rename_i fs h1
    split
    · rename_i f h2
      split
      · rename_i g h3
        intro T k r s h
        obtain ⟨l, hc, h⟩ := onAgg_inv h
        obtain ⟨v, h, hp⟩ := run_part h3 h
        refine ⟨v, h, fun {ι m a w} ra => ?_⟩
        have e := opnd_rep ra x; rw [hc] at e; obtain ⟨z, e, hl⟩ := e
        obtain ⟨u, hu, hr⟩ := hp (w := w) hl
        refine ⟨u, ?_, hr⟩
        unfold execOp; rw [ho]
        simp [e, Instr.field, underlying, h1, h2, asAgg, hu]
      · exact trivial
    · exact trivial
  · exact trivial
end
end Go.Ev
