/-
  An evaluator for calls whose arguments are known: copy, clear, calls; all operations.
-/
import Derived.Test.YtbhgcdkahblllaaGreatDoorEvX
set_option linter.unusedVariables false
set_option linter.unusedSimpArgs false
namespace Go.Ev
open Go
noncomputable section
variable {P : Program} {o : Oper}

/-- Values are stored into a slice from its beginning. -/
def intoK (d : AV) (n : Nat) (l : AV) (S : St) (k : St → R) : R := match d with
  | .snil => okK (Nat.beq n 0) (k S)
  | .sl b o m _ => okK (Nat.ble n m) (setK b o l S k)
  | .slu b o m _ => okK (Nat.ble n m) (okK (Nat.ble 1 m) (setK b o l S k))
  | _ => .bad 73
theorem intoK_inv {d : AV} {n : Nat} {l : AV} {S : St} {k : St → R} {r : AV} {s : St} (h : intoK d n l S k = .ok r s) :
    ∃ S', k S' = .ok r s ∧ ∀ {ι : Inj} {u : Value} {vs : List Value} {w : World}, HR ι S w → RV ι d u → RL ι l vs → ∃ base dl c w', u = .slice base dl c ∧ n ≤ dl ∧ (base = none → dl = 0) ∧ HR ι S' w' ∧ Ext ι w ι w' ∧
      (match base with | some a => (storeCells a vs).run P w = .ok () w' | none => w' = w) := by
  unfold intoK at h
  split at h
  · obtain ⟨h1, h⟩ := okK_inv h
    obtain rfl := Nat.eq_of_beq_eq_true h1
    refine ⟨S, by assumption, fun {ι u vs w} hh hu hl => ?_⟩
    have hu : u = _ := hu
    subst hu
    exact ⟨none, 0, 0, w, rfl, Nat.le_refl _, fun _ => rfl, hh, Ext.refl _ _, rfl⟩
  · obtain ⟨h1, h⟩ := okK_inv h
    obtain ⟨S', h, hs⟩ := setK_inv (P := P) h
    refine ⟨S', h, fun {ι u vs w} hh hu hl => ?_⟩
    obtain ⟨L, hL, rfl⟩ := hu
    obtain ⟨w', g1, g2, g3⟩ := hs hh hL hl
    exact ⟨_, _, _, w', rfl, Nat.le_of_ble_eq_true h1, (fun e => by cases e), g2, g3, g1⟩
  · obtain ⟨h1, h⟩ := okK_inv h
    obtain ⟨h2, h⟩ := okK_inv h
    have h2 := Nat.le_of_ble_eq_true h2
    obtain ⟨S', h, hs⟩ := setK_inv (P := P) h
    refine ⟨S', h, fun {ι u vs w} hh hu hl => ?_⟩
    obtain ⟨L, hL, ⟨cap, rfl, -⟩ | ⟨rfl, -⟩⟩ := hu
    · obtain ⟨w', g1, g2, g3⟩ := hs hh hL hl
      exact ⟨_, _, _, w', rfl, Nat.le_of_ble_eq_true h1, (fun e => by cases e), g2, g3, g1⟩
    · omega
  · exact (R.bad_ne h).elim
def kCopy (P : Program) (ts : Array TypeId) (args : Array Operand) : Kd := match args, ts[0]? with
  | ⟨[x, y]⟩, some t => match elA P t with
    | some e => .eff fun T S k => srcK e.size (opnd y T) S.h fun n l => intoK (opnd x T) n l S fun S => k (.int .i64 (.ofNat n)) S
    | none => .no
  | _, _ => .no
theorem kCopy_ok {ts : Array TypeId} {args : Array Operand} (ho : o.op = .call { callee := .builtin .copy, args := args, argTypes := ts }) : KdOk P o (kCopy P ts args) := by
  unfold kCopy
  split
  · rename_i x y t ht
    split
    · rename_i e he
      have ok := elA_ok he
      intro T S k r s h
      obtain ⟨n, l, h, -, hsrc⟩ := srcK_inv (P := P) h
      obtain ⟨S', h, hi⟩ := intoK_inv (P := P) h
      refine ⟨_, S', h, fun {ι m a w} ra hr => ?_⟩
      obtain ⟨h1, vs, h2, h3⟩ := hsrc (opnd_rep ra y) hr
      obtain ⟨base, dl, c, w', e1, e2, e3, e4, e5, e6⟩ := hi hr (opnd_rep ra x) h2
      obtain ⟨cs, hb⟩ := run_builtin (P := P) (a := a) (w := w) ho
      have hmin : Nat.min n dl = n := Nat.min_eq_left e2
      refine ⟨.value (.int .i64 n), w', ι, _, ?_, .inl rfl, rfl, e4, e5⟩
      rw [hb]
      cases base with
      | none =>
        dsimp only at e6
        subst e6
        simp [builtin, Builtin.copy_, ht, run_under ok.under, e1, h1, hmin, ok.sizeOf, h3, goInt]
      | some ad =>
        dsimp only at e6
        simp [builtin, Builtin.copy_, ht, run_under ok.under, e1, h1, hmin, ok.sizeOf, h3, goInt, e6]
    · exact trivial
  · exact trivial
/-- A slice's length. -/
def slLen (v : AV) (k : Nat → R) : R := match v with
  | .snil => k 0
  | .sl _ _ n _ => k n
  | .slu _ _ n _ => k n
  | _ => .bad 74
def kClear (P : Program) (ts : Array TypeId) (args : Array Operand) : Kd := match args, ts[0]? with
  | ⟨[x]⟩, some t => match elA P t with
    | some e => .eff fun T S k => slLen (opnd x T) fun n => match n with
      | 0 => k (.tup .nl) S
      | n + 1 => intoK (opnd x T) (n + 1) (zerosA e.l (n + 1)) S fun S => k (.tup .nl) S
    | none => .no
  | _, _ => .no
theorem kClear_ok {ts : Array TypeId} {args : Array Operand} (ho : o.op = .call { callee := .builtin .clear, args := args, argTypes := ts }) : KdOk P o (kClear P ts args) := by
  unfold kClear
  split
  · rename_i x t ht
    split
    · rename_i e he
      have ok := elA_ok he
      intro T S k r s h
      dsimp only at h
      have hz : ∀ n ι, RL ι (zerosA e.l n) (Builtin.zeroCells e.z.cells n).toList := fun n ι => by
        unfold Builtin.zeroCells
        rw [ok.len]
        have := (ok.rep ι).zeros ok.len n
        rw [ok.len] at this
        exact this
      have main : ∀ {n : Nat} {c0 : AV → Prop}, (match n with
          | 0 => k (.tup .nl) S
          | n + 1 => intoK (opnd x T) (n + 1) (zerosA e.l (n + 1)) S fun S => k (.tup .nl) S) = .ok r s →
          ((n = 0 ∧ k (.tup .nl) S = .ok r s) ∨ ∃ S', k (.tup .nl) S' = .ok r s ∧ ∀ {ι : Inj} {u : Value} {w : World}, HR ι S w → RV ι (opnd x T) u → ∃ a dl c w', u = .slice (some a) dl c ∧ n ≤ dl ∧ HR ι S' w' ∧ Ext ι w ι w' ∧ (storeCells a (Builtin.zeroCells e.z.cells n).toList).run P w = .ok () w' ∧ n ≠ 0) := by
        intro n c0 h
        cases n with
        | zero => exact .inl ⟨rfl, h⟩
        | succ n =>
          obtain ⟨S', h, hi⟩ := intoK_inv (P := P) h
          refine .inr ⟨S', h, fun {ι u w} hh hu => ?_⟩
          obtain ⟨base, dl, c, w', e1, e2, e3, e4, e5, e6⟩ := hi hh hu (hz (n + 1) ι)
          cases base with
          | none => have := e3 rfl; omega
          | some a => exact ⟨a, dl, c, w', e1, e2, e4, e5, e6, Nat.succ_ne_zero _⟩
      have fin : ∀ {n : Nat}, (∀ {ι : Inj} {u : Value}, RV ι (opnd x T) u → ∃ base c, u = .slice base n c ∧ (base = none → n = 0)) → (match n with
          | 0 => k (.tup .nl) S
          | n + 1 => intoK (opnd x T) (n + 1) (zerosA e.l (n + 1)) S fun S => k (.tup .nl) S) = .ok r s →
          ∃ v S', k v S' = .ok r s ∧ ∀ {ι : Inj} {m : Nat} {a : Act} {w : World}, RA ι m T a → HR ι S w → ∃ nx w' κ u, (execOp a.eval o).run P w = .ok nx w' ∧ (nx = .value u ∨ nx = .skip ∧ u = undef) ∧ RV κ v u ∧ HR κ S' w' ∧ Ext ι w κ w' := by
        intro n hn h
        rcases main (c0 := fun _ => True) h with ⟨rfl, h⟩ | ⟨S', h, hi⟩
        · refine ⟨_, S, h, fun {ι m a w} ra hr => ⟨.value (.tuple #[]), w, ι, _, ?_, .inl rfl, ⟨#[], rfl, rfl⟩, hr, Ext.refl _ _⟩⟩
          obtain ⟨base, c, e1, -⟩ := hn (opnd_rep ra x)
          obtain ⟨cs, hb⟩ := run_builtin (P := P) (a := a) (w := w) ho
          rw [hb]
          cases base <;> simp [builtin, Builtin.clear_, ht, run_under ok.under, e1]
        · refine ⟨_, S', h, fun {ι m a w} ra hr => ?_⟩
          obtain ⟨base, c, e1, -⟩ := hn (opnd_rep ra x)
          obtain ⟨ad, dl, c', w', f1, f2, f3, f4, f5, f6⟩ := hi hr (opnd_rep ra x)
          rw [e1] at f1
          cases f1
          refine ⟨.value (.tuple #[]), w', ι, _, ?_, .inl rfl, ⟨#[], rfl, rfl⟩, f3, f4⟩
          obtain ⟨cs, hb⟩ := run_builtin (P := P) (a := a) (w := w) ho
          rw [hb]
          cases n with
          | zero => exact absurd rfl f6
          | succ n => simp [builtin, Builtin.clear_, ht, run_under ok.under, e1, ok.zero, f5]
      generalize hc : opnd x T = v at h fin
      unfold slLen at h
      split at h
      · exact fin (n := 0) (fun {ι u} hu => ⟨none, 0, hu, fun _ => rfl⟩) h
      · exact fin (fun {ι u} hu => by obtain ⟨L, -, rfl⟩ := hu; exact ⟨_, _, rfl, fun e => by cases e⟩) h
      · exact fin (fun {ι u} hu => by
          obtain ⟨L, -, ⟨cap, rfl, -⟩ | ⟨rfl, ad, rfl⟩⟩ := hu
          · exact ⟨_, _, rfl, fun e => by cases e⟩
          · exact ⟨_, _, rfl, fun e => by cases e⟩) h
      · exact (R.bad_ne h).elim
    · exact trivial
  · exact trivial
/-! ### Calls -/
def kCall (c : Call) : Kd := match c.callee with
  | .value f => .call fun T k => onFn (opnd f T) fun g first cap => k g (first.app ((opndL c.args.toList T).app cap))
  | _ => .no
theorem kCall_ok {c : Call} (ho : o.op = .call c) : KdOk P o (kCall c) := by
  unfold kCall
  split
  · rename_i f hf
    intro T k r s h
    obtain ⟨g, p, q, hc, h⟩ := onFn_inv h
    refine ⟨g, _, h, fun {ι m a w} ra => ?_⟩
    have e1 := opnd_rep ra f; rw [hc] at e1; obtain ⟨p', q', e1, e2, e3⟩ := e1
    refine ⟨p'.toList ++ (c.args.toList.map a.eval ++ q'.toList), e2.app ((opndL_rep ra _).app e3), fun fn h1 h2 h3 => ?_⟩
    have hcf : ∀ args, (callFunc g args).run P w = .ok (.enter g args) w := fun args => by
      simp only [callFunc, Sem.run_bind, run_program, Result.andThen_ok, h1, h2, h3, Bool.false_eq_true, if_false]
      rfl
    unfold execOp; rw [ho]
    simp only [resolve, hf, e1, Deferred.ofValue, Sem.run_bind, Sem.run_pure, Result.andThen_ok, invoke, hcf]
    congr 2
    apply Array.ext'
    simp
  · exact trivial
/-- All operations. -/
def kd (P : Program) (op : Op) : Kd := match op with
  | .move x => kMove x
  | .assign x => kMove x
  | .pick c a b => kPick c a b
  | .alloc t => kAlloc P t
  | .box _ x => kBox x
  | .build t ps => kBuild P t ps
  | .buildSlice t n ps => kBuildSlice P t n ps
  | .insert t m k x => kMapPut P t m k x
  | .mapUpdate t m k x => kMapPut P t m k x
  | .load t a => kLoad P t a
  | .store t a x => kStore P t a x
  | .nilCheck x => kNil x
  | .binOp op t x y _ => match P.underlying t with
    | some (.int _) => match op with
      | .shl => kShift true x y
      | .shr => kShift false x y
      | op => match binI op with
        | some f => match op with
          | .sub => kIntG .sub f x y
          | .leq => kIntG .leq f x y
          | _ => kInt f x y
        | none => .no
    | some .string => match op with
      | .eql => kStrEq false x y
      | .neq => kStrEq true x y
      | .add => kStrAdd x y
      | _ => .no
    | some (.struct _) => match op with
      | .eql => kEqS P false t x y
      | .neq => kEqS P true t x y
      | _ => .no
    | some d => match op with
      | .eql => kEqI false d x y
      | .neq => kEqI true d x y
      | _ => .no
    | none => .no
  | .unOp .not _ x => kNot x
  | .unOp .neg _ x => kNeg x
  | .convert s d x => kConv P s d x
  | .makeInterface t x => kIface P t x
  | .makeFunc f a b => kFunc f a b
  | .makeMap t r => kMakeMap t r
  | .makeSlice t l c => kMakeSlice P t l c
  | .slice t x lo hi mx => kSliceG P t x lo hi mx
  | .fieldAddr t x i => kFieldAddr P t x i
  | .field t x i => kField P t x i
  | .indexAddr t x i => kIndexAddr P t x i
  | .index t x i => kIndexA P t x i
  | .lookup t x k ok => kLookup P t x k ok
  | .extract t i => kExtract t i
  | .call ⟨.builtin .len, args, ts⟩ => kLen P ts args
  | .call ⟨.builtin .cap, args, ts⟩ => kCapG P ts args
  | .call ⟨.builtin .min, args, ts⟩ => kMinMax false args
  | .call ⟨.builtin .max, args, ts⟩ => kMinMax true args
  | .call ⟨.builtin .append, args, ts⟩ => kAppendZ P ts args
  | .call ⟨.builtin .copy, args, ts⟩ => kCopy P ts args
  | .call ⟨.builtin .clear, args, ts⟩ => kClear P ts args
  | .call c => kCall c
  | _ => .no
theorem kd_ok : KdOk P o (kd P o.op) := by
  generalize he : o.op = op
  unfold kd
  split
  · exact kMove_ok (.inl he)
  · exact kMove_ok (.inr he)
  · exact kPick_ok he
  · exact kAlloc_ok he
  · exact kBox_ok he
  · exact kBuild_ok he
  · exact kBuildSlice_ok he
  · exact kMapPut_ok (.inr he)
  · exact kMapPut_ok (.inl he)
  · exact kLoad_ok he
  · exact kStore_ok he
  · exact kNil_ok he
  · split
    · split
      · exact kShift_ok (left := true) he
      · exact kShift_ok (left := false) he
      · split
        · rename_i f hf
          split
          · exact kIntG_ok hf he
          · exact kIntG_ok hf he
          · exact kInt_ok hf he
        · exact trivial
    · split
      · exact kStrEq_ok (neg := false) he
      · exact kStrEq_ok (neg := true) he
      · exact kStrAdd_ok he
      · exact trivial
    · split
      · exact kEqS_ok (neg := false) he
      · exact kEqS_ok (neg := true) he
      · exact trivial
    · rename_i d hd1 hd2 hd3 hd
      split
      · exact kEqI_ok (neg := false) hd he
      · exact kEqI_ok (neg := true) hd he
      · exact trivial
    · exact trivial
  · exact kNot_ok he
  · exact kNeg_ok he
  · exact kConv_ok he
  · exact kIface_ok he
  · exact kFunc_ok he
  · exact kMakeMap_ok he
  · exact kMakeSlice_ok he
  · exact kSliceG_ok he
  · exact kFieldAddr_ok he
  · exact kField_ok he
  · exact kIndexAddr_ok he
  · exact kIndexA_ok he
  · exact kLookup_ok he
  · exact kExtract_ok he
  · exact kLen_ok he
  · exact kCapG_ok he
  · exact kMinMax_ok (mx := false) he
  · exact kMinMax_ok (mx := true) he
  · exact kAppendZ_ok he
  · exact kCopy_ok he
  · exact kClear_ok he
  · exact kCall_ok he
  · exact trivial
end
end Go.Ev
