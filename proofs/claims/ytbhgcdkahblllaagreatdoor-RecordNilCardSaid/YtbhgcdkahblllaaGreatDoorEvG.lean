/-
  An evaluator for calls whose arguments are known: operations of two operands.
-/
import Derived.Test.YtbhgcdkahblllaaGreatDoorEvF
set_option linter.unusedVariables false
set_option linter.unusedSimpArgs false
namespace Go.Ev
open Go
noncomputable section
variable {P : Program} {o : Oper}

abbrev B2 := IntKind → Int → Int → (AV → R) → R
def binI : BinOp → Option B2
  | .add => some fun kd x y k => iK kd (wrapF kd (x + y)) k
  | .sub => some fun kd x y k => iK kd (wrapF kd (x - y)) k
  | .mul => some fun kd x y k => iK kd (wrapF kd (x * y)) k
  | .quo => some fun kd x y k => okK (!eqI y 0) (iK kd (wrapF kd (x.tdiv y)) k)
  | .rem => some fun kd x y k => okK (!eqI y 0) (iK kd (x.tmod y) k)
  | .and => some fun kd x y k => iK kd (wrapF kd (BitVec.ofInt kd.bits x &&& BitVec.ofInt kd.bits y).toNat) k
  | .or => some fun kd x y k => iK kd (wrapF kd (BitVec.ofInt kd.bits x ||| BitVec.ofInt kd.bits y).toNat) k
  | .xor => some fun kd x y k => iK kd (wrapF kd (BitVec.ofInt kd.bits x ^^^ BitVec.ofInt kd.bits y).toNat) k
  | .andNot => some fun kd x y k => iK kd (wrapF kd (BitVec.ofInt kd.bits x &&& ~~~BitVec.ofInt kd.bits y).toNat) k
  | .eql => some fun _ x y k => bK (eqI x y) k
  | .neq => some fun _ x y k => bK (!eqI x y) k
  | .lss => some fun _ x y k => bK (!leI y x) k
  | .leq => some fun _ x y k => bK (leI x y) k
  | .gtr => some fun _ x y k => bK (!leI x y) k
  | .geq => some fun _ x y k => bK (leI y x) k
  | .shl | .shr => none
theorem not_le_dec (x y : Int) : (!decide (x ≤ y)) = decide (y < x) := by rw [Bool.eq_iff_iff]; simp
theorem binI_ok {op : BinOp} {f : B2} (hf : binI op = some f) {kd : IntKind} {x y : Int} {k : AV → R} {r : AV} {s : St} (h : f kd x y k = .ok r s) :
    ∃ v, k v = .ok r s ∧ ∀ {ι : Inj} {t : TypeId} {w : World}, ∃ u, (binOp op t (.int kd x) (.int kd y)).run P w = .ok u w ∧ RV ι v u := by
  cases op <;> simp only [binI, Option.some.injEq] at hf <;> first | (cases hf; done) | skip
  all_goals subst hf
  all_goals try (simp only [iK_eq, wrapF_eq, bK_eq, leI_eq, eqI_eq] at h)
  case add => exact ⟨_, h, fun {ι t w} => ⟨_, by simp [binOp, Op.intArith], rfl⟩⟩
  case sub => exact ⟨_, h, fun {ι t w} => ⟨_, by simp [binOp, Op.intArith], rfl⟩⟩
  case mul => exact ⟨_, h, fun {ι t w} => ⟨_, by simp [binOp, Op.intArith], rfl⟩⟩
  case quo =>
    obtain ⟨hy, h⟩ := okK_inv h
    have hy : y ≠ 0 := by simpa using hy
    exact ⟨_, h, fun {ι t w} => ⟨_, by simp [binOp, Op.intDiv, hy], rfl⟩⟩
  case rem =>
    obtain ⟨hy, h⟩ := okK_inv h
    have hy : y ≠ 0 := by simpa using hy
    exact ⟨_, h, fun {ι t w} => ⟨_, by simp [binOp, Op.intDiv, hy], rfl⟩⟩
  case and => exact ⟨_, h, fun {ι t w} => ⟨_, by simp [binOp, Op.intBits], rfl⟩⟩
  case or => exact ⟨_, h, fun {ι t w} => ⟨_, by simp [binOp, Op.intBits], rfl⟩⟩
  case xor => exact ⟨_, h, fun {ι t w} => ⟨_, by simp [binOp, Op.intBits], rfl⟩⟩
  case andNot => exact ⟨_, h, fun {ι t w} => ⟨_, by simp [binOp, Op.intBits], rfl⟩⟩
  case eql => exact ⟨_, h, fun {ι t w} => ⟨.bool (decide (x = y)), by simp [binOp, Op.intCmp]; rfl, rfl⟩⟩
  case neq => exact ⟨_, h, fun {ι t w} => ⟨.bool (!decide (x = y)), by simp [binOp, Op.intCmp]; rfl, rfl⟩⟩
  case lss => exact ⟨_, h, fun {ι t w} => ⟨.bool (!decide (y ≤ x)), by rw [not_le_dec]; simp [binOp, Op.intCmp], rfl⟩⟩
  case leq => exact ⟨_, h, fun {ι t w} => ⟨.bool (decide (x ≤ y)), by simp [binOp, Op.intCmp], rfl⟩⟩
  case gtr => exact ⟨_, h, fun {ι t w} => ⟨.bool (!decide (x ≤ y)), by rw [not_le_dec]; simp [binOp, Op.intCmp], rfl⟩⟩
  case geq => exact ⟨_, h, fun {ι t w} => ⟨.bool (decide (y ≤ x)), by simp [binOp, Op.intCmp], rfl⟩⟩
theorem guard_int {op : BinOp} {t : TypeId} {x y : Operand} {k k' : IntKind} {a b : Int} {w : World} : (eqGuard op t x y (.int k a) (.int k' b)).run P w = .ok () w := by
  cases op <;> rfl
theorem guard_str {op : BinOp} {t : TypeId} {x y : Operand} {a b : ByteArray} {w : World} : (eqGuard op t x y (.string a) (.string b)).run P w = .ok () w := by
  cases op <;> rfl
def kInt (f : B2) (x y : Operand) : Kd := .pure fun T k => onInt (opnd x T) (.bad 40) fun kx a => onInt (opnd y T) (.bad 40) fun ky b => okK (eqKd kx ky) (f kx a b k)
theorem kInt_ok {op : BinOp} {f : B2} (hf : binI op = some f) {t u : TypeId} {x y : Operand} (ho : o.op = .binOp op t x y u) : KdOk P o (kInt f x y) := fun {T k r s} h => by
  rcases onInt_inv h with ⟨kx, a, h1, h⟩ | ⟨-, h⟩
  · rcases onInt_inv h with ⟨ky, b, h2, h⟩ | ⟨-, h⟩
    · obtain ⟨hk, g⟩ := okK_inv h
      clear h
      obtain rfl := eqKd_eq hk
      obtain ⟨v, h, hv⟩ := binI_ok (P := P) hf g
      refine ⟨v, h, fun {ι m ac w} ra => ?_⟩
      have e1 := opnd_rep ra x; rw [h1] at e1; have e1 : ac.eval x = _ := e1
      have e2 := opnd_rep ra y; rw [h2] at e2; have e2 : ac.eval y = _ := e2
      obtain ⟨u', hu, hr⟩ := hv (ι := ι) (t := t) (w := w)
      refine ⟨u', ?_, hr⟩
      unfold execOp; rw [ho]
      simp [e1, e2, guard_int, hu]
    · exact (R.bad_ne h).elim
  · exact (R.bad_ne h).elim
def kShift (left : Bool) (x y : Operand) : Kd := .pure fun T k => onInt (opnd x T) (.bad 41) fun kx a => onNat (opnd y T) fun b =>
  match left with
  | true => iK kx (wrapF kx (a * 2 ^ (min b kx.bits))) k
  | false => iK kx (a.fdiv (2 ^ (min b kx.bits))) k
theorem kShift_ok {left : Bool} {t u : TypeId} {x y : Operand} (ho : o.op = .binOp (if left then .shl else .shr) t x y u) : KdOk P o (kShift left x y) := fun {T k r s} h => by
  rcases onInt_inv h with ⟨kx, a, h1, h⟩ | ⟨-, h⟩
  · obtain ⟨ky, b, h2, h⟩ := onNat_inv h
    cases left with
    | true =>
      simp only [iK_eq, wrapF_eq] at h
      refine ⟨_, h, fun {ι m ac w} ra => ⟨_, ?_, rfl⟩⟩
      have e1 := opnd_rep ra x; rw [h1] at e1; have e1 : ac.eval x = _ := e1
      have e2 := opnd_rep ra y; rw [h2] at e2; have e2 : ac.eval y = _ := e2
      have hb : ¬ ((b : Int) < 0) := by omega
      unfold execOp; rw [ho]
      simp [e1, e2, guard_int, binOp, Op.shift, hb]
    | false =>
      simp only [iK_eq] at h
      refine ⟨_, h, fun {ι m ac w} ra => ⟨_, ?_, rfl⟩⟩
      have e1 := opnd_rep ra x; rw [h1] at e1; have e1 : ac.eval x = _ := e1
      have e2 := opnd_rep ra y; rw [h2] at e2; have e2 : ac.eval y = _ := e2
      have hb : ¬ ((b : Int) < 0) := by omega
      unfold execOp; rw [ho]
      simp [e1, e2, guard_int, binOp, Op.shift, hb]
  · exact (R.bad_ne h).elim
/-! ### Strings -/
def onStr (v : AV) (k : Nat → Nat → R) : R := match v with
  | .str n b => k n b
  | _ => .bad 42
theorem onStr_inv {v : AV} {k : Nat → Nat → R} {r : AV} {s : St} (h : onStr v k = .ok r s) : ∃ n b, v = .str n b ∧ k n b = .ok r s := by
  unfold onStr at h
  split at h
  · exact ⟨_, _, rfl, h⟩
  · exact (R.bad_ne h).elim
def kStrEq (neg : Bool) (x y : Operand) : Kd := .pure fun T k => onStr (opnd x T) fun n a => onStr (opnd y T) fun m b => bK (Bool.xor neg (Nat.beq n m && Nat.beq a b)) k
theorem kStrEq_ok {neg : Bool} {t u : TypeId} {x y : Operand} (ho : o.op = .binOp (if neg then .neq else .eql) t x y u) : KdOk P o (kStrEq neg x y) := fun {T k r s} h => by
  obtain ⟨n, a, h1, h⟩ := onStr_inv h
  obtain ⟨m, b, h2, h⟩ := onStr_inv h
  rw [bK_eq] at h
  refine ⟨_, h, fun {ι mm ac w} ra => ⟨_, ?_, rfl⟩⟩
  have e1 := opnd_rep ra x; rw [h1] at e1; obtain ⟨p, e1, hp, hpa⟩ := e1
  have e2 := opnd_rep ra y; rw [h2] at e2; obtain ⟨q, e2, hq, hqa⟩ := e2
  have hb : (Nat.beq n m && Nat.beq a b) = (p.toList == q.toList) := by
    rw [Bool.eq_iff_iff, Bool.and_eq_true, beq_iff_eq, ← str_eq, ← hp, ← hq, ← hpa, ← hqa, Nat.beq_eq, Nat.beq_eq]
  rw [hb]
  unfold execOp; rw [ho]
  cases neg <;> simp [e1, e2, guard_str, binOp, Op.stringOp]
def kStrAdd (x y : Operand) : Kd := .pure fun T k => onStr (opnd x T) fun n a => onStr (opnd y T) fun m b => fN (Nat.add n m) fun l => okK (Nat.ble l 1000000) (fN (Nat.add a (Nat.mul (Nat.pow 256 n) b)) fun c => k (.str l c))
theorem kStrAdd_ok {t u : TypeId} {x y : Operand} (ho : o.op = .binOp .add t x y u) : KdOk P o (kStrAdd x y) := fun {T k r s} h => by
  obtain ⟨n, a, h1, h⟩ := onStr_inv h
  obtain ⟨m, b, h2, h⟩ := onStr_inv h
  rw [fN_eq] at h
  obtain ⟨hl, h⟩ := okK_inv h
  rw [fN_eq] at h
  have hl : n + m ≤ 1000000 := Nat.le_of_ble_eq_true hl
  refine ⟨_, h, fun {ι mm ac w} ra => ?_⟩
  have e1 := opnd_rep ra x; rw [h1] at e1; obtain ⟨p, e1, hp, hpa⟩ := e1
  have e2 := opnd_rep ra y; rw [h2] at e2; obtain ⟨q, e2, hq, hqa⟩ := e2
  refine ⟨.string (p ++ q), ?_, ⟨p ++ q, rfl, ?_, ?_⟩⟩
  · unfold execOp; rw [ho]
    have hm : ¬ (((p.size + q.size : Nat) : Int) > IntKind.i64.max) := by
      rw [hp, hq]; simp only [IntKind.max, IntKind.signed, IntKind.bits, if_true]; omega
    have hs : (Op.stringOp .add p q).run P w = .ok (.string (p ++ q)) w := by
      unfold Op.stringOp
      dsimp only
      rw [if_neg hm]; rfl
    simp [e1, e2, guard_str, binOp, hs]
  · rw [ByteArray.size_append, hp, hq]; rfl
  · rw [ByteArray.data_append, Array.toList_append, packB_append, size_list, hp, hpa, hqa]; rfl
/-! ### Comparison with nil, and of Booleans -/
/-- Whether two values are equal, where that is seen from them alone. -/
def eqA (x y : AV) : Option Bool := match x, y with
  | .bool a, .bool b => some (a == b)
  | .pnil, .pnil => some true
  | .pnil, .ptr _ _ => some false
  | .ptr _ _, .pnil => some false
  | .snil, .snil => some true
  | .snil, .sl _ _ _ _ => some false
  | .snil, .slu _ _ _ _ => some false
  | .sl _ _ _ _, .snil => some false
  | .slu _ _ _ _, .snil => some false
  | .mnil, .mnil => some true
  | .mnil, .map _ => some false
  | .map _, .mnil => some false
  | .fnil, .fnil => some true
  | .fnil, .fn _ _ _ => some false
  | .fn _ _ _, .fnil => some false
  | .inil, .iface _ _ => some false
  | .iface _ _, .inil => some false
  | _, _ => none
def eqD (d : TypeDesc) (x : AV) : Bool := match d, x with
  | .bool, .bool _ => true
  | .pointer _, .pnil => true
  | .pointer _, .ptr _ _ => true
  | .slice _, .snil => true
  | .slice _, .sl _ _ _ _ => true
  | .slice _, .slu _ _ _ _ => true
  | .map _ _, .mnil => true
  | .map _ _, .map _ => true
  | .func _ _ _, .fnil => true
  | .func _ _ _, .fn _ _ _ => true
  | .interface _, .inil => true
  | .interface _, .iface _ _ => true
  | _, _ => false
theorem run_equalIn {n : Nat} {t : TypeId} {d : TypeDesc} (ht : P.underlying t = some d) {u v : Value} {w : World} {b : Bool}
    (h : (match d, u, v with
      | .bool, .bool a, .bool b => some (a == b)
      | .pointer _, .pointer none, .pointer b => some b.isNone
      | .pointer _, .pointer (some _), .pointer none => some false
      | .slice _, .slice none _ _, .slice b _ _ => some b.isNone
      | .slice _, .slice (some _) _ _, .slice none _ _ => some false
      | .map _ _, .map none, .map b => some b.isNone
      | .map _ _, .map (some _), .map none => some false
      | .func _ _ _, .nilFunc, .nilFunc => some true
      | .func _ _ _, .nilFunc, .func _ _ _ => some false
      | .func _ _ _, .func _ _ _, .nilFunc => some false
      | .interface _, .nilIface, .iface _ _ => some false
      | .interface _, .iface _ _, .nilIface => some false
      | _, _, _ => none) = some b) : (Op.equalIn (n + 1) t u v).run P w = .ok b w := by
  split at h <;> cases h <;> (rename_i ht2; simp [Op.equalIn, underlying, ht2])
theorem eqA_ok {d : TypeDesc} {x y : AV} {b : Bool} (h : eqA x y = some b) (hd : eqD d x = true) {t : TypeId} (ht : P.underlying t = some d) {ι : Inj} {u v : Value} (hu : RV ι x u) (hv : RV ι y v) {w : World} :
    (Op.equal t u v).run P w = .ok b w := by
  show (Op.equalIn (9999 + 1) t u v).run P w = _
  generalize 9999 = n
  refine run_equalIn ht ?_
  unfold eqA at h
  split at h <;> cases h <;> cases d <;> (try (cases hd; done))
  · cases hu; cases hv; rfl
  · cases hu; cases hv; rfl
  · cases hu; obtain ⟨_, -, rfl⟩ := hv; rfl
  · cases hv; obtain ⟨_, -, rfl⟩ := hu; rfl
  · cases hu; cases hv; rfl
  · cases hu; obtain ⟨_, -, rfl⟩ := hv; rfl
  · cases hu; obtain ⟨_, -, ⟨_, rfl, -⟩ | ⟨-, _, rfl⟩⟩ := hv <;> rfl
  · cases hv; obtain ⟨_, -, rfl⟩ := hu; rfl
  · cases hv; obtain ⟨_, -, ⟨_, rfl, -⟩ | ⟨-, _, rfl⟩⟩ := hu <;> rfl
  · cases hu; cases hv; rfl
  · cases hu; obtain ⟨_, -, rfl⟩ := hv; rfl
  · cases hv; obtain ⟨_, -, rfl⟩ := hu; rfl
  · cases hu; cases hv; rfl
  · cases hu; obtain ⟨_, _, rfl, -⟩ := hv; rfl
  · cases hv; obtain ⟨_, _, rfl, -⟩ := hu; rfl
  · cases hu; obtain ⟨_, rfl, -⟩ := hv; rfl
  · cases hv; obtain ⟨_, rfl, -⟩ := hu; rfl
theorem eqA_guard {x y : AV} {b : Bool} (h : eqA x y = some b) {ι : Inj} {u v : Value} (hu : RV ι x u) (hv : RV ι y v) {op : BinOp} {t : TypeId} {p q : Operand} {w : World} :
    (eqGuard op t p q u v).run P w = .ok () w := by
  unfold eqA at h
  split at h <;> cases h
  · cases hu; cases hv; cases op <;> rfl
  · cases hu; cases hv; cases op <;> rfl
  · cases hu; obtain ⟨_, -, rfl⟩ := hv; cases op <;> rfl
  · cases hv; obtain ⟨_, -, rfl⟩ := hu; cases op <;> rfl
  · cases hu; cases hv; cases op <;> rfl
  · cases hu; obtain ⟨_, -, rfl⟩ := hv; cases op <;> rfl
  · cases hu; obtain ⟨_, -, ⟨_, rfl, -⟩ | ⟨-, _, rfl⟩⟩ := hv <;> cases op <;> rfl
  · cases hv; obtain ⟨_, -, rfl⟩ := hu; cases op <;> rfl
  · cases hv; obtain ⟨_, -, ⟨_, rfl, -⟩ | ⟨-, _, rfl⟩⟩ := hu <;> cases op <;> rfl
  · cases hu; cases hv; cases op <;> rfl
  · cases hu; obtain ⟨_, -, rfl⟩ := hv; cases op <;> rfl
  · cases hv; obtain ⟨_, -, rfl⟩ := hu; cases op <;> rfl
  · cases hu; cases hv; cases op <;> rfl
  · cases hu; obtain ⟨_, _, rfl, -⟩ := hv; cases op <;> rfl
  · cases hv; obtain ⟨_, _, rfl, -⟩ := hu; cases op <;> rfl
  · cases hu; obtain ⟨_, rfl, -⟩ := hv; cases op <;> rfl
  · cases hv; obtain ⟨_, rfl, -⟩ := hu; cases op <;> rfl
theorem eqA_bin {x y : AV} {b : Bool} (h : eqA x y = some b) {ι : Inj} {u v : Value} (hu : RV ι x u) (hv : RV ι y v) {t : TypeId} :
    binOp .eql t u v = (do pure (.bool (← Op.equal t u v))) ∧ binOp .neq t u v = (do pure (.bool (!(← Op.equal t u v)))) := by
  unfold eqA at h
  split at h <;> cases h
  · cases hu; cases hv; exact ⟨rfl, rfl⟩
  · cases hu; cases hv; exact ⟨rfl, rfl⟩
  · cases hu; obtain ⟨_, -, rfl⟩ := hv; exact ⟨rfl, rfl⟩
  · cases hv; obtain ⟨_, -, rfl⟩ := hu; exact ⟨rfl, rfl⟩
  · cases hu; cases hv; exact ⟨rfl, rfl⟩
  · cases hu; obtain ⟨_, -, rfl⟩ := hv; exact ⟨rfl, rfl⟩
  · cases hu; obtain ⟨_, -, ⟨_, rfl, -⟩ | ⟨-, _, rfl⟩⟩ := hv <;> exact ⟨rfl, rfl⟩
  · cases hv; obtain ⟨_, -, rfl⟩ := hu; exact ⟨rfl, rfl⟩
  · cases hv; obtain ⟨_, -, ⟨_, rfl, -⟩ | ⟨-, _, rfl⟩⟩ := hu <;> exact ⟨rfl, rfl⟩
  · cases hu; cases hv; exact ⟨rfl, rfl⟩
  · cases hu; obtain ⟨_, -, rfl⟩ := hv; exact ⟨rfl, rfl⟩
  · cases hv; obtain ⟨_, -, rfl⟩ := hu; exact ⟨rfl, rfl⟩
  · cases hu; cases hv; exact ⟨rfl, rfl⟩
  · cases hu; obtain ⟨_, _, rfl, -⟩ := hv; exact ⟨rfl, rfl⟩
  · cases hv; obtain ⟨_, _, rfl, -⟩ := hu; exact ⟨rfl, rfl⟩
  · cases hu; obtain ⟨_, rfl, -⟩ := hv; exact ⟨rfl, rfl⟩
  · cases hv; obtain ⟨_, rfl, -⟩ := hu; exact ⟨rfl, rfl⟩
def kEq (neg : Bool) (d : TypeDesc) (x y : Operand) : Kd := .pure fun T k => okK (eqD d (opnd x T)) (match eqA (opnd x T) (opnd y T) with
  | some b => bK (Bool.xor neg b) k
  | none => .bad 43)
theorem kEq_ok {neg : Bool} {t u : TypeId} {d : TypeDesc} (ht : P.underlying t = some d) {x y : Operand} (ho : o.op = .binOp (if neg then .neq else .eql) t x y u) : KdOk P o (kEq neg d x y) := fun {T k r s} h => by
  obtain ⟨hd, h⟩ := okK_inv h
  split at h
  · rename_i b hb
    rw [bK_eq] at h
    refine ⟨_, h, fun {ι mm ac w} ra => ⟨_, ?_, rfl⟩⟩
    have e1 := opnd_rep ra x
    have e2 := opnd_rep ra y
    have he := eqA_ok (P := P) hb hd ht e1 e2 (w := w)
    have hg := fun op => eqA_guard (P := P) hb e1 e2 (op := op) (t := t) (p := x) (q := y) (w := w)
    have hbin := eqA_bin hb e1 e2 (t := t)
    unfold execOp; rw [ho]
    cases neg
    · simp [hg, hbin.1, he]
    · simp [hg, hbin.2, he]
  · exact (R.bad_ne h).elim
end
end Go.Ev
