/-
  An evaluator for calls whose arguments are known: the evaluator itself.
-/
import Derived.Test.YtbhgcdkahblllaaGreatDoorEvB
set_option linter.unusedVariables false
namespace Go.Ev
open Go
noncomputable section

abbrev K := AV → St → R
abbrev KN := T → St → R
inductive Ex where
  | ex (id : Nat)
  | gt (l : Nat)
  | rt
abbrev KX := Ex → T → St → R
abbrev Evn := Nat → Code → T → St → KN → KX → R

/-! ### What is known of constants -/
mutual
def toAV : Value → AV
  | .bool b => .bool b
  | .int k n => .int k n
  | .string s => .str s.size (packB s.data.toList)
  | .pointer none => .pnil
  | .slice none 0 0 => .snil
  | .map none => .mnil
  | .nilFunc => .fnil
  | .nilIface => .inil
  | .func f ⟨[]⟩ ⟨[]⟩ => .fn f .nl .nl
  | .agg ⟨l⟩ => .agg (toL l)
  | _ => .top
def toL : List Value → AV
  | [] => .nl
  | v :: l => .cons (toAV v) (toL l)
end

/-! ### Taking values apart -/
def onPtr (v : AV) : (Nat → Nat → R) → R := AV.rec (motive := fun _ => (Nat → Nat → R) → R) (fun _ => .bad 11) (fun _ _ => .bad 11) (fun _ _ _ => .bad 11) (fun _ _ _ => .bad 11) (fun _ => .bad 11) (fun b o k => k b o) (fun _ => .bad 11) (fun _ _ _ _ _ => .bad 11) (fun _ _ _ _ _ => .bad 11) (fun _ => .bad 11) (fun _ _ => .bad 11) (fun _ _ _ _ _ _ => .bad 11) (fun _ => .bad 11) (fun _ => .bad 11) (fun _ _ _ _ => .bad 11) (fun _ _ _ => .bad 11) (fun _ _ _ => .bad 11) (fun _ _ => .bad 11) (fun _ => .bad 11) (fun _ _ _ _ _ => .bad 11) v
def onInt (v : AV) : R → (IntKind → Int → R) → R := AV.rec (motive := fun _ => R → (IntKind → Int → R) → R) (fun d _ => d) (fun _ d _ => d) (fun kd n _ k => k kd n) (fun _ _ d _ => d) (fun d _ => d) (fun _ _ d _ => d) (fun d _ => d) (fun _ _ _ _ d _ => d) (fun _ _ _ _ d _ => d) (fun d _ => d) (fun _ d _ => d) (fun _ _ _ _ _ d _ => d) (fun d _ => d) (fun d _ => d) (fun _ _ _ d _ => d) (fun _ _ d _ => d) (fun _ _ d _ => d) (fun _ d _ => d) (fun d _ => d) (fun _ _ _ _ d _ => d) v
def onNat (v : AV) : (Nat → R) → R := AV.rec (motive := fun _ => (Nat → R) → R) (fun _ => .bad 12) (fun _ _ => .bad 12) (fun _ n k => Int.rec (motive := fun _ => R) (fun m => k m) (fun _ => .bad 13) n) (fun _ _ _ => .bad 12) (fun _ => .bad 12) (fun _ _ _ => .bad 12) (fun _ => .bad 12) (fun _ _ _ _ _ => .bad 12) (fun _ _ _ _ _ => .bad 12) (fun _ => .bad 12) (fun _ _ => .bad 12) (fun _ _ _ _ _ _ => .bad 12) (fun _ => .bad 12) (fun _ => .bad 12) (fun _ _ _ _ => .bad 12) (fun _ _ _ => .bad 12) (fun _ _ _ => .bad 12) (fun _ _ => .bad 12) (fun _ => .bad 12) (fun _ _ _ _ _ => .bad 12) v
def onBool (v : AV) : R → R → R := AV.rec (motive := fun _ => R → R → R) (fun _ _ => .bad 14) (fun b t f => Bool.rec (motive := fun _ => R) f t b) (fun _ _ _ _ => .bad 14) (fun _ _ _ _ => .bad 14) (fun _ _ => .bad 14) (fun _ _ _ _ => .bad 14) (fun _ _ => .bad 14) (fun _ _ _ _ _ _ => .bad 14) (fun _ _ _ _ _ _ => .bad 14) (fun _ _ => .bad 14) (fun _ _ _ => .bad 14) (fun _ _ _ _ _ _ _ => .bad 14) (fun _ _ => .bad 14) (fun _ _ => .bad 14) (fun _ _ _ _ _ => .bad 14) (fun _ _ _ _ => .bad 14) (fun _ _ _ _ => .bad 14) (fun _ _ _ => .bad 14) (fun _ _ => .bad 14) (fun _ _ _ _ _ _ => .bad 14) v
def onAgg (v : AV) : (AV → R) → R := AV.rec (motive := fun _ => (AV → R) → R) (fun _ => .bad 15) (fun _ _ => .bad 15) (fun _ _ _ => .bad 15) (fun _ _ _ => .bad 15) (fun _ => .bad 15) (fun _ _ _ => .bad 15) (fun _ => .bad 15) (fun _ _ _ _ _ => .bad 15) (fun _ _ _ _ _ => .bad 15) (fun _ => .bad 15) (fun _ _ => .bad 15) (fun _ _ _ _ _ _ => .bad 15) (fun _ => .bad 15) (fun _ => .bad 15) (fun _ _ _ _ => .bad 15) (fun l _ k => k l) (fun _ _ _ => .bad 15) (fun _ _ => .bad 15) (fun _ => .bad 15) (fun _ _ _ _ _ => .bad 15) v
def onTup (v : AV) : (AV → R) → R := AV.rec (motive := fun _ => (AV → R) → R) (fun _ => .bad 16) (fun _ _ => .bad 16) (fun _ _ _ => .bad 16) (fun _ _ _ => .bad 16) (fun _ => .bad 16) (fun _ _ _ => .bad 16) (fun _ => .bad 16) (fun _ _ _ _ _ => .bad 16) (fun _ _ _ _ _ => .bad 16) (fun _ => .bad 16) (fun _ _ => .bad 16) (fun _ _ _ _ _ _ => .bad 16) (fun _ => .bad 16) (fun _ => .bad 16) (fun _ _ _ _ => .bad 16) (fun _ _ _ => .bad 16) (fun l _ k => k l) (fun _ _ => .bad 16) (fun _ => .bad 16) (fun _ _ _ _ _ => .bad 16) v
def onFn (v : AV) : (Nat → AV → AV → R) → R := AV.rec (motive := fun _ => (Nat → AV → AV → R) → R) (fun _ => .bad 17) (fun _ _ => .bad 17) (fun _ _ _ => .bad 17) (fun _ _ _ => .bad 17) (fun _ => .bad 17) (fun _ _ _ => .bad 17) (fun _ => .bad 17) (fun _ _ _ _ _ => .bad 17) (fun _ _ _ _ _ => .bad 17) (fun _ => .bad 17) (fun _ _ => .bad 17) (fun f a b _ _ k => Fn.rec (motive := fun _ => R) (fun f => k f a b) (fun _ => .bad 18) (fun _ _ => .bad 18) (fun _ _ _ _ => .bad 18) (fun _ => .bad 18) f) (fun _ => .bad 17) (fun _ => .bad 17) (fun _ _ _ _ => .bad 17) (fun _ _ _ => .bad 17) (fun _ _ _ => .bad 17) (fun _ _ => .bad 17) (fun _ => .bad 17) (fun _ _ _ _ _ => .bad 17) v
def onCells (o : AO) : (Nat → Cs → R) → R := AO.rec (motive := fun _ => (Nat → Cs → R) → R) (fun _ => .bad 19) (fun n c k => k n c) (fun _ _ => .bad 19) o
def onMap (o : AO) : (List (AV × AV) → R) → R := AO.rec (motive := fun _ => (List (AV × AV) → R) → R) (fun _ => .bad 20) (fun _ _ _ => .bad 20) (fun es k => k es) o
theorem onPtr_inv {v : AV} {k : Nat → Nat → R} {r : AV} {s : St} (h : onPtr v k = .ok r s) : ∃ b o, v = .ptr b o ∧ k b o = .ok r s := by
  cases v <;> first | exact (R.bad_ne h).elim | exact ⟨_, _, rfl, h⟩
theorem onInt_inv {v : AV} {d : R} {k : IntKind → Int → R} {r : AV} {s : St} (h : onInt v d k = .ok r s) : (∃ kd n, v = .int kd n ∧ k kd n = .ok r s) ∨ ((∀ kd n, v ≠ .int kd n) ∧ d = .ok r s) := by
  cases v <;> first | exact .inr ⟨(fun _ _ e => by cases e), h⟩ | exact .inl ⟨_, _, rfl, h⟩
theorem onNat_inv {v : AV} {k : Nat → R} {r : AV} {s : St} (h : onNat v k = .ok r s) : ∃ kd n, v = .int kd (.ofNat n) ∧ k n = .ok r s := by
  cases v with
  | int kd n => cases n <;> first | exact ⟨_, _, rfl, h⟩ | exact (R.bad_ne h).elim
  | _ => exact (R.bad_ne h).elim
theorem onBool_inv {v : AV} {t f : R} {r : AV} {s : St} (h : onBool v t f = .ok r s) : (v = .bool true ∧ t = .ok r s) ∨ (v = .bool false ∧ f = .ok r s) := by
  cases v with
  | bool b => cases b; exact .inr ⟨rfl, h⟩; exact .inl ⟨rfl, h⟩
  | _ => exact (R.bad_ne h).elim
theorem onAgg_inv {v : AV} {k : AV → R} {r : AV} {s : St} (h : onAgg v k = .ok r s) : ∃ l, v = .agg l ∧ k l = .ok r s := by
  cases v <;> first | exact (R.bad_ne h).elim | exact ⟨_, rfl, h⟩
theorem onTup_inv {v : AV} {k : AV → R} {r : AV} {s : St} (h : onTup v k = .ok r s) : ∃ l, v = .tup l ∧ k l = .ok r s := by
  cases v <;> first | exact (R.bad_ne h).elim | exact ⟨_, rfl, h⟩
theorem onFn_inv {v : AV} {k : Nat → AV → AV → R} {r : AV} {s : St} (h : onFn v k = .ok r s) : ∃ f a b, v = .fn (.func f) a b ∧ k f a b = .ok r s := by
  cases v with
  | fn f a b => cases f <;> first | exact (R.bad_ne h).elim | exact ⟨_, _, _, rfl, h⟩
  | _ => exact (R.bad_ne h).elim
theorem onCells_inv {o : AO} {k : Nat → Cs → R} {r : AV} {s : St} (h : onCells o k = .ok r s) : ∃ n c, o = .cells n c ∧ k n c = .ok r s := by
  cases o <;> first | exact (R.bad_ne h).elim | exact ⟨_, _, rfl, h⟩
theorem onMap_inv {o : AO} {k : List (AV × AV) → R} {r : AV} {s : St} (h : onMap o k = .ok r s) : ∃ es, o = .map es ∧ k es = .ok r s := by
  cases o <;> first | exact (R.bad_ne h).elim | exact ⟨_, rfl, h⟩

/-- The cells of a value. -/
def partsK (v : AV) (k : AV → R) : R := match v with
  | .agg l => k l
  | .top => .bad 21
  | .tup _ => .bad 21
  | .ge _ => .bad 21
  | .nl => .bad 21
  | .cons _ _ => .bad 21
  | v => k (.cons v .nl)
/-- A value of one cell, as far as is known. -/
def AV.one : AV → Bool
  | .top => false
  | .agg _ => false
  | .tup _ => false
  | .ge _ => false
  | .nl => false
  | .cons _ _ => false
  | _ => true
def AV.ones : AV → Bool
  | .nl => true
  | .cons h t => h.one && t.ones
  | _ => false
def AV.app : AV → AV → AV
  | .cons h t, l => .cons h (AV.app t l)
  | _, l => l
def AV.drop : AV → Nat → AV
  | .cons h t, n + 1 => AV.drop t n
  | l, _ => l
def AV.take : AV → Nat → AV
  | .cons h t, n + 1 => .cons h (AV.take t n)
  | _, _ => .nl
def AV.setN : AV → Nat → AV → AV
  | .cons _ t, 0, v => .cons v t
  | .cons h t, n + 1, v => .cons h (AV.setN t n v)
  | l, _, _ => l

/-! ### Operands -/
def tgetS (t : Nat) (T : T) : AV := Bool.rec (motive := fun _ => AV) .top (tget t T) (Nat.ble t 255)
def opnd (x : Operand) (T : T) : AV := Operand.rec (motive := fun _ => AV) (fun t => tgetS t T) toAV (fun _ => .top) (fun f => .fn (.func f) .nl .nl) x
def opndL (l : List Operand) (T : T) : AV := List.rec (motive := fun _ => AV) .nl (fun x _ ih => .cons (opnd x T) ih) l

/-! ### Integers -/
def natIn (k : IntKind) (m : Nat) : Bool := Nat.ble m (IntKind.rec (motive := fun _ => Nat) 127 32767 2147483647 9223372036854775807 255 65535 4294967295 18446744073709551615 k)
def wrapF (k : IntKind) (n : Int) : Int := Int.rec (motive := fun _ => Int) (fun m => Bool.rec (motive := fun _ => Int) (k.wrap (.ofNat m)) (.ofNat m) (natIn k m))
  (fun m => match k with | .i64 => (match Nat.ble m 9223372036854775807 with | true => .negSucc m | false => k.wrap (.negSucc m)) | k => k.wrap (.negSucc m)) n
def leI (x y : Int) : Bool := Int.rec (motive := fun _ => Bool) (fun a => Int.rec (motive := fun _ => Bool) (fun b => Nat.ble a b) (fun _ => false) y) (fun a => Int.rec (motive := fun _ => Bool) (fun _ => true) (fun b => Nat.ble b a) y) x
def eqI (x y : Int) : Bool := Int.rec (motive := fun _ => Bool) (fun a => Int.rec (motive := fun _ => Bool) (fun b => Nat.beq a b) (fun _ => false) y) (fun a => Int.rec (motive := fun _ => Bool) (fun _ => false) (fun b => Nat.beq b a) y) x
def kdN (k : IntKind) : Nat := IntKind.rec (motive := fun _ => Nat) 0 1 2 3 4 5 6 7 k
def eqKd (a b : IntKind) : Bool := Nat.beq (kdN a) (kdN b)
def bK (b : Bool) (k : AV → R) : R := Bool.rec (motive := fun _ => R) (k (.bool false)) (k (.bool true)) b
def iK (kd : IntKind) (n : Int) (k : AV → R) : R := fI n fun n => k (.int kd n)
theorem bK_eq (b : Bool) (k : AV → R) : bK b k = k (.bool b) := by cases b <;> rfl
theorem iK_eq (kd : IntKind) (n : Int) (k : AV → R) : iK kd n k = k (.int kd n) := fI_eq n fun n => k (.int kd n)
theorem leI_eq (x y : Int) : leI x y = decide (x ≤ y) := by
  cases x with
  | ofNat a => cases y with
    | ofNat b => rw [Bool.eq_iff_iff]; simp only [decide_eq_true_eq]; show Nat.ble a b = true ↔ _; rw [Nat.ble_eq]; exact Int.ofNat_le.symm
    | negSucc b => symm; simp only [decide_eq_false_iff_not, leI]; intro h; have := Int.negSucc_lt_zero b; have h2 : (0 : Int) ≤ Int.ofNat a := Int.natCast_nonneg a; omega
  | negSucc a => cases y with
    | ofNat b => symm; simp only [decide_eq_true_eq, leI]; have := Int.negSucc_lt_zero a; have h2 : (0 : Int) ≤ Int.ofNat b := Int.natCast_nonneg b; omega
    | negSucc b => rw [Bool.eq_iff_iff]; simp only [decide_eq_true_eq]; show Nat.ble b a = true ↔ _; rw [Nat.ble_eq]; omega
theorem eqI_eq (x y : Int) : eqI x y = decide (x = y) := by
  cases x with
  | ofNat a => cases y with
    | ofNat b => rw [Bool.eq_iff_iff]; simp only [decide_eq_true_eq]; show Nat.beq a b = true ↔ _; rw [Nat.beq_eq]; exact ⟨fun h => by rw [h], fun h => Int.ofNat.inj h⟩
    | negSucc b => symm; simp only [decide_eq_false_iff_not, eqI]; intro h; cases h
  | negSucc a => cases y with
    | ofNat b => symm; simp only [decide_eq_false_iff_not, eqI]; intro h; cases h
    | negSucc b => rw [Bool.eq_iff_iff]; simp only [decide_eq_true_eq]; show Nat.beq b a = true ↔ _; rw [Nat.beq_eq]; exact ⟨fun h => by rw [h], fun h => (Int.negSucc.inj h).symm⟩
theorem eqKd_eq {a b : IntKind} (h : eqKd a b = true) : a = b := by cases a <;> cases b <;> first | rfl | (exact absurd h (by decide))
theorem wrapF_eq (k : IntKind) (n : Int) : wrapF k n = k.wrap n := by
  cases n with
  | ofNat m =>
    show Bool.rec (motive := fun _ => Int) (k.wrap (.ofNat m)) (.ofNat m) (natIn k m) = _
    cases h : natIn k m with
    | false => rfl
    | true =>
      symm
      show k.wrap (m : Int) = (m : Int)
      have hb := Nat.le_of_ble_eq_true h
      cases k <;> simp only [IntKind.wrap, IntKind.bits, IntKind.signed] at hb ⊢ <;> simp <;> omega
  | negSucc m =>
    cases k with
    | i64 =>
      show (match Nat.ble m 9223372036854775807 with | true => Int.negSucc m | false => IntKind.i64.wrap (.negSucc m)) = _
      cases h : Nat.ble m 9223372036854775807 with
      | false => rfl
      | true =>
        have hb := Nat.le_of_ble_eq_true h
        simp only [IntKind.wrap, IntKind.bits, IntKind.signed]
        rw [Int.negSucc_eq]
        simp
        omega
    | _ => rfl
end
end Go.Ev
