/-
  An evaluator for calls whose arguments are known: structs that are compared.
-/
import Derived.Test.YtbhgcdkahblllaaGreatDoorEvO
import Derived.Laws.StructEq
set_option linter.unusedVariables false
set_option linter.unusedSimpArgs false
namespace Go.Ev
open Go
noncomputable section
variable {P : Program} {o : Oper}

def partV (P : Program) (t : TypeId) (off : Nat) (l : AV) : Option AV := match P.underlying t, P.info? t with
  | some d, some i => match isAggD d with
    | true => some (.agg ((l.drop off).take i.size))
    | false => match Nat.ble (Nat.succ off) l.len with
      | true => some (l.nth off)
      | false => none
  | _, _ => none
theorem run_partV {t : TypeId} {off : Nat} {l v : AV} (h : partV P t off l = some v) {ι : Inj} {z : Array Value} {w : World} (hl : RL ι l z.toList) : ∃ u, (part t z off).run P w = .ok u w ∧ RV ι v u := by
  unfold partV at h
  split at h
  · rename_i d i h1 h2
    split at h
    · rename_i h3
      cases h
      refine ⟨.agg (z.extract off (off + i.size)), ?_, ⟨_, rfl, ?_⟩⟩
      · unfold part
        simp [run_isAgg h1, h3, sizeOf, typeInfo, h2]
      · have : (z.extract off (off + i.size)).toList = (z.toList.drop off).take i.size := by simp [Array.toList_extract, List.extract, Nat.add_sub_cancel_left]
        rw [this]
        exact (hl.drop off).take _
    · rename_i h3
      split at h
      · rename_i hi
        cases h
        obtain ⟨u, hu, hr⟩ := hl.nth off (Nat.le_of_ble_eq_true hi)
        refine ⟨u, ?_, hr⟩
        simp at hu
        unfold part
        simp [run_isAgg h1, h3, hu]
      · cases h
  · cases h
def eqFs (P : Program) (E : TypeId → AV → AV → Option Bool) (x y : AV) : List Field → Option Bool
  | [] => some true
  | f :: fs => match decide (f.name = "_") with
    | true => none
    | false => match partV P f.type f.offset x, partV P f.type f.offset y with
      | some a, some b => match E f.type a b with
        | some true => eqFs P E x y fs
        | some false => some false
        | none => none
      | _, _ => none
def eqV (P : Program) : Nat → TypeId → AV → AV → Option Bool
  | 0, _, _, _ => none
  | n + 1, t, x, y => match P.underlying t with
    | some (.struct fs) => match x, y with
      | .agg l, .agg r => match P.stoodInHeld t with
        | false => eqFs P (eqV P n) l r fs.toList
        | true => none
      | _, _ => none
    | some d => match plainKey d x with
      | true => keyA x y
      | false => none
    | none => none
theorem eqFs_ok {E : TypeId → AV → AV → Option Bool} {ι : Inj} {d : Nat} {w : World} (hE : ∀ t x y b u v, E t x y = some b → RV ι x u → RV ι y v → (Op.equalIn d t u v).run P w = .ok b w) {x y : AV} {xs ys : Array Value} (hx : RL ι x xs.toList) (hy : RL ι y ys.toList) :
    ∀ {fs : List Field} {b : Bool}, eqFs P E x y fs = some b → (Op.eqFields d xs ys fs).run P w = .ok b w
  | [], b, h => by cases h; simp [Op.eqFields]
  | f :: fs, b, h => by
    unfold eqFs at h
    split at h
    · cases h
    · rename_i hn
      have hn : f.name ≠ "_" := by simpa using hn
      split at h
      · rename_i a c ha hc
        obtain ⟨u, h1, h2⟩ := run_partV ha hx (w := w)
        obtain ⟨v, h3, h4⟩ := run_partV hc hy (w := w)
        split at h
        · rename_i he
          have := hE _ _ _ _ _ _ he h2 h4
          have ih := eqFs_ok hE hx hy h
          simp only [Op.eqFields, hn, ne_eq, not_false_eq_true, if_true, Sem.run_bind, h1, h3, this, Result.andThen_ok]
          simpa using ih
        · rename_i he
          cases h
          have := hE _ _ _ _ _ _ he h2 h4
          simp only [Op.eqFields, hn, ne_eq, not_false_eq_true, if_true, Sem.run_bind, h1, h3, this, Result.andThen_ok]
          simp
        · cases h
      · cases h
theorem keyA_equal {x y : AV} {b : Bool} (h : keyA x y = some b) {d : TypeDesc} (hd : plainKey d x = true) {t : TypeId} (ht : P.underlying t = some d) {ι : Inj} {u v : Value} (hu : RV ι x u) (hv : RV ι y v) {n : Nat} {w : World} :
    (Op.equalIn (n + 1) t u v).run P w = .ok b w := by
  obtain ⟨h1, -⟩ := keyA_ok h hd hu hv
  unfold Instr.sameNow at h1
  split at h1
  · rename_i k k1 a k2 c
    split at h1
    · rename_i hk
      subst hk
      cases h1
      exact run_equalIn_int w n t _ _ _ _ ht
    · cases h1
  · cases h1
    simp [Op.equalIn, underlying, ht]
  · cases h1
    simp [Op.equalIn, underlying, ht]
  · cases h1
theorem eqV_ok : ∀ {n : Nat} {t : TypeId} {x y : AV} {b : Bool}, eqV P n t x y = some b → ∀ {ι : Inj} {u v : Value}, RV ι x u → RV ι y v → ∀ {d : Nat} {w : World}, (Op.equalIn (n + d) t u v).run P w = .ok b w
  | 0, t, x, y, b, h => by cases h
  | n + 1, t, x, y, b, h => by
    intro hu hv d w
    rw [show n + 1 + d = (n + d) + 1 by omega]
    unfold eqV at h
    split at h
    · rename_i fs ht
      split at h
      · rename_i l r
        split at h
        · rename_i hp
          obtain ⟨xs, rfl, hx⟩ := hu
          obtain ⟨ys, rfl, hy⟩ := hv
          have hf : P.fieldsOf t = fs := by unfold Program.fieldsOf; rw [ht]
          rw [run_equalIn_struct w (n + d) t xs ys (by rw [hf]; exact ht) hp, hf]
          exact eqFs_ok (fun t x y b u v he h1 h2 => eqV_ok he h1 h2) hx hy h
        · cases h
      · cases h
    · rename_i dd hns ht
      split at h
      · rename_i hp
        exact keyA_equal h hp ht hu hv
      · cases h
    · cases h
def kEqS (P : Program) (neg : Bool) (t : TypeId) (x y : Operand) : Kd := match P.eqGuardType P.depth t with
  | true => .no
  | false => .pure fun T k => match opnd x T with
    | .agg l => match opnd y T with
      | .agg r => match eqV P 20 t (.agg l) (.agg r) with
        | some b => bK (Bool.xor neg b) k
        | none => .bad 112
      | _ => .bad 113
    | _ => .bad 114
theorem kEqS_ok {neg : Bool} {t u : TypeId} {x y : Operand} (ho : o.op = .binOp (if neg then .neq else .eql) t x y u) : KdOk P o (kEqS P neg t x y) := by
  unfold kEqS
  split
  · exact trivial
  · rename_i hgd
    intro T k r s h
    dsimp only at h
    split at h
    · rename_i l hl
      split at h
      · rename_i q hq
        split at h
        · rename_i b hb
          rw [bK_eq] at h
          refine ⟨_, h, fun {ι mm ac w} ra => ⟨_, ?_, rfl⟩⟩
          have e1 := opnd_rep ra x; rw [hl] at e1
          have e2 := opnd_rep ra y; rw [hq] at e2
          have he := eqV_ok hb e1 e2 (d := 9980) (w := w)
          obtain ⟨xs, h1, -⟩ := e1
          obtain ⟨ys, h2, -⟩ := e2
          rw [h1, h2] at he
          have he : (Op.equal t (.agg xs) (.agg ys)).run P w = .ok b w := he
          have hg : ∀ op, (eqGuard op t x y (.agg xs) (.agg ys)).run P w = .ok () w := fun op => by
            unfold eqGuard
            cases op <;> simp [hgd]
          unfold execOp; rw [ho]
          cases neg
          · have hb : binOp .eql t (.agg xs) (.agg ys) = (do pure (.bool (← Op.equal t (.agg xs) (.agg ys)))) := rfl
            simp [h1, h2, hg, hb, he]
          · have hb : binOp .neq t (.agg xs) (.agg ys) = (do pure (.bool (!(← Op.equal t (.agg xs) (.agg ys))))) := rfl
            simp [h1, h2, hg, hb, he]
        · exact (R.bad_ne h).elim
      · exact (R.bad_ne h).elim
    · exact (R.bad_ne h).elim
/-! ### Two nil interfaces, one of them written so -/
def isC : Operand → Bool
  | .const _ => true
  | _ => false
def bothNil (x y : AV) : Bool := match x, y with
  | .inil, .inil => true
  | _, _ => false
def kEqI (neg : Bool) (d : TypeDesc) (x y : Operand) : Kd := match d, isC x || isC y with
  | .interface _, true => .pure fun T k => match bothNil (opnd x T) (opnd y T) with
    | true => bK (Bool.xor neg true) k
    | false => okK (eqD d (opnd x T)) (match eqA (opnd x T) (opnd y T) with
      | some b => bK (Bool.xor neg b) k
      | none => .bad 43)
  | d, _ => kEq neg d x y
theorem kEqI_ok {neg : Bool} {t u : TypeId} {d : TypeDesc} (ht : P.underlying t = some d) {x y : Operand} (ho : o.op = .binOp (if neg then .neq else .eql) t x y u) : KdOk P o (kEqI neg d x y) := by
  unfold kEqI
  split
  · rename_i ms hc
    intro T k r s h
    dsimp only at h
    split at h
    · rename_i hb
      rw [bK_eq] at h
      refine ⟨_, h, fun {ι mm ac w} ra => ⟨_, ?_, rfl⟩⟩
      have e1 := opnd_rep ra x
      have e2 := opnd_rep ra y
      unfold bothNil at hb
      split at hb
      · rename_i h1 h2
        rw [h1] at e1; rw [h2] at e2
        have e1 : ac.eval x = .nilIface := e1
        have e2 : ac.eval y = .nilIface := e2
        have hg : ∀ op, (eqGuard op t x y .nilIface .nilIface).run P w = .ok () w := fun op => by
          unfold eqGuard
          cases x <;> cases y <;> cases op <;> first | (cases hc; done) | rfl
        have he : (Op.equal t .nilIface .nilIface).run P w = .ok true w := by
          show (Op.equalIn (9999 + 1) t .nilIface .nilIface).run P w = _
          generalize 9999 = n
          simp [Op.equalIn, underlying, ht]
        unfold execOp; rw [ho]
        cases neg
        · have hb : binOp .eql t .nilIface .nilIface = (do pure (.bool (← Op.equal t .nilIface .nilIface))) := rfl
          simp [e1, e2, hg, hb, he]
        · have hb : binOp .neq t .nilIface .nilIface = (do pure (.bool (!(← Op.equal t .nilIface .nilIface)))) := rfl
          simp [e1, e2, hg, hb, he]
      · cases hb
    · exact kEq_ok ht ho h
  · exact kEq_ok ht ho
/-! ### An element of an array -/
def kIndexA (P : Program) (t : TypeId) (x i : Operand) : Kd := match P.underlying t with
  | some (.array len e) => match P.info? e with
    | some inf => .pure fun T k => onNat (opnd i T) fun i => onAgg (opnd x T) fun l => okK (Nat.ble (Nat.succ i) len) (match partV P e (Nat.mul i inf.size) l with
      | some v => k v
      | none => .bad 115)
    | none => .no
  | _ => kIndex P t x i
theorem kIndexA_ok {t : TypeId} {x i : Operand} (ho : o.op = .index t x i) : KdOk P o (kIndexA P t x i) := by
  unfold kIndexA
  split
  · rename_i len e h1
    split
    · rename_i inf h2
      intro T k r s h
      obtain ⟨kd, y, hi, h⟩ := onNat_inv h
      obtain ⟨l, hc, h⟩ := onAgg_inv h
      obtain ⟨hlt, h⟩ := okK_inv h
      have hlt : y < len := Nat.le_of_ble_eq_true hlt
      split at h
      · rename_i v hv
        refine ⟨v, h, fun {ι m a w} ra => ?_⟩
        have e1 := opnd_rep ra x; rw [hc] at e1; obtain ⟨z, e1, hl⟩ := e1
        have e2 := opnd_rep ra i; rw [hi] at e2; have e2 : a.eval i = _ := e2
        obtain ⟨u, g1, g2⟩ := run_partV hv hl (w := w)
        refine ⟨u, ?_, g2⟩
        have g1 : (part e z (y * inf.size)).run P w = .ok u w := g1
        unfold execOp; rw [ho]
        simp [e1, e2, Instr.index, underlying, h1, asIntOf, hlt, sizeOf, typeInfo, h2, g1]
      · exact (R.bad_ne h).elim
    · exact trivial
  · exact kIndex_ok ho
/-! ### Zeros behind a nil slice -/
theorem run_append_zeros {t t1 ty : TypeId} {x : El} {kd : IntKind} (hd : P.underlying t1 = some (.int kd)) (ok : ElOk P t x) {n : Nat} (hn : 1 ≤ n) (hl : n ≤ 100000) {k : IntKind} {w : World} :
    ∃ nc, n ≤ nc ∧ nc < 9223372036854775808 ∧ (Builtin.append_ #[t, t1] ty #[.slice none 0 0, .int k n]).run P w = .ok (.slice (some ⟨w.heap.size, 0, none⟩) n nc) (w.drew.alloc (.cells ((Builtin.zeroCells x.z.cells n).toList ++ (Builtin.zeroCells x.z.cells (nc - n)).toList).toArray x.e)) := by
  obtain ⟨i, hi, hi1, hi2⟩ := ok.info
  have hb := ok.small
  have hnext := nextcap_le (show 0 < n by omega)
  have hmul : Builtin.nextslicecap n 0 * x.bytes ≤ 204000 * 65536 := Nat.mul_le_mul (by omega) hb
  refine ⟨(Question.appendCap n 0 x.e).cut (w.tape w.drawn (.appendCap n 0 x.e)), by show _ ≤ _ + _; omega, by
    have := Nat.mod_lt (w.tape w.drawn (.appendCap n 0 x.e)) (show 0 < 2 ^ 63 - n by omega)
    show _ + _ < _; omega, ?_⟩
  have h1 : ¬ (n = 0) := by omega
  have h63 : ¬ (9223372036854775807 < (n : Int)) := by omega
  have h48 : ¬ (281474976710656 < Builtin.nextslicecap n 0 * x.bytes) := by omega
  have hti : ∀ w, (typeInfo x.e).run P w = .ok i w := fun w => by simp [typeInfo, hi]
  have hsz := ok.sizeOf
  have hzero := ok.zero
  have hpos := ok.pos
  have hw := wrap_small (show n ≤ 1000000 by omega)
  have hneg : ¬ ((n : Int) < 0) := by omega
  have hbig : ¬ (281474976710656 < (n : Int) * (x.bytes : Int)) := by
    have : n * x.bytes ≤ 100000 * 65536 := Nat.mul_le_mul hl hb
    have : ((n : Int) * (x.bytes : Int)) ≤ 100000 * 65536 := by rw [← Int.natCast_mul]; omega
    omega
  have hx0 : ¬ (x.size = 0) := by omega
  simp [Builtin.append_, run_under ok.under, hsz, hti, hi2, run_under hd, h1, h63, h48, hw, hneg, hbig, hx0, Question.forced, hzero, newRow, asInt, asIntOf, Builtin.firstCells]
  rw [if_neg (fun h => by rcases Nat.mul_eq_zero.1 h with h | h <;> omega)]
  congr 3
  apply Array.ext'
  simp

def kAppendZ (P : Program) (ts : Array TypeId) (args : Array Operand) : Kd := match args, ts with
  | ⟨[x, y]⟩, ⟨[t, t1]⟩ => match elA P t, P.underlying t1 with
    | some e, some (.int _) => .eff fun T S k => match opnd x T with
      | .snil => onNat (opnd y T) fun n => okK (Nat.ble 1 n) (okK (Nat.ble n 100000) (freshK S (zerosA e.l n) n e.size k))
      | _ => .bad 119
    | _, _ => kAppend P ⟨[t, t1]⟩ ⟨[x, y]⟩
  | args, ts => kAppend P ts args
theorem kAppendZ_ok {ts : Array TypeId} {args : Array Operand} (ho : o.op = .call { callee := .builtin .append, args := args, argTypes := ts }) : KdOk P o (kAppendZ P ts args) := by
  unfold kAppendZ
  split
  · rename_i x y t t1
    split
    · rename_i e kd he hd
      intro T S k r s h
      dsimp only at h
      split at h
      · rename_i hx
        obtain ⟨kn, n, hy, h⟩ := onNat_inv h
        obtain ⟨h3, h⟩ := okK_inv h
        obtain ⟨h4, h⟩ := okK_inv h
        have h3 := Nat.le_of_ble_eq_true h3
        have h4 := Nat.le_of_ble_eq_true h4
        obtain ⟨v, S', h, hv⟩ := freshK_inv h
        have ok := elA_ok he
        refine ⟨v, S', h, fun {ι m a w} ra hr => ?_⟩
        have e1 := opnd_rep ra x; rw [hx] at e1; have e1 : a.eval x = .slice none 0 0 := e1
        have e2 := opnd_rep ra y; rw [hy] at e2; have e2 : a.eval y = .int kn (n : Int) := e2
        obtain ⟨nc, g1, g163, g2⟩ := run_append_zeros (P := P) (ty := o.type) hd ok h3 h4 (k := kn) (w := w)
        have hsz : ∀ q, (Builtin.zeroCells e.z.cells q).toList.length = q * e.size := fun q => by simp [Builtin.zeroCells, ok.len]
        have hrl : RL ι (zerosA e.l n) (Builtin.zeroCells e.z.cells n).toList := by
          have := (ok.rep ι).zeros ok.len n
          unfold Builtin.zeroCells
          simpa only [ok.len] using this
        obtain ⟨κ, k1, k2, k3⟩ := hv (zs := (Builtin.zeroCells e.z.cells (nc - n)).toList) (e := e.e) (nc := nc) hr hrl (hsz n) g1 g163 (by
          rw [List.length_append, hsz, hsz, ← Nat.add_mul]; congr 1; omega)
        refine ⟨.value _, _, κ, _, ?_, .inl rfl, k1, k2, k3⟩
        obtain ⟨cs, hb⟩ := run_builtin (P := P) (a := a) (w := w) ho
        rw [hb]
        simp [builtin, e1, e2, g2]
      · exact (R.bad_ne h).elim
    · exact kAppend_ok ho
  · exact kAppend_ok ho
end
end Go.Ev
