/-
  An evaluator for calls whose arguments are known: slices that are made; lengths; maps.
-/
import Derived.Test.YtbhgcdkahblllaaGreatDoorEvI
set_option linter.unusedVariables false
set_option linter.unusedSimpArgs false
namespace Go.Ev
open Go
noncomputable section
variable {P : Program} {o : Oper}

/-- A list of values, so many times. -/
def zerosA (l : AV) : Nat → AV
  | 0 => .nl
  | n + 1 => l.app (zerosA l n)
theorem zeros_list (Z : Array Value) (sz : Nat) (h : Z.size = sz) : ∀ n, ((List.range (n * sz)).map fun i => Z[i % Z.size]!) = (List.replicate n Z.toList).flatten
  | 0 => by simp
  | n + 1 => by
    rw [show (n + 1) * sz = sz + n * sz by rw [Nat.add_mul, Nat.one_mul, Nat.add_comm], List.range_add, List.map_append, List.replicate_succ, List.flatten_cons, List.map_map]
    congr 1
    · apply List.ext_getElem
      · simp [h]
      · intro i h1 h2
        simp at h1 h2
        have : i % Z.size = i := Nat.mod_eq_of_lt (by omega)
        simp [this, h2]
    · rw [← zeros_list Z sz h n]
      apply List.map_congr_left
      intro i _
      simp [h]
theorem RL.zeros {ι : Inj} {l : AV} {Z : Array Value} {sz : Nat} (h : Z.size = sz) (hl : RL ι l Z.toList) : ∀ n, RL ι (zerosA l n) ((Array.range (n * sz)).map fun i => Z[i % Z.size]!).toList := by
  intro n
  rw [Array.toList_map, Array.toList_range, zeros_list Z sz h n]
  induction n with
  | zero => exact rfl
  | succ n ih => rw [List.replicate_succ, List.flatten_cons]; exact hl.app ih
theorem RL.zeros_len {ι : Inj} {l : AV} {Z : Array Value} {sz : Nat} (h : Z.size = sz) (hl : RL ι l Z.toList) (n : Nat) : (zerosA l n).len = n * sz := by
  rw [(hl.zeros h n).len]; simp
/-- What a slice's element is: its type, size, zero value. -/
structure El where
  e : TypeId
  size : Nat
  bytes : Nat
  z : Value
  l : AV
def elA (P : Program) (t : TypeId) : Option El := match P.underlying t with
  | some (.slice e) => match P.info? e, zeroA P e with
    | some i, some (z, l) => match Nat.beq l.len i.size && (Nat.ble 1 i.size && Nat.ble i.bytes 65536) with
      | true => some ⟨e, i.size, i.bytes, z, l⟩
      | false => none
    | _, _ => none
  | _ => none
structure ElOk (P : Program) (t : TypeId) (x : El) : Prop where
  under : P.underlying t = some (.slice x.e)
  info : ∃ i, P.info? x.e = some i ∧ i.size = x.size ∧ i.bytes = x.bytes
  zero : ∀ w, (zeroValue x.e).run P w = .ok x.z w
  rep : ∀ ι, RL ι x.l x.z.cells.toList
  len : x.z.cells.size = x.size
  pos : 1 ≤ x.size
  small : x.bytes ≤ 65536
theorem elA_ok {t : TypeId} {x : El} (h : elA P t = some x) : ElOk P t x := by
  unfold elA at h
  split at h
  · rename_i e h1
    split at h
    · rename_i i z l h2 h3
      split at h
      · rename_i h4
        cases h
        simp only [Bool.and_eq_true] at h4
        obtain ⟨z1, z2⟩ := zeroA_ok h3
        refine ⟨h1, ⟨i, h2, rfl, rfl⟩, z1, z2, ?_, Nat.le_of_ble_eq_true h4.2.1, Nat.le_of_ble_eq_true h4.2.2⟩
        have := (z2 Inj.zero).len
        rw [Nat.eq_of_beq_eq_true h4.1] at this
        rw [← Array.length_toList]; exact this.symm
      · cases h
    · cases h
  · cases h
theorem ElOk.sizeOf {t : TypeId} {x : El} (h : ElOk P t x) (w : World) : (sizeOf x.e).run P w = .ok x.size w := by
  obtain ⟨i, h1, h2, h3⟩ := h.info
  simp [Go.sizeOf, typeInfo, h1, h2]
theorem ElOk.typeInfo {t : TypeId} {x : El} (h : ElOk P t x) (w : World) : ∃ i, (typeInfo x.e).run P w = .ok i w ∧ i.size = x.size ∧ i.bytes = x.bytes := by
  obtain ⟨i, h1, h2, h3⟩ := h.info
  exact ⟨i, by simp [Go.typeInfo, h1], h2, h3⟩
theorem run_under {t : TypeId} {d : TypeDesc} {w : World} (h : P.underlying t = some d) : (underlying t).run P w = .ok d w := by simp [underlying, h]

def kBuildSlice (P : Program) (t : TypeId) (len : Nat) (ps : Array (Nat × Operand)) : Kd := match elA P t with
  | some x => match Nat.ble (len * x.size) 16777216 with
    | true => .make fun T k => fillK (fun j => some (j * x.size, x.size)) (len * x.size) T ps.toList (zerosA x.l len) fun l => putsK (R.bad 53) l 0 (Cs.new l.len) fun n c => k (.cells n c) fun b => .sl b 0 len len
    | false => .no
  | none => .no
theorem kBuildSlice_ok {t : TypeId} {len : Nat} {ps : Array (Nat × Operand)} (ho : o.op = .buildSlice t len ps) : KdOk P o (kBuildSlice P t len ps) := by
  unfold kBuildSlice
  split
  · rename_i x hx
    have ok := elA_ok hx
    split
    · rename_i hle
      have hle := Nat.le_of_ble_eq_true hle
      intro T k r s h
      obtain ⟨l, h, hl⟩ := fillK_inv h
      rcases putsK_inv h with h | ⟨c, h, -, hr, hd, hg, -⟩
      · exact (R.bad_ne h.symm).elim
      refine ⟨_, _, h, (fun e => by cases e), fun {ι m a w} ra => ?_⟩
      have hz : ∃ Z : Array Value, (len * x.size = 0 ∧ Z = #[] ∨ len * x.size ≠ 0 ∧ Z = x.z.cells) ∧ ((Array.range (len * x.size)).map fun i => Z[i % Z.size]!).size = len * x.size ∧ RL ι (zerosA x.l len) ((Array.range (len * x.size)).map fun i => Z[i % Z.size]!).toList := by
        by_cases e : len * x.size = 0
        · refine ⟨#[], .inl ⟨e, rfl⟩, by simp, ?_⟩
          have : len = 0 := by
            rcases Nat.mul_eq_zero.1 e with h | h
            · exact h
            · have := ok.pos; omega
          subst this
          simp [zerosA]; exact rfl
        · exact ⟨x.z.cells, .inr ⟨e, rfl⟩, by simp, (ok.rep ι).zeros ok.len len⟩
      obtain ⟨Z, hz1, hz2, hz3⟩ := hz
      obtain ⟨ds, g1, g2, g3⟩ := hl ra hz3 hz2
      refine ⟨.cells ds x.e, ds.size, .slice (some ⟨w.heap.size, 0, none⟩) len len, ?_, fun κ hκ => ro_new (Nat.zero_add _) (puts_room hr hd) hg (g2.mono hκ), fun κ i hi => ⟨_, hi, rfl⟩⟩
      unfold execOp; rw [ho]
      have hle2 : ¬ (len * x.size > 2 ^ 24) := by omega
      have g1' : Instr.fill (fun i => some (i * x.size, x.size)) ((Array.range (len * x.size)).map fun i => Z[i % Z.size]!) (ps.map fun p => (p.1, a.eval p.2)).toList = some ds := by rw [Array.toList_map]; exact g1
      simp only [Instr.buildSlice, Sem.run_bind, run_under ok.under, Result.andThen_ok, ok.sizeOf w]
      rw [if_neg hle2]
      rcases hz1 with ⟨e, rfl⟩ | ⟨e, rfl⟩
      · simp only [pure_bind, Sem.run_bind, Sem.run_pure, Result.andThen_ok]
        rw [if_pos e]
        simp only [pure_bind, g1', Sem.run_bind, Sem.run_pure, newRow, run_newObj, Result.andThen_ok]
        rfl
      · simp only [pure_bind, Sem.run_bind, Sem.run_pure, Result.andThen_ok]
        rw [if_neg e]
        simp only [pure_bind, bind_assoc, Sem.run_bind, ok.zero, Result.andThen_ok, g1', Sem.run_pure, newRow, run_newObj]
        rfl
    · exact trivial
  · exact trivial
def kMakeSlice (P : Program) (t : TypeId) (x y : Operand) : Kd := match elA P t with
  | some e => .make fun T k => onNat (opnd x T) fun n => onNat (opnd y T) fun c => okK (Nat.ble n c) (okK (Nat.ble c 1000000) (putsK (R.bad 54) (zerosA e.l c) 0 (Cs.new (Nat.mul c e.size)) fun m cs => k (.cells m cs) fun b => .sl b 0 n c))
  | none => .no
theorem wrap_small {n : Nat} (h : n ≤ 1000000) : IntKind.i64.wrap (n : Int) = n := by
  rw [← wrapF_eq]
  show Bool.rec (motive := fun _ => Int) _ _ (natIn .i64 n) = _
  have : natIn .i64 n = true := by show Nat.ble n 9223372036854775807 = true; rw [Nat.ble_eq]; omega
  rw [this]; rfl
theorem kMakeSlice_ok {t : TypeId} {x y : Operand} (ho : o.op = .makeSlice t x y) : KdOk P o (kMakeSlice P t x y) := by
  unfold kMakeSlice
  split
  · rename_i e he
    have ok := elA_ok he
    intro T k r s h
    obtain ⟨kn, n, h1, h⟩ := onNat_inv h
    obtain ⟨kc, c, h2, h⟩ := onNat_inv h
    obtain ⟨h3, h⟩ := okK_inv h
    obtain ⟨h4, h⟩ := okK_inv h
    have h3 := Nat.le_of_ble_eq_true h3
    have h4 := Nat.le_of_ble_eq_true h4
    rcases putsK_inv h with h | ⟨cs, h, -, hr, hd, hg, -⟩
    · exact (R.bad_ne h.symm).elim
    have hroom : 0 + (zerosA e.l c).len ≤ cs.room := by
      rcases hd with hd | hd
      · rw [hd]; exact Nat.zero_le _
      · rw [hr]; exact hd
    refine ⟨_, _, h, (fun e => by cases e), fun {ι m a w} ra => ?_⟩
    have e1 := opnd_rep ra x; rw [h1] at e1; have e1 : a.eval x = .int kn (n : Int) := e1
    have e2 := opnd_rep ra y; rw [h2] at e2; have e2 : a.eval y = .int kc (c : Int) := e2
    obtain ⟨i, hi, hi1, hi2⟩ := ok.typeInfo w
    have hb := ok.small
    have hmul : e.bytes * c ≤ 65536 * 1000000 := Nat.mul_le_mul hb h4
    have hmulZ : ((e.bytes : Int) * (c : Int)) ≤ 65536 * 1000000 := by rw [← Int.natCast_mul]; omega
    have wc := wrap_small h4
    have wn := wrap_small (Nat.le_trans h3 h4)
    have hz : ∃ Z : Array Value, (c * e.size = 0 ∧ Z = #[] ∨ c * e.size ≠ 0 ∧ Z = e.z.cells) ∧ RL ι (zerosA e.l c) ((Array.range (c * e.size)).map fun i => Z[i % Z.size]!).toList := by
      by_cases g : c * e.size = 0
      · refine ⟨#[], .inl ⟨g, rfl⟩, ?_⟩
        have : c = 0 := by
          rcases Nat.mul_eq_zero.1 g with h | h
          · exact h
          · have := ok.pos; omega
        subst this
        simp [zerosA]; exact rfl
      · exact ⟨e.z.cells, .inr ⟨g, rfl⟩, (ok.rep ι).zeros ok.len c⟩
    obtain ⟨Z, hz1, hz2⟩ := hz
    refine ⟨.cells ((Array.range (c * e.size)).map fun i => Z[i % Z.size]!) e.e, _, .slice (some ⟨w.heap.size, 0, none⟩) n c, ?_, fun κ hκ => ro_new (Nat.zero_add _) hroom hg (hz2.mono hκ), fun κ i hi => ⟨_, hi, rfl⟩⟩
    unfold execOp; rw [ho]
    have t3 : ¬ ((e.bytes : Int) * (c : Int) > 2 ^ 48) := by omega
    have t1 : decide ((c : Int) < 0) = false := decide_eq_false (by omega)
    have t2 : decide ((e.bytes : Int) * (c : Int) > 2 ^ 48) = false := decide_eq_false t3
    have t4 : decide ((n : Int) < 0) = false := decide_eq_false (by omega)
    have t5 : decide ((n : Int) > (c : Int)) = false := decide_eq_false (by omega)
    simp only [Instr.makeSlice, Sem.run_bind, run_under ok.under, Result.andThen_ok, e1, e2, asInt, asIntOf, Sem.run_pure, hi, hi1, hi2, wc, wn, ok.sizeOf w, pure_bind, run_askRoom, Int.toNat_natCast]
    rw [t1, t2, t4, t5]
    simp only [Bool.or_false, Bool.false_eq_true, if_false, Sem.run_bind, run_askRoom, Result.andThen_ok, ok.sizeOf w]
    rcases hz1 with ⟨g, rfl⟩ | ⟨g, rfl⟩
    · rw [if_pos g]
      simp only [newRow, Sem.run_bind, run_newObj, Sem.run_pure, Result.andThen_ok, pure_bind]
      rfl
    · rw [if_neg g]
      simp only [newRow, Sem.run_bind, run_newObj, Sem.run_pure, Result.andThen_ok, pure_bind, ok.zero, bind_assoc]
      rfl
  · exact trivial
end
end Go.Ev
