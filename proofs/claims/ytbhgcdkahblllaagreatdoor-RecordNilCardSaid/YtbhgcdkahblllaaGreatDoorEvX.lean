/-
  An evaluator for calls whose arguments are known: capacities of which a bound is known.
-/
import Derived.Test.YtbhgcdkahblllaaGreatDoorEvK
set_option linter.unusedVariables false
set_option linter.unusedSimpArgs false
namespace Go.Ev
open Go
noncomputable section
variable {P : Program} {o : Oper}

/-- How many elements of a slice whose end is not known are at least there. -/
def knownK (H : Hp) (b o n sz : Nat) (k : Nat → R) : R := match hget b H with
  | .cells m _ => okK (Nat.ble 1 n) (okK (Nat.ble (Nat.add o (Nat.mul n sz)) m) (okK (Nat.ble 1 sz) (fN (Nat.div (Nat.sub m o) sz) k)))
  | _ => .bad 120
theorem knownK_inv {H : Hp} {b o n sz : Nat} {k : Nat → R} {r : AV} {s : St} (h : knownK H b o n sz k = .ok r s) :
    ∃ q, k q = .ok r s ∧ n ≤ q ∧ ∀ {ι : Inj} {N : Nat} {u : Value} {w : World}, RV ι (.slu b o n sz) u → HR ι ⟨H, N⟩ w →
      ∃ l cap, ι b = some l ∧ u = .slice (some ⟨l.b, l.d + o, none⟩) n cap ∧ o + cap * sz = l.s ∧ q ≤ cap ∧ cap < 9223372036854775808 := by
  unfold knownK at h
  split at h
  · rename_i m c hc
    obtain ⟨h1, h⟩ := okK_inv h
    obtain ⟨h2, h⟩ := okK_inv h
    obtain ⟨h3, h⟩ := okK_inv h
    have h1 := Nat.le_of_ble_eq_true h1
    have h2 : o + n * sz ≤ m := Nat.le_of_ble_eq_true h2
    have h3 := Nat.le_of_ble_eq_true h3
    rw [fN_eq] at h
    refine ⟨_, h, ?_, fun {ι N u w} hu hr => ?_⟩
    · show n ≤ (m - o) / sz
      exact (Nat.le_div_iff_mul_le (by omega)).2 (by omega)
    · obtain ⟨l, hl, ⟨cap, hu, hcap, hnc, h63⟩ | ⟨h0, -⟩⟩ := hu
      · refine ⟨l, cap, hl, hu, hcap, ?_, h63⟩
        have hlive := hr.live b l hl
        rw [show hget b (St.h ⟨H, N⟩) = .cells m c from hc] at hlive
        obtain ⟨-, hms, -⟩ := hlive
        show (m - o) / sz ≤ cap
        refine Nat.div_le_of_le_mul ?_
        rw [Nat.mul_comm]; omega
      · omega
  · exact (R.bad_ne h).elim
def kCapG (P : Program) (ts : Array TypeId) (args : Array Operand) : Kd := match args, ts[0]? with
  | ⟨[x]⟩, some t => match P.underlying t with
    | some (.slice e) => .load fun T H k => match opnd x T with
      | .snil => k (.int .i64 (.ofNat 0))
      | .sl _ _ _ c => k (.int .i64 (.ofNat c))
      | .slu b o n sz => knownK H b o n sz fun q => k (.ge q)
      | _ => .bad 62
    | _ => .no
  | _, _ => .no
theorem kCapG_ok {ts : Array TypeId} {args : Array Operand} (ho : o.op = .call { callee := .builtin .cap, args := args, argTypes := ts }) : KdOk P o (kCapG P ts args) := by
  unfold kCapG
  split
  · rename_i x t ht
    split
    · rename_i e h1
      intro T H k r s h
      dsimp only at h
      split at h
      · rename_i hc
        refine ⟨_, h, fun {ι m n a w} ra hr => ⟨_, ?_, rfl⟩⟩
        have e1 := opnd_rep ra x; rw [hc] at e1; have e1 : a.eval x = _ := e1
        obtain ⟨cs, hb⟩ := run_builtin (P := P) (a := a) (w := w) ho
        rw [hb]
        simp [builtin, Builtin.cap_, ht, e1, run_under h1, goInt]
      · rename_i hc
        refine ⟨_, h, fun {ι m n a w} ra hr => ⟨_, ?_, rfl⟩⟩
        have e1 := opnd_rep ra x; rw [hc] at e1; obtain ⟨z, -, e1⟩ := e1
        obtain ⟨cs, hb⟩ := run_builtin (P := P) (a := a) (w := w) ho
        rw [hb]
        simp [builtin, Builtin.cap_, ht, e1, run_under h1, goInt]
      · rename_i b q n sz hc
        obtain ⟨y, h, -, hy⟩ := knownK_inv h
        refine ⟨_, h, fun {ι m N a w} ra hr => ?_⟩
        have e1 := opnd_rep ra x; rw [hc] at e1
        obtain ⟨l, cap, -, e1, -, g1, g2⟩ := hy e1 hr
        refine ⟨.int .i64 cap, ?_, ⟨cap, g1, g2, rfl⟩⟩
        obtain ⟨cs, hb⟩ := run_builtin (P := P) (a := a) (w := w) ho
        rw [hb]
        simp [builtin, Builtin.cap_, ht, e1, run_under h1, goInt]
      · exact (R.bad_ne h).elim
    · exact trivial
  · exact trivial
/-! ### Ints of which a bound is known -/
def geBin (op : BinOp) (x y : AV) : Option AV := match op, x, y with
  | .sub, .ge a, .int .i64 (.ofNat m) => match Nat.ble m a with
    | true => some (.ge (Nat.sub a m))
    | false => none
  | .leq, .int .i64 (.ofNat m), .ge a => match Nat.ble m a with
    | true => some (.bool true)
    | false => none
  | _, _, _ => none
def kIntG (op : BinOp) (f : B2) (x y : Operand) : Kd := .pure fun T k => match geBin op (opnd x T) (opnd y T) with
  | some v => k v
  | none => onInt (opnd x T) (.bad 40) fun kx a => onInt (opnd y T) (.bad 40) fun ky b => okK (eqKd kx ky) (f kx a b k)
theorem wrap_pos {n : Nat} (h : n < 9223372036854775808) : IntKind.i64.wrap (n : Int) = n := by
  simp only [IntKind.wrap, IntKind.bits, IntKind.signed]
  simp
  omega
theorem kIntG_ok {op : BinOp} {f : B2} (hf : binI op = some f) {t u : TypeId} {x y : Operand} (ho : o.op = .binOp op t x y u) : KdOk P o (kIntG op f x y) := fun {T k r s} h => by
  dsimp only at h
  split at h
  · rename_i v hv
    refine ⟨v, h, fun {ι m ac w} ra => ?_⟩
    have e1 := opnd_rep ra x
    have e2 := opnd_rep ra y
    unfold geBin at hv
    split at hv
    · rename_i a m h1 h2
      split at hv <;> cases hv
      rename_i hle
      have hle : m ≤ a := Nat.le_of_ble_eq_true hle
      rw [h1] at e1; rw [h2] at e2
      obtain ⟨X, g1, g2, e1⟩ := e1
      have e2 : ac.eval y = .int .i64 (m : Int) := e2
      refine ⟨.int .i64 ((X - m : Nat) : Int), ?_, ⟨X - m, by show a - m ≤ X - m; omega, by omega, rfl⟩⟩
      unfold execOp; rw [ho]
      have hw : IntKind.i64.wrap ((X : Int) - (m : Int)) = ((X - m : Nat) : Int) := by
        rw [← Int.natCast_sub (by omega)]; exact wrap_pos (by omega)
      simp [e1, e2, guard_int, binOp, Op.intArith, hw]
    · rename_i m a h1 h2
      split at hv <;> cases hv
      rename_i hle
      have hle : m ≤ a := Nat.le_of_ble_eq_true hle
      rw [h1] at e1; rw [h2] at e2
      obtain ⟨X, g1, g2, e2⟩ := e2
      have e1 : ac.eval x = .int .i64 (m : Int) := e1
      refine ⟨.bool true, ?_, rfl⟩
      unfold execOp; rw [ho]
      have hmx : m ≤ X := by omega
      simp [e1, e2, guard_int, binOp, Op.intCmp, hmx]
    · cases hv
  · exact kInt_ok (P := P) hf ho h
/-! ### Slicing past a slice's length -/
def kSliceG (P : Program) (t : TypeId) (x : Operand) (lo hi mx : Option Operand) : Kd := match mx, P.underlying t, kSlice P t x lo hi mx with
  | none, some (.slice e), .pure F => match P.info? e with
    | some j => .load fun T H k => match opnd x T with
      | .slu b o n sz => ofO hi T n fun y => match Nat.ble y n with
        | true => F T k
        | false => knownK H b o n sz fun q => ofO lo T 0 fun l => okK (Nat.beq sz j.size) (okK (Nat.ble l n) (okK (Nat.ble y q) (fN (Nat.add o (Nat.mul l j.size)) fun o' => fN (Nat.sub y l) fun n' => k (.slu b o' n' sz))))
      | _ => F T k
    | none => .no
  | _, _, z => z
theorem kSliceG_ok {t : TypeId} {x : Operand} {lo hi mx : Option Operand} (ho : o.op = .slice t x lo hi mx) : KdOk P o (kSliceG P t x lo hi mx) := by
  unfold kSliceG
  have hk := kSlice_ok (P := P) ho
  split
  · rename_i e F h1 hF
    rw [hF] at hk
    have pure : ∀ {T : T} {H : Hp} {k : AV → R} {r : AV} {s : St}, F T k = .ok r s → ∃ v, k v = .ok r s ∧ ∀ {ι : Inj} {m n : Nat} {a : Act} {w : World}, RA ι m T a → HR ι ⟨H, n⟩ w → ∃ u, (execOp a.eval o).run P w = .ok (.value u) w ∧ RV ι v u := by
      intro T H k r s h
      obtain ⟨v, h, hv⟩ := hk h
      exact ⟨v, h, fun ra _ => hv ra⟩
    split
    · rename_i j h2
      intro T H k r s h
      dsimp only at h
      split at h
      · rename_i b q n sz hc
        obtain ⟨y, h, a2, b2⟩ := ofO_inv h
        split at h
        · exact pure h
        · rename_i hyn
          have hyn : n < y := by
            rcases Nat.lt_or_ge n y with g | g
            · exact g
            · rw [Nat.ble_eq_true_of_le g] at hyn; cases hyn
          obtain ⟨kn, h, hnk, hkn⟩ := knownK_inv h
          obtain ⟨l, h, a1, b1⟩ := ofO_inv h
          obtain ⟨d1, h⟩ := okK_inv h
          obtain ⟨c1, h⟩ := okK_inv h
          obtain ⟨c2, h⟩ := okK_inv h
          obtain rfl := Nat.eq_of_beq_eq_true d1
          have c1 := Nat.le_of_ble_eq_true c1
          have c2 := Nat.le_of_ble_eq_true c2
          rw [fN_eq, fN_eq] at h
          refine ⟨_, h, fun {ι mm N a w} ra hrr => ?_⟩
          have e1 := opnd_rep ra x; rw [hc] at e1
          obtain ⟨L, cap, hL, e1, hcap, hq, h63⟩ := hkn e1 hrr
          have hr := run_bounds (P := P) (w := w) (isS := true) (len := n) (cap := cap) (a := a) (lo := lo) (hi := hi) (mx := none) (l := l) (h := y) (m := cap) (by simp) a1 a2 (fun _ => rfl)
            (fun y e => (b1 y e).imp fun _ h => h ra) (fun y e => (b2 y e).imp fun _ h => h ra) (fun y e => by cases e) (by omega) (fun _ => by omega) (Nat.le_refl _)
          simp only [Option.map_none] at hr
          refine ⟨.slice (some ((⟨L.b, L.d + q, none⟩ : Addr).add (l * j.size))) (y - l) (cap - l), ?_, ⟨L, hL, .inl ⟨cap - l, ?_, ?_, ?_, ?_⟩⟩⟩
          · unfold execOp; rw [ho]
            have hne : ¬ (cap = l) := by omega
            simp [e1, Instr.sliceAt, Instr.slice, underlying, h1, hr, sizeOf, typeInfo, h2, hne]
          · rw [addr_add, Nat.add_assoc]; rfl
          · show q + l * j.size + (cap - l) * j.size = L.s
            rw [← hcap, Nat.add_assoc, ← Nat.add_mul, show l + (cap - l) = cap by omega]
          · show y - l ≤ cap - l; omega
          · omega
      · exact pure h
    · exact trivial
  · exact hk
end
end Go.Ev
