/-
  An evaluator for calls whose arguments are known: loads, new blocks, stores.
-/
import Derived.Test.YtbhgcdkahblllaaGreatDoorEvG
set_option linter.unusedVariables false
set_option linter.unusedSimpArgs false
namespace Go.Ev
open Go
noncomputable section
variable {P : Program} {o : Oper}

/-! ### Loads -/
theorem HR.cell {ι : Inj} {S : St} {w : World} (h : HR ι S w) {b : Nat} {l : Loc} (hb : ι b = some l) {n : Nat} {c : Cs} (hc : hget b S.h = .cells n c) {i : Nat} (hi : i < n) :
    ∃ x, w.cell? ⟨l.b, l.d + i, none⟩ = some x ∧ RV ι (c.get i) x := by
  have := h.live b l hb
  rw [hc] at this
  obtain ⟨-, -, a, e, h1, h2, h3⟩ := this
  obtain ⟨x, h4, h5⟩ := h3 i hi
  refine ⟨x, ?_, h5⟩
  unfold World.cell?
  rw [h1]; exact h4
theorem HR.cells {ι : Inj} {S : St} {w : World} (h : HR ι S w) {b : Nat} {l : Loc} (hb : ι b = some l) {m : Nat} {c : Cs} (hc : hget b S.h = .cells m c) (n q : Nat) (hn : q + n ≤ m) :
    ∃ vs : List Value, (loadCells ⟨l.b, l.d + q, none⟩ n).run P w = .ok vs.toArray w ∧ RL ι (takeL c n q) vs := by
  have hx : ∀ j, j < n → ∃ x, w.cell? ⟨l.b, l.d + (q + j), none⟩ = some x ∧ RV ι (c.get (q + j)) x := fun j hj => h.cell hb hc (by omega)
  refine ⟨(List.range n).map fun j => (w.cell? ⟨l.b, l.d + (q + j), none⟩).getD undef, ?_, ?_⟩
  · refine run_loadCells (P := P) w _ n _ fun j hj => ?_
    obtain ⟨x, h1, -⟩ := hx j hj
    rw [addr_add, Nat.add_assoc, h1]; rfl
  · refine RL.of (takeL_isL _ _ _) (by rw [takeL_len]; simp) fun i hi => ?_
    rw [takeL_len] at hi
    obtain ⟨x, h1, h2⟩ := hx i hi
    refine ⟨x, ?_, ?_⟩
    · simp [hi, h1]
    · rw [takeL_nth _ _ _ _ hi]; exact h2
/-- A variable's value. -/
def loadA (P : Program) (t : TypeId) : Option (AV → Hp → (AV → R) → R) := match P.underlying t, P.info? t with
  | some d, some i => match isAggD d with
    | true => some fun v H k => onPtr v fun b o => onCells (hget b H) fun n c => okK (Nat.ble (Nat.add o i.size) n) (takeK c i.size o fun l => k (.agg l))
    | false => some fun v H k => onPtr v fun b o => onCells (hget b H) fun n c => okK (Nat.ble (Nat.succ o) n) (k (c.get o))
  | _, _ => none
theorem loadA_ok {t : TypeId} {f : AV → Hp → (AV → R) → R} (hf : loadA P t = some f) {v : AV} {H : Hp} {k : AV → R} {r : AV} {s : St} (h : f v H k = .ok r s) :
    ∃ x, k x = .ok r s ∧ ∀ {ι : Inj} {n : Nat} {u : Value} {w : World}, RV ι v u → HR ι ⟨H, n⟩ w → ∃ a z, u = .pointer (some a) ∧ (loadVar t a).run P w = .ok z w ∧ RV ι x z := by
  unfold loadA at hf
  split at hf
  · rename_i d i h1 h2
    split at hf <;> cases hf
    · rename_i h3
      obtain ⟨b, q, rfl, h⟩ := onPtr_inv h
      obtain ⟨n, c, hc, h⟩ := onCells_inv h
      obtain ⟨hn, h⟩ := okK_inv h
      rw [takeK_eq] at h
      refine ⟨_, h, fun {ι n' u w} hu hr => ?_⟩
      obtain ⟨l, hl, rfl⟩ := hu
      obtain ⟨vs, g1, g2⟩ := hr.cells (P := P) hl hc i.size q (Nat.le_of_ble_eq_true hn)
      refine ⟨_, .agg vs.toArray, rfl, ?_, ⟨_, rfl, g2⟩⟩
      unfold loadVar
      simp [run_isAgg h1, h3, sizeOf, typeInfo, h2, g1]
    · rename_i h3
      obtain ⟨b, q, rfl, h⟩ := onPtr_inv h
      obtain ⟨n, c, hc, h⟩ := onCells_inv h
      obtain ⟨hn, h⟩ := okK_inv h
      refine ⟨_, h, fun {ι n' u w} hu hr => ?_⟩
      obtain ⟨l, hl, rfl⟩ := hu
      obtain ⟨x, g1, g2⟩ := hr.cell hl hc (Nat.le_of_ble_eq_true hn)
      refine ⟨_, x, rfl, ?_, g2⟩
      unfold loadVar
      simp [run_isAgg h1, h3, g1]
  · cases hf
def kLoad (P : Program) (t : TypeId) (x : Operand) : Kd := match loadA P t with
  | some f => .load fun T H k => f (opnd x T) H k
  | none => .no
theorem kLoad_ok {t : TypeId} {x : Operand} (ho : o.op = .load t x) : KdOk P o (kLoad P t x) := by
  unfold kLoad
  split
  · rename_i f hf
    intro T H k r s h
    obtain ⟨v, h, hv⟩ := loadA_ok hf h
    refine ⟨v, h, fun {ι m n a w} ra hr => ?_⟩
    obtain ⟨p, z, e, g1, g2⟩ := hv (opnd_rep ra x) hr
    refine ⟨z, ?_, g2⟩
    unfold execOp; rw [ho]
    simp [e, Instr.loadAt, Instr.sureAddr, g1]
  · exact trivial
/-! ### New blocks -/
theorem ro_new {κ : Inj} {w : World} {l : AV} {c : Cs} {n : Nat} {arr : Array Value} {e : TypeId} (hn : n = l.len) (hr : n ≤ c.room) (hg : ∀ j, j < l.len → c.get (0 + j) = l.nth j) (hl : RL κ l arr.toList) :
    RO κ (.cells n c) ⟨w.heap.size, 0, arr.size⟩ (w.alloc (.cells arr e)) := by
  have hlen : l.len = arr.size := by rw [hl.len]; simp
  refine ⟨hr, by show n ≤ arr.size; omega, arr, e, heap_alloc_at, by simp, fun i hi => ?_⟩
  obtain ⟨u, h1, h2⟩ := hl.nth i (by omega)
  refine ⟨u, ?_, ?_⟩
  · simp at h1 ⊢; exact h1
  · have := hg i (by omega)
    rw [Nat.zero_add] at this
    rw [this]; exact h2
theorem puts_room {l : AV} {m : Nat} {c' : Cs} (hr : c'.room = (Cs.new m).room) (hd : l.len = 0 ∨ 0 + l.len ≤ (Cs.new m).room) : 0 + l.len ≤ c'.room := by
  rcases hd with h | h
  · rw [h]; exact Nat.zero_le _
  · omega
/-- A type's zero value, as cells. -/
def zeroA (P : Program) (t : TypeId) : Option (Value × AV) := match P.info? t with
  | some i => match i.zero with
    | some z => some (z, toL z.cells.toList)
    | none => none
  | none => none
theorem zeroA_ok {t : TypeId} {z : Value} {l : AV} (h : zeroA P t = some (z, l)) : (∀ w, (zeroValue t).run P w = .ok z w) ∧ ∀ ι, RL ι l z.cells.toList := by
  unfold zeroA at h
  split at h
  · rename_i i h1
    split at h
    · rename_i z' h2
      cases h
      refine ⟨fun w => ?_, fun ι => toL_rep ι _⟩
      unfold zeroValue typeInfo
      simp [h1, h2]
    · cases h
  · cases h
def kAlloc (P : Program) (t : TypeId) : Kd := match zeroA P t with
  | some (_, l) => putsK Kd.no l 0 (Cs.new l.len) fun n c => .make fun T k => k (.cells n c) fun b => .ptr b 0
  | none => .no
theorem kAlloc_ok {t : TypeId} (ho : o.op = .alloc t) : KdOk P o (kAlloc P t) := by
  unfold kAlloc
  split
  · rename_i z l hz
    obtain ⟨h1, h2⟩ := zeroA_ok hz
    rcases putsK_inv (rfl : putsK Kd.no l 0 (Cs.new l.len) (fun n c => Kd.make fun T k => k (.cells n c) fun b => .ptr b 0) = _) with h | ⟨c, h, -, hr, hd, hg, -⟩
    · rw [h]; exact trivial
    · rw [← h]
      intro T k r s g
      refine ⟨_, _, g, (fun e => by cases e), fun {ι m a w} ra => ⟨.cells z.cells t, z.cells.size, .pointer (some ⟨w.heap.size, 0, none⟩), ?_, fun κ _ => ?_, fun κ i hi => ⟨_, hi, rfl⟩⟩⟩
      · unfold execOp; rw [ho]
        simp [Instr.alloc, h1, newVar, newRow]
        first | done | rfl
      · exact ro_new (Nat.zero_add _) (puts_room hr hd) hg (h2 κ)
  · exact trivial
def kBox (x : Operand) : Kd := .make fun T k => partsK (opnd x T) fun l => putsK (R.bad 50) l 0 (Cs.new l.len) fun n c => k (.cells n c) fun b => .ptr b 0
theorem kBox_ok {t : TypeId} {x : Operand} (ho : o.op = .box t x) : KdOk P o (kBox x) := fun {T k r s} h => by
  obtain ⟨l, h, hl⟩ := partsK_inv h
  rcases putsK_inv h with h | ⟨c, h, -, hr, hd, hg, -⟩
  · exact (R.bad_ne h.symm).elim
  · refine ⟨_, _, h, (fun e => by cases e), fun {ι m a w} ra => ⟨.cells (a.eval x).cells t, (a.eval x).cells.size, .pointer (some ⟨w.heap.size, 0, none⟩), ?_, fun κ hκ => ?_, fun κ i hi => ⟨_, hi, rfl⟩⟩⟩
    · unfold execOp; rw [ho]
      simp [Instr.box, newVar, newRow]
      first | done | rfl
    · exact ro_new (Nat.zero_add _) (puts_room hr hd) hg ((hl (opnd_rep ra x)).mono hκ)
def kMakeMap (t : TypeId) (x : Option Operand) : Kd := match x with
  | none => .make fun T k => k (.map []) fun b => .map b
  | some _ => .no
theorem kMakeMap_ok {t : TypeId} {x : Option Operand} (ho : o.op = .makeMap t x) : KdOk P o (kMakeMap t x) := by
  unfold kMakeMap
  split
  · intro T k r s h
    refine ⟨_, _, h, (fun e => by cases e), fun {ι m a w} ra => ⟨.map #[] 0, 0, .map (some w.heap.size), ?_, fun κ _ => ⟨#[], 0, heap_alloc_at, rfl⟩, fun κ i hi => ⟨_, hi, rfl⟩⟩⟩
    unfold execOp; rw [ho]
    simp [Instr.makeMap]
    first | done | rfl
  · exact trivial
/-! ### Stores -/
theorem HR.put {ι : Inj} {S : St} {w : World} (h : HR ι S w) {b : Nat} {l : Loc} (hb : ι b = some l) {n : Nat} {c c' : Cs} (hc : hget b S.h = .cells n c) {q : Nat} {x : AV} {vs : List Value}
    (hr : c'.room = c.room) (hg : ∀ j, j < x.len → c'.get (q + j) = x.nth j) (hk : ∀ j, j < c.room → (j < q ∨ q + x.len ≤ j) → c'.get j = c.get j) (hq : q + x.len ≤ n) (hx : RL ι x vs) (h1 : ∀ v ∈ vs, v.oneCell' = true) :
    ∃ w', (storeCells ⟨l.b, l.d + q, none⟩ vs).run P w = .ok () w' ∧ HR ι ⟨hset b (.cells n c') S.h, S.n⟩ w' ∧ Ext ι w ι w' := by
  have hlive := h.live b l hb
  rw [hc] at hlive
  obtain ⟨g1, g2, a, e, g3, g4, g5⟩ := hlive
  have hlen := hx.len
  have hrun := run_storeCells_at P l.b (l.d + q) e vs 0 a w g3 (by omega) h1
  refine ⟨_, hrun, h.turn hb (by rw [hc]; exact fun e => by cases e) _ rfl rfl rfl (by simp) (fun k hk => heap_setRow_other hk) ?_⟩
  have hsz : (a.toList.take (l.d + q + 0) ++ vs ++ a.toList.drop (l.d + q + 0 + vs.length)).length = a.size := by simp; omega
  refine ⟨by rw [hr]; exact g1, g2, _, e, heap_setRow g3, by rw [← g4]; simpa using hsz, fun i hi => ?_⟩
  have hget : ∀ j, (a.toList.take (l.d + q + 0) ++ vs ++ a.toList.drop (l.d + q + 0 + vs.length)).toArray[j]? = if j < l.d + q then a[j]? else if j < l.d + q + vs.length then vs[j - (l.d + q)]? else a[j]? := by
    intro j
    have hmin : min (l.d + q) a.size = l.d + q := by omega
    simp only [List.getElem?_toArray, Nat.add_zero, List.append_assoc]
    rw [List.getElem?_append]
    simp only [List.length_take, Array.length_toList, hmin]
    split
    · rename_i hj; rw [List.getElem?_take, if_pos hj]; simp
    · rename_i hj
      rw [List.getElem?_append]
      split
      · rename_i hj2; rw [if_pos (by omega)]
      · rename_i hj2
        rw [if_neg (by omega), List.getElem?_drop]
        simp only [Array.getElem?_toList]
        congr 1; omega
  rw [hget]
  by_cases hi1 : i < q
  · rw [if_pos (by omega), hk i (by omega) (.inl hi1)]
    exact g5 i hi
  · by_cases hi2 : i < q + x.len
    · rw [if_neg (by omega), if_pos (by omega)]
      obtain ⟨u, k1, k2⟩ := hx.nth (i - q) (by omega)
      refine ⟨u, by rw [show l.d + i - (l.d + q) = i - q by omega]; exact k1, ?_⟩
      have := hg (i - q) (by omega)
      rw [show q + (i - q) = i by omega] at this
      rw [this]; exact k2
    · rw [if_neg (by omega), if_neg (by omega), hk i (by omega) (.inr (by omega))]
      exact g5 i hi
/-- A list of values is stored into block b from cell q on. -/
def setK (b q : Nat) (l : AV) (S : St) (k : St → R) : R := onCells (hget b S.h) fun n c => okK (Nat.ble (Nat.add q l.len) n) (okK l.ones (putsK (R.bad 51) l q c fun _ c => hsetK b (.cells n c) S.h fun h => k ⟨h, S.n⟩))
theorem setK_inv {b q : Nat} {l : AV} {S : St} {k : St → R} {r : AV} {s : St} (h : setK b q l S k = .ok r s) :
    ∃ S', k S' = .ok r s ∧ ∀ {ι : Inj} {L : Loc} {vs : List Value} {w : World}, HR ι S w → ι b = some L → RL ι l vs →
      ∃ w', (storeCells ⟨L.b, L.d + q, none⟩ vs).run P w = .ok () w' ∧ HR ι S' w' ∧ Ext ι w ι w' := by
  obtain ⟨n, c, hc, h⟩ := onCells_inv h
  obtain ⟨h1, h⟩ := okK_inv h
  obtain ⟨h2, h⟩ := okK_inv h
  have h1 : q + l.len ≤ n := Nat.le_of_ble_eq_true h1
  rcases putsK_inv h with h | ⟨c', h, -, hr, -, hg, hk⟩
  · exact (R.bad_ne h.symm).elim
  · rw [hsetK_eq] at h
    exact ⟨_, h, fun {ι L vs w} hh hb hl => hh.put (P := P) hb hc hr hg hk h1 hl (ones_cell h2 hl)⟩
def kStore (P : Program) (t : TypeId) (a x : Operand) : Kd := match P.info? t with
  | some i => .eff fun T S k => onPtr (opnd a T) fun b o => partsK (opnd x T) fun l => okK (Nat.beq l.len i.size) (setK b o l S fun S => k (.tup .nl) S)
  | none => .no
theorem kStore_ok {t : TypeId} {a x : Operand} (ho : o.op = .store t a x) : KdOk P o (kStore P t a x) := by
  unfold kStore
  split
  · rename_i i hi
    intro T S k r s h
    obtain ⟨b, q, hc, h⟩ := onPtr_inv h
    obtain ⟨l, h, hl⟩ := partsK_inv h
    obtain ⟨h1, h⟩ := okK_inv h
    obtain ⟨S', h, hs⟩ := setK_inv (P := P) h
    refine ⟨_, _, h, fun {ι m ac w} ra hr => ?_⟩
    have e1 := opnd_rep ra a; rw [hc] at e1; obtain ⟨L, hL, e1⟩ := e1
    have e2 := hl (opnd_rep ra x)
    obtain ⟨w', g1, g2, g3⟩ := hs hr hL e2
    have hlen := e2.len
    rw [Nat.eq_of_beq_eq_true h1] at hlen
    refine ⟨.skip, w', ι, undef, ?_, .inr ⟨rfl, rfl⟩, ⟨#[], rfl, rfl⟩, g2, g3⟩
    unfold execOp; rw [ho]
    have hsz : (ac.eval x).cells.size = i.size := by rw [hlen]; simp
    simp [e1, Instr.storeAt, Instr.sureAddr, storeVar, sizeOf, typeInfo, hi, hsz, g1]
  · exact trivial
end
end Go.Ev
