/-
  An evaluator for calls whose arguments are known: addresses, slices, strings, binary operations.
-/
import Derived.Test.YtbhgcdkahblllaaGreatDoorEvE
import Derived.Laws.Strings
import Derived.Laws.Slices
set_option linter.unusedVariables false
set_option linter.unusedSimpArgs false
namespace Go.Ev
open Go
noncomputable section
variable {P : Program} {o : Oper}

/-! ### Strings as numbers -/
theorem packB_cons (b : UInt8) (l : List UInt8) : packB (b :: l) = b.toNat + 256 * packB l := rfl
theorem packB_append : ∀ l m : List UInt8, packB (l ++ m) = packB l + 256 ^ l.length * packB m
  | [], m => by simp [packB]
  | b :: l, m => by
    simp only [List.cons_append, packB_cons, packB_append l m, List.length_cons, Nat.pow_succ]
    rw [Nat.mul_add, ← Nat.mul_assoc, Nat.mul_comm 256 (256 ^ l.length)]; omega
theorem packB_lt : ∀ l : List UInt8, packB l < 256 ^ l.length
  | [] => by simp [packB]
  | b :: l => by
    have h1 := packB_lt l
    have h2 : b.toNat < 256 := UInt8.toNat_lt b
    simp only [packB_cons, List.length_cons, Nat.pow_succ]
    omega
theorem packB_inj : ∀ {l m : List UInt8}, l.length = m.length → packB l = packB m → l = m
  | [], [], _, _ => rfl
  | [], _ :: _, h, _ => by cases h
  | _ :: _, [], h, _ => by cases h
  | b :: l, c :: m, h, e => by
    rw [packB_cons, packB_cons] at e
    have h1 : b.toNat < 256 := UInt8.toNat_lt b
    have h2 : c.toNat < 256 := UInt8.toNat_lt c
    have e1 : b.toNat = c.toNat := by omega
    have e2 : packB l = packB m := by omega
    rw [UInt8.toNat_inj.1 e1, packB_inj (Nat.succ.inj h) e2]
theorem packB_drop : ∀ (i : Nat) (l : List UInt8), packB (l.drop i) = packB l / 256 ^ i
  | 0, l => by simp
  | i + 1, [] => by simp [packB]
  | i + 1, b :: l => by
    have h1 : b.toNat < 256 := UInt8.toNat_lt b
    rw [List.drop_succ_cons, packB_drop i l, packB_cons, Nat.pow_succ, Nat.mul_comm (256 ^ i) 256, ← Nat.div_div_eq_div_mul]
    congr 1; omega
theorem packB_take (i : Nat) (l : List UInt8) (h : i ≤ l.length) : packB (l.take i) = packB l % 256 ^ i := by
  have h1 := packB_append (l.take i) (l.drop i)
  rw [List.take_append_drop, List.length_take, Nat.min_eq_left h] at h1
  have h2 := packB_lt (l.take i)
  rw [List.length_take, Nat.min_eq_left h] at h2
  rw [h1, Nat.add_mul_mod_self_left, Nat.mod_eq_of_lt h2]
theorem packB_get (i : Nat) (l : List UInt8) (c : UInt8) (h : l[i]? = some c) : packB l / 256 ^ i % 256 = c.toNat := by
  rw [← packB_drop]
  obtain ⟨hi, he⟩ := List.getElem?_eq_some_iff.1 h
  rw [List.drop_eq_getElem_cons hi, packB_cons, he]
  have h1 : c.toNat < 256 := UInt8.toNat_lt c
  omega
theorem size_list (s : ByteArray) : s.data.toList.length = s.size := by
  show s.data.toList.length = s.data.size; exact Array.length_toList
theorem str_eq {s t : ByteArray} : (s.size = t.size ∧ packB s.data.toList = packB t.data.toList) ↔ s.toList = t.toList := by
  rw [ByteArray.toList_eq, ByteArray.toList_eq]
  constructor
  · rintro ⟨h1, h2⟩
    exact packB_inj (by rw [size_list, size_list]; exact h1) h2
  · intro h
    refine ⟨?_, by rw [h]⟩
    rw [← size_list, ← size_list, h]

/-! ### Addresses -/
theorem addr_add (b o n : Nat) : (⟨b, o, none⟩ : Addr).add n = ⟨b, o + n, none⟩ := by
  unfold Addr.add; split <;> simp_all
def kFieldAddr (P : Program) (t : TypeId) (x : Operand) (i : Nat) : Kd := match P.underlying t with
  | some (.struct fs) => match fs[i]? with
    | some f => match P.info? f.type with
      | some j => match Nat.beq j.size 0 with
        | true => .no
        | false => .pure fun T k => onPtr (opnd x T) fun b o => fN (Nat.add o f.offset) fun o => k (.ptr b o)
      | none => .no
    | none => .no
  | _ => .no
theorem kFieldAddr_ok {t : TypeId} {x : Operand} {i : Nat} (ho : o.op = .fieldAddr t x i) : KdOk P o (kFieldAddr P t x i) := by
  unfold kFieldAddr
  split
  · rename_i fs h1
    split
    · rename_i f h2
      split
      · rename_i j h3
        split
        · exact trivial
        · rename_i h4
          have h4 : j.size ≠ 0 := Nat.ne_of_beq_eq_false h4
          intro T k r s h
          obtain ⟨b, n, hc, h⟩ := onPtr_inv h
          rw [fN_eq] at h
          refine ⟨_, h, fun {ι m a w} ra => ?_⟩
          have e := opnd_rep ra x; rw [hc] at e; obtain ⟨l, hl, e⟩ := e
          refine ⟨_, ?_, ⟨l, hl, rfl⟩⟩
          unfold execOp; rw [ho]
          simp [e, Instr.fieldAt, underlying, h1, h2, Instr.sureAddr, fieldPlace, sizeOf, typeInfo, h3, h4, addr_add, Nat.add_assoc]
      · exact trivial
    · exact trivial
  · exact trivial
/-- A slice that has a block. -/
def onSl (v : AV) (k : Nat → Nat → Nat → R) : R := match v with
  | .sl b o n _ => k b o n
  | .slu b o n _ => k b o n
  | _ => .bad 33
theorem onSl_inv {v : AV} {k : Nat → Nat → Nat → R} {r : AV} {s : St} (h : onSl v k = .ok r s) : ∃ b o n, ((∃ c, v = .sl b o n c) ∨ ∃ z, v = .slu b o n z) ∧ k b o n = .ok r s := by
  unfold onSl at h
  split at h
  · exact ⟨_, _, _, .inl ⟨_, rfl⟩, h⟩
  · exact ⟨_, _, _, .inr ⟨_, rfl⟩, h⟩
  · exact (R.bad_ne h).elim
theorem rv_sl {ι : Inj} {v : AV} {b i n : Nat} {u : Value} (h : (∃ c, v = .sl b i n c) ∨ ∃ z, v = .slu b i n z) (hn : 0 < n) (hr : RV ι v u) : ∃ l c, ι b = some l ∧ u = .slice (some ⟨l.b, l.d + i, none⟩) n c := by
  rcases h with ⟨c, rfl⟩ | ⟨z, rfl⟩
  · obtain ⟨l, hl, e⟩ := hr; exact ⟨l, c, hl, e⟩
  · obtain ⟨l, hl, ⟨c, e, -⟩ | ⟨h0, -⟩⟩ := hr
    · exact ⟨l, c, hl, e⟩
    · omega
def kIndexAddr (P : Program) (t : TypeId) (x i : Operand) : Kd := match P.underlying t with
  | some (.slice e) => match P.info? e with
    | some j => .pure fun T k => onSl (opnd x T) fun b o n => onNat (opnd i T) fun i => okK (Nat.ble (Nat.succ i) n) (fN (Nat.add o (Nat.mul i j.size)) fun o => k (.ptr b o))
    | none => .no
  | some (.array n e) => match P.info? e with
    | some j => .pure fun T k => onPtr (opnd x T) fun b o => onNat (opnd i T) fun i => okK (Nat.ble (Nat.succ i) n) (fN (Nat.add o (Nat.mul i j.size)) fun o => k (.ptr b o))
    | none => .no
  | _ => .no
theorem kIndexAddr_ok {t : TypeId} {x i : Operand} (ho : o.op = .indexAddr t x i) : KdOk P o (kIndexAddr P t x i) := by
  unfold kIndexAddr
  split
  · rename_i e h1
    split
    · rename_i j h2
      intro T k r s h
      obtain ⟨b, q, n, hc, h⟩ := onSl_inv h
      obtain ⟨kd, y, hi, h⟩ := onNat_inv h
      obtain ⟨hlt, h⟩ := okK_inv h
      have hlt : y < n := Nat.le_of_ble_eq_true hlt
      rw [fN_eq] at h
      refine ⟨_, h, fun {ι m a w} ra => ?_⟩
      obtain ⟨l, c, hl, e1⟩ := rv_sl hc (by omega) (opnd_rep ra x)
      have e2 := opnd_rep ra i; rw [hi] at e2; have e2 : a.eval i = _ := e2
      refine ⟨_, ?_, ⟨l, hl, rfl⟩⟩
      have h3 : (y : Int) < (n : Int) := by omega
      unfold execOp; rw [ho]
      simp [e1, e2, Instr.indexAt, underlying, h1, asIntOf, sizeOf, typeInfo, h2, h3, hlt, addr_add, Nat.add_assoc]
    · exact trivial
  · rename_i n e h1
    split
    · rename_i j h2
      intro T k r s h
      obtain ⟨b, q, hc, h⟩ := onPtr_inv h
      obtain ⟨kd, y, hi, h⟩ := onNat_inv h
      obtain ⟨hlt, h⟩ := okK_inv h
      have hlt : y < n := Nat.le_of_ble_eq_true hlt
      rw [fN_eq] at h
      refine ⟨_, h, fun {ι m a w} ra => ?_⟩
      have e1 := opnd_rep ra x; rw [hc] at e1; obtain ⟨l, hl, e1⟩ := e1
      have e2 := opnd_rep ra i; rw [hi] at e2; have e2 : a.eval i = _ := e2
      refine ⟨_, ?_, ⟨l, hl, rfl⟩⟩
      unfold execOp; rw [ho]
      simp [e1, e2, Instr.indexAt, underlying, h1, asIntOf, Instr.sureAddr, sizeOf, typeInfo, h2, hlt, addr_add, Nat.add_assoc]
    · exact trivial
  · exact trivial
def kIndex (P : Program) (t : TypeId) (x i : Operand) : Kd := match P.underlying t with
  | some .string => .pure fun T k => onNat (opnd i T) fun i => match opnd x T with
    | .str n b => okK (Nat.ble (Nat.succ i) n) (fN (Nat.mod (Nat.div b (Nat.pow 256 i)) 256) fun c => k (.int .u8 (.ofNat c)))
    | _ => .bad 34
  | _ => .no
theorem kIndex_ok {t : TypeId} {x i : Operand} (ho : o.op = .index t x i) : KdOk P o (kIndex P t x i) := by
  unfold kIndex
  split
  · rename_i h1
    intro T k r s h
    obtain ⟨kd, y, hi, h⟩ := onNat_inv h
    split at h
    · rename_i n b hc
      obtain ⟨hlt, h⟩ := okK_inv h
      have hlt : y < n := Nat.le_of_ble_eq_true hlt
      rw [fN_eq] at h
      refine ⟨_, h, fun {ι m a w} ra => ?_⟩
      have e1 := opnd_rep ra x; rw [hc] at e1; obtain ⟨z, e1, hz, hb⟩ := e1
      have e2 := opnd_rep ra i; rw [hi] at e2; have e2 : a.eval i = _ := e2
      have hy : y < z.size := by omega
      have hg : z.data.toList[y]? = some z[y] := by
        rw [List.getElem?_eq_getElem (by rw [size_list]; exact hy)]; rfl
      refine ⟨.int .u8 (.ofNat (z[y]).toNat), ?_, ?_⟩
      · unfold execOp; rw [ho]
        simp [e1, e2, Instr.index, underlying, h1, asIntOf, hy]
      · show Value.int .u8 _ = Value.int .u8 _
        congr 2
        rw [← packB_get y _ _ hg, hb]; rfl
    · exact (R.bad_ne h).elim
  · exact trivial
/-! ### Slicing -/
def ofO (x : Option Operand) (T : T) (d : Nat) (k : Nat → R) : R := match x with
  | none => k d
  | some x => onNat (opnd x T) k
theorem ofO_inv {x : Option Operand} {T : T} {d : Nat} {k : Nat → R} {r : AV} {s : St} (h : ofO x T d k = .ok r s) :
    ∃ n, k n = .ok r s ∧ (x = none → n = d) ∧ ∀ y, x = some y → ∃ kd, ∀ {ι : Inj} {m : Nat} {a : Act}, RA ι m T a → a.eval y = .int kd (.ofNat n) := by
  cases x with
  | none => exact ⟨d, h, fun _ => rfl, fun y e => by cases e⟩
  | some y =>
    obtain ⟨kd, n, hc, h⟩ := onNat_inv h
    refine ⟨n, h, (fun e => by cases e), fun z e => ?_⟩
    cases e
    refine ⟨kd, fun {ι m a} ra => ?_⟩
    have e := opnd_rep ra y; rw [hc] at e; exact e
theorem run_bound {w : World} {kd : IntKind} {n y : Nat} {c : BoundsCode} (h : n ≤ y) : (Instr.sliceBound (.int kd (n : Int)) y c).run P w = .ok n w := by
  unfold Instr.sliceBound
  have h1 : (n : Int) ≤ (y : Int) := by omega
  simp [asIntOf, h1, h]
theorem run_bounds {w : World} {isS : Bool} {len cap : Nat} {a : Act} {lo hi mx : Option Operand} {l h m : Nat} (hm : mx.isSome = true → hi.isSome = true)
    (h1 : lo = none → l = 0) (h2 : hi = none → h = len) (h3 : mx = none → m = cap)
    (g1 : ∀ y, lo = some y → ∃ kd, a.eval y = .int kd (.ofNat l)) (g2 : ∀ y, hi = some y → ∃ kd, a.eval y = .int kd (.ofNat h)) (g3 : ∀ y, mx = some y → ∃ kd, a.eval y = .int kd (.ofNat m))
    (hl : l ≤ h) (hh : hi.isSome = true → h ≤ m) (hc : m ≤ cap) : (Instr.sliceBounds isS len cap (lo.map a.eval) (hi.map a.eval) (mx.map a.eval)).run P w = .ok (l, h, m) w := by
  unfold Instr.sliceBounds
  cases mx with
  | none =>
    obtain rfl := h3 rfl
    cases hi with
    | none =>
      obtain rfl := h2 rfl
      cases lo with
      | none => obtain rfl := h1 rfl; simp
      | some y => obtain ⟨kd, e⟩ := g1 y rfl; simp only [Option.map_some, Option.map_none, e]; simp [run_bound hl]
    | some z =>
      obtain ⟨kz, ez⟩ := g2 z rfl
      cases lo with
      | none => obtain rfl := h1 rfl; simp only [Option.map_some, Option.map_none, ez]; simp [run_bound (hh rfl)]
      | some y => obtain ⟨kd, e⟩ := g1 y rfl; simp only [Option.map_some, Option.map_none, e, ez]; simp [run_bound hl, run_bound (hh rfl)]
  | some x =>
    obtain ⟨kx, ex⟩ := g3 x rfl
    cases hi with
    | none => exact absurd (hm rfl) (by simp)
    | some z =>
      obtain ⟨kz, ez⟩ := g2 z rfl
      cases lo with
      | none => obtain rfl := h1 rfl; simp only [Option.map_some, Option.map_none, ez, ex]; simp [run_bound (hh rfl), run_bound hc]
      | some y => obtain ⟨kd, e⟩ := g1 y rfl; simp only [Option.map_some, e, ez, ex]; simp [run_bound hl, run_bound (hh rfl), run_bound hc]
/-- A slice of something that has a known capacity: from cell o of block b on, n elements of sz cells, c at most. -/
def sliceK (sz b o n c : Nat) (lo hi mx : Option Operand) (T : T) (k : AV → R) : R := ofO lo T 0 fun l => ofO hi T n fun h => ofO mx T c fun m =>
  okK (Nat.ble l h) (okK (Nat.ble h m) (okK (Nat.ble m c) (fN (Nat.add o (Nat.mul (cond (Nat.beq m l) 0 l) sz)) fun o => fN (Nat.sub h l) fun n => fN (Nat.sub m l) fun c => k (.sl b o n c))))
def sliceU (sz b o n : Nat) (lo hi mx : Option Operand) (T : T) (k : AV → R) : R := match mx with
  | none => ofO lo T 0 fun l => ofO hi T n fun h => okK (Nat.ble l h) (okK (Nat.ble h n) (fN (Nat.add o (Nat.mul l sz)) fun o => fN (Nat.sub h l) fun n => k (.slu b o n sz)))
  | some _ => sliceK sz b o n n lo hi mx T k
def mxOk (hi mx : Option Operand) : Bool := match hi, mx with
  | none, some _ => false
  | _, _ => true
theorem mxOk_spec {hi mx : Option Operand} (h : mxOk hi mx = true) : mx.isSome = true → hi.isSome = true := by
  cases hi <;> cases mx <;> simp_all [mxOk]
def kSlice (P : Program) (t : TypeId) (x : Operand) (lo hi mx : Option Operand) : Kd := match mxOk hi mx, P.underlying t with
  | true, some .string => match mx with
    | none => .pure fun T k => match opnd x T with
      | .str n b => ofO lo T 0 fun l => ofO hi T n fun h => okK (Nat.ble l h) (okK (Nat.ble h n) (fN (Nat.sub h l) fun m => fN (Nat.mod (Nat.div b (Nat.pow 256 l)) (Nat.pow 256 m)) fun b => k (.str m b)))
      | _ => .bad 35
    | some _ => .no
  | true, some (.slice e) => match P.info? e with
    | some j => .pure fun T k => match opnd x T with
      | .snil => ofO lo T 0 fun l => ofO hi T 0 fun h => ofO mx T 0 fun m => okK (Nat.beq l 0) (okK (Nat.beq h 0) (okK (Nat.beq m 0) (k .snil)))
      | .sl b o n c => sliceK j.size b o n c lo hi mx T k
      | .slu b o n sz => okK (Nat.beq sz j.size) (okK (Nat.ble 1 n) (sliceU j.size b o n lo hi mx T k))
      | _ => .bad 35
    | none => .no
  | true, some (.array n e) => match P.info? e with
    | some j => .pure fun T k => onPtr (opnd x T) fun b o => sliceK j.size b o n n lo hi mx T k
    | none => .no
  | _, _ => .no
theorem sliceK_inv {sz b q n c : Nat} {lo hi mx : Option Operand} {T : T} {k : AV → R} {r : AV} {s : St} (hmx : mxOk hi mx = true) (h : sliceK sz b q n c lo hi mx T k = .ok r s) :
    ∃ l y m, k (.sl b (q + (if m = l then 0 else l) * sz) (y - l) (m - l)) = .ok r s ∧ l ≤ y ∧ y ≤ m ∧ m ≤ c ∧
      ∀ {ι : Inj} {mm : Nat} {a : Act} {w : World} {isS : Bool} (cap : Nat), (mx = none → cap = c) → c ≤ cap → RA ι mm T a → (Instr.sliceBounds isS n cap (lo.map a.eval) (hi.map a.eval) (mx.map a.eval)).run P w = .ok (l, y, m) w := by
  obtain ⟨l, h, a1, b1⟩ := ofO_inv h
  obtain ⟨y, h, a2, b2⟩ := ofO_inv h
  obtain ⟨m, h, a3, b3⟩ := ofO_inv h
  obtain ⟨c1, h⟩ := okK_inv h
  obtain ⟨c2, h⟩ := okK_inv h
  obtain ⟨c3, h⟩ := okK_inv h
  have c1 := Nat.le_of_ble_eq_true c1
  have c2 := Nat.le_of_ble_eq_true c2
  have c3 := Nat.le_of_ble_eq_true c3
  rw [fN_eq, fN_eq, fN_eq] at h
  have e : cond (Nat.beq m l) 0 l = if m = l then 0 else l := by
    by_cases e : m = l
    · subst e; simp
    · rw [if_neg e, show Nat.beq m l = false from by rw [Bool.eq_false_iff]; exact fun h => e (Nat.eq_of_beq_eq_true h)]; rfl
  rw [e] at h
  exact ⟨l, y, m, h, c1, c2, c3, fun {ι mm a w isS} cap hcap hc ra => run_bounds (mxOk_spec hmx) a1 a2 (fun e => (a3 e).trans (hcap e).symm) (fun y e => (b1 y e).imp fun _ h => h ra) (fun y e => (b2 y e).imp fun _ h => h ra) (fun y e => (b3 y e).imp fun _ h => h ra) c1 (fun _ => c2) (Nat.le_trans c3 hc)⟩
theorem rv_slice {ι : Inj} {b q l y m sz : Nat} {L : Loc} (hb : ι b = some L) : RV ι (.sl b (q + (if m = l then 0 else l) * sz) (y - l) (m - l))
    (.slice (if m = l then some ⟨L.b, L.d + q, none⟩ else some ((⟨L.b, L.d + q, none⟩ : Addr).add (l * sz))) (y - l) (m - l)) := by
  refine ⟨L, hb, ?_⟩
  by_cases e : m = l
  · simp [e]
  · simp [e, addr_add, Nat.add_assoc]
theorem kSlice_ok {t : TypeId} {x : Operand} {lo hi mx : Option Operand} (ho : o.op = .slice t x lo hi mx) : KdOk P o (kSlice P t x lo hi mx) := by
  unfold kSlice
  split
  · rename_i hmx h1
    split
    · intro T k r s h
      dsimp only at h
      split at h
      · rename_i n b hc
        obtain ⟨l, h, a1, b1⟩ := ofO_inv h
        obtain ⟨y, h, a2, b2⟩ := ofO_inv h
        obtain ⟨c1, h⟩ := okK_inv h
        obtain ⟨c2, h⟩ := okK_inv h
        have c1 := Nat.le_of_ble_eq_true c1
        have c2 := Nat.le_of_ble_eq_true c2
        rw [fN_eq, fN_eq] at h
        refine ⟨_, h, fun {ι mm a w} ra => ?_⟩
        have e1 := opnd_rep ra x; rw [hc] at e1; obtain ⟨z, e1, hz, hb⟩ := e1
        have hr := run_bounds (P := P) (w := w) (isS := false) (len := z.size) (cap := z.size) (a := a) (lo := lo) (hi := hi) (mx := none) (l := l) (h := y) (m := z.size) (by simp) a1 (by rw [hz]; exact a2) (fun _ => rfl)
          (fun y e => (b1 y e).imp fun _ h => h ra) (fun y e => (b2 y e).imp fun _ h => h ra) (fun y e => by cases e) c1 (fun _ => by omega) (Nat.le_refl _)
        simp only [Option.map_none] at hr
        refine ⟨.string (z.extract l y), ?_, ⟨_, rfl, ?_, ?_⟩⟩
        · unfold execOp; rw [ho]
          simp [e1, Instr.sliceAt, Instr.slice, underlying, h1, hr]
        · simp
          first | done | omega
        · have hd : (z.extract l y).data.toList = (z.data.toList.drop l).take (y - l) := by
            rw [ByteArray.data_extract, Array.toList_extract]
            first | done | rfl
          rw [hd, packB_take _ _ (by rw [List.length_drop, size_list]; omega), packB_drop, hb]
          first | done | rfl
      · exact (R.bad_ne h).elim
    · exact trivial
  · rename_i e hmx h1
    split
    · rename_i j h2
      intro T k r s h
      dsimp only at h
      split at h
      · rename_i hc
        obtain ⟨l, h, a1, b1⟩ := ofO_inv h
        obtain ⟨y, h, a2, b2⟩ := ofO_inv h
        obtain ⟨m, h, a3, b3⟩ := ofO_inv h
        obtain ⟨c1, h⟩ := okK_inv h
        obtain ⟨c2, h⟩ := okK_inv h
        obtain ⟨c3, h⟩ := okK_inv h
        obtain rfl := Nat.eq_of_beq_eq_true c1
        obtain rfl := Nat.eq_of_beq_eq_true c2
        obtain rfl := Nat.eq_of_beq_eq_true c3
        refine ⟨_, h, fun {ι mm a w} ra => ⟨.slice none 0 0, ?_, rfl⟩⟩
        have e1 := opnd_rep ra x; rw [hc] at e1; have e1 : a.eval x = _ := e1
        have hr := run_bounds (P := P) (w := w) (isS := true) (len := 0) (cap := 0) (a := a) (lo := lo) (hi := hi) (mx := mx) (l := 0) (h := 0) (m := 0) (mxOk_spec hmx) a1 a2 a3
          (fun y e => (b1 y e).imp fun _ h => h ra) (fun y e => (b2 y e).imp fun _ h => h ra) (fun y e => (b3 y e).imp fun _ h => h ra) (Nat.le_refl _) (fun _ => Nat.le_refl _) (Nat.le_refl _)
        unfold execOp; rw [ho]
        simp [e1, Instr.sliceAt, Instr.slice, underlying, h1, hr, sizeOf, typeInfo, h2]
      · rename_i b q n c hc
        obtain ⟨l, y, m, h, c1, c2, c3, hr⟩ := sliceK_inv (P := P) hmx h
        refine ⟨_, h, fun {ι mm a w} ra => ?_⟩
        have e1 := opnd_rep ra x; rw [hc] at e1; obtain ⟨L, hL, e1⟩ := e1
        refine ⟨_, ?_, rv_slice hL⟩
        unfold execOp; rw [ho]
        simp [e1, Instr.sliceAt, Instr.slice, underlying, h1, hr _ (fun _ => rfl) (Nat.le_refl _) ra, sizeOf, typeInfo, h2]
      · rename_i b q n sz hc
        obtain ⟨d1, g1⟩ := okK_inv h
        obtain ⟨d2, g2⟩ := okK_inv g1
        clear g1 h
        obtain rfl := Nat.eq_of_beq_eq_true d1
        have d2 := Nat.le_of_ble_eq_true d2
        unfold sliceU at g2
        cases mx with
        | none =>
          dsimp only at g2
          obtain ⟨l, h, a1, b1⟩ := ofO_inv g2
          obtain ⟨y, h, a2, b2⟩ := ofO_inv h
          obtain ⟨c1, h⟩ := okK_inv h
          obtain ⟨c2, h⟩ := okK_inv h
          have c1 := Nat.le_of_ble_eq_true c1
          have c2 := Nat.le_of_ble_eq_true c2
          rw [fN_eq, fN_eq] at h
          refine ⟨_, h, fun {ι mm a w} ra => ?_⟩
          have e1 := opnd_rep ra x; rw [hc] at e1; obtain ⟨L, hL, ⟨cap, e1, hcap, hnc, h63⟩ | ⟨h0, -⟩⟩ := e1
          · have hr := run_bounds (P := P) (w := w) (isS := true) (len := n) (cap := cap) (a := a) (lo := lo) (hi := hi) (mx := none) (l := l) (h := y) (m := cap) (by simp) a1 a2 (fun _ => rfl)
              (fun y e => (b1 y e).imp fun _ h => h ra) (fun y e => (b2 y e).imp fun _ h => h ra) (fun y e => by cases e) c1 (fun _ => by omega) (Nat.le_refl _)
            simp only [Option.map_none] at hr
            refine ⟨.slice (if cap = l then some ⟨L.b, L.d + q, none⟩ else some ((⟨L.b, L.d + q, none⟩ : Addr).add (l * j.size))) (y - l) (cap - l), ?_, ⟨L, hL, ?_⟩⟩
            · unfold execOp; rw [ho]
              simp [e1, Instr.sliceAt, Instr.slice, underlying, h1, hr, sizeOf, typeInfo, h2]
            · by_cases e : cap = l
              · right
                refine ⟨by show Nat.sub y l = 0; show y - l = 0; omega, ⟨L.b, L.d + q, none⟩, ?_⟩
                rw [if_pos e, show y - l = 0 by omega, show cap - l = 0 by omega]
              · left
                refine ⟨cap - l, ?_, ?_, ?_, ?_⟩
                · rw [if_neg e, addr_add, Nat.add_assoc]; rfl
                · show q + l * j.size + (cap - l) * j.size = L.s
                  rw [← hcap, Nat.add_assoc, ← Nat.add_mul, show l + (cap - l) = cap by omega]
                · show y - l ≤ cap - l; omega
                · omega
          · omega
        | some mx' =>
          dsimp only at g2
          obtain ⟨l, y, m, h, c1, c2, c3, hr⟩ := sliceK_inv (P := P) hmx g2
          refine ⟨_, h, fun {ι mm a w} ra => ?_⟩
          have e1 := opnd_rep ra x; rw [hc] at e1; obtain ⟨L, hL, ⟨cap, e1, hcap, hnc, h63⟩ | ⟨h0, -⟩⟩ := e1
          · refine ⟨.slice (if m = l then some ⟨L.b, L.d + q, none⟩ else some ((⟨L.b, L.d + q, none⟩ : Addr).add (l * j.size))) (y - l) (m - l), ?_, rv_slice hL⟩
            have hr2 := hr (w := w) (isS := true) cap (fun e => by cases e) hnc ra
            simp only [Option.map_some] at hr2
            unfold execOp; rw [ho]
            simp [e1, Instr.sliceAt, Instr.slice, underlying, h1, hr2, sizeOf, typeInfo, h2]
          · omega
      · exact (R.bad_ne h).elim
    · exact trivial
  · rename_i n e hmx h1
    split
    · rename_i j h2
      intro T k r s h
      obtain ⟨b, q, hc, h⟩ := onPtr_inv h
      obtain ⟨l, y, m, h, c1, c2, c3, hr⟩ := sliceK_inv (P := P) hmx h
      refine ⟨_, h, fun {ι mm a w} ra => ?_⟩
      have e1 := opnd_rep ra x; rw [hc] at e1; obtain ⟨L, hL, e1⟩ := e1
      refine ⟨_, ?_, rv_slice hL⟩
      unfold execOp; rw [ho]
      simp [e1, Instr.sliceAt, underlying, h1, hr _ (fun _ => rfl) (Nat.le_refl _) ra, sizeOf, typeInfo, h2, Instr.sureAddr]
      by_cases e : m = l <;> simp [e]
    · exact trivial
  · exact trivial
end
end Go.Ev
