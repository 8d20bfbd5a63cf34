/-
  An evaluator for calls whose arguments are known: maps that are written, append, copy, clear.
-/
import Derived.Test.YtbhgcdkahblllaaGreatDoorEvL
set_option linter.unusedVariables false
set_option linter.unusedSimpArgs false
namespace Go.Ev
open Go
noncomputable section
variable {P : Program} {o : Oper}

/-! ### A map is written -/
def putM (x v : AV) : List (AV × AV) → Nat → List (AV × AV)
  | [], _ => []
  | (a, u) :: r, 0 => (x, v) :: r
  | (a, u) :: r, i + 1 => (a, u) :: putM x v r i
theorem RM.put {ι : Inj} {x v : AV} {p q : Value} (hx : RV ι x p) (hv : RV ι v q) : ∀ {es : List (AV × AV)} {l : List MapEntry} (i : Nat), RM ι es l →
    RM ι (putM x v es i) (l.modify i fun e => { e with key := p, val := q })
  | [], l, i, h => by
    cases h
    show List.modify [] i _ = []
    cases i <;> simp
  | (a, u) :: r, l, 0, h => by
    obtain ⟨e, t, rfl, h1, h2, h3⟩ := h
    exact ⟨{ e with key := p, val := q }, t, by simp, hx, hv, h3⟩
  | (a, u) :: r, l, i + 1, h => by
    obtain ⟨e, t, rfl, h1, h2, h3⟩ := h
    exact ⟨e, _, by simp, h1, h2, RM.put hx hv i h3⟩
theorem RM.snoc {ι : Inj} {x v : AV} {e : MapEntry} (hx : RV ι x e.key) (hv : RV ι v e.val) : ∀ {es : List (AV × AV)} {l : List MapEntry}, RM ι es l → RM ι (es ++ [(x, v)]) (l ++ [e])
  | [], l, h => by cases h; exact ⟨e, [], rfl, hx, hv, rfl⟩
  | (a, u) :: r, l, h => by
    obtain ⟨d, t, rfl, h1, h2, h3⟩ := h
    exact ⟨d, t ++ [e], rfl, h1, h2, RM.snoc hx hv h3⟩
def kMapPut (P : Program) (t : TypeId) (m x y : Operand) : Kd := match P.underlying t with
  | some (.map kt _) => match P.underlying kt with
    | some d => .eff fun T S k => match opnd m T with
      | .map b => onMap (hget b S.h) fun es => okK (plainKey d (opnd x T)) (findA (opnd x T) es 0 fun q => match q with
        | some (i, _) => hsetK b (.map (putM (opnd x T) (opnd y T) es i)) S.h fun h => k (.tup .nl) ⟨h, S.n⟩
        | none => hsetK b (.map (es ++ [(opnd x T, opnd y T)])) S.h fun h => k (.tup .nl) ⟨h, S.n⟩)
      | _ => .bad 66
    | none => .no
  | _ => .no
theorem heap_setObj {w : World} {r : Nat} {o : Obj} (h : r < w.heap.size) : ({ w with heap := w.heap.setIfInBounds r o } : World).heap[r]? = some o := by
  simp [Array.getElem?_setIfInBounds, h]
theorem heap_setObj_other {w : World} {r k : Nat} {o : Obj} (h : k ≠ r) : ({ w with heap := w.heap.setIfInBounds r o } : World).heap[k]? = w.heap[k]? := by
  simp [Array.getElem?_setIfInBounds, Ne.symm h]
theorem kMapPut_ok {t : TypeId} {m x y : Operand} (ho : o.op = .mapUpdate t m x y ∨ o.op = .insert t m x y) : KdOk P o (kMapPut P t m x y) := by
  unfold kMapPut
  split
  · rename_i kt et h1
    split
    · rename_i d h2
      intro T S k r s h
      dsimp only at h
      split at h
      · rename_i b hc
        obtain ⟨es, hes, h⟩ := onMap_inv h
        obtain ⟨hd, h⟩ := okK_inv h
        obtain ⟨q, h, hq⟩ := findA_inv h
        have hne : hget b S.h ≠ .gone := by rw [hes]; exact fun e => by cases e
        have ex : ∀ {a : Act}, execOp a.eval o = (do Instr.mapUpdate t (a.eval m) (a.eval x) (a.eval y); pure .skip) := by
          intro a; rcases ho with ho | ho <;> (unfold execOp; rw [ho])
        cases q with
        | none =>
          dsimp only at h
          rw [hsetK_eq] at h
          refine ⟨_, _, h, fun {ι mm a w} ra hr => ?_⟩
          have e1 := opnd_rep ra m; rw [hc] at e1; obtain ⟨l, hl, e1⟩ := e1
          obtain ⟨ar, c, g1, g2⟩ := hr.map hl hes
          have hf := hq hd (opnd_rep ra x) g2
          have hlt : l.b < w.heap.size := (Array.getElem?_eq_some_iff.1 g1).1
          have hfk : (Instr.findKey kt (a.eval x) ar.toList).run P w = .ok none w := by
            unfold Instr.findKey
            simp only [Sem.run_bind, run_under h2, Result.andThen_ok]
            rw [hf]; rfl
          have hg : (getObj l.b).run P w = .ok (.map ar c) w := by simp [getObj, Sem.run, g1]
          have hset : ∀ ob, (setObj l.b ob).run P w = .ok () { w with heap := w.heap.setIfInBounds l.b ob } := fun ob => by simp [setObj, Sem.run, g1]
          obtain ⟨k1, k2⟩ := hr.turn hl hne (.map (es ++ [(opnd x T, opnd y T)])) (w' := { w with heap := w.heap.setIfInBounds l.b (.map (ar.push { key := a.eval x, val := a.eval y, born := c }) (c + 1)) }) rfl rfl rfl (by simp) (fun k hk => heap_setObj_other hk)
            ⟨_, _, heap_setObj hlt, by rw [Array.toList_push]; exact RM.snoc (opnd_rep ra x) (opnd_rep ra y) g2⟩
          refine ⟨.skip, _, ι, undef, ?_, .inr ⟨rfl, rfl⟩, ⟨#[], rfl, rfl⟩, k1, k2⟩
          rw [ex]
          simp [Instr.mapUpdate, run_under h1, e1, hg, run_checkKey h2 hd, hfk, hset]
        | some jv =>
          obtain ⟨j, v⟩ := jv
          dsimp only at h
          rw [hsetK_eq] at h
          refine ⟨_, _, h, fun {ι mm a w} ra hr => ?_⟩
          have e1 := opnd_rep ra m; rw [hc] at e1; obtain ⟨l, hl, e1⟩ := e1
          obtain ⟨ar, c, g1, g2⟩ := hr.map hl hes
          obtain ⟨z, en, f1, -, -, f4, f5⟩ := hq hd (opnd_rep ra x) g2
          rw [Nat.sub_zero] at f4
          have hlt : l.b < w.heap.size := (Array.getElem?_eq_some_iff.1 g1).1
          have hfk : (Instr.findKey kt (a.eval x) ar.toList).run P w = .ok (some (j, z)) w := by
            unfold Instr.findKey
            simp only [Sem.run_bind, run_under h2, Result.andThen_ok]
            rw [f1]; rfl
          have hg : (getObj l.b).run P w = .ok (.map ar c) w := by simp [getObj, Sem.run, g1]
          have hset : ∀ ob, (setObj l.b ob).run P w = .ok () { w with heap := w.heap.setIfInBounds l.b ob } := fun ob => by simp [setObj, Sem.run, g1]
          have hen : ar[j]? = some en := by rw [← Array.getElem?_toList]; exact f4
          have hst : (Instr.keyThatStays en.key (a.eval x)).run P w = .ok (a.eval x) w := by
            unfold Instr.keyThatStays
            rw [f5 10000]; rfl
          obtain ⟨k1, k2⟩ := hr.turn hl hne (.map (putM (opnd x T) (opnd y T) es j)) (w' := { w with heap := w.heap.setIfInBounds l.b (.map (ar.modify j fun e => { e with key := a.eval x, val := a.eval y }) c) }) rfl rfl rfl (by simp) (fun k hk => heap_setObj_other hk)
            ⟨_, _, heap_setObj hlt, by rw [Array.toList_modify]; exact RM.put (opnd_rep ra x) (opnd_rep ra y) j g2⟩
          refine ⟨.skip, _, ι, undef, ?_, .inr ⟨rfl, rfl⟩, ⟨#[], rfl, rfl⟩, k1, k2⟩
          rw [ex]
          simp [Instr.mapUpdate, run_under h1, e1, hg, run_checkKey h2 hd, hfk, hset, hen, hst]
      · exact (R.bad_ne h).elim
    · exact trivial
  · exact trivial
/-! ### What is appended or copied -/
def strA : Nat → Nat → AV
  | 0, _ => .nl
  | n + 1, x => .cons (.int .u8 (.ofNat (Nat.mod x 256))) (strA n (Nat.div x 256))
theorem strA_rep {ι : Inj} : ∀ (l : List UInt8), RL ι (strA l.length (packB l)) (l.map fun b => .int .u8 b.toNat)
  | [] => rfl
  | b :: l => by
    have h1 : b.toNat < 256 := UInt8.toNat_lt b
    refine ⟨.int .u8 b.toNat, l.map fun b => .int .u8 b.toNat, rfl, ?_, ?_⟩
    · show Value.int .u8 (b.toNat : Int) = .int .u8 _
      congr 2
      show b.toNat = Nat.mod (packB (b :: l)) 256
      rw [packB_cons]
      show _ = (b.toNat + 256 * packB l) % 256
      omega
    · have : Nat.div (packB (b :: l)) 256 = packB l := by
        rw [packB_cons]
        show (b.toNat + 256 * packB l) / 256 = _
        omega
      rw [this]
      exact strA_rep l
/-- The elements of a source: how many there are, their cells. -/
def srcK (sz : Nat) (v : AV) (H : Hp) (k : Nat → AV → R) : R := match v with
  | .snil => k 0 .nl
  | .sl b o n _ => fN (Nat.mul n sz) fun m => Bool.rec (motive := fun _ => R) (onCells (hget b H) fun q c => okK (Nat.ble (Nat.add o m) q) (takeK c m o fun l => k n l)) (k 0 .nl) (Nat.beq n 0)
  | .slu b o n _ => fN (Nat.mul n sz) fun m => Bool.rec (motive := fun _ => R) (onCells (hget b H) fun q c => okK (Nat.ble (Nat.add o m) q) (takeK c m o fun l => k n l)) (k 0 .nl) (Nat.beq n 0)
  | .str n b => k n (strA n b)
  | _ => .bad 67
theorem srcK_inv {sz : Nat} {v : AV} {H : Hp} {k : Nat → AV → R} {r : AV} {s : St} (h : srcK sz v H k = .ok r s) :
    ∃ n l, k n l = .ok r s ∧ ((∃ a b, v = .str a b) ∨ l.len = n * sz) ∧ ∀ {ι : Inj} {N : Nat} {u : Value} {w : World}, RV ι v u → HR ι ⟨H, N⟩ w →
      (Builtin.lenOf u).run P w = .ok n w ∧ ∃ vs : List Value, RL ι l vs ∧ (Builtin.firstCells sz n u).run P w = .ok vs.toArray w := by
  have main : ∀ {b q n : Nat}, (Bool.rec (motive := fun _ => R) (onCells (hget b H) fun t c => okK (Nat.ble (Nat.add q (Nat.mul n sz)) t) (takeK c (Nat.mul n sz) q fun l => k n l)) (k 0 .nl) (Nat.beq n 0) : R) = .ok r s →
      ∃ l, k n l = .ok r s ∧ l.len = n * sz ∧ (n = 0 → l = .nl) ∧ ∀ {ι : Inj} {N : Nat} {L : Loc} {w : World}, 0 < n → ι b = some L → HR ι ⟨H, N⟩ w → ∃ vs : List Value, RL ι l vs ∧ (loadCells ⟨L.b, L.d + q, none⟩ (n * sz)).run P w = .ok vs.toArray w := by
    intro b q n h
    cases hn : Nat.beq n 0 with
    | true =>
      rw [hn] at h
      have : n = 0 := Nat.eq_of_beq_eq_true hn
      subst this
      exact ⟨.nl, h, by simp [AV.len], fun _ => rfl, fun hp => absurd hp (Nat.lt_irrefl _)⟩
    | false =>
      rw [hn] at h
      obtain ⟨t, c, hc, h⟩ := onCells_inv h
      obtain ⟨hle, h⟩ := okK_inv h
      rw [takeK_eq] at h
      have hn0 : n ≠ 0 := Nat.ne_of_beq_eq_false hn
      refine ⟨_, h, takeL_len _ _ _, fun e => absurd e hn0, fun {ι N L w} _ hb hr => ?_⟩
      obtain ⟨vs, g1, g2⟩ := hr.cells (P := P) hb hc (n * sz) q (Nat.le_of_ble_eq_true hle)
      exact ⟨vs, g2, g1⟩
  unfold srcK at h
  split at h
  · refine ⟨0, .nl, h, .inr (by simp [AV.len]), fun {ι N u w} hu hr => ?_⟩
    have hu : u = _ := hu
    subst hu
    exact ⟨rfl, [], rfl, rfl⟩
  · rename_i b q n c
    rw [fN_eq] at h
    obtain ⟨l, h, hlen, h0, hm⟩ := main h
    refine ⟨n, l, h, .inr hlen, fun {ι N u w} hu hr => ?_⟩
    obtain ⟨L, hL, rfl⟩ := hu
    refine ⟨rfl, ?_⟩
    rcases Nat.eq_zero_or_pos n with e | e
    · subst e
      rw [h0 rfl]
      exact ⟨[], rfl, by simp [Builtin.firstCells, loadCells, loadCellsFrom]⟩
    · obtain ⟨vs, g1, g2⟩ := hm e hL hr
      exact ⟨vs, g1, by simp only [Builtin.firstCells]; exact g2⟩
  · rename_i b q n z
    rw [fN_eq] at h
    obtain ⟨l, h, hlen, h0, hm⟩ := main h
    refine ⟨n, l, h, .inr hlen, fun {ι N u w} hu hr => ?_⟩
    obtain ⟨L, hL, ⟨cap, rfl, -⟩ | ⟨rfl, ad, rfl⟩⟩ := hu
    · refine ⟨rfl, ?_⟩
      rcases Nat.eq_zero_or_pos n with e | e
      · subst e
        rw [h0 rfl]
        exact ⟨[], rfl, by simp [Builtin.firstCells, loadCells, loadCellsFrom]⟩
      · obtain ⟨vs, g1, g2⟩ := hm e hL hr
        exact ⟨vs, g1, by simp only [Builtin.firstCells]; exact g2⟩
    · refine ⟨rfl, ?_⟩
      rw [h0 rfl]
      exact ⟨[], rfl, by simp [Builtin.firstCells, loadCells, loadCellsFrom]⟩
  · rename_i n b
    refine ⟨n, _, h, .inl ⟨_, _, rfl⟩, fun {ι N u w} hu hr => ?_⟩
    obtain ⟨z, rfl, hz, hb⟩ := hu
    refine ⟨by simp [Builtin.lenOf, hz], z.data.toList.map fun b => .int .u8 b.toNat, ?_, ?_⟩
    · have := strA_rep (ι := ι) z.data.toList
      rw [size_list, hz, hb] at this
      exact this
    · have he : z.extract 0 n = z := by
        rw [← hz]
        apply ByteArray.ext
        rw [ByteArray.data_extract]
        exact Array.extract_size
      simp only [Builtin.firstCells, Sem.run_pure, he]
      congr 1
      rw [← Array.toList_map, Array.toArray_toList]
  · exact (R.bad_ne h).elim
end
end Go.Ev
