/-
  An evaluator for calls whose arguments are known: composite values, slices that are made.
-/
import Derived.Test.YtbhgcdkahblllaaGreatDoorEvH
set_option linter.unusedVariables false
set_option linter.unusedSimpArgs false
namespace Go.Ev
open Go
noncomputable section
variable {P : Program} {o : Oper}

/-! ### Filling -/
def fillA (l : AV) (off : Nat) : AV → AV
  | .cons v vs => fillA (l.setN off v) (Nat.succ off) vs
  | _ => l
theorem RL.set {ι : Inj} : ∀ {x : AV} {l : List Value} (i : Nat) {v : AV} {u : Value}, RL ι x l → RV ι v u → RL ι (x.setN i v) (l.set i u)
  | .nl, l, i, v, u, h, _ => by cases h; cases i <;> rfl
  | .cons a t, l, 0, v, u, h, hv => by
    obtain ⟨p, q, rfl, h1, h2⟩ := h
    exact ⟨u, q, rfl, hv, h2⟩
  | .cons a t, l, i + 1, v, u, h, hv => by
    obtain ⟨p, q, rfl, h1, h2⟩ := h
    exact ⟨p, q.set i u, rfl, h1, RL.set (x := t) i h2 hv⟩
  | .top, _, _, _, _, h, _ => h.elim
  | .bool _, _, _, _, _, h, _ => h.elim
  | .int _ _, _, _, _, _, h, _ => h.elim
  | .str _ _, _, _, _, _, h, _ => h.elim
  | .pnil, _, _, _, _, h, _ => h.elim
  | .ptr _ _, _, _, _, _, h, _ => h.elim
  | .snil, _, _, _, _, h, _ => h.elim
  | .sl _ _ _ _, _, _, _, _, h, _ => h.elim
  | .slu _ _ _ _, _, _, _, _, h, _ => h.elim
  | .mnil, _, _, _, _, h, _ => h.elim
  | .map _, _, _, _, _, h, _ => h.elim
  | .fn _ _ _, _, _, _, _, h, _ => h.elim
  | .fnil, _, _, _, _, h, _ => h.elim
  | .inil, _, _, _, _, h, _ => h.elim
  | .iface _ _, _, _, _, _, h, _ => h.elim
  | .agg _, _, _, _, _, h, _ => h.elim
  | .tup _, _, _, _, _, h, _ => h.elim
  | .ge _, _, _, _, _, h, _ => h.elim
/-- The filling of one part, on lists. -/
def fillL (l : List Value) (off : Nat) : List Value → List Value
  | [] => l
  | v :: vs => fillL (l.set off v) (off + 1) vs
theorem fillL_length : ∀ (vs : List Value) (l : List Value) (off : Nat), (fillL l off vs).length = l.length
  | [], _, _ => rfl
  | v :: vs, l, off => by rw [fillL, fillL_length vs]; simp
theorem RL.fill {ι : Inj} : ∀ {x y : AV} {l vs : List Value} (i : Nat), RL ι x l → RL ι y vs → RL ι (fillA x i y) (fillL l i vs)
  | x, .nl, l, vs, i, h, hv => by cases hv; exact h
  | x, .cons a t, l, vs, i, h, hv => by
    obtain ⟨p, q, rfl, h1, h2⟩ := hv
    exact RL.fill (i + 1) (h.set i h1) h2
  | _, .top, _, _, _, _, h => h.elim
  | _, .bool _, _, _, _, _, h => h.elim
  | _, .int _ _, _, _, _, _, h => h.elim
  | _, .str _ _, _, _, _, _, h => h.elim
  | _, .pnil, _, _, _, _, h => h.elim
  | _, .ptr _ _, _, _, _, _, h => h.elim
  | _, .snil, _, _, _, _, h => h.elim
  | _, .sl _ _ _ _, _, _, _, _, h => h.elim
  | _, .slu _ _ _ _, _, _, _, _, h => h.elim
  | _, .mnil, _, _, _, _, h => h.elim
  | _, .map _, _, _, _, _, h => h.elim
  | _, .fn _ _ _, _, _, _, _, h => h.elim
  | _, .fnil, _, _, _, _, h => h.elim
  | _, .inil, _, _, _, _, h => h.elim
  | _, .iface _ _, _, _, _, _, h => h.elim
  | _, .agg _, _, _, _, _, h => h.elim
  | _, .tup _, _, _, _, _, h => h.elim
  | _, .ge _, _, _, _, _, h => h.elim
theorem fold_fill (off : Nat) : ∀ (vs : List Value) (j : Nat) (cs : Array Value),
    ((vs.zipIdx j).foldl (fun (cs : Array Value) (x : Value × Nat) => cs.setIfInBounds (off + x.2) x.1) cs).toList = fillL cs.toList (off + j) vs
  | [], _, _ => rfl
  | v :: vs, j, cs => by
    rw [List.zipIdx_cons, List.foldl_cons, fold_fill off vs (j + 1)]
    simp [fillL, Nat.add_assoc]
/-- The parts of a composite value are filled in. -/
def fillK (place : Nat → Option (Nat × Nat)) (total : Nat) (T : T) : List (Nat × Operand) → AV → (AV → R) → R
  | [], l, k => k l
  | (i, x) :: r, l, k => match place i with
    | some (off, size) => partsK (opnd x T) fun ps => okK (Nat.beq ps.len size) (okK (Nat.ble (Nat.add off size) total) (fillK place total T r (fillA l off ps) k))
    | none => .bad 52
theorem fillK_inv {place : Nat → Option (Nat × Nat)} {total : Nat} {T : T} : ∀ {ps : List (Nat × Operand)} {l : AV} {k : AV → R} {r : AV} {s : St}, fillK place total T ps l k = .ok r s →
    ∃ l', k l' = .ok r s ∧ ∀ {ι : Inj} {m : Nat} {a : Act} {cs : Array Value}, RA ι m T a → RL ι l cs.toList → cs.size = total →
      ∃ ds, Instr.fill place cs (ps.map fun p => (p.1, a.eval p.2)) = some ds ∧ RL ι l' ds.toList ∧ ds.size = total
  | [], l, k, r, s, h => ⟨l, h, fun {ι m a cs} _ hl hs => ⟨cs, rfl, hl, hs⟩⟩
  | (i, x) :: ps, l, k, r, s, h => by
    unfold fillK at h
    split at h
    · rename_i off size hp
      obtain ⟨q, h, hq⟩ := partsK_inv h
      obtain ⟨h1, h⟩ := okK_inv h
      obtain ⟨h2, h⟩ := okK_inv h
      have h2 : off + size ≤ total := Nat.le_of_ble_eq_true h2
      obtain ⟨l', h, hl'⟩ := fillK_inv h
      refine ⟨l', h, fun {ι m a cs} ra hl hs => ?_⟩
      have hx := hq (opnd_rep ra x)
      have hlen := hx.len
      rw [Nat.eq_of_beq_eq_true h1] at hlen
      have hsz : (a.eval x).cells.size = size := by rw [hlen]; simp
      have hfold : ((a.eval x).cells.zipIdx.foldl (fun (cs : Array Value) (x : Value × Nat) => cs.setIfInBounds (off + x.2) x.1) cs).toList = fillL cs.toList off (a.eval x).cells.toList := by
        rw [← Array.foldl_toList, Array.toList_zipIdx, fold_fill]; rfl
      obtain ⟨ds, g1, g2, g3⟩ := hl' (cs := (a.eval x).cells.zipIdx.foldl (fun (cs : Array Value) (x : Value × Nat) => cs.setIfInBounds (off + x.2) x.1) cs) ra (by rw [hfold]; exact hl.fill off hx)
        (by rw [← Array.length_toList, hfold, fillL_length, Array.length_toList, hs])
      refine ⟨ds, ?_, g2, g3⟩
      simp only [List.map_cons, Instr.fill, hp]
      rw [if_neg (by rw [hsz, hs]; simp; omega)]
      exact g1
    · exact (R.bad_ne h).elim
theorem map_pairs (f : Operand → Value) (ps : Array (Nat × Operand)) : (ps.map fun (i, x) => (i, f x)).toList = ps.toList.map fun p => (p.1, f p.2) := by
  rw [Array.toList_map]
/-- The places of a struct's fields. -/
def placesA (P : Program) : List Field → Option (List (Nat × Nat))
  | [] => some []
  | f :: fs => match P.info? f.type, placesA P fs with
    | some i, some l => some ((f.offset, i.size) :: l)
    | _, _ => none
theorem placesA_ok : ∀ {fs : List Field} {l : List (Nat × Nat)} {w : World}, placesA P fs = some l → (fs.mapM (m := Sem) fun f => do pure (f.offset, ← sizeOf f.type)).run P w = .ok l w
  | [], l, w, h => by cases h; rfl
  | f :: fs, l, w, h => by
    unfold placesA at h
    split at h
    · rename_i i l' h1 h2
      cases h
      have hs : (sizeOf f.type).run P w = .ok i.size w := by simp [sizeOf, typeInfo, h1]
      rw [List.mapM_cons]
      simp only [Sem.run_bind, hs, Result.andThen_ok, Sem.run_pure, placesA_ok h2]
    · cases h
def kBuild (P : Program) (t : TypeId) (ps : Array (Nat × Operand)) : Kd := match zeroA P t, P.underlying t with
  | some (z, l), some (.struct fs) => match placesA P fs.toList with
    | some pl => .pure fun T k => fillK (fun i => pl[i]?) l.len T ps.toList l fun l => k (.agg l)
    | none => .no
  | some (z, l), some (.array _ e) => match P.info? e with
    | some i => .pure fun T k => fillK (fun j => some (j * i.size, i.size)) l.len T ps.toList l fun l => k (.agg l)
    | none => .no
  | _, _ => .no
theorem kBuild_ok {t : TypeId} {ps : Array (Nat × Operand)} (ho : o.op = .build t ps) : KdOk P o (kBuild P t ps) := by
  unfold kBuild
  split
  · rename_i z l fs hz h1
    obtain ⟨z1, z2⟩ := zeroA_ok hz
    split
    · rename_i pl hpl
      intro T k r s h
      obtain ⟨l', h, hl⟩ := fillK_inv h
      refine ⟨_, h, fun {ι m a w} ra => ?_⟩
      obtain ⟨ds, g1, g2, -⟩ := hl (cs := z.cells) ra (z2 ι) (by rw [(z2 ι).len]; simp)
      refine ⟨.agg ds, ?_, ⟨ds, rfl, g2⟩⟩
      have hm : (fs.mapM (m := Sem) fun f => do pure (f.offset, ← sizeOf f.type)).run P w = .ok pl.toArray w := by
        rw [Array.mapM_eq_mapM_toList]
        simp only [Sem.run_map, placesA_ok hpl, Result.andThen_ok]
      simp only [bind_pure_comp] at hm
      unfold execOp; rw [ho]
      simp [Instr.build, z1, underlying, h1, hm, g1]
    · exact trivial
  · rename_i z l n e hz h1
    obtain ⟨z1, z2⟩ := zeroA_ok hz
    split
    · rename_i i h2
      intro T k r s h
      obtain ⟨l', h, hl⟩ := fillK_inv h
      refine ⟨_, h, fun {ι m a w} ra => ?_⟩
      obtain ⟨ds, g1, g2, -⟩ := hl (cs := z.cells) ra (z2 ι) (by rw [(z2 ι).len]; simp)
      refine ⟨.agg ds, ?_, ⟨ds, rfl, g2⟩⟩
      unfold execOp; rw [ho]
      simp [Instr.build, z1, underlying, h1, sizeOf, typeInfo, h2, g1]
    · exact trivial
  · exact trivial
end
end Go.Ev
