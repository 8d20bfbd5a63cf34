/-
  An evaluator for calls whose arguments are known: append, copy, clear.
-/
import Derived.Test.YtbhgcdkahblllaaGreatDoorEvM
set_option linter.unusedVariables false
set_option linter.unusedSimpArgs false
namespace Go.Ev
open Go
noncomputable section
variable {P : Program} {o : Oper}

theorem growBy_le (n : Nat) : ∀ (r c : Nat), c < n → Builtin.growBy n r c ≤ n + (n + 768) / 4
  | 0, c, h => by unfold Builtin.growBy; omega
  | r + 1, c, h => by
    unfold Builtin.growBy
    split
    · omega
    · by_cases g : c + (c + 768) / 4 < n
      · exact growBy_le n r _ g
      · cases r with
        | zero => unfold Builtin.growBy; omega
        | succ r => unfold Builtin.growBy; rw [if_pos (by omega)]; omega
theorem nextcap_le {n c : Nat} (h : c < n) : Builtin.nextslicecap n c ≤ 2 * n + 4000 := by
  unfold Builtin.nextslicecap
  split
  · omega
  · split
    · omega
    · have := growBy_le n 4 c h; omega
/-- What the second argument's type must be. -/
def srcT (P : Program) (t : TypeId) : Bool := match P.underlying t with
  | some (.slice _) => true
  | some .string => true
  | _ => false
theorem srcT_ok {t : TypeId} (h : srcT P t = true) : (∃ e, P.underlying t = some (.slice e)) ∨ P.underlying t = some .string := by
  unfold srcT at h
  split at h
  · exact .inl ⟨_, by assumption⟩
  · exact .inr (by assumption)
  · cases h
section
variable {t t1 ty : TypeId} {x : El} (hz : srcT P t1 = true) (ok : ElOk P t x) {base : Option Addr} {l cap n : Nat} {y : Value} {w : World} {vs : List Value}
include hz ok
theorem run_append_in (hn : (Builtin.lenOf y).run P w = .ok n w) (hf : (Builtin.firstCells x.size n y).run P w = .ok vs.toArray w) (hc : l + n ≤ cap) : (Builtin.append_ #[t, t1] ty #[.slice base l cap, y]).run P w = ((match base with | some a => storeCells (a.add (l * x.size)) vs | none => pure ()).run P w).andThen fun _ w' => .ok (.slice base (l + n) cap) w' := by
  rcases srcT_ok hz with ⟨d, hd⟩ | hd <;> cases base <;> simp [Builtin.append_, run_under ok.under, ok.sizeOf, run_under hd, hn, hf, hc]
theorem run_append_new (hn : (Builtin.lenOf y).run P w = .ok n w) (hf : (Builtin.firstCells x.size n y).run P w.drew = .ok vs.toArray w.drew) (hc : cap < l + n) (hl : l + n ≤ 1000000) {old : List Value} (ho : (Builtin.firstCells x.size l (.slice base l cap)).run P w.drew = .ok old.toArray w.drew) :
    ∃ nc, l + n ≤ nc ∧ nc < 9223372036854775808 ∧ (Builtin.append_ #[t, t1] ty #[.slice base l cap, y]).run P w = .ok (.slice (some ⟨w.heap.size, 0, none⟩) (l + n) nc) (w.drew.alloc (.cells (old ++ vs ++ (Builtin.zeroCells x.z.cells (nc - (l + n))).toList).toArray x.e)) := by
  obtain ⟨i, hi, hi1, hi2⟩ := ok.info
  have hb := ok.small
  have hnext := nextcap_le hc
  have hmul : Builtin.nextslicecap (l + n) cap * x.bytes ≤ 2004000 * 65536 := Nat.mul_le_mul (by omega) hb
  refine ⟨(Question.appendCap (l + n) cap x.e).cut (w.tape w.drawn (.appendCap (l + n) cap x.e)), by show _ ≤ _ + _; omega, by
    have := Nat.mod_lt (w.tape w.drawn (.appendCap (l + n) cap x.e)) (show 0 < 2 ^ 63 - (l + n) by omega)
    show _ + _ < _; omega, ?_⟩
  have h1 : ¬ (l + n ≤ cap) := by omega
  have h63 : ¬ (9223372036854775807 < ((l : Int) + (n : Int))) := by omega
  have h48 : ¬ (281474976710656 < Builtin.nextslicecap (l + n) cap * x.bytes) := by omega
  have hti : ∀ w, (typeInfo x.e).run P w = .ok i w := fun w => by simp [typeInfo, hi]
  have hsz := ok.sizeOf
  have hzero := ok.zero
  rcases srcT_ok hz with ⟨d, hd⟩ | hd <;> simp [Builtin.append_, run_under ok.under, hsz, hti, hi2, run_under hd, hn, hf, ho, h1, h63, h48, Question.forced, hzero, newRow]
  all_goals
    congr 2
    apply Array.ext'
    simp [List.append_assoc]
end
end
end Go.Ev
