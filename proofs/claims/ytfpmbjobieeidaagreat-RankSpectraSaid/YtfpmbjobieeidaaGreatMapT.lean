/-
  The map from tallies to scores.
-/
import Derived.Test.YtfpmbjobieeidaaGreatMap
namespace Go.Proofs.YtfpmbjobieeidaaGreat
open Go.RowKit Go.ChangeMaps Go.MapKept Go.Maps

theorem rowKeyT : (35 : TypeId) < Tryz.prog.types.size := of_decide_eq_true (by kernel_rfl)
theorem keyTLaw : Keyed Tryz.prog 35 := Keyed.of_law (deep_law_laid laidOut (m := 3) (by omega) rowKeyT (by kernel_rfl) (by kernel_rfl))
theorem keyTType : Tryz.prog.keyType 35 = true := by kernel_rfl
theorem keyTCells : Tryz.prog.cellsOf 35 = 4 := by kernel_rfl
theorem keyT_of (a b c d : Int) (ha : (Lit.int .i64 a).wf = true) (hb : (Lit.int .i64 b).wf = true) (hc : (Lit.int .i64 c).wf = true) (hd : (Lit.int .i64 d).wf = true) : ∃ l, keyOf Tryz.prog 35 (.agg #[.int .i64 a, .int .i64 b, .int .i64 c, .int .i64 d]) = some l := by
  have hf : (Value.agg #[.int .i64 a, .int .i64 b, .int .i64 c, .int .i64 d]).formed Tryz.prog 35 = true := by
    simp [Value.formed, Tryz.underlying35, keyTCells]
  unfold keyOf
  simp only [Tryz.underlying35, keyTType, hf, Bool.and_self, if_true]
  obtain ⟨n, hn⟩ : ∃ n, Tryz.prog.types.size + 1 = n + 2 := ⟨Tryz.prog.types.size - 1, by have h : (35 : Nat) < Tryz.prog.types.size := rowKeyT; generalize Tryz.prog.types.size = s at h ⊢; omega⟩
  rw [hn]
  have hint : ∀ x : Int, (Lit.int .i64 x).wf = true → Tryz.prog.keyLits (n + 1) 3 [.int .i64 x] = some [.int .i64 x] := fun x hx => by
    unfold Program.keyLits
    simp only [Tryz.underlying3]
    simp [hx]
  have hc1 : Tryz.prog.cellsOf 3 = 1 := by kernel_rfl
  have h4 : Tryz.prog.keyLits (n + 2) 35 [.int .i64 a, .int .i64 b, .int .i64 c, .int .i64 d] = some [.int .i64 a, .int .i64 b, .int .i64 c, .int .i64 d] := by
    unfold Program.keyLits
    simp only [Tryz.underlying35]
    simp [keyTCells, hc1, hint a ha, hint b hb, hint c hc, hint d hd]
  rw [show (Value.agg #[.int .i64 a, .int .i64 b, .int .i64 c, .int .i64 d]).cells.toList = [.int .i64 a, .int .i64 b, .int .i64 c, .int .i64 d] from rfl, h4]
  exact ⟨_, rfl⟩
end Go.Proofs.YtfpmbjobieeidaaGreat
