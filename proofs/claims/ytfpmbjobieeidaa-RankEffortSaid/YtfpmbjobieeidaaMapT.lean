/-
  The map from tallies to scores.
-/
import Derived.Test.YtfpmbjobieeidaaMap
namespace Go.Proofs.Ytfpmbjobieeidaa
open Go.RowKit Go.ChangeMaps Go.MapKept Go.Maps

theorem rowKeyT : (33 : TypeId) < Try.prog.types.size := of_decide_eq_true (by kernel_rfl)
theorem keyTLaw : Keyed Try.prog 33 := Keyed.of_law (deep_law_laid laidOut (m := 3) (by omega) rowKeyT (by kernel_rfl) (by kernel_rfl))
theorem keyTType : Try.prog.keyType 33 = true := by kernel_rfl
theorem keyTCells : Try.prog.cellsOf 33 = 4 := by kernel_rfl
theorem keyT_of (a b c d : Int) (ha : (Lit.int .i64 a).wf = true) (hb : (Lit.int .i64 b).wf = true) (hc : (Lit.int .i64 c).wf = true) (hd : (Lit.int .i64 d).wf = true) : ∃ l, keyOf Try.prog 33 (.agg #[.int .i64 a, .int .i64 b, .int .i64 c, .int .i64 d]) = some l := by
  have hf : (Value.agg #[.int .i64 a, .int .i64 b, .int .i64 c, .int .i64 d]).formed Try.prog 33 = true := by
    simp [Value.formed, Try.underlying33, keyTCells]
  unfold keyOf
  simp only [Try.underlying33, keyTType, hf, Bool.and_self, if_true]
  obtain ⟨n, hn⟩ : ∃ n, Try.prog.types.size + 1 = n + 2 := ⟨Try.prog.types.size - 1, by have h : (33 : Nat) < Try.prog.types.size := rowKeyT; generalize Try.prog.types.size = s at h ⊢; omega⟩
  rw [hn]
  have hint : ∀ x : Int, (Lit.int .i64 x).wf = true → Try.prog.keyLits (n + 1) 3 [.int .i64 x] = some [.int .i64 x] := fun x hx => by
    unfold Program.keyLits
    simp only [Try.underlying3]
    simp [hx]
  have hc1 : Try.prog.cellsOf 3 = 1 := by kernel_rfl
  have h4 : Try.prog.keyLits (n + 2) 33 [.int .i64 a, .int .i64 b, .int .i64 c, .int .i64 d] = some [.int .i64 a, .int .i64 b, .int .i64 c, .int .i64 d] := by
    unfold Program.keyLits
    simp only [Try.underlying33]
    simp [keyTCells, hc1, hint a ha, hint b hb, hint c hc, hint d hd]
  rw [show (Value.agg #[.int .i64 a, .int .i64 b, .int .i64 c, .int .i64 d]).cells.toList = [.int .i64 a, .int .i64 b, .int .i64 c, .int .i64 d] from rfl, h4]
  exact ⟨_, rfl⟩
end Go.Proofs.Ytfpmbjobieeidaa
