/-
  The evaluator at a function without arguments: the call answers true and touches nothing that was there.
-/
import Derived.Test.YtbhgcdkahblllaaGreatDoorEvV
set_option linter.unusedVariables false
namespace Go.Ev
open Go
noncomputable section
/-- A call without arguments, run to its end: what it leaves is dropped. -/
def callT (P : Program) (n g : Nat) : R := callK P (fun _ _ _ => none) (evN P (drawn P) (fun _ _ _ => none) n) ⟨emH, 0⟩ g .nl fun v _ => onBool v (.ok .nl ⟨emH, 0⟩) (.bad 1)
theorem calls_true {P : Program} {n g : Nat} (h : callT P n g = .ok .nl ⟨emH, 0⟩) (w : World) :
    Calls P g #[] w fun e w' => e = .returned (.bool true) ∧ RowKit.Below w.heap.size w w' := by
  obtain ⟨v, S', hk, hs⟩ := callK_inv (M := fun _ _ _ => none) (fun _ _ _ _ _ h => by cases h) (evN_ok drawn_ok (fun _ _ _ _ _ h => by cases h) n) h
  rcases onBool_inv hk with ⟨rfl, -⟩ | ⟨-, h⟩
  · refine (hs.2 (ι := Inj.zero) (vs := []) rfl HR.empty).mono ?_
    rintro e w' ⟨u, κ, rfl, hu, -, hx⟩
    exact ⟨by rw [show u = .bool true from hu], hx.below fun _ => rfl⟩
  · exact (R.bad_ne h).elim
end
end Go.Ev
