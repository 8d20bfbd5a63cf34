/-
  RecordNil runs to true in the kernel.
-/
import Derived.Test.YtbhgcdkahblllaaGreatDoorEvRun
import Derived.Test.YtbhgcdkahblllaaGreatDoorProg
import Derived.KernelRfl
namespace Go.Proofs.YtbhgcdkahblllaaGreatDoor
open Go
theorem recordNil_true : Go.Ev.callT Tryz.prog 1000000 4 = .ok .nl ⟨Go.Ev.emH, 0⟩ := by kernel_rfl
theorem recordNil_calls (w : World) : Calls Tryz.prog 4 #[] w fun e w' => e = .returned (.bool true) ∧ RowKit.Below w.heap.size w w' := Go.Ev.calls_true recordNil_true w
end Go.Proofs.YtbhgcdkahblllaaGreatDoor
