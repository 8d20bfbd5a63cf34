/-
  The laws' closed example (lives) runs to true in the kernel.
-/
import Derived.Test.YtdpoecjbofofoaaGreatDoorEvMc
import Derived.Test.YtdpoecjbofofoaaGreatDoorProg
import Derived.KernelRfl
namespace Go.Proofs.YtdpoecjbofofoaaGreatDoor
open Go
theorem lives_true : Go.Ev.callS Tryz.prog 1000000 6 = .ok .nl ⟨Go.Ev.emH, 0⟩ := by kernel_rfl
theorem lives_calls (w : World) : Calls Tryz.prog 6 #[] w fun e w' => e = .returned (.bool true) ∧ RowKit.Below w.heap.size w w' := Go.Ev.calls_true lives_true w
end Go.Proofs.YtdpoecjbofofoaaGreatDoor
