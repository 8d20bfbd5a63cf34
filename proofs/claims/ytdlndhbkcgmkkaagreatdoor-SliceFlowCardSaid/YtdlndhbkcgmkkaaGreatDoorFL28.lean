/-
 Part 28 of 35 of a proof about the given program: facts on which the last part stands.
-/
import Derived.Test.YtdlndhbkcgmkkaaGreatDoorFL27
set_option maxHeartbeats 12800000
set_option linter.unusedVariables false
set_option linter.unusedSimpArgs false
namespace Go.Proofs.YtdlndhbkcgmkkaaGreatDoor
section
open Go
theorem bHO:Go.Ev.aQI Tryz.prog 1000000 12=.ok .nl ⟨Go.Ev.WQ,0⟩:=by kernel_rfl
theorem bGC:aQS:=fun w=>Go.Ev.bIB bHO w
end
end Go.Proofs.YtdlndhbkcgmkkaaGreatDoor
