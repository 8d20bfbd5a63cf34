/-
  Closed facts of the program, each by itself (one alone is as much as the kernel holds).
-/
import Derived.Test.YtdpoecjbofofoaaGreatDoorRows
import Derived.JoinedOf
import GoSem.ClaimGoes
import Derived.KernelRfl
namespace Go.Proofs.YtdpoecjbofofoaaGreatDoor
open Go
theorem c_laidOut : laidOutB Tryz.prog = true := by kernel_rfl
theorem c_rowed : mapsRowed Tryz.prog = true := by kernel_rfl
theorem c_heard : Tryz.prog.stopsHeard = true := by kernel_rfl
theorem c_mayEnter : Tryz.prog.mayEnter = true := by kernel_rfl
theorem c_own : ownKnob Tryz.prog.godebug = none := by kernel_rfl
theorem c_bool : Tryz.prog.underlying 4 = some .bool := by kernel_rfl
theorem goes0 : ((Tryz.prog.funcs.toList.take 128).all fun fn => !fn.goes) = true := by kernel_rfl
theorem goes1 : (((Tryz.prog.funcs.toList.drop 128).take 128).all fun fn => !fn.goes) = true := by kernel_rfl
theorem goes2 : (((Tryz.prog.funcs.toList.drop 256).take 128).all fun fn => !fn.goes) = true := by kernel_rfl
theorem goes3 : ((Tryz.prog.funcs.toList.drop 384).all fun fn => !fn.goes) = true := by kernel_rfl
theorem goes_no : ∀ fn ∈ Tryz.prog.funcs.toList, fn.goes = false := by
  intro fn h
  have e : Tryz.prog.funcs.toList = Tryz.prog.funcs.toList.take 128 ++ ((Tryz.prog.funcs.toList.drop 128).take 128 ++ ((Tryz.prog.funcs.toList.drop 256).take 128 ++ Tryz.prog.funcs.toList.drop 384)) := by
    generalize Tryz.prog.funcs.toList = l
    rw [show l.drop 384 = (l.drop 256).drop 128 by rw [List.drop_drop], List.take_append_drop, show l.drop 256 = (l.drop 128).drop 128 by rw [List.drop_drop], List.take_append_drop, List.take_append_drop]
  rw [e, List.mem_append, List.mem_append, List.mem_append] at h
  rcases h with h | h | h | h
  · simpa using List.all_eq_true.1 goes0 fn h
  · simpa using List.all_eq_true.1 goes1 fn h
  · simpa using List.all_eq_true.1 goes2 fn h
  · simpa using List.all_eq_true.1 goes3 fn h
theorem goes_none_of {P : Program} (hno : ∀ fn ∈ P.funcs.toList, fn.goes = false) {c : OpenClaim} (hs : c.start = .entering) : false = c.goesBy P := by
  have h1 : ∀ f, P.goes f = false := fun f => by
    unfold Program.goes
    rw [Bool.or_eq_false_iff]
    refine ⟨List.any_eq_false.2 fun g _ => ?_, ?_⟩
    · cases hg : P.funcs[g]? with
      | none => simp
      | some fn => simpa using hno fn (Array.mem_toList_iff.2 (Array.mem_of_getElem? hg))
    · rw [Bool.and_eq_false_iff]
      refine .inr ?_
      rw [← Array.any_toList]
      exact List.any_eq_false.2 fun fn h => by simpa using hno fn h
  symm
  unfold OpenClaim.goesBy Program.goesAt Program.goesFrom
  rw [hs, Bool.or_eq_false_iff]
  refine ⟨?_, rfl⟩
  cases P.funcNamed c.func with
  | none => rfl
  | some f => exact h1 f
theorem c_goes {c : OpenClaim} (hs : c.start = .entering) : false = c.goesBy Tryz.prog := goes_none_of goes_no hs
end Go.Proofs.YtdpoecjbofofoaaGreatDoor
