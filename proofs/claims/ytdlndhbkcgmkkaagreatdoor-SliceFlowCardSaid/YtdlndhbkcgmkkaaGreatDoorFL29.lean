/-
 Part 29 of 35 of a proof about the given program: facts on which the last part stands.
-/
import Derived.Test.YtdlndhbkcgmkkaaGreatDoorRows
import Derived.JoinedOf
import GoSem.ClaimGoes
import Derived.KernelRfl
set_option maxHeartbeats 12800000
set_option linter.unusedVariables false
set_option linter.unusedSimpArgs false
namespace Go.Proofs.YtdlndhbkcgmkkaaGreatDoor
section
open Go
theorem a06:laidOutB Tryz.prog=true:=by kernel_rfl
theorem bNF:mapsRowed Tryz.prog=true:=by kernel_rfl
theorem bNG:Tryz.prog.stopsHeard=true:=by kernel_rfl
theorem bID:Tryz.prog.mayEnter=true:=by kernel_rfl
theorem bPO:ownKnob Tryz.prog.godebug=none:=by kernel_rfl
theorem bPL:((Tryz.prog.funcs.toList.take 128).all fun fn=>!fn.goes)=true:=by kernel_rfl
theorem bPK:(((Tryz.prog.funcs.toList.drop 128).take 128).all fun fn=>!fn.goes)=true:=by kernel_rfl
theorem bPJ:(((Tryz.prog.funcs.toList.drop 256).take 128).all fun fn=>!fn.goes)=true:=by kernel_rfl
theorem bPI:((Tryz.prog.funcs.toList.drop 384).all fun fn=>!fn.goes)=true:=by kernel_rfl
theorem bM5:∀fn∈Tryz.prog.funcs.toList,fn.goes=false:=by
 intro fn h
 have e:Tryz.prog.funcs.toList=Tryz.prog.funcs.toList.take 128++((Tryz.prog.funcs.toList.drop 128).take 128++((Tryz.prog.funcs.toList.drop 256).take 128++Tryz.prog.funcs.toList.drop 384)):=by
  generalize Tryz.prog.funcs.toList=l
  rw[show l.drop 384=(l.drop 256).drop 128 by rw[List.drop_drop],List.take_append_drop,show l.drop 256=(l.drop 128).drop 128 by rw[List.drop_drop],List.take_append_drop,List.take_append_drop]
 rw[e,List.mem_append,List.mem_append,List.mem_append] at h
 rcases h with h|h|h|h
 · simpa using List.all_eq_true.1 bPL fn h
 · simpa using List.all_eq_true.1 bPK fn h
 · simpa using List.all_eq_true.1 bPJ fn h
 simpa using List.all_eq_true.1 bPI fn h
theorem bFV {P:Program} (hno:∀fn∈P.funcs.toList,fn.goes=false) {c:OpenClaim} (hs:c.start=.entering):false=c.goesBy P:=by
 have h1:∀f,P.goes f=false:=fun f=>by
  unfold Program.goes
  rw[Bool.or_eq_false_iff]
  refine⟨List.any_eq_false.2 fun g _=>?_,?_⟩
  · cases hg:P.funcs[g]? with
    |none=>simp
    |some fn=>simpa using hno fn (Array.mem_toList_iff.2 (Array.mem_of_getElem? hg))
  rw[Bool.and_eq_false_iff]
  refine .inr ?_
  rw[←Array.any_toList]
  exact List.any_eq_false.2 fun fn h=>by simpa using hno fn h
 symm
 unfold OpenClaim.goesBy Program.goesAt Program.goesFrom
 rw[hs,Bool.or_eq_false_iff]
 refine⟨?_,rfl⟩
 cases P.funcNamed c.func with
 |none=>rfl
 |some f=>exact h1 f
theorem bOS {c:OpenClaim} (hs:c.start=.entering):false=c.goesBy Tryz.prog:=bFV bM5 hs
end
end Go.Proofs.YtdlndhbkcgmkkaaGreatDoor
