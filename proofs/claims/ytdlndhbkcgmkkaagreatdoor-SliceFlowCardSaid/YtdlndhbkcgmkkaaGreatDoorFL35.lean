/-
 Part 35 of 35 of a proof about the given program: SliceFlow (sleuthlaw05) holds of the given program.
-/
import Derived.Test.YtdlndhbkcgmkkaaGreatDoorFL28
import Derived.Test.YtdlndhbkcgmkkaaGreatDoorFL29
import Derived.Test.YtdlndhbkcgmkkaaGreatDoorFL34
import Derived.Test.YtdlndhbkcgmkkaaGreatDoorCards
import Derived.Test.YtdlndhbkcgmkkaaGreatDoorTie
import Derived.LaidMore
import Derived.Stop.Joined
import Derived.SevenTiedAt
set_option maxHeartbeats 12800000
set_option linter.unusedVariables false
set_option linter.unusedSimpArgs false
set_option maxRecDepth 100000
namespace Go.Proofs.YtdlndhbkcgmkkaaGreatDoor
section
open Go.ChangeShapes Go.WideShapes Go.ChangeAt Go.WideMaps Go.WideElems Go.RowKit
open Sl
theorem bD4:(Rows.sliceFlowRow.inPlace==Tryz.prog.inPlace 4)=true:=by kernel_rfl
theorem bD1:(Rows.sliceFlowRow.unfollowed==Tryz.prog.unfollowed 4)=true:=by kernel_rfl
theorem bD2:(Rows.sliceFlowRow.recurses==Tryz.prog.recurses 4)=true:=by kernel_rfl
theorem bED:(Rows.sliceFlowRow.named==Tryz.prog.varsNamed 4)=true:=by kernel_rfl
theorem bEG:joinedFacts Tryz.prog 4 Tryz.f4 Rows.sliceFlowSpec Rows.sliceFlowRow=true:=by
 unfold joinedFacts
 rw[a06,bNF,bNG,bID,bD4,bD1,bD2,bED]
 kernel_rfl
theorem bEV (os:Os) (args:Array Value):laidMetH Tryz.prog Rows.sliceFlowRow.laid ((World.doorLaid Tryz.prog 62 os).forCall (fun _ _=>0) ⟨#[],args,[]⟩).memory:=
 laidMetH_of_parts3 (fuel:=8) (laidMet_of_run' 8 (by kernel_rfl) (by kernel_rfl)) (by kernel_rfl) (by kernel_rfl)
theorem bD6 (os:Os):((World.doorLaid Tryz.prog 62 os).forCall (fun _ _=>0) ⟨#[],#[.agg #[.slice none 0 0],.int .i64 0,.string ByteArray.empty],[]⟩).Shaped Tryz.prog:=World.shaped_of_RefB (by kernel_rfl) (by kernel_rfl)
theorem bEU (os:Os):Input.okWideB Tryz.prog ((World.doorLaid Tryz.prog 62 os).forCall (fun _ _=>0) ⟨#[],#[.agg #[.slice none 0 0],.int .i64 0,.string ByteArray.empty],[]⟩) 4 ⟨#[],#[.agg #[.slice none 0 0],.int .i64 0,.string ByteArray.empty],[]⟩=true:=by kernel_rfl
theorem bD7:Tryz.prog.inits.idxOf? 4=none:=by kernel_rfl
theorem bD3:Tryz.f4.resultTypes=#[4]:=by kernel_rfl
theorem bEF:aQS:=bGC
theorem bD8 (os:Os) (started:os.Started) (H:Type) (enc:TypeId×Value→H):
 ReturnsInHanded {} Tryz.checked os 4 .any (fun w args=>(Rows.sliceFlowSpec.pre enc Tryz.prog Tryz.f4 [] false w args∧laidMetH Tryz.prog Rows.sliceFlowRow.laid w)∧sizedMet enc Tryz.prog Tryz.f4 (OpenSpec.ofChange Rows.sliceFlowSpec) false w args)
  (Rows.sliceFlowSpec.post enc Tryz.prog Tryz.f4 false true false false):=by
 refine returnsInHanded_of_change_and (C:=Tryz.checked) (X:=fun w _=>laidMetH Tryz.prog Rows.sliceFlowRow.laid w) (fun _ _ _ hh h=>h.of_heap hh) bPO started bD7 Tryz.func4
  (ChangeSpec.witness_shaped (enc:=enc) (C:=Tryz.checked) (os:=os) (X:=fun w _=>laidMetH Tryz.prog Rows.sliceFlowRow.laid w) false (World.doorLaid Tryz.prog 62 os) #[.agg #[.slice none 0 0],.int .i64 0,.string ByteArray.empty] 8 rfl (bD6 os) (bEU os) (by kernel_rfl) (by kernel_rfl) (bEV os _)) ?_
 intro W base args ds gs before bPA hW _ aRH hL _
 have hsz:(DataW.weightsEach Tryz.prog (Tryz.f4.params.toList++Rows.sliceFlowSpec.plain.varTypes Tryz.prog) (ds++gs)).all (·≤reachBytes)=true:=aRH
 have hval:∀(j:Nat) t v,Tryz.f4.params[j]?=some t→args[j]?=some v→Value.okWide Tryz.prog W .any base t v:=bPA
 have hW':=hW
 obtain⟨p,q,hA0,hV,rfl,oG,GP⟩:=hW
 have hA:DataW.TrodAll enc Tryz.prog W 0 (fun _=>true) true Tryz.f4.params.toList args.toList ds p:=hA0
 rw[Tryz.params4] at hA hval hsz
 obtain⟨v0,v1,v2,d0,d1,d2,q0,q1,q2,rfl,rfl,-,h0,h1,h2⟩:=trodAll_three hA
 have UU:=fun W' (hb:Below W.heap.size W W')=>bLD (tb:=4) a06 (by rw[Tryz.params4];intro t ht;simp at ht;rcases ht with rfl|rfl|rfl<;>exact⟨by kernel_rfl,of_decide_eq_true (by kernel_rfl)⟩) hW' rfl rfl Tryz.underlying4 bD3 hb
 obtain⟨u0,pp,rfl,hpv,cX⟩:=bFK (hval 0 24 v0 rfl rfl) h0 (fun n hn=>bKW (j:=0) hsz rfl rfl n hn)
 obtain⟨n1,rfl⟩:=okWide_int Tryz.underlying3 (hval 1 3 v1 rfl rfl)
 obtain⟨s2,rfl⟩:=okWide_string Tryz.underlying9 (hval 2 9 v2 rfl rfl)
 refine (bEW bEF (reachBytes+1) (by decide) (by decide) pp u0 W.heap.size W hpv (aC _) cX n1 s2).mono fun r W' ⟨he,hb⟩=>?_
 subst he
 exact⟨_,rfl,UU W' hb⟩
theorem bEP:Tryz.f4.isInstance Tryz.prog Rows.sliceFlowRow.origin Rows.sliceFlowRow.targs:=of_decide_eq_true (by kernel_rfl)
theorem bEN:Tryz.f4.isWrapper Tryz.prog Rows.sliceFlowRow.wrapper Rows.sliceFlowRow.mainSum:=by unfold Func.isWrapper;first|(rw[if_pos (by decide +kernel)];kernel_rfl)|(rw[if_neg (by decide +kernel)];exact⟨rfl,rfl⟩)
theorem aX0:Tryz.prog.funcNamed "sleuth/sleuthlaw05.SliceFlow" = some 4:=by kernel_rfl
theorem bET:Rows.SliceFlowSaid:=
 OpenClaim.holds_of_wide 4 Tryz.f4 rfl rfl rfl rfl rfl rfl rfl ⟨rfl,rfl,rfl,rfl,rfl⟩ rfl rfl rfl rfl rfl aX0 Tryz.func4 bEG bEP bEN
  (fun os started H enc _=>bD8 os started H enc)
theorem bEO:Tryz.prog.mainIs=some (true, "e7d14c5ed944e46a7d34a91a35747fa9da62550aed624e477098c56b56154b07".toList):=by kernel_rfl
theorem bEE:true=Tryz.prog.looks []:=by kernel_rfl
theorem bFE:Rows.sliceFlowRow.wfByText (OpenSpec.ofChange Rows.sliceFlowSpec)=true:=by kernel_rfl
theorem sliceFlow_holds:Rows.SliceFlowCardSaid:=
 Claim7.holds_tied_plain_at .later [] [.data,.data,.data,.sentinel,.sentinel] true (true, "e7d14c5ed944e46a7d34a91a35747fa9da62550aed624e477098c56b56154b07") true
  bET (fun _ h=>by cases h) bFE (fun _ h=>by cases h) sliceFlow_row_tie rfl ⟨rfl,rfl⟩ bEO rfl
  (fun f fn hf hfn=>by
   obtain rfl:f=4:=Option.some.inj (aX0.symm.trans hf) |>.symm
   obtain rfl:fn=Tryz.f4:=(Option.some.inj (Tryz.func4.symm.trans hfn)).symm
   exact⟨bEE,fun j t ht=>by
    rw[Tryz.params4] at ht
    have hm:t∈[24,3,9]:=by simpa using Array.mem_of_getElem? ht
    have hall:([24,3,9].all fun u=>!Tryz.prog.wantsStandIn u)=true:=by kernel_rfl
    exact (show Tryz.prog.wantsStandIn t=false by simpa using List.all_eq_true.1 hall t hm)⟩)
  (bOS rfl)
#print axioms sliceFlow_holds
end
end Go.Proofs.YtdlndhbkcgmkkaaGreatDoor
