/-
  RecordBytes holds: the row and the tied card: its listed variables are laid by the program's text.
-/
import Derived.Test.YtdpoecjbofofoaaGreatDoorVMe
import Derived.Test.YtdpoecjbofofoaaGreatDoorRunLives
import Derived.Test.YtdpoecjbofofoaaGreatDoorFacts
import Derived.Test.YtdpoecjbofofoaaGreatDoorTie
import Derived.Test.YtdpoecjbofofoaaGreatDoorCards
import Derived.ProofKit
import Derived.LaidMore
import Derived.OpenShut
import Derived.Carry
import Derived.ChangeSame
import Derived.SizedLaws
import Derived.Stop.Joined
import Derived.SevenTiedAt
namespace Go.Proofs.YtdpoecjbofofoaaGreatDoor
open Go.ChangeShapes Go.WideShapes Go.ChangeAt Go.WideMaps Go.WideElems Go.RowKit

theorem recordBytes_inPlace : (Rows.recordBytesRow.inPlace == Tryz.prog.inPlace 4) = true := by kernel_rfl
theorem recordBytes_unfollowed : (Rows.recordBytesRow.unfollowed == Tryz.prog.unfollowed 4) = true := by kernel_rfl
theorem recordBytes_recurses : (Rows.recordBytesRow.recurses == Tryz.prog.recurses 4) = true := by kernel_rfl
theorem recordBytes_named : (Rows.recordBytesRow.named == Tryz.prog.varsNamed 4) = true := by kernel_rfl
theorem recordBytes_facts : joinedFacts Tryz.prog 4 Tryz.f4 Rows.recordBytesSpec Rows.recordBytesRow = true := by
  unfold joinedFacts
  rw [c_laidOut, c_rowed, c_heard, c_mayEnter, recordBytes_inPlace, recordBytes_unfollowed, recordBytes_recurses, recordBytes_named]
  kernel_rfl
/-- The door's own heap meets the condition. -/
theorem recordBytes_met (os : Os) (args : Array Value) : laidMetH Tryz.prog Rows.recordBytesRow.laid ((World.doorLaid Tryz.prog 81 os).forCall (fun _ _ => 0) ⟨#[], args, []⟩).memory :=
  laidMetH_of_parts3 (fuel := 8) (laidMet_of_run' 8 (by kernel_rfl) (by kernel_rfl)) (by kernel_rfl) (by kernel_rfl)
theorem recordBytes_shaped (os : Os) : ((World.doorLaid Tryz.prog 81 os).forCall (fun _ _ => 0) ⟨#[], #[.slice none 0 0], []⟩).Shaped Tryz.prog := World.shaped_of_RefB (by kernel_rfl) (by kernel_rfl)
theorem recordBytes_okw (os : Os) : Input.okWideB Tryz.prog ((World.doorLaid Tryz.prog 81 os).forCall (fun _ _ => 0) ⟨#[], #[.slice none 0 0], []⟩) 4 ⟨#[], #[.slice none 0 0], []⟩ = true := by kernel_rfl
theorem recordBytes_noInit : Tryz.prog.inits.idxOf? 4 = none := by kernel_rfl
theorem recordBytes_results : Tryz.f4.resultTypes = #[4] := by kernel_rfl
theorem recordBytes_lives : Lives := fun W => lives_calls W

set_option maxRecDepth 100000 in
theorem recordBytes_lifted (os : Os) (started : os.Started) (H : Type) (enc : TypeId × Value → H) :
    ReturnsInHanded {} Tryz.checked os 4 .any (fun w args => (Rows.recordBytesSpec.pre enc Tryz.prog Tryz.f4 [] false w args ∧ laidMetH Tryz.prog Rows.recordBytesRow.laid w) ∧ sizedMet enc Tryz.prog Tryz.f4 (OpenSpec.ofChange Rows.recordBytesSpec) false w args)
      (Rows.recordBytesSpec.post enc Tryz.prog Tryz.f4 false true false false) := by
  refine returnsInHanded_of_change_and (C := Tryz.checked) (X := fun w _ => laidMetH Tryz.prog Rows.recordBytesRow.laid w) (fun _ _ _ hh h => h.of_heap hh) c_own started recordBytes_noInit Tryz.func4
    (ChangeSpec.witness_shaped (enc := enc) (C := Tryz.checked) (os := os) (X := fun w _ => laidMetH Tryz.prog Rows.recordBytesRow.laid w) false (World.doorLaid Tryz.prog 81 os) #[.slice none 0 0] 8 rfl (recordBytes_shaped os) (recordBytes_okw os) (by kernel_rfl) (by kernel_rfl) (recordBytes_met os _)) ?_
  intro W base args ds gs before hval0 hW _ hsz0 hL _
  have hsz : (DataW.weightsEach Tryz.prog (Tryz.f4.params.toList ++ Rows.recordBytesSpec.plain.varTypes Tryz.prog) (ds ++ gs)).all (· ≤ reachBytes) = true := hsz0
  have hval : ∀ (j : Nat) t v, Tryz.f4.params[j]? = some t → args[j]? = some v → Value.okWide Tryz.prog W .any base t v := hval0
  have hW' := hW
  obtain ⟨p, q, hA0, hV, rfl, hfz, hnd⟩ := hW
  have hA : DataW.TrodAll enc Tryz.prog W 0 (fun _ => true) true Tryz.f4.params.toList args.toList ds p := hA0
  rw [Tryz.params4] at hA hval hsz
  obtain ⟨v0, d0, rfl, rfl, h0⟩ := trodAll_one hA
  have hpost := fun W' (hb : Below W.heap.size W W') => law_post (tb := 4) c_laidOut (by rw [Tryz.params4]; intro t ht; simp at ht; subst ht; exact ⟨by kernel_rfl, of_decide_eq_true (by kernel_rfl)⟩) hW' rfl rfl Tryz.underlying4 recordBytes_results hb
  have hvf : ∃ A n c, v0 = .slice A n c := by have := hval 0 30 v0 rfl rfl; exact okWide_slice Tryz.underlying30 this
  obtain ⟨b, hr, hb⟩ := open_bytes h0 hvf
  refine (recordBytes_any recordBytes_lives v0 b W.heap.size W hr (Nat.le_refl _) hb).mono fun r W' ⟨he, hb⟩ => ?_
  subst he
  exact ⟨_, rfl, hpost W' hb⟩
theorem recordBytes_inst : Tryz.f4.isInstance Tryz.prog Rows.recordBytesRow.origin Rows.recordBytesRow.targs := of_decide_eq_true (by kernel_rfl)
theorem recordBytes_wrap : Tryz.f4.isWrapper Tryz.prog Rows.recordBytesRow.wrapper Rows.recordBytesRow.mainSum := by unfold Func.isWrapper; first | (rw [if_pos (by decide +kernel)]; kernel_rfl) | (rw [if_neg (by decide +kernel)]; exact ⟨rfl, rfl⟩)
theorem recordBytes_fn : Tryz.prog.funcNamed "sleuth/sleuthlaw03.RecordBytes" = some 4 := by kernel_rfl
theorem recordBytes_row : Rows.RecordBytesSaid :=
  OpenClaim.holds_of_wide 4 Tryz.f4 rfl rfl rfl rfl rfl rfl rfl ⟨rfl, rfl, rfl, rfl, rfl⟩ rfl rfl rfl rfl rfl recordBytes_fn Tryz.func4 recordBytes_facts recordBytes_inst recordBytes_wrap
    (fun os started H enc _ => recordBytes_lifted os started H enc)
theorem recordBytes_main : Tryz.prog.mainIs = some (true, "7e816e39ed3f0fb77a857b63b84ce555a426f6f3c3503addd84e6bef841cf522".toList) := by kernel_rfl
theorem recordBytes_looks : true = Tryz.prog.looks [] := by kernel_rfl
theorem recordBytes_wf : Rows.recordBytesRow.wfByText (OpenSpec.ofChange Rows.recordBytesSpec) = true := by kernel_rfl
theorem recordBytes_holds : Rows.RecordBytesCardSaid :=
  Claim7.holds_tied_plain_at .later [] [.data, .data, .data, .sentinel, .sentinel, .sentinel] true (true, "7e816e39ed3f0fb77a857b63b84ce555a426f6f3c3503addd84e6bef841cf522") true
    recordBytes_row (fun _ h => by cases h) recordBytes_wf (fun _ h => by cases h) recordBytes_row_tie rfl ⟨rfl, rfl⟩ recordBytes_main rfl
    (fun f fn hf hfn => by
      obtain rfl : f = 4 := Option.some.inj (recordBytes_fn.symm.trans hf) |>.symm
      obtain rfl : fn = Tryz.f4 := (Option.some.inj (Tryz.func4.symm.trans hfn)).symm
      exact ⟨recordBytes_looks, fun j t ht => by
        rw [Tryz.params4] at ht
        have hm : t ∈ [30] := by simpa using Array.mem_of_getElem? ht
        have hall : ([30].all fun u => !Tryz.prog.wantsStandIn u) = true := by kernel_rfl
        exact (show Tryz.prog.wantsStandIn t = false by simpa using List.all_eq_true.1 hall t hm)⟩)
    (c_goes rfl)
#print axioms recordBytes_holds
end Go.Proofs.YtdpoecjbofofoaaGreatDoor
