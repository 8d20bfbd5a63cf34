/-
  RecordNil holds: the row and the tied card: its listed variables are laid by the program's text.
-/
import Derived.Test.YtbhgcdkahblllaaGreatDoorRunNil
import Derived.Test.YtbhgcdkahblllaaGreatDoorFacts
import Derived.Test.YtbhgcdkahblllaaGreatDoorTie
import Derived.Test.YtbhgcdkahblllaaGreatDoorCards
import Derived.ProofKit
import Derived.LaidMore
import Derived.OpenShut
import Derived.Carry
import Derived.ChangeSame
import Derived.SizedLaws
import Derived.Stop.Joined
import Derived.SevenTiedAt
namespace Go.Proofs.YtbhgcdkahblllaaGreatDoor
open Go.ChangeShapes Go.WideShapes Go.ChangeAt Go.WideMaps Go.WideElems Go.RowKit

theorem recordNil_inPlace : (Rows.recordNilRow.inPlace == Tryz.prog.inPlace 4) = true := by kernel_rfl
theorem recordNil_unfollowed : (Rows.recordNilRow.unfollowed == Tryz.prog.unfollowed 4) = true := by kernel_rfl
theorem recordNil_recurses : (Rows.recordNilRow.recurses == Tryz.prog.recurses 4) = true := by kernel_rfl
theorem recordNil_named : (Rows.recordNilRow.named == Tryz.prog.varsNamed 4) = true := by kernel_rfl
theorem recordNil_facts : joinedFacts Tryz.prog 4 Tryz.f4 Rows.recordNilSpec Rows.recordNilRow = true := by
  unfold joinedFacts
  rw [c_laidOut, c_rowed, c_heard, c_mayEnter, recordNil_inPlace, recordNil_unfollowed, recordNil_recurses, recordNil_named]
  kernel_rfl
/-- The door's own heap meets the condition. -/
theorem recordNil_met (os : Os) (args : Array Value) : laidMetH Tryz.prog Rows.recordNilRow.laid ((World.doorLaid Tryz.prog 81 os).forCall (fun _ _ => 0) ⟨#[], args, []⟩).memory :=
  laidMetH_of_parts3 (fuel := 8) (laidMet_of_run' 8 (by kernel_rfl) (by kernel_rfl)) (by kernel_rfl) (by kernel_rfl)
theorem recordNil_post {H : Type} {enc : TypeId × Value → H} {f : Func} {s : ChangeSpec} {apart : Bool} {W W' : World} {ds gs : List (DataW H)} {before : List MemPlace} {tb : TypeId}
    (hp : f.params = #[]) (hW : DataW.Whole enc Tryz.prog f.params.toList s.vars apart W [] ds gs before) (hvars : s.vars = []) (hfn : s.fn H [] = { results := [.lit (.bool true)], args := [] })
    (htb : Tryz.prog.underlying tb = some .bool) (hres : f.resultTypes = #[tb]) (hb : Below W.heap.size W W') : s.post enc Tryz.prog f apart true false false W #[] (.bool true) W' := by
  have hW0 := hW
  obtain ⟨pa, pv, hA, hV, hbef, hz, hn⟩ := hW0
  rw [hvars] at hV
  obtain ⟨rfl, rfl⟩ := trodVars_none hV
  rw [hp] at hA
  obtain ⟨-, rfl, rfl⟩ := trodAll_nil hA
  subst hbef
  have hR : ∀ (b : Nat) (sp : Nat → Bool) (hd : Bool), DataW.TrodAll enc Tryz.prog W' b sp hd f.resultTypes.toList ((Value.bool true).resultList f.resultTypes.size) [.lit (.bool true)] [] := fun b sp hd => by
    rw [hres]
    exact trodAll_mk1 (shut_bool htb _)
  refine ⟨[], [], _, [], [], [], hW, ?_, ?_, ?_, World.keptBut_mono (fun p hp => ⟨hp, ?_⟩) (hb.frame (· ∈ ([] : List MemPlace))), fun h => by cases h⟩
  · rw [List.append_nil, hfn]; exact hR _ _ _
  · rw [List.append_nil, hfn, hp]; exact rfl
  · rw [hvars, List.append_nil, hfn]; exact rfl
  · cases hp
theorem recordNil_shaped (os : Os) : ((World.doorLaid Tryz.prog 81 os).forCall (fun _ _ => 0) ⟨#[], #[], []⟩).Shaped Tryz.prog := World.shaped_of_RefB (by kernel_rfl) (by kernel_rfl)
theorem recordNil_okw (os : Os) : Input.okWideB Tryz.prog ((World.doorLaid Tryz.prog 81 os).forCall (fun _ _ => 0) ⟨#[], #[], []⟩) 4 ⟨#[], #[], []⟩ = true := by kernel_rfl
theorem recordNil_noInit : Tryz.prog.inits.idxOf? 4 = none := by kernel_rfl
theorem recordNil_params : Tryz.f4.params = #[] := by kernel_rfl
theorem recordNil_results : Tryz.f4.resultTypes = #[4] := by kernel_rfl

set_option maxRecDepth 100000 in
theorem recordNil_lifted (os : Os) (started : os.Started) (H : Type) (enc : TypeId × Value → H) :
    ReturnsInHanded {} Tryz.checked os 4 .any (fun w args => (Rows.recordNilSpec.pre enc Tryz.prog Tryz.f4 [] false w args ∧ laidMetH Tryz.prog Rows.recordNilRow.laid w) ∧ sizedMet enc Tryz.prog Tryz.f4 (OpenSpec.ofChange Rows.recordNilSpec) false w args)
      (Rows.recordNilSpec.post enc Tryz.prog Tryz.f4 false true false false) := by
  refine returnsInHanded_of_change_and (C := Tryz.checked) (X := fun w _ => laidMetH Tryz.prog Rows.recordNilRow.laid w) (fun _ _ _ hh h => h.of_heap hh) c_own started recordNil_noInit Tryz.func4
    (ChangeSpec.witness_shaped (enc := enc) (C := Tryz.checked) (os := os) (X := fun w _ => laidMetH Tryz.prog Rows.recordNilRow.laid w) false (World.doorLaid Tryz.prog 81 os) #[] 8 rfl (recordNil_shaped os) (recordNil_okw os) (by kernel_rfl) (by kernel_rfl) (recordNil_met os _)) ?_
  intro W base args ds gs before hval0 hW _ _ hL _
  have hW' := hW
  obtain ⟨p, q, hA0, hV, rfl, hfz, hnd⟩ := hW
  have hA : DataW.TrodAll enc Tryz.prog W 0 (fun _ => true) true Tryz.f4.params.toList args.toList ds p := hA0
  rw [recordNil_params] at hA
  obtain ⟨rfl, -, -⟩ := trodAll_none hA
  refine (recordNil_calls W).mono fun e W' ⟨he, hb⟩ => ?_
  subst he
  exact ⟨_, rfl, recordNil_post (tb := 4) recordNil_params hW' rfl rfl c_bool recordNil_results hb⟩
theorem recordNil_inst : Tryz.f4.isInstance Tryz.prog Rows.recordNilRow.origin Rows.recordNilRow.targs := of_decide_eq_true (by kernel_rfl)
theorem recordNil_wrap : Tryz.f4.isWrapper Tryz.prog Rows.recordNilRow.wrapper Rows.recordNilRow.mainSum := by unfold Func.isWrapper; first | (rw [if_pos (by decide +kernel)]; kernel_rfl) | (rw [if_neg (by decide +kernel)]; exact ⟨rfl, rfl⟩)
theorem recordNil_fn : Tryz.prog.funcNamed "sleuth/sleuthlaw03.RecordNil" = some 4 := by kernel_rfl
theorem recordNil_row : Rows.RecordNilSaid :=
  OpenClaim.holds_of_wide 4 Tryz.f4 rfl rfl rfl rfl rfl rfl rfl ⟨rfl, rfl, rfl, rfl, rfl⟩ rfl rfl rfl rfl rfl recordNil_fn Tryz.func4 recordNil_facts recordNil_inst recordNil_wrap
    (fun os started H enc _ => recordNil_lifted os started H enc)
theorem recordNil_main : Tryz.prog.mainIs = some (true, "46f345fdcb50553286d09be36d885c59e1d7f3ee64866451f77e7b4568c4442d".toList) := by kernel_rfl
theorem recordNil_looks : true = Tryz.prog.looks [] := by kernel_rfl
theorem recordNil_wf : Rows.recordNilRow.wfByText (OpenSpec.ofChange Rows.recordNilSpec) = true := by kernel_rfl
theorem recordNil_holds : Rows.RecordNilCardSaid :=
  Claim7.holds_tied_plain_at .later [] [.data, .data, .data, .sentinel, .sentinel, .sentinel] true (true, "46f345fdcb50553286d09be36d885c59e1d7f3ee64866451f77e7b4568c4442d") true
    recordNil_row (fun _ h => by cases h) recordNil_wf (fun _ h => by cases h) recordNil_row_tie rfl ⟨rfl, rfl⟩ recordNil_main rfl
    (fun f fn hf hfn => by
      obtain rfl : f = 4 := Option.some.inj (recordNil_fn.symm.trans hf) |>.symm
      obtain rfl : fn = Tryz.f4 := (Option.some.inj (Tryz.func4.symm.trans hfn)).symm
      exact ⟨recordNil_looks, fun j t ht => by
        rw [recordNil_params] at ht
        simp at ht⟩)
    (c_goes rfl)
#print axioms recordNil_holds
end Go.Proofs.YtbhgcdkahblllaaGreatDoor
