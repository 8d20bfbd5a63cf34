/-
  RankOrder holds, for every input: the row.
-/
import Derived.Test.YtfpmbjobieeidaaLawOr
namespace Go.Proofs.Ytfpmbjobieeidaa
open Go.ChangeShapes Go.WideShapes Go.ChangeAt Go.RowKit Go.Joins

theorem ownOr : ownKnob Try.prog.godebug = none := by kernel_rfl
theorem cellsRatioO : Try.prog.cellsOf 23 = 2 := by kernel_rfl

set_option maxRecDepth 100000 in
theorem rankOrder_lifted (os : Os) (started : os.Started) (H : Type) (enc : TypeId × Value → H) :
    ReturnsInHanded {} Try.checked os 4 .any (Rows.rankOrderSpec.pre6 enc Try.prog Try.f4 Rows.rankOrderRow.domain false) (Rows.rankOrderSpec.post enc Try.prog Try.f4 false true false false) := by
  refine returnsInHanded_of_change_sized (C := Try.checked) ownOr started (by kernel_rfl) Try.func4
    (ChangeSpec.witness6 (enc := enc) (C := Try.checked) false ⟨#[], #[.agg #[.int .i64 0, .int .i64 0], .agg #[.int .i64 0, .int .i64 0], .agg #[.int .i64 0, .int .i64 0]], []⟩ 8 (by kernel_rfl) (by kernel_rfl) (by kernel_rfl) (by kernel_rfl)) ?_
  intro W base args ds gs before hval0 hW _ _ _
  have hval : ∀ (j : Nat) t v, Try.f4.params[j]? = some t → args[j]? = some v → Value.okWide Try.prog W .any base t v := hval0
  have hW' := hW
  obtain ⟨p, q, hA0, hV, rfl, hfz, hnd⟩ := hW
  have hA : DataW.TrodAll enc Try.prog W 0 (fun _ => true) true Try.f4.params.toList args.toList ds p := hA0
  rw [Try.params4] at hA hval
  obtain ⟨v0, v1, v2, e0, e1, e2, p0, p1, p2, rfl, rfl, rfl, h0, h1, h2⟩ := trodAll_three hA
  have hpost := fun W' (hb : Below W.heap.size W W') => law_post (tb := 4) laidOut (by rw [Try.params4]; intro t ht; simp at ht; subst ht; exact ⟨by kernel_rfl, of_decide_eq_true (by kernel_rfl)⟩) hW' rfl rfl Try.underlying4 (by kernel_rfl) hb
  obtain ⟨x0, x1, y0, y1, m0, rfl, -, -, hy0, hy1⟩ := open_agg2 Try.underlying23 (by kernel_rfl) cellsRatioO (hval 0 23 v0 rfl rfl) h0
  obtain ⟨x2, x3, y2, y3, m1, rfl, -, -, hy2, hy3⟩ := open_agg2 Try.underlying23 (by kernel_rfl) cellsRatioO (hval 1 23 v1 rfl rfl) h1
  obtain ⟨x4, x5, y4, y5, m2, rfl, -, -, hy4, hy5⟩ := open_agg2 Try.underlying23 (by kernel_rfl) cellsRatioO (hval 2 23 v2 rfl rfl) h2
  obtain ⟨a, ea, -, wa⟩ := DataW.trod_int Try.underlying2 hy0
  obtain ⟨b, eb, -, wb⟩ := DataW.trod_int Try.underlying2 hy1
  obtain ⟨c, ec, -, wc⟩ := DataW.trod_int Try.underlying2 hy2
  obtain ⟨d, ed, -, wd⟩ := DataW.trod_int Try.underlying2 hy3
  obtain ⟨e, ee, -, we⟩ := DataW.trod_int Try.underlying2 hy4
  obtain ⟨f, ef, -, wf⟩ := DataW.trod_int Try.underlying2 hy5
  simp at ea eb ec ed ee ef
  subst ea eb ec ed ee ef
  have ra := i64_of_wf wa
  have rb := i64_of_wf wb
  have rc := i64_of_wf wc
  have rd := i64_of_wf wd
  have re := i64_of_wf we
  have rf := i64_of_wf wf
  refine (rankOrder_any a b c d e f (by omega) (by omega) (by omega) (by omega) (by omega) (by omega) (by omega) (by omega) (by omega) (by omega) W).mono fun r W' ⟨he, hb⟩ => ?_
  subst he
  exact ⟨_, rfl, hpost W' hb⟩

theorem rankOrder_holds : Rows.RankOrderSaid :=
  OpenClaim.holds_of_wide 4 Try.f4 rfl rfl rfl rfl rfl rfl rfl ⟨rfl, rfl, rfl, rfl, rfl⟩ rfl rfl rfl rfl rfl (by kernel_rfl) Try.func4 (by kernel_rfl)
    (of_decide_eq_true (by kernel_rfl)) (by unfold Func.isWrapper; first | (rw [if_pos (by decide +kernel)]; kernel_rfl) | (rw [if_neg (by decide +kernel)]; exact ⟨rfl, rfl⟩))
    (fun os started H enc _ => rankOrder_lifted os started H enc)
#print axioms rankOrder_holds
end Go.Proofs.Ytfpmbjobieeidaa
