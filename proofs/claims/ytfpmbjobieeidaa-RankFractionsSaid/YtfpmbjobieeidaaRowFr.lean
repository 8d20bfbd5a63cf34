/-
  RankFractions holds, for every input: the row.
-/
import Derived.Test.YtfpmbjobieeidaaLawFr
namespace Go.Proofs.Ytfpmbjobieeidaa
open Go.ChangeShapes Go.WideShapes Go.ChangeAt Go.RowKit Go.Joins

theorem ownFr : ownKnob Try.prog.godebug = none := by kernel_rfl
theorem cellsRatio : Try.prog.cellsOf 23 = 2 := by kernel_rfl

set_option maxRecDepth 100000 in
theorem rankFractions_lifted (os : Os) (started : os.Started) (H : Type) (enc : TypeId × Value → H) :
    ReturnsInHanded {} Try.checked os 3 .any (Rows.rankFractionsSpec.pre6 enc Try.prog Try.f3 Rows.rankFractionsRow.domain false) (Rows.rankFractionsSpec.post enc Try.prog Try.f3 false true false false) := by
  refine returnsInHanded_of_change_sized (C := Try.checked) ownFr started (by kernel_rfl) Try.func3
    (ChangeSpec.witness6 (enc := enc) (C := Try.checked) false ⟨#[], #[.int .i64 0, .int .i64 0, .agg #[.int .i64 0, .int .i64 0], .agg #[.int .i64 0, .int .i64 0]], []⟩ 8 (by kernel_rfl) (by kernel_rfl) (by kernel_rfl) (by kernel_rfl)) ?_
  intro W base args ds gs before hval0 hW _ _ _
  have hval : ∀ (j : Nat) t v, Try.f3.params[j]? = some t → args[j]? = some v → Value.okWide Try.prog W .any base t v := hval0
  have hW' := hW
  obtain ⟨p, q, hA0, hV, rfl, hfz, hnd⟩ := hW
  have hA : DataW.TrodAll enc Try.prog W 0 (fun _ => true) true Try.f3.params.toList args.toList ds p := hA0
  rw [Try.params3] at hA hval
  obtain ⟨v0, v1, v2, v3, e0, e1, e2, e3, p0, p1, p2, p3, rfl, rfl, rfl, h0, h1, h2, h3⟩ := trodAll_four hA
  have hpost := fun W' (hb : Below W.heap.size W W') => law_post (tb := 4) laidOut (by rw [Try.params3]; intro t ht; simp at ht; rcases ht with rfl | rfl <;> exact ⟨by kernel_rfl, of_decide_eq_true (by kernel_rfl)⟩) hW' rfl rfl Try.underlying4 (by kernel_rfl) hb
  obtain ⟨n, rfl, -, -, w0⟩ := open_int Try.underlying2 (hval 0 2 v0 rfl rfl) h0
  obtain ⟨d, rfl, -, -, w1⟩ := open_int Try.underlying2 (hval 1 2 v1 rfl rfl) h1
  obtain ⟨c0, c1, y0, y1, m, rfl, -, -, hy0, hy1⟩ := open_agg2 Try.underlying23 (by kernel_rfl) cellsRatio (hval 2 23 v2 rfl rfl) h2
  obtain ⟨c2, c3, y2, y3, m2, rfl, -, -, hy2, hy3⟩ := open_agg2 Try.underlying23 (by kernel_rfl) cellsRatio (hval 3 23 v3 rfl rfl) h3
  obtain ⟨a, ea, -, wa⟩ := DataW.trod_int Try.underlying2 hy0
  obtain ⟨b, eb, -, wb⟩ := DataW.trod_int Try.underlying2 hy1
  obtain ⟨c, ec, -, wc⟩ := DataW.trod_int Try.underlying2 hy2
  obtain ⟨e, ee, -, we⟩ := DataW.trod_int Try.underlying2 hy3
  simp at ea eb ec ee
  subst ea eb ec ee
  have r0 := i64_of_wf w0
  have r1 := i64_of_wf w1
  have ra := i64_of_wf wa
  have rb := i64_of_wf wb
  have rc := i64_of_wf wc
  have re := i64_of_wf we
  refine (rankFractions_any n d a b c e (by omega) (by omega) (by omega) (by omega) (by omega) (by omega) (by omega) (by omega) (by omega) (by omega) W).mono fun r W' ⟨he, hb⟩ => ?_
  subst he
  exact ⟨_, rfl, hpost W' hb⟩

theorem rankFractions_holds : Rows.RankFractionsSaid :=
  OpenClaim.holds_of_wide 3 Try.f3 rfl rfl rfl rfl rfl rfl rfl ⟨rfl, rfl, rfl, rfl, rfl⟩ rfl rfl rfl rfl rfl (by kernel_rfl) Try.func3 (by kernel_rfl)
    (of_decide_eq_true (by kernel_rfl)) (by unfold Func.isWrapper; first | (rw [if_pos (by decide +kernel)]; kernel_rfl) | (rw [if_neg (by decide +kernel)]; exact ⟨rfl, rfl⟩))
    (fun os started H enc _ => rankFractions_lifted os started H enc)
#print axioms rankFractions_holds
end Go.Proofs.Ytfpmbjobieeidaa
