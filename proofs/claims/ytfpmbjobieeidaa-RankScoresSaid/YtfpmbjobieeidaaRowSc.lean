/-
  RankScores holds, for every input: the row.
-/
import Derived.Test.YtfpmbjobieeidaaLawSc
namespace Go.Proofs.Ytfpmbjobieeidaa
open Go.ChangeShapes Go.WideShapes Go.ChangeAt Go.RowKit Go.Joins

theorem ownSc : ownKnob Try.prog.godebug = none := by kernel_rfl
theorem cellsTally : Try.prog.cellsOf 33 = 4 := by kernel_rfl

set_option maxRecDepth 100000 in
theorem rankScores_lifted (os : Os) (started : os.Started) (H : Type) (enc : TypeId × Value → H) :
    ReturnsInHanded {} Try.checked os 5 .any (Rows.rankScoresSpec.pre6 enc Try.prog Try.f5 Rows.rankScoresRow.domain false) (Rows.rankScoresSpec.post enc Try.prog Try.f5 false true false false) := by
  refine returnsInHanded_of_change_sized (C := Try.checked) ownSc started (by kernel_rfl) Try.func5
    (ChangeSpec.witness6 (enc := enc) (C := Try.checked) false ⟨#[], #[.int .u8 0, .agg #[.int .i64 0, .int .i64 0, .int .i64 0, .int .i64 0]], []⟩ 8 (by kernel_rfl) (by kernel_rfl) (by kernel_rfl) (by kernel_rfl)) ?_
  intro W base args ds gs before hval0 hW _ _ _
  have hval : ∀ (j : Nat) t v, Try.f5.params[j]? = some t → args[j]? = some v → Value.okWide Try.prog W .any base t v := hval0
  have hW' := hW
  obtain ⟨p, q, hA0, hV, rfl, hfz, hnd⟩ := hW
  have hA : DataW.TrodAll enc Try.prog W 0 (fun _ => true) true Try.f5.params.toList args.toList ds p := hA0
  rw [Try.params5] at hA hval
  obtain ⟨v0, v1, e0, e1, p0, p1, rfl, rfl, rfl, h0, h1⟩ := trodAll_two hA
  have hpost := fun W' (hb : Below W.heap.size W W') => law_post (tb := 4) laidOut (by rw [Try.params5]; intro t ht; simp at ht; rcases ht with rfl | rfl <;> exact ⟨by kernel_rfl, of_decide_eq_true (by kernel_rfl)⟩) hW' rfl rfl Try.underlying4 (by kernel_rfl) hb
  obtain ⟨k, rfl, -, -, w0⟩ := open_int Try.underlying31 (hval 0 31 v0 rfl rfl) h0
  obtain ⟨x0, x1, x2, x3, y0, y1, y2, y3, m0, rfl, -, -, hy0, hy1, hy2, hy3⟩ := open_agg4 Try.underlying33 (by kernel_rfl) cellsTally (hval 1 33 v1 rfl rfl) h1
  obtain ⟨a, ea, -, wa⟩ := DataW.trod_int Try.underlying3 hy0
  obtain ⟨b, eb, -, wb⟩ := DataW.trod_int Try.underlying3 hy1
  obtain ⟨c, ec, -, wc⟩ := DataW.trod_int Try.underlying3 hy2
  obtain ⟨d, ed, -, wd⟩ := DataW.trod_int Try.underlying3 hy3
  simp at ea eb ec ed
  subst ea eb ec ed
  have rk := u8_of_wf w0
  obtain ⟨n, rfl⟩ : ∃ n : Nat, k = n := ⟨k.toNat, by omega⟩
  refine (rankScores_any n (by omega) a b c d W).mono fun r W' ⟨he, hb⟩ => ?_
  subst he
  exact ⟨_, rfl, hpost W' hb⟩

theorem rankScores_holds : Rows.RankScoresSaid :=
  OpenClaim.holds_of_wide 5 Try.f5 rfl rfl rfl rfl rfl rfl rfl ⟨rfl, rfl, rfl, rfl, rfl⟩ rfl rfl rfl rfl rfl (by kernel_rfl) Try.func5 (by kernel_rfl)
    (of_decide_eq_true (by kernel_rfl)) (by unfold Func.isWrapper; first | (rw [if_pos (by decide +kernel)]; kernel_rfl) | (rw [if_neg (by decide +kernel)]; exact ⟨rfl, rfl⟩))
    (fun os started H enc _ => rankScores_lifted os started H enc)
#print axioms rankScores_holds
end Go.Proofs.Ytfpmbjobieeidaa
