/-
  RankScores: the score of any tally by any formula is that of the specification.
-/
import Derived.Test.YtfpmbjobieeidaaExam
import Derived.Test.YtfpmbjobieeidaaRScoreP
import Derived.Test.YtfpmbjobieeidaaBw
import Derived.Lib.SmallJoins
namespace Go.Proofs.Ytfpmbjobieeidaa
open Go.RowKit

set_option maxRecDepth 100000 in
set_option maxHeartbeats 2000000 in
theorem rankScores_any (k : Nat) (hk : k < 256) (h q m r : Int) (w : World) :
    Calls Try.prog 5 #[.int .u8 k, .agg #[.int .i64 h, .int .i64 q, .int .i64 m, .int .i64 r]] w fun e w' => e = .returned (.bool true) ∧ Below w.heap.size w w' := by
  have HF := Lib.hid (fun W => score_any k hk h q m r W)
  have HR := Lib.hid (fun W => rscoreS_any k h q m r W)
  unfold ScPost fv at HF HR
  generalize Rk.scoreErr k [h, q, m, r] = er at *
  generalize Rk.scoreOf k h q m r = s at *
  obtain ⟨x, y⟩ := s
  simp only at HF HR
  have hq : ∀ W, (binOp .eql 23 (.agg #[.int .i64 x, .int .i64 y]) (.agg #[.int .i64 x, .int .i64 y])).run Try.prog W = .ok (.bool true) W := fun W => by
    rw [eq_ratio]; simp
  have hgd := fun (op : BinOp) (x y : Operand) (u v : Array Value) W => gd_ratio W op x y u v
  clear hk
  go_enter Try.func5, Try.ntmps5
  go_wp2_with fail
  refine (HF.out _).mono ?_
  rintro e w1 ⟨rfl, hb⟩
  have T3 : Blk w1 w.heap.size 33 #[.int .i64 h, .int .i64 q, .int .i64 m, .int .i64 r] := (Blk.new w _ _).below hb (by simp)
  have B1 := (al1 w _).trans (hb.mono (by simp))
  have i0 := T3.cell 0
  have i1 := T3.cell 1
  have i2 := T3.cell 2
  have i3 := T3.cell 3
  simp only [List.getElem?_toArray, List.getElem?_cons_zero, List.getElem?_cons_succ] at i0 i1 i2 i3
  have lt := T3.lt
  have HB1 := Lib.hid B1
  clear hb T3 B1
  go_wp2_with fail
  refine (HR.out _).mono ?_
  rintro e w2 ⟨rfl, hb⟩
  have T5 : Blk w2 w1.heap.size 23 #[.int .i64 x, .int .i64 y] := (Blk.new w1 _ _).below hb (by simp)
  have k0 := T5.cell 0
  have k1 := T5.cell 1
  simp only [List.getElem?_toArray, List.getElem?_cons_zero, List.getElem?_cons_succ] at k0 k1
  have lt5 := T5.lt
  have HB2 := Lib.hid (al (HB1.out.trans (((al1 w1 _).trans (hb.mono (by simp))).mono HB1.out.size)) (Nat.le_refl _) (.cells #[.int .i64 x, .int .i64 y] 23))
  clear hb T5 i0 i1 i2 i3
  go_wp2_with fail
  refine (ranks_any _).mono ?_
  rintro e w3 ⟨rfl, hb⟩
  have HB3 := Lib.hid (HB2.out.trans (hb.mono HB2.out.size))
  clear hb
  go_wp2
  go_ret
  exact ⟨rfl, HB3.out⟩
end Go.Proofs.Ytfpmbjobieeidaa
