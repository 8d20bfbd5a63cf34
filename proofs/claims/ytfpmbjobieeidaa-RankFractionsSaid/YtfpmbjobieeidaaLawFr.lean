/-
  RankFractions: fractions in lowest terms and how fractions compare are those of the specification, for any numbers.
-/
import Derived.Test.YtfpmbjobieeidaaExam
import Derived.Test.YtfpmbjobieeidaaRCmp
import Derived.Test.YtfpmbjobieeidaaBw
import Derived.Lib.SmallJoins
namespace Go.Proofs.Ytfpmbjobieeidaa
open Go.RowKit

set_option maxRecDepth 100000 in
set_option maxHeartbeats 2000000 in
theorem rankFractions_any (n d a b c e : Int) (n0 : -9223372036854775808 ≤ n) (n1 : n ≤ 9223372036854775807) (d0 : -9223372036854775808 ≤ d) (d1 : d ≤ 9223372036854775807) (a0 : -9223372036854775808 ≤ a) (a1 : a ≤ 9223372036854775807) (b1 : b ≤ 9223372036854775807)
    (c0 : -9223372036854775808 ≤ c) (c1 : c ≤ 9223372036854775807) (e1 : e ≤ 9223372036854775807) (w : World) :
    Calls Try.prog 3 #[.int .i64 n, .int .i64 d, .agg #[.int .i64 a, .int .i64 b], .agg #[.int .i64 c, .int .i64 e]] w fun r w' => r = .returned (.bool true) ∧ Below w.heap.size w w' := by
  have HF := Lib.hid (fun W => fraction_any n d n0 n1 d0 d1 W)
  have HR := Lib.hid (fun W => rfraction_any n d n0 n1 d0 d1 W)
  have HC := Lib.hid (fun W => compare_any a b c e a0 a1 b1 c0 c1 e1 W)
  have HD := Lib.hid (fun W => rcompare_any a b c e a0 a1 b1 c0 c1 e1 W)
  have hq : ∀ W, (binOp .eql 23 (.agg #[.int .i64 (Rk.frN n d), .int .i64 (Rk.frD n d)]) (.agg #[.int .i64 (Rk.frN n d), .int .i64 (Rk.frD n d)])).run Try.prog W = .ok (.bool true) W := fun W => by
    rw [eq_ratio]; simp
  have hgd := fun (op : BinOp) (x y : Operand) (u v : Array Value) W => gd_ratio W op x y u v
  unfold FrPost at HF HR
  unfold CmpPost at HC HD
  generalize Rk.frN n d = x at *
  generalize Rk.frD n d = y at *
  generalize Rk.frErr n d = er at *
  generalize Rk.cmp a b c e = cc at *
  clear n0 n1 d0 d1 a0 a1 b1 c0 c1 e1
  go_enter Try.func3, Try.ntmps3
  go_wp2_with fail
  refine (HF.out _).mono ?_
  rintro r w1 ⟨rfl, hb⟩
  have T6 : Blk w1 w.heap.size 23 #[.int .i64 a, .int .i64 b] := ((Blk.new w _ _).alloc _).below hb (by simp <;> omega)
  have T7 : Blk w1 (w.heap.size + 1) 23 #[.int .i64 c, .int .i64 e] := (Blk.new_ (by simp)).below hb (by simp)
  have B1 := (al2 w _ _).trans (hb.mono (by simp; omega))
  have H6 := Lib.hid T6
  have H7 := Lib.hid T7
  have HB1 := Lib.hid B1
  clear hb T6 T7 B1
  go_wp2_with fail
  refine (HR.out _).mono ?_
  rintro r w2 ⟨rfl, hb⟩
  have B2 : Below w1.heap.size w1 w2 := (al1 w1 _).trans (hb.mono (by simp))
  have T6 := (H6.out.below B2 H6.out.lt).alloc (.cells #[.int .i64 x, .int .i64 y] 23)
  have T7 := (H7.out.below B2 H7.out.lt).alloc (.cells #[.int .i64 x, .int .i64 y] 23)
  have T9 : Blk w2 w1.heap.size 23 #[.int .i64 x, .int .i64 y] := (Blk.new w1 _ _).below hb (by simp)
  have T9' := T9.alloc (.cells #[.int .i64 x, .int .i64 y] 23)
  have T11 := Blk.new w2 23 #[.int .i64 x, .int .i64 y]
  have HB2 := Lib.hid (al (HB1.out.trans (B2.mono HB1.out.size)) (Nat.le_refl _) (.cells #[.int .i64 x, .int .i64 y] 23))
  have k60 := fun p => cell_bw T6.lt (T6.cell 0) p
  have k61 := fun p => cell_bw T6.lt (T6.cell 1) p
  have k70 := fun p => cell_bw T7.lt (T7.cell 0) p
  have k71 := fun p => cell_bw T7.lt (T7.cell 1) p
  have k90 := fun p => cell_bw T9'.lt (T9'.cell 0) p
  have k91 := fun p => cell_bw T9'.lt (T9'.cell 1) p
  have k110 := fun p => cell_bw T11.lt (T11.cell 0) p
  have k111 := fun p => cell_bw T11.lt (T11.cell 1) p
  obtain ⟨W3, hW3⟩ : ∃ W3, W3 = w2.alloc (.cells #[.int .i64 x, .int .i64 y] 23) := ⟨_, rfl⟩
  have HW3 := Lib.hid hW3
  rw [← hW3] at k60 k61 k70 k71 k90 k91 k110 k111 HB2
  clear hW3 T6 T7 T9 T9' T11 B2 hb
  go_wp2_with fail
  rw [← HW3.out]
  refine wp_region_bw (by kernel_rfl) (by kernel_rfl) ?_
  repeat (quiet_step (first | (go_at_call 14; exact calls_bw (HC.out _)) | (go_at_call 15; exact calls_bw (HD.out _)) | (go_at_call 16; exact calls_bw (ranks_any _))))
  refine wpQuiet_nil ?_
  intro _ hw'
  obtain ⟨p, hw''⟩ := hw'
  subst hw''
  go_wp2
  go_ret
  exact ⟨rfl, HB2.out.trans (p.ok.mono HB2.out.size)⟩
end Go.Proofs.Ytfpmbjobieeidaa
