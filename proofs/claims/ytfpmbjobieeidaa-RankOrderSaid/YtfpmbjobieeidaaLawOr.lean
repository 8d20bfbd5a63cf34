/-
  RankOrder: Compare is an order, of any three fractions, and between a fraction and its lowest terms.
-/
import Derived.Test.YtfpmbjobieeidaaExam
import Derived.Test.YtfpmbjobieeidaaBw
import Derived.Lib.SmallJoins
namespace Go.Proofs.Ytfpmbjobieeidaa
open Go.RowKit

/-- What the law asks of the numbers. -/
structure OrIn (x y z : Int) : Prop where
  b : -1 ≤ x ∧ x ≤ 1
  t : 0 < x ∨ (x ≤ 0 ∧ 0 < y) ∨ (x ≤ 0 ∧ y ≤ 0 ∧ z < 0) ∨ (x = 0 ∧ y = 0 ∧ z = 0)
theorem orIn_of (a b c d e f : Int) : OrIn (Rk.cmp a b c d) (Rk.cmp c d e f) (Rk.cmp a b e f) := by
  have b1 := Rk.cmp_bounds a b c d
  refine ⟨b1, ?_⟩
  by_cases h1 : Rk.cmp a b c d ≤ 0
  · by_cases h2 : Rk.cmp c d e f ≤ 0
    · obtain ⟨t1, t2⟩ := Rk.cmp_trans a b c d e f h1 h2
      by_cases h3 : Rk.cmp a b c d < 0 ∨ Rk.cmp c d e f < 0
      · exact .inr (.inr (.inl ⟨h1, h2, t2 h3⟩))
      · by_cases h4 : Rk.cmp a b e f < 0
        · exact .inr (.inr (.inl ⟨h1, h2, h4⟩))
        · exact .inr (.inr (.inr ⟨by omega, by omega, by omega⟩))
    · exact .inr (.inl ⟨h1, by omega⟩)
  · exact .inl (by omega)
/-- The last line: what the fraction in lowest terms is. -/
theorem orFr (a b : Int) : Rk.frErr a b ≠ 0 ∨ (Rk.frErr a b = 0 ∧ b ≤ 0) ∨ (Rk.frErr a b = 0 ∧ 0 < b ∧ Rk.cmp a b (Rk.frN a b) (Rk.frD a b) = 0 ∧ 0 < Rk.frD a b) := by
  by_cases h : Rk.frErr a b = 0
  · by_cases hb : b ≤ 0
    · exact .inr (.inl ⟨h, hb⟩)
    · have hok : Rk.frOk a b := by
        unfold Rk.frErr at h
        rw [if_neg (by omega)] at h
        split at h
        · cases h
        · rename_i h2
          exact ⟨by omega, by omega, by omega⟩
      refine .inr (.inr ⟨h, by omega, ?_⟩)
      unfold Rk.frN Rk.frD
      rw [if_pos hok, if_pos hok]
      exact ⟨Rk.cmp_frac (by omega), Rk.frDen_pos (by omega)⟩
  · exact .inl h
theorem fr_range {a b : Int} (h0 : -9223372036854775808 ≤ a) (h1 : a ≤ 9223372036854775807) (k0 : -9223372036854775808 ≤ b) (k1 : b ≤ 9223372036854775807) :
    (-9223372036854775808 ≤ Rk.frN a b ∧ Rk.frN a b ≤ 9223372036854775807) ∧ Rk.frD a b ≤ 9223372036854775807 := by
  unfold Rk.frN Rk.frD
  by_cases hok : Rk.frOk a b
  · rw [if_pos hok, if_pos hok]
    have a1 := Rk.frNum_abs a b
    have a2 := Rk.frDen_abs a b
    have := hok.2.1
    have := hok.2.2
    omega
  · rw [if_neg hok, if_neg hok]; omega

set_option maxRecDepth 100000 in
set_option maxHeartbeats 4000000 in
theorem rankOrder_any (a b c d e f : Int) (a0 : -9223372036854775808 ≤ a) (a1 : a ≤ 9223372036854775807) (b0 : -9223372036854775808 ≤ b) (b1 : b ≤ 9223372036854775807)
    (c0 : -9223372036854775808 ≤ c) (c1 : c ≤ 9223372036854775807) (d1 : d ≤ 9223372036854775807) (e0 : -9223372036854775808 ≤ e) (e1 : e ≤ 9223372036854775807) (f1 : f ≤ 9223372036854775807) (w : World) :
    Calls Try.prog 4 #[.agg #[.int .i64 a, .int .i64 b], .agg #[.int .i64 c, .int .i64 d], .agg #[.int .i64 e, .int .i64 f]] w fun r w' => r = .returned (.bool true) ∧ Below w.heap.size w w' := by
  obtain ⟨⟨rn0, rn1⟩, rd1⟩ := fr_range a0 a1 b0 b1
  have HX := Lib.hid (fun W => compare_any a b c d a0 a1 b1 c0 c1 d1 W)
  have HY := Lib.hid (fun W => compare_any c d e f c0 c1 d1 e0 e1 f1 W)
  have HZ := Lib.hid (fun W => compare_any a b e f a0 a1 b1 e0 e1 f1 W)
  have HB := Lib.hid (fun W => compare_any c d a b c0 c1 d1 a0 a1 b1 W)
  have HA := Lib.hid (fun W => compare_any a b a b a0 a1 b1 a0 a1 b1 W)
  have HF := Lib.hid (fun W => fraction_any a b a0 a1 b0 b1 W)
  have HL := Lib.hid (fun W => compare_any a b (Rk.frN a b) (Rk.frD a b) a0 a1 b1 rn0 rn1 rd1 W)
  obtain ⟨⟨x0, x1⟩, ht⟩ := orIn_of a b c d e f
  have hfr := orFr a b
  unfold CmpPost at HX HY HZ HB HA HL
  unfold FrPost at HF
  rw [Rk.cmp_swap c d a b] at HB
  rw [Rk.cmp_self] at HA
  generalize Rk.cmp a b c d = x at *
  generalize Rk.cmp c d e f = y at *
  generalize Rk.cmp a b e f = z at *
  generalize Rk.cmp a b (Rk.frN a b) (Rk.frD a b) = l at *
  generalize Rk.frN a b = fn at *
  generalize Rk.frD a b = fd at *
  generalize Rk.frErr a b = er at *
  clear a0 a1 b0 c0 c1 d1 e0 e1 f1 rn0 rn1 rd1 b1
  have T3 : Blk (((w.alloc (.cells #[.int .i64 a, .int .i64 b] 23)).alloc (.cells #[.int .i64 c, .int .i64 d] 23)).alloc (.cells #[.int .i64 e, .int .i64 f] 23)) w.heap.size 23 #[.int .i64 a, .int .i64 b] := ((Blk.new w _ _).alloc _).alloc _
  have T4 : Blk (((w.alloc (.cells #[.int .i64 a, .int .i64 b] 23)).alloc (.cells #[.int .i64 c, .int .i64 d] 23)).alloc (.cells #[.int .i64 e, .int .i64 f] 23)) (w.heap.size + 1) 23 #[.int .i64 c, .int .i64 d] := (Blk.new_ (by simp)).alloc _
  have T5 : Blk (((w.alloc (.cells #[.int .i64 a, .int .i64 b] 23)).alloc (.cells #[.int .i64 c, .int .i64 d] 23)).alloc (.cells #[.int .i64 e, .int .i64 f] 23)) (w.heap.size + 1 + 1) 23 #[.int .i64 e, .int .i64 f] := Blk.new_ (by simp)
  have B0 := al3 w (.cells #[.int .i64 a, .int .i64 b] 23) (.cells #[.int .i64 c, .int .i64 d] 23) (.cells #[.int .i64 e, .int .i64 f] 23)
  obtain ⟨W0, hW0⟩ : ∃ W0, W0 = (((w.alloc (.cells #[.int .i64 a, .int .i64 b] 23)).alloc (.cells #[.int .i64 c, .int .i64 d] 23)).alloc (.cells #[.int .i64 e, .int .i64 f] 23)) := ⟨_, rfl⟩
  rw [← hW0] at T3 T4 T5 B0
  have HW0 := Lib.hid hW0
  have H3 := Lib.hid T3
  have H4 := Lib.hid T4
  have HB0 := Lib.hid B0
  have k30 := fun p => cell_bw T3.lt (T3.cell 0) p
  have k31 := fun p => cell_bw T3.lt (T3.cell 1) p
  have k40 := fun p => cell_bw T4.lt (T4.cell 0) p
  have k41 := fun p => cell_bw T4.lt (T4.cell 1) p
  have k50 := fun p => cell_bw T5.lt (T5.cell 0) p
  have k51 := fun p => cell_bw T5.lt (T5.cell 1) p
  clear hW0 T3 T4 T5 B0
  have Hfr := Lib.hid hfr
  clear hfr
  have x2 : ¬ x < -1 := by omega
  have x3 : ¬ 1 < x := by omega
  rcases ht with ht | ⟨ht, ht2⟩ | ⟨ht, ht2, ht3⟩ | ⟨rfl, rfl, rfl⟩
  all_goals
    go_enter Try.func4, Try.ntmps4
    go_wp2_with fail
    rw [← HW0.out]
    refine wp_region_bw (by kernel_rfl) (by kernel_rfl) ?_
    repeat (quiet_step (first | (go_at_call 14; first | (with_reducible exact calls_bw (HX.out _)) | (with_reducible exact calls_bw (HY.out _)) | (with_reducible exact calls_bw (HZ.out _)))))
    refine wpQuiet_nil ?_
    intro _ hw'
    obtain ⟨p, hw''⟩ := hw'
    subst hw''
    have L3 := H3.out.lt
    have L4 := H4.out.lt
    go_wp2_with fail
    refine (HB.out _).mono ?_
    rintro r w1 ⟨rfl, hb⟩
    have B1 : Below W0.heap.size W0 w1 := p.ok.trans (hb.mono p.ok.size)
    have i30 := (H3.out.below B1 L3).cell 0
    have i31 := (H3.out.below B1 L3).cell 1
    simp only [List.getElem?_toArray, List.getElem?_cons_zero, List.getElem?_cons_succ] at i30 i31
    have HB1 := Lib.hid B1
    clear hb B1 k30 k31 k40 k41 k50 k51
    go_wp2_with fail
    refine (HA.out _).mono ?_
    rintro r w2 ⟨rfl, hb⟩
    have B2 : Below W0.heap.size W0 w2 := HB1.out.trans (hb.mono HB1.out.size)
    have i30 := (H3.out.below B2 L3).cell 0
    have i31 := (H3.out.below B2 L3).cell 1
    simp only [List.getElem?_toArray, List.getElem?_cons_zero, List.getElem?_cons_succ] at i30 i31
    have HB2 := Lib.hid B2
    clear hb B2 HB1
    go_wp2_with fail
    refine (HF.out _).mono ?_
    rintro r w3 ⟨rfl, hb⟩
    have B3 : Below W0.heap.size W0 w3 := HB2.out.trans (hb.mono HB2.out.size)
    have i30 := (H3.out.below B3 L3).cell 0
    have i31 := (H3.out.below B3 L3).cell 1
    simp only [List.getElem?_toArray, List.getElem?_cons_zero, List.getElem?_cons_succ] at i30 i31
    have lt3 : w.heap.size < w3.heap.size := Nat.lt_of_lt_of_le L3 B3.size
    have HB3 := Lib.hid B3
    clear hb B3 HB2
    rcases Hfr.out with h | ⟨rfl, h⟩ | ⟨rfl, h, rfl, h2⟩
    · have h' : (er != 0) = true := by simpa using h
      clear h
      go_wp2_with fail
      refine (ranks_any _).mono ?_
      rintro r w4 ⟨rfl, hb⟩
      have HB4 := Lib.hid (al HB3.out (Nat.le_refl _) (.cells #[.int .i64 fn, .int .i64 fd] 23))
      have HB5 := Lib.hid (HB0.out.trans ((HB4.out.trans (hb.mono HB4.out.size)).mono HB0.out.size))
      clear hb HB4
      go_wp2
      go_ret
      exact ⟨rfl, HB5.out⟩
    · go_wp2_with fail
      refine (ranks_any _).mono ?_
      rintro r w4 ⟨rfl, hb⟩
      have HB4 := Lib.hid (al HB3.out (Nat.le_refl _) (.cells #[.int .i64 fn, .int .i64 fd] 23))
      have HB5 := Lib.hid (HB0.out.trans ((HB4.out.trans (hb.mono HB4.out.size)).mono HB0.out.size))
      clear hb HB4
      go_wp2
      go_ret
      exact ⟨rfl, HB5.out⟩
    · have h' : ¬ b ≤ 0 := by omega
      go_wp2_with fail
      refine (HL.out _).mono ?_
      rintro r w4 ⟨rfl, hb⟩
      have HB4 := Lib.hid ((al1 w3 (.cells #[.int .i64 fn, .int .i64 fd] 23)).trans (hb.mono (by simp)))
      have T10 : Blk w4 w3.heap.size 23 #[.int .i64 fn, .int .i64 fd] := (Blk.new w3 _ _).below hb (by simp)
      have i101 := T10.cell 1
      simp only [List.getElem?_toArray, List.getElem?_cons_zero, List.getElem?_cons_succ] at i101
      have HB5 := Lib.hid (HB0.out.trans ((HB3.out.trans (HB4.out.mono HB3.out.size)).mono HB0.out.size))
      clear hb HB4 T10
      go_wp2_with fail
      refine (ranks_any _).mono ?_
      rintro r w5 ⟨rfl, hb⟩
      have HB6 := Lib.hid (HB5.out.trans (hb.mono HB5.out.size))
      clear hb
      go_wp2
      go_ret
      exact ⟨rfl, HB6.out⟩
end Go.Proofs.Ytfpmbjobieeidaa
