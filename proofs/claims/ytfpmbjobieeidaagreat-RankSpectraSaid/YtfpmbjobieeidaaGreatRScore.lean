/-
  The walk of the reference's score, formula by formula (written by wip/gen_rscore.py).
  The reference's score by any formula.
-/
import Derived.Test.YtfpmbjobieeidaaGreatScore
import Derived.Test.YtfpmbjobieeidaaGreatScores
import Derived.Test.YtfpmbjobieeidaaGreatExam
namespace Go.Proofs.YtfpmbjobieeidaaGreat
open Go.RowKit

theorem Rk.wong_mid {q : Int} (h0 : 2 < q) (h1 : q ≤ 10) : Rk.wong q = Rk.ov (18 + q) 10 := by
  rcases (show q = 3 ∨ q = 4 ∨ q = 5 ∨ q = 6 ∨ q = 7 ∨ q = 8 ∨ q = 9 ∨ q = 10 by omega) with rfl | rfl | rfl | rfl | rfl | rfl | rfl | rfl <;> decide
theorem Rk.wong_high {q : Int} (h0 : 10 < q) (h1 : q ≤ 64) : Rk.wong q = Rk.ov (2790 + q) 1000 := by
  have h : ∀ n : Nat, n < 65 → 10 < n → Rk.wong (n : Int) = Rk.ov (2790 + (n : Int)) 1000 := by decide +kernel
  have := h q.toNat (by omega) (by omega)
  rwa [Int.toNat_of_nonneg (by omega)] at this
theorem Rk.ov_zero (d : Int) : Rk.ov 0 d = (0, 1) := by
  unfold Rk.ov
  split
  · rfl
  · rename_i h
    unfold Rk.frNum Rk.frDen
    rcases Int.lt_or_gt_of_ne h with h1 | h1
    · rw [if_pos h1, if_pos h1, Int.gcd_zero_left]
      have e : (d.natAbs : Int) = -d := by omega
      rw [e, Int.tdiv_self (by omega)]
      simp
    · rw [if_neg (by omega), if_neg (by omega), Int.gcd_zero_left]
      have e : (d.natAbs : Int) = d := by omega
      rw [e, Int.tdiv_self (by omega)]
      simp
theorem Rk.gp_all (h q : Int) : Rk.pl (Rk.ov h 1) (Rk.ov h (2 * q + h)) = if h = 0 then Rk.ov 0 1 else Rk.pl (Rk.ov h 1) (Rk.ov h (2 * q + h)) := by
  by_cases e : h = 0
  · subst e; rw [if_pos rfl, Rk.ov_zero, Rk.ov_zero]; decide
  · rw [if_neg e]

set_option maxRecDepth 100000 in
set_option maxHeartbeats 1600000 in
theorem rscore1_any (h q m r : Int) (hh : 0 ≤ h ∧ h ≤ 64) (hq : 0 ≤ q ∧ q ≤ 64) (hm : 0 ≤ m ∧ m ≤ 64) (hr : 0 ≤ r ∧ r ≤ 64) (w : World) :
    Calls Tryz.prog 44 #[.int .u8 1, .agg #[.int .i64 h, .int .i64 q, .int .i64 m, .int .i64 r]] w (FvPost (Rk.score 1 h q m r) w) := by
  obtain ⟨h0, h1⟩ := hh
  obtain ⟨q0, q1⟩ := hq
  obtain ⟨m0, m1⟩ := hm
  obtain ⟨r0, r1⟩ := hr
  show Calls _ _ _ _ (FvPost (Rk.bt (Rk.ov (h) (h + m)) (Rk.pl (Rk.ov (h) (h + m)) (Rk.ov (q) (q + r)))) w)
  have HO0 := Lib.hid (fun W => rby_any (h) (h + m) W (by omega) (by omega))
  have HO1 := Lib.hid (fun W => rby_any (h) (h + m) W (by omega) (by omega))
  have HO2 := Lib.hid (fun W => rby_any (q) (q + r) W (by omega) (by omega))
  have HO3 := Lib.hid (fun W => rplus_any (Rk.ov (h) (h + m)) (Rk.ov (q) (q + r)) ((Rk.ov_s (by omega) (by omega)).sm (by decide) (by decide)) ((Rk.ov_s (by omega) (by omega)).sm (by decide) (by decide)) W)
  have HO4 := Lib.hid (fun W => rover_any (Rk.ov (h) (h + m)) (Rk.pl (Rk.ov (h) (h + m)) (Rk.ov (q) (q + r))) ((Rk.ov_s (by omega) (by omega)).sm (by decide) (by decide)) ((Rk.pl_s (Rk.ov_s (by omega) (by omega)) (Rk.ov_s (by omega) (by omega))).sm (by decide) (by decide)) W)
  generalize Rk.ov (h) (h + m) = z0 at *
  generalize Rk.ov (q) (q + r) = z1 at *
  generalize Rk.pl z0 z1 = z2 at *
  generalize Rk.bt z0 z2 = z3 at *
  obtain ⟨o1, o2⟩ := z3
  go_enter Tryz.func44, Tryz.ntmps44
  go_wp2_with fail
  go_quiet (fail)
  go_wp2_with fail
  refine (HO0.out _).mono ?_
  rintro e w1 ⟨rfl, hb0⟩
  have HB0 := Lib.hid (hb0.mono (Nat.le_refl _))
  clear hb0
  go_wp2_with fail
  refine (HO1.out _).mono ?_
  rintro e w2 ⟨rfl, hb1⟩
  have HB1 := Lib.hid (HB0.out.trans (hb1.mono HB0.out.size))
  clear hb1
  go_wp2_with fail
  refine (HO2.out _).mono ?_
  rintro e w3 ⟨rfl, hb2⟩
  have HB2 := Lib.hid (HB1.out.trans (hb2.mono HB1.out.size))
  clear hb2
  go_wp2_with fail
  refine (HO3.out _).mono ?_
  rintro e w4 ⟨rfl, hb3⟩
  have HB3 := Lib.hid (HB2.out.trans (hb3.mono HB2.out.size))
  clear hb3
  go_wp2_with fail
  refine (HO4.out _).mono ?_
  rintro e w5 ⟨rfl, hb4⟩
  have HB4 := Lib.hid (HB3.out.trans (hb4.mono HB3.out.size))
  clear hb4
  have hg : Blk w5 (w.heap.size + 1) 45 #[.int .i64 0, .int .i64 0] := (Blk.drewN (Blk.new_ (w := w.alloc (.cells #[.int .i64 h, .int .i64 q, .int .i64 m, .int .i64 r] 35)) (cs := #[.int .i64 0, .int .i64 0]) (by simp)) nq).below HB4.out (by simp)
  have H1 := Lib.hid ((below_drewN (al2 w (.cells #[.int .i64 h, .int .i64 q, .int .i64 m, .int .i64 r] 35) (.cells #[.int .i64 0, .int .i64 0] 45)) nq).trans (HB4.out.mono (by simp; omega)))
  have c0 : w5.cell? ⟨w.heap.size + 1, 0, none⟩ = some (.int .i64 0) := hg.cell 0
  have c1 : w5.cell? ⟨w.heap.size + 1, 1, none⟩ = some (.int .i64 0) := hg.cell 1
  have f0 := hg.frozen 0
  have f1 := hg.frozen 1
  have lt := hg.lt
  have Hg := Lib.hid hg
  clear hg
  unfold fv
  go_wp2
  have K := st2 Hg.out (.int .i64 o1) (.int .i64 o2)
  have k0 := K.cell 0
  have k1 := K.cell 1
  simp only [List.getElem?_toArray, List.getElem?_cons_zero, List.getElem?_cons_succ] at k0 k1
  refine bodyPost_ret (v := .agg #[.int .i64 o1, .int .i64 o2]) (by simp [results, Tryz.results44, go_sem, k0, k1]) rfl ⟨rfl, ?_⟩
  exact below_st2 (g := w.heap.size + 1) H1.out (by omega) H1.out.size (.int .i64 o1) (.int .i64 o2)

set_option maxRecDepth 100000 in
set_option maxHeartbeats 1600000 in
theorem rscore2_any (h q m r : Int) (hh : 0 ≤ h ∧ h ≤ 64) (hq : 0 ≤ q ∧ q ≤ 64) (hm : 0 ≤ m ∧ m ≤ 64) (hr : 0 ≤ r ∧ r ≤ 64) (w : World) :
    Calls Tryz.prog 44 #[.int .u8 2, .agg #[.int .i64 h, .int .i64 q, .int .i64 m, .int .i64 r]] w (FvPost (Rk.score 2 h q m r) w) := by
  obtain ⟨h0, h1⟩ := hh
  obtain ⟨q0, q1⟩ := hq
  obtain ⟨m0, m1⟩ := hm
  obtain ⟨r0, r1⟩ := hr
  obtain ⟨p0, p1⟩ := prod_le h0 h0 (X := 64) (Y := 64) (by omega) (by omega)
  obtain ⟨t0, t1⟩ := prod_le (x := h + m) (y := h + q) (by omega) (by omega) (X := 128) (Y := 128) (by omega) (by omega)
  show Calls _ _ _ _ (FvPost (Rk.ov (h * h) ((h + m) * (h + q))) w)
  have HO0 := Lib.hid (fun W => rby_any (h * h) ((h + m) * (h + q)) W (by omega) (by omega))
  generalize Rk.ov (h * h) ((h + m) * (h + q)) = z0 at *
  obtain ⟨o1, o2⟩ := z0
  go_enter Tryz.func44, Tryz.ntmps44
  go_wp2_with fail
  go_quiet (fail)
  go_wp2_with fail
  refine (HO0.out _).mono ?_
  rintro e w1 ⟨rfl, hb0⟩
  have HB0 := Lib.hid (hb0.mono (Nat.le_refl _))
  clear hb0
  have hg : Blk w1 (w.heap.size + 1) 45 #[.int .i64 0, .int .i64 0] := (Blk.drewN (Blk.new_ (w := w.alloc (.cells #[.int .i64 h, .int .i64 q, .int .i64 m, .int .i64 r] 35)) (cs := #[.int .i64 0, .int .i64 0]) (by simp)) nq).below HB0.out (by simp)
  have H1 := Lib.hid ((below_drewN (al2 w (.cells #[.int .i64 h, .int .i64 q, .int .i64 m, .int .i64 r] 35) (.cells #[.int .i64 0, .int .i64 0] 45)) nq).trans (HB0.out.mono (by simp; omega)))
  have c0 : w1.cell? ⟨w.heap.size + 1, 0, none⟩ = some (.int .i64 0) := hg.cell 0
  have c1 : w1.cell? ⟨w.heap.size + 1, 1, none⟩ = some (.int .i64 0) := hg.cell 1
  have f0 := hg.frozen 0
  have f1 := hg.frozen 1
  have lt := hg.lt
  have Hg := Lib.hid hg
  clear hg
  unfold fv
  go_wp2
  have K := st2 Hg.out (.int .i64 o1) (.int .i64 o2)
  have k0 := K.cell 0
  have k1 := K.cell 1
  simp only [List.getElem?_toArray, List.getElem?_cons_zero, List.getElem?_cons_succ] at k0 k1
  refine bodyPost_ret (v := .agg #[.int .i64 o1, .int .i64 o2]) (by simp [results, Tryz.results44, go_sem, k0, k1]) rfl ⟨rfl, ?_⟩
  exact below_st2 (g := w.heap.size + 1) H1.out (by omega) H1.out.size (.int .i64 o1) (.int .i64 o2)

set_option maxRecDepth 100000 in
set_option maxHeartbeats 1600000 in
theorem rscore3_any (h q m r : Int) (hh : 0 ≤ h ∧ h ≤ 64) (hq : 0 ≤ q ∧ q ≤ 64) (hm : 0 ≤ m ∧ m ≤ 64) (hr : 0 ≤ r ∧ r ≤ 64) (w : World) :
    Calls Tryz.prog 44 #[.int .u8 3, .agg #[.int .i64 h, .int .i64 q, .int .i64 m, .int .i64 r]] w (FvPost (Rk.score 3 h q m r) w) := by
  obtain ⟨h0, h1⟩ := hh
  obtain ⟨q0, q1⟩ := hq
  obtain ⟨m0, m1⟩ := hm
  obtain ⟨r0, r1⟩ := hr
  show Calls _ _ _ _ (FvPost (Rk.ov (h) (h + m + q)) w)
  have HO0 := Lib.hid (fun W => rby_any (h) (h + m + q) W (by omega) (by omega))
  generalize Rk.ov (h) (h + m + q) = z0 at *
  obtain ⟨o1, o2⟩ := z0
  go_enter Tryz.func44, Tryz.ntmps44
  go_wp2_with fail
  go_quiet (fail)
  go_wp2_with fail
  refine (HO0.out _).mono ?_
  rintro e w1 ⟨rfl, hb0⟩
  have HB0 := Lib.hid (hb0.mono (Nat.le_refl _))
  clear hb0
  have hg : Blk w1 (w.heap.size + 1) 45 #[.int .i64 0, .int .i64 0] := (Blk.drewN (Blk.new_ (w := w.alloc (.cells #[.int .i64 h, .int .i64 q, .int .i64 m, .int .i64 r] 35)) (cs := #[.int .i64 0, .int .i64 0]) (by simp)) nq).below HB0.out (by simp)
  have H1 := Lib.hid ((below_drewN (al2 w (.cells #[.int .i64 h, .int .i64 q, .int .i64 m, .int .i64 r] 35) (.cells #[.int .i64 0, .int .i64 0] 45)) nq).trans (HB0.out.mono (by simp; omega)))
  have c0 : w1.cell? ⟨w.heap.size + 1, 0, none⟩ = some (.int .i64 0) := hg.cell 0
  have c1 : w1.cell? ⟨w.heap.size + 1, 1, none⟩ = some (.int .i64 0) := hg.cell 1
  have f0 := hg.frozen 0
  have f1 := hg.frozen 1
  have lt := hg.lt
  have Hg := Lib.hid hg
  clear hg
  unfold fv
  go_wp2
  have K := st2 Hg.out (.int .i64 o1) (.int .i64 o2)
  have k0 := K.cell 0
  have k1 := K.cell 1
  simp only [List.getElem?_toArray, List.getElem?_cons_zero, List.getElem?_cons_succ] at k0 k1
  refine bodyPost_ret (v := .agg #[.int .i64 o1, .int .i64 o2]) (by simp [results, Tryz.results44, go_sem, k0, k1]) rfl ⟨rfl, ?_⟩
  exact below_st2 (g := w.heap.size + 1) H1.out (by omega) H1.out.size (.int .i64 o1) (.int .i64 o2)

set_option maxRecDepth 100000 in
set_option maxHeartbeats 1600000 in
theorem rscore4_any (h q m r : Int) (hh : 0 ≤ h ∧ h ≤ 64) (hq : 0 ≤ q ∧ q ≤ 64) (hm : 0 ≤ m ∧ m ≤ 64) (hr : 0 ≤ r ∧ r ≤ 64) (w : World) :
    Calls Tryz.prog 44 #[.int .u8 4, .agg #[.int .i64 h, .int .i64 q, .int .i64 m, .int .i64 r]] w (FvPost (Rk.score 4 h q m r) w) := by
  obtain ⟨h0, h1⟩ := hh
  obtain ⟨q0, q1⟩ := hq
  obtain ⟨m0, m1⟩ := hm
  obtain ⟨r0, r1⟩ := hr
  show Calls _ _ _ _ (FvPost (Rk.ov (2 * h) (h + m + h + q)) w)
  have HO0 := Lib.hid (fun W => rby_any (2 * h) (h + m + h + q) W (by omega) (by omega))
  generalize Rk.ov (2 * h) (h + m + h + q) = z0 at *
  obtain ⟨o1, o2⟩ := z0
  go_enter Tryz.func44, Tryz.ntmps44
  go_wp2_with fail
  go_quiet (fail)
  go_wp2_with fail
  refine (HO0.out _).mono ?_
  rintro e w1 ⟨rfl, hb0⟩
  have HB0 := Lib.hid (hb0.mono (Nat.le_refl _))
  clear hb0
  have hg : Blk w1 (w.heap.size + 1) 45 #[.int .i64 0, .int .i64 0] := (Blk.drewN (Blk.new_ (w := w.alloc (.cells #[.int .i64 h, .int .i64 q, .int .i64 m, .int .i64 r] 35)) (cs := #[.int .i64 0, .int .i64 0]) (by simp)) nq).below HB0.out (by simp)
  have H1 := Lib.hid ((below_drewN (al2 w (.cells #[.int .i64 h, .int .i64 q, .int .i64 m, .int .i64 r] 35) (.cells #[.int .i64 0, .int .i64 0] 45)) nq).trans (HB0.out.mono (by simp; omega)))
  have c0 : w1.cell? ⟨w.heap.size + 1, 0, none⟩ = some (.int .i64 0) := hg.cell 0
  have c1 : w1.cell? ⟨w.heap.size + 1, 1, none⟩ = some (.int .i64 0) := hg.cell 1
  have f0 := hg.frozen 0
  have f1 := hg.frozen 1
  have lt := hg.lt
  have Hg := Lib.hid hg
  clear hg
  unfold fv
  go_wp2
  have K := st2 Hg.out (.int .i64 o1) (.int .i64 o2)
  have k0 := K.cell 0
  have k1 := K.cell 1
  simp only [List.getElem?_toArray, List.getElem?_cons_zero, List.getElem?_cons_succ] at k0 k1
  refine bodyPost_ret (v := .agg #[.int .i64 o1, .int .i64 o2]) (by simp [results, Tryz.results44, go_sem, k0, k1]) rfl ⟨rfl, ?_⟩
  exact below_st2 (g := w.heap.size + 1) H1.out (by omega) H1.out.size (.int .i64 o1) (.int .i64 o2)

set_option maxRecDepth 100000 in
set_option maxHeartbeats 1600000 in
theorem rscore5_any (h q m r : Int) (hh : 0 ≤ h ∧ h ≤ 64) (hq : 0 ≤ q ∧ q ≤ 64) (hm : 0 ≤ m ∧ m ≤ 64) (hr : 0 ≤ r ∧ r ≤ 64) (w : World) :
    Calls Tryz.prog 44 #[.int .u8 5, .agg #[.int .i64 h, .int .i64 q, .int .i64 m, .int .i64 r]] w (FvPost (Rk.score 5 h q m r) w) := by
  obtain ⟨h0, h1⟩ := hh
  obtain ⟨q0, q1⟩ := hq
  obtain ⟨m0, m1⟩ := hm
  obtain ⟨r0, r1⟩ := hr
  show Calls _ _ _ _ (FvPost (Rk.bt (Rk.pl (Rk.ov (h) (h + m)) (Rk.ov (h) (h + q))) (Rk.ov (2) (1))) w)
  have HO0 := Lib.hid (fun W => rby_any (h) (h + m) W (by omega) (by omega))
  have HO1 := Lib.hid (fun W => rby_any (h) (h + q) W (by omega) (by omega))
  have HO2 := Lib.hid (fun W => rplus_any (Rk.ov (h) (h + m)) (Rk.ov (h) (h + q)) ((Rk.ov_s (by omega) (by omega)).sm (by decide) (by decide)) ((Rk.ov_s (by omega) (by omega)).sm (by decide) (by decide)) W)
  have HO3 := Lib.hid (fun W => rby_any (2) (1) W (by omega) (by omega))
  have HO4 := Lib.hid (fun W => rover_any (Rk.pl (Rk.ov (h) (h + m)) (Rk.ov (h) (h + q))) (Rk.ov (2) (1)) ((Rk.pl_s (Rk.ov_s (by omega) (by omega)) (Rk.ov_s (by omega) (by omega))).sm (by decide) (by decide)) ((Rk.ov_s (by omega) (by omega)).sm (by decide) (by decide)) W)
  generalize Rk.ov (h) (h + m) = z0 at *
  generalize Rk.ov (h) (h + q) = z1 at *
  generalize Rk.pl z0 z1 = z2 at *
  generalize Rk.ov (2) (1) = z3 at *
  generalize Rk.bt z2 z3 = z4 at *
  obtain ⟨o1, o2⟩ := z4
  go_enter Tryz.func44, Tryz.ntmps44
  go_wp2_with fail
  go_quiet (fail)
  go_wp2_with fail
  refine (HO0.out _).mono ?_
  rintro e w1 ⟨rfl, hb0⟩
  have HB0 := Lib.hid (hb0.mono (Nat.le_refl _))
  clear hb0
  go_wp2_with fail
  refine (HO1.out _).mono ?_
  rintro e w2 ⟨rfl, hb1⟩
  have HB1 := Lib.hid (HB0.out.trans (hb1.mono HB0.out.size))
  clear hb1
  go_wp2_with fail
  refine (HO2.out _).mono ?_
  rintro e w3 ⟨rfl, hb2⟩
  have HB2 := Lib.hid (HB1.out.trans (hb2.mono HB1.out.size))
  clear hb2
  go_wp2_with fail
  refine (HO3.out _).mono ?_
  rintro e w4 ⟨rfl, hb3⟩
  have HB3 := Lib.hid (HB2.out.trans (hb3.mono HB2.out.size))
  clear hb3
  go_wp2_with fail
  refine (HO4.out _).mono ?_
  rintro e w5 ⟨rfl, hb4⟩
  have HB4 := Lib.hid (HB3.out.trans (hb4.mono HB3.out.size))
  clear hb4
  have hg : Blk w5 (w.heap.size + 1) 45 #[.int .i64 0, .int .i64 0] := (Blk.drewN (Blk.new_ (w := w.alloc (.cells #[.int .i64 h, .int .i64 q, .int .i64 m, .int .i64 r] 35)) (cs := #[.int .i64 0, .int .i64 0]) (by simp)) nq).below HB4.out (by simp)
  have H1 := Lib.hid ((below_drewN (al2 w (.cells #[.int .i64 h, .int .i64 q, .int .i64 m, .int .i64 r] 35) (.cells #[.int .i64 0, .int .i64 0] 45)) nq).trans (HB4.out.mono (by simp; omega)))
  have c0 : w5.cell? ⟨w.heap.size + 1, 0, none⟩ = some (.int .i64 0) := hg.cell 0
  have c1 : w5.cell? ⟨w.heap.size + 1, 1, none⟩ = some (.int .i64 0) := hg.cell 1
  have f0 := hg.frozen 0
  have f1 := hg.frozen 1
  have lt := hg.lt
  have Hg := Lib.hid hg
  clear hg
  unfold fv
  go_wp2
  have K := st2 Hg.out (.int .i64 o1) (.int .i64 o2)
  have k0 := K.cell 0
  have k1 := K.cell 1
  simp only [List.getElem?_toArray, List.getElem?_cons_zero, List.getElem?_cons_succ] at k0 k1
  refine bodyPost_ret (v := .agg #[.int .i64 o1, .int .i64 o2]) (by simp [results, Tryz.results44, go_sem, k0, k1]) rfl ⟨rfl, ?_⟩
  exact below_st2 (g := w.heap.size + 1) H1.out (by omega) H1.out.size (.int .i64 o1) (.int .i64 o2)

set_option maxRecDepth 100000 in
set_option maxHeartbeats 1600000 in
theorem rscore6_any (h q m r : Int) (hh : 0 ≤ h ∧ h ≤ 64) (hq : 0 ≤ q ∧ q ≤ 64) (hm : 0 ≤ m ∧ m ≤ 64) (hr : 0 ≤ r ∧ r ≤ 64) (w : World) :
    Calls Tryz.prog 44 #[.int .u8 6, .agg #[.int .i64 h, .int .i64 q, .int .i64 m, .int .i64 r]] w (FvPost (Rk.score 6 h q m r) w) := by
  obtain ⟨h0, h1⟩ := hh
  obtain ⟨q0, q1⟩ := hq
  obtain ⟨m0, m1⟩ := hm
  obtain ⟨r0, r1⟩ := hr
  obtain ⟨p0, p1⟩ := prod_le h0 h0 (X := 64) (Y := 64) (by omega) (by omega)
  obtain ⟨t0, t1⟩ := prod_le (x := 2 * h) (y := h) (by omega) (by omega) (X := 128) (Y := 64) (by omega) (by omega)
  by_cases hz : q + m = 0
  · rw [show Rk.score 6 h q m r = Rk.ov (2 * h * h) 1 from if_pos hz]
    have hzz : (q + m == 0) = true := by simpa using hz
    have HO0 := Lib.hid (fun W => rby_any (2 * h * h) (1) W (by omega) (by omega))
    generalize Rk.ov (2 * h * h) (1) = z0 at *
    obtain ⟨o1, o2⟩ := z0
    go_enter Tryz.func44, Tryz.ntmps44
    go_wp2_with fail
    go_quiet (fail)
    go_wp2_with fail
    refine (HO0.out _).mono ?_
    rintro e w1 ⟨rfl, hb0⟩
    have HB0 := Lib.hid (hb0.mono (Nat.le_refl _))
    clear hb0
    have hg : Blk w1 (w.heap.size + 1) 45 #[.int .i64 0, .int .i64 0] := (Blk.drewN (Blk.new_ (w := w.alloc (.cells #[.int .i64 h, .int .i64 q, .int .i64 m, .int .i64 r] 35)) (cs := #[.int .i64 0, .int .i64 0]) (by simp)) nq).below HB0.out (by simp)
    have H1 := Lib.hid ((below_drewN (al2 w (.cells #[.int .i64 h, .int .i64 q, .int .i64 m, .int .i64 r] 35) (.cells #[.int .i64 0, .int .i64 0] 45)) nq).trans (HB0.out.mono (by simp; omega)))
    have c0 : w1.cell? ⟨w.heap.size + 1, 0, none⟩ = some (.int .i64 0) := hg.cell 0
    have c1 : w1.cell? ⟨w.heap.size + 1, 1, none⟩ = some (.int .i64 0) := hg.cell 1
    have f0 := hg.frozen 0
    have f1 := hg.frozen 1
    have lt := hg.lt
    have Hg := Lib.hid hg
    clear hg
    unfold fv
    go_wp2
    have K := st2 Hg.out (.int .i64 o1) (.int .i64 o2)
    have k0 := K.cell 0
    have k1 := K.cell 1
    simp only [List.getElem?_toArray, List.getElem?_cons_zero, List.getElem?_cons_succ] at k0 k1
    refine bodyPost_ret (v := .agg #[.int .i64 o1, .int .i64 o2]) (by simp [results, Tryz.results44, go_sem, k0, k1]) rfl ⟨rfl, ?_⟩
    exact below_st2 (g := w.heap.size + 1) H1.out (by omega) H1.out.size (.int .i64 o1) (.int .i64 o2)
  · rw [show Rk.score 6 h q m r = Rk.ov (h * h) (q + m) from if_neg hz]
    have hzz : (q + m == 0) = false := by simpa using hz
    have HO0 := Lib.hid (fun W => rby_any (h * h) (q + m) W (by omega) (by omega))
    generalize Rk.ov (h * h) (q + m) = z0 at *
    obtain ⟨o1, o2⟩ := z0
    go_enter Tryz.func44, Tryz.ntmps44
    go_wp2_with fail
    go_quiet (fail)
    go_wp2_with fail
    refine (HO0.out _).mono ?_
    rintro e w1 ⟨rfl, hb0⟩
    have HB0 := Lib.hid (hb0.mono (Nat.le_refl _))
    clear hb0
    have hg : Blk w1 (w.heap.size + 1) 45 #[.int .i64 0, .int .i64 0] := (Blk.drewN (Blk.new_ (w := w.alloc (.cells #[.int .i64 h, .int .i64 q, .int .i64 m, .int .i64 r] 35)) (cs := #[.int .i64 0, .int .i64 0]) (by simp)) nq).below HB0.out (by simp)
    have H1 := Lib.hid ((below_drewN (al2 w (.cells #[.int .i64 h, .int .i64 q, .int .i64 m, .int .i64 r] 35) (.cells #[.int .i64 0, .int .i64 0] 45)) nq).trans (HB0.out.mono (by simp; omega)))
    have c0 : w1.cell? ⟨w.heap.size + 1, 0, none⟩ = some (.int .i64 0) := hg.cell 0
    have c1 : w1.cell? ⟨w.heap.size + 1, 1, none⟩ = some (.int .i64 0) := hg.cell 1
    have f0 := hg.frozen 0
    have f1 := hg.frozen 1
    have lt := hg.lt
    have Hg := Lib.hid hg
    clear hg
    unfold fv
    go_wp2
    have K := st2 Hg.out (.int .i64 o1) (.int .i64 o2)
    have k0 := K.cell 0
    have k1 := K.cell 1
    simp only [List.getElem?_toArray, List.getElem?_cons_zero, List.getElem?_cons_succ] at k0 k1
    refine bodyPost_ret (v := .agg #[.int .i64 o1, .int .i64 o2]) (by simp [results, Tryz.results44, go_sem, k0, k1]) rfl ⟨rfl, ?_⟩
    exact below_st2 (g := w.heap.size + 1) H1.out (by omega) H1.out.size (.int .i64 o1) (.int .i64 o2)

set_option maxRecDepth 100000 in
set_option maxHeartbeats 1600000 in
theorem rscore7_any (h q m r : Int) (hh : 0 ≤ h ∧ h ≤ 64) (hq : 0 ≤ q ∧ q ≤ 64) (hm : 0 ≤ m ∧ m ≤ 64) (hr : 0 ≤ r ∧ r ≤ 64) (w : World) :
    Calls Tryz.prog 44 #[.int .u8 7, .agg #[.int .i64 h, .int .i64 q, .int .i64 m, .int .i64 r]] w (FvPost (Rk.score 7 h q m r) w) := by
  obtain ⟨h0, h1⟩ := hh
  obtain ⟨q0, q1⟩ := hq
  obtain ⟨m0, m1⟩ := hm
  obtain ⟨r0, r1⟩ := hr
  show Calls _ _ _ _ (FvPost (Rk.mi (Rk.ov (h) (1)) (Rk.ov (q) (q + r + 1))) w)
  have HO0 := Lib.hid (fun W => rby_any (h) (1) W (by omega) (by omega))
  have HO1 := Lib.hid (fun W => rby_any (q) (q + r + 1) W (by omega) (by omega))
  have HO2 := Lib.hid (fun W => rless_any (Rk.ov (h) (1)) (Rk.ov (q) (q + r + 1)) ((Rk.ov_s (by omega) (by omega)).sm (by decide) (by decide)) ((Rk.ov_s (by omega) (by omega)).sm (by decide) (by decide)) W)
  generalize Rk.ov (h) (1) = z0 at *
  generalize Rk.ov (q) (q + r + 1) = z1 at *
  generalize Rk.mi z0 z1 = z2 at *
  obtain ⟨o1, o2⟩ := z2
  go_enter Tryz.func44, Tryz.ntmps44
  go_wp2_with fail
  go_quiet (fail)
  go_wp2_with fail
  refine (HO0.out _).mono ?_
  rintro e w1 ⟨rfl, hb0⟩
  have HB0 := Lib.hid (hb0.mono (Nat.le_refl _))
  clear hb0
  go_wp2_with fail
  refine (HO1.out _).mono ?_
  rintro e w2 ⟨rfl, hb1⟩
  have HB1 := Lib.hid (HB0.out.trans (hb1.mono HB0.out.size))
  clear hb1
  go_wp2_with fail
  refine (HO2.out _).mono ?_
  rintro e w3 ⟨rfl, hb2⟩
  have HB2 := Lib.hid (HB1.out.trans (hb2.mono HB1.out.size))
  clear hb2
  have hg : Blk w3 (w.heap.size + 1) 45 #[.int .i64 0, .int .i64 0] := (Blk.drewN (Blk.new_ (w := w.alloc (.cells #[.int .i64 h, .int .i64 q, .int .i64 m, .int .i64 r] 35)) (cs := #[.int .i64 0, .int .i64 0]) (by simp)) nq).below HB2.out (by simp)
  have H1 := Lib.hid ((below_drewN (al2 w (.cells #[.int .i64 h, .int .i64 q, .int .i64 m, .int .i64 r] 35) (.cells #[.int .i64 0, .int .i64 0] 45)) nq).trans (HB2.out.mono (by simp; omega)))
  have c0 : w3.cell? ⟨w.heap.size + 1, 0, none⟩ = some (.int .i64 0) := hg.cell 0
  have c1 : w3.cell? ⟨w.heap.size + 1, 1, none⟩ = some (.int .i64 0) := hg.cell 1
  have f0 := hg.frozen 0
  have f1 := hg.frozen 1
  have lt := hg.lt
  have Hg := Lib.hid hg
  clear hg
  unfold fv
  go_wp2
  have K := st2 Hg.out (.int .i64 o1) (.int .i64 o2)
  have k0 := K.cell 0
  have k1 := K.cell 1
  simp only [List.getElem?_toArray, List.getElem?_cons_zero, List.getElem?_cons_succ] at k0 k1
  refine bodyPost_ret (v := .agg #[.int .i64 o1, .int .i64 o2]) (by simp [results, Tryz.results44, go_sem, k0, k1]) rfl ⟨rfl, ?_⟩
  exact below_st2 (g := w.heap.size + 1) H1.out (by omega) H1.out.size (.int .i64 o1) (.int .i64 o2)

set_option maxRecDepth 100000 in
set_option maxHeartbeats 1600000 in
theorem rscore8_any (h q m r : Int) (hh : 0 ≤ h ∧ h ≤ 64) (hq : 0 ≤ q ∧ q ≤ 64) (hm : 0 ≤ m ∧ m ≤ 64) (hr : 0 ≤ r ∧ r ≤ 64) (w : World) :
    Calls Tryz.prog 44 #[.int .u8 8, .agg #[.int .i64 h, .int .i64 q, .int .i64 m, .int .i64 r]] w (FvPost (Rk.score 8 h q m r) w) := by
  obtain ⟨h0, h1⟩ := hh
  obtain ⟨q0, q1⟩ := hq
  obtain ⟨m0, m1⟩ := hm
  obtain ⟨r0, r1⟩ := hr
  show Calls _ _ _ _ (FvPost (Rk.ov (h) (h + q)) w)
  have HO0 := Lib.hid (fun W => rby_any (h) (h + q) W (by omega) (by omega))
  generalize Rk.ov (h) (h + q) = z0 at *
  obtain ⟨o1, o2⟩ := z0
  go_enter Tryz.func44, Tryz.ntmps44
  go_wp2_with fail
  go_quiet (fail)
  go_wp2_with fail
  refine (HO0.out _).mono ?_
  rintro e w1 ⟨rfl, hb0⟩
  have HB0 := Lib.hid (hb0.mono (Nat.le_refl _))
  clear hb0
  have hg : Blk w1 (w.heap.size + 1) 45 #[.int .i64 0, .int .i64 0] := (Blk.drewN (Blk.new_ (w := w.alloc (.cells #[.int .i64 h, .int .i64 q, .int .i64 m, .int .i64 r] 35)) (cs := #[.int .i64 0, .int .i64 0]) (by simp)) nq).below HB0.out (by simp)
  have H1 := Lib.hid ((below_drewN (al2 w (.cells #[.int .i64 h, .int .i64 q, .int .i64 m, .int .i64 r] 35) (.cells #[.int .i64 0, .int .i64 0] 45)) nq).trans (HB0.out.mono (by simp; omega)))
  have c0 : w1.cell? ⟨w.heap.size + 1, 0, none⟩ = some (.int .i64 0) := hg.cell 0
  have c1 : w1.cell? ⟨w.heap.size + 1, 1, none⟩ = some (.int .i64 0) := hg.cell 1
  have f0 := hg.frozen 0
  have f1 := hg.frozen 1
  have lt := hg.lt
  have Hg := Lib.hid hg
  clear hg
  unfold fv
  go_wp2
  have K := st2 Hg.out (.int .i64 o1) (.int .i64 o2)
  have k0 := K.cell 0
  have k1 := K.cell 1
  simp only [List.getElem?_toArray, List.getElem?_cons_zero, List.getElem?_cons_succ] at k0 k1
  refine bodyPost_ret (v := .agg #[.int .i64 o1, .int .i64 o2]) (by simp [results, Tryz.results44, go_sem, k0, k1]) rfl ⟨rfl, ?_⟩
  exact below_st2 (g := w.heap.size + 1) H1.out (by omega) H1.out.size (.int .i64 o1) (.int .i64 o2)

set_option maxRecDepth 100000 in
set_option maxHeartbeats 1600000 in
theorem rscore9_any (h q m r : Int) (hh : 0 ≤ h ∧ h ≤ 64) (hq : 0 ≤ q ∧ q ≤ 64) (hm : 0 ≤ m ∧ m ≤ 64) (hr : 0 ≤ r ∧ r ≤ 64) (w : World) :
    Calls Tryz.prog 44 #[.int .u8 9, .agg #[.int .i64 h, .int .i64 q, .int .i64 m, .int .i64 r]] w (FvPost (Rk.score 9 h q m r) w) := by
  obtain ⟨h0, h1⟩ := hh
  obtain ⟨q0, q1⟩ := hq
  obtain ⟨m0, m1⟩ := hm
  obtain ⟨r0, r1⟩ := hr
  show Calls _ _ _ _ (FvPost (Rk.pos (Rk.mi (Rk.ov (h) (h + m)) (Rk.ov (q) (q + r)))) w)
  have HS := Lib.hid (show Rk.Fb 2000000 1000000 (Rk.mi (Rk.ov (h) (h + m)) (Rk.ov (q) (q + r))) from (Rk.mi_s (Rk.ov_s (by omega) (by omega)) (Rk.ov_s (by omega) (by omega))))
  have HO0 := Lib.hid (fun W => rby_any (h) (h + m) W (by omega) (by omega))
  have HO1 := Lib.hid (fun W => rby_any (q) (q + r) W (by omega) (by omega))
  have HO2 := Lib.hid (fun W => rless_any (Rk.ov (h) (h + m)) (Rk.ov (q) (q + r)) ((Rk.ov_s (by omega) (by omega)).sm (by decide) (by decide)) ((Rk.ov_s (by omega) (by omega)).sm (by decide) (by decide)) W)
  generalize Rk.ov (h) (h + m) = z0 at *
  generalize Rk.ov (q) (q + r) = z1 at *
  generalize Rk.mi z0 z1 = z2 at *
  obtain ⟨o1, o2⟩ := z2
  obtain ⟨bo1, bo2⟩ : -2000000 ≤ o1 ∧ o1 ≤ 2000000 := by have h : o1.natAbs ≤ 2000000 := HS.out.1; omega
  obtain ⟨p1, hp1⟩ : ∃ p1, p1 = max o1 (-o1) := ⟨_, rfl⟩
  have Hp1 := Lib.hid hp1
  have hp2 : o1 < 0 ∧ p1 = -o1 ∨ ¬ o1 < 0 ∧ p1 = o1 := by omega
  clear hp1
  have Hpost : Hid (∀ e w', FvPost (p1, o2) w e w' → FvPost (Rk.pos (o1, o2)) w e w') := by
    intro e w' hh
    rw [Hp1.out] at hh
    exact hh
  suffices hmain : Calls Tryz.prog 44 #[.int .u8 9, .agg #[.int .i64 h, .int .i64 q, .int .i64 m, .int .i64 r]] w (FvPost (p1, o2) w) from hmain.mono Hpost.out
  clear Hpost Hp1 HS
  rcases hp2 with ⟨ho, rfl⟩ | ⟨ho, rfl⟩
  · skip
    go_enter Tryz.func44, Tryz.ntmps44
    go_wp2_with fail
    go_quiet (fail)
    go_wp2_with fail
    refine (HO0.out _).mono ?_
    rintro e w1 ⟨rfl, hb0⟩
    have HB0 := Lib.hid (hb0.mono (Nat.le_refl _))
    clear hb0
    go_wp2_with fail
    refine (HO1.out _).mono ?_
    rintro e w2 ⟨rfl, hb1⟩
    have HB1 := Lib.hid (HB0.out.trans (hb1.mono HB0.out.size))
    clear hb1
    go_wp2_with fail
    refine (HO2.out _).mono ?_
    rintro e w3 ⟨rfl, hb2⟩
    have HB2 := Lib.hid (HB1.out.trans (hb2.mono HB1.out.size))
    clear hb2
    have hg : Blk w3 (w.heap.size + 1) 45 #[.int .i64 0, .int .i64 0] := (Blk.drewN (Blk.new_ (w := w.alloc (.cells #[.int .i64 h, .int .i64 q, .int .i64 m, .int .i64 r] 35)) (cs := #[.int .i64 0, .int .i64 0]) (by simp)) nq).below HB2.out (by simp)
    have H1 := Lib.hid ((below_drewN (al2 w (.cells #[.int .i64 h, .int .i64 q, .int .i64 m, .int .i64 r] 35) (.cells #[.int .i64 0, .int .i64 0] 45)) nq).trans (HB2.out.mono (by simp; omega)))
    have c0 : w3.cell? ⟨w.heap.size + 1, 0, none⟩ = some (.int .i64 0) := hg.cell 0
    have c1 : w3.cell? ⟨w.heap.size + 1, 1, none⟩ = some (.int .i64 0) := hg.cell 1
    have f0 := hg.frozen 0
    have f1 := hg.frozen 1
    have lt := hg.lt
    have Hg := Lib.hid hg
    clear hg
    unfold fv
    go_wp2
    have K := (st2 Hg.out (.int .i64 (-o1)) (.int .i64 o2)).alloc (.cells #[.int .i64 (-o1), .int .i64 o2] 45)
    have k0 := K.cell 0
    have k1 := K.cell 1
    simp only [List.getElem?_toArray, List.getElem?_cons_zero, List.getElem?_cons_succ] at k0 k1
    refine bodyPost_ret (v := .agg #[.int .i64 (-o1), .int .i64 o2]) (by simp [results, Tryz.results44, go_sem, k0, k1]) rfl ⟨rfl, ?_⟩
    exact al (below_st2 (g := w.heap.size + 1) H1.out (by omega) H1.out.size (.int .i64 (-o1)) (.int .i64 o2)) (Nat.le_refl _) _
  · skip
    go_enter Tryz.func44, Tryz.ntmps44
    go_wp2_with fail
    go_quiet (fail)
    go_wp2_with fail
    refine (HO0.out _).mono ?_
    rintro e w1 ⟨rfl, hb0⟩
    have HB0 := Lib.hid (hb0.mono (Nat.le_refl _))
    clear hb0
    go_wp2_with fail
    refine (HO1.out _).mono ?_
    rintro e w2 ⟨rfl, hb1⟩
    have HB1 := Lib.hid (HB0.out.trans (hb1.mono HB0.out.size))
    clear hb1
    go_wp2_with fail
    refine (HO2.out _).mono ?_
    rintro e w3 ⟨rfl, hb2⟩
    have HB2 := Lib.hid (HB1.out.trans (hb2.mono HB1.out.size))
    clear hb2
    have hg : Blk w3 (w.heap.size + 1) 45 #[.int .i64 0, .int .i64 0] := (Blk.drewN (Blk.new_ (w := w.alloc (.cells #[.int .i64 h, .int .i64 q, .int .i64 m, .int .i64 r] 35)) (cs := #[.int .i64 0, .int .i64 0]) (by simp)) nq).below HB2.out (by simp)
    have H1 := Lib.hid ((below_drewN (al2 w (.cells #[.int .i64 h, .int .i64 q, .int .i64 m, .int .i64 r] 35) (.cells #[.int .i64 0, .int .i64 0] 45)) nq).trans (HB2.out.mono (by simp; omega)))
    have c0 : w3.cell? ⟨w.heap.size + 1, 0, none⟩ = some (.int .i64 0) := hg.cell 0
    have c1 : w3.cell? ⟨w.heap.size + 1, 1, none⟩ = some (.int .i64 0) := hg.cell 1
    have f0 := hg.frozen 0
    have f1 := hg.frozen 1
    have lt := hg.lt
    have Hg := Lib.hid hg
    clear hg
    unfold fv
    go_wp2
    have K := (st2 Hg.out (.int .i64 (p1)) (.int .i64 o2)).alloc (.cells #[.int .i64 (p1), .int .i64 o2] 45)
    have k0 := K.cell 0
    have k1 := K.cell 1
    simp only [List.getElem?_toArray, List.getElem?_cons_zero, List.getElem?_cons_succ] at k0 k1
    refine bodyPost_ret (v := .agg #[.int .i64 (p1), .int .i64 o2]) (by simp [results, Tryz.results44, go_sem, k0, k1]) rfl ⟨rfl, ?_⟩
    exact al (below_st2 (g := w.heap.size + 1) H1.out (by omega) H1.out.size (.int .i64 (p1)) (.int .i64 o2)) (Nat.le_refl _) _

set_option maxRecDepth 100000 in
set_option maxHeartbeats 1600000 in
theorem rscore10_any (h q m r : Int) (hh : 0 ≤ h ∧ h ≤ 64) (hq : 0 ≤ q ∧ q ≤ 64) (hm : 0 ≤ m ∧ m ≤ 64) (hr : 0 ≤ r ∧ r ≤ 64) (w : World) :
    Calls Tryz.prog 44 #[.int .u8 10, .agg #[.int .i64 h, .int .i64 q, .int .i64 m, .int .i64 r]] w (FvPost (Rk.score 10 h q m r) w) := by
  obtain ⟨h0, h1⟩ := hh
  obtain ⟨q0, q1⟩ := hq
  obtain ⟨m0, m1⟩ := hm
  obtain ⟨r0, r1⟩ := hr
  show Calls _ _ _ _ (FvPost (Rk.mi (Rk.ov (h) (1)) (Rk.wong q)) w)
  by_cases q2 : q ≤ 2
  · rw [show Rk.wong q = Rk.ov (q) (1) from if_pos q2]
    have HO0 := Lib.hid (fun W => rby_any (q) (1) W (by omega) (by omega))
    have HH := Lib.hid (fun W => rby_any (h) (1) W (by omega) (by omega))
    have HL := Lib.hid (fun W => rless_any (Rk.ov (h) (1)) (Rk.ov (q) (1)) ((Rk.ov_s (by omega) (by omega)).sm (by decide) (by decide)) ((Rk.ov_fb (N := 3000) (D := 1000) (by omega) (by omega) (by omega)).sm (by decide) (by decide)) W)
    generalize Rk.mi (Rk.ov (h) (1)) (Rk.ov (q) (1)) = z at *
    obtain ⟨o1, o2⟩ := z
    generalize Rk.ov (h) (1) = zh at *
    obtain ⟨j1, j2⟩ := zh
    generalize Rk.ov (q) (1) = y0 at *
    obtain ⟨u0, v0⟩ := y0
    go_enter Tryz.func44, Tryz.ntmps44
    go_wp2_with fail
    go_quiet (fail)
    go_wp2_with fail
    refine (HO0.out _).mono ?_
    rintro e w1 ⟨rfl, hb⟩
    unfold fv
    have hg1 : Blk w1 (w.heap.size + 1) 45 #[.int .i64 0, .int .i64 0] := (Blk.drewN (Blk.new_ (w := w.alloc (.cells #[.int .i64 h, .int .i64 q, .int .i64 m, .int .i64 r] 35)) (cs := #[.int .i64 0, .int .i64 0]) (by simp)) nq).below hb (by simp)
    have B1 : Below w.heap.size w w1 := (below_drewN (al2 w (.cells #[.int .i64 h, .int .i64 q, .int .i64 m, .int .i64 r] 35) (.cells #[.int .i64 0, .int .i64 0] 45)) nq).trans (hb.mono (by simp; omega))
    obtain ⟨va, hva⟩ : ∃ va, va = w1.alloc (.cells #[.int .i64 u0, .int .i64 v0] 45) := ⟨_, rfl⟩
    have hga : Blk va (w.heap.size + 1) 45 #[.int .i64 0, .int .i64 0] := by rw [hva]; exact hg1.alloc _
    have hta : Blk va w1.heap.size 45 #[.int .i64 u0, .int .i64 v0] := by rw [hva]; exact Blk.new _ _ _
    have Ba : Below w.heap.size w va := by rw [hva]; exact al B1 (Nat.le_refl _) _
    have hgt : w.heap.size + 1 < w1.heap.size := hg1.lt
    have HVa := Lib.hid hva
    have HGa := Lib.hid hga
    have HTa := Lib.hid hta
    have HBa := Lib.hid Ba
    clear hva hga hta Ba B1 hg1 hb
    have k120 := HTa.out.cell 0
    have k121 := HTa.out.cell 1
    simp only [List.getElem?_toArray, List.getElem?_cons_zero, List.getElem?_cons_succ] at k120 k121
    have l12 := HTa.out.lt
    have lg := HGa.out.lt
    go_wp2_with fail
    rw [← HVa.out]
    go_region_with (first
      | (go_at_call 53; refine (HH.out _).mono ?_; rintro e wx ⟨rfl, hbx⟩; unfold fv; have ix0 := (hbx.cell (p := ⟨w1.heap.size, 0, none⟩) l12).trans k120; have ix1 := (hbx.cell (p := ⟨w1.heap.size, 1, none⟩) l12).trans k121; have HBX := Lib.hid (show Below va.heap.size va wx from ⟨hbx.os, hbx.tape, hbx.output, hbx.size, hbx.block⟩); clear hbx)
      | (go_at_call 94; refine (HL.out _).mono ?_; rintro e wy ⟨rfl, hby⟩; unfold fv; have BY : Below va.heap.size va wy := HBX.out.trans (hby.mono HBX.out.size); have hgy := HGa.out.below BY lg; have y0 := hgy.cell 0; have y1 := hgy.cell 1; have yf0 := hgy.frozen 0; have yf1 := hgy.frozen 1; have HGY := Lib.hid hgy; have H1 := Lib.hid (HBa.out.trans (BY.mono HBa.out.size)); clear BY hgy hby))
    all_goals
      go_wp2
      have K := st2 HGY.out (.int .i64 o1) (.int .i64 o2)
      have k0 := K.cell 0
      have k1 := K.cell 1
      simp only [List.getElem?_toArray, List.getElem?_cons_zero, List.getElem?_cons_succ] at k0 k1
      refine bodyPost_ret (v := .agg #[.int .i64 o1, .int .i64 o2]) (by simp [results, Tryz.results44, go_sem, k0, k1]) rfl ⟨rfl, ?_⟩
      exact below_st2 (g := w.heap.size + 1) H1.out (by omega) H1.out.size (.int .i64 o1) (.int .i64 o2)
  · by_cases q10 : q ≤ 10
    · rw [Rk.wong_mid (by omega) q10]
      have HO0 := Lib.hid (fun W => rby_any (q) (1) W (by omega) (by omega))
      have HO1 := Lib.hid (fun W => rby_any (18 + q) (10) W (by omega) (by omega))
      have HH := Lib.hid (fun W => rby_any (h) (1) W (by omega) (by omega))
      have HL := Lib.hid (fun W => rless_any (Rk.ov (h) (1)) (Rk.ov (18 + q) (10)) ((Rk.ov_s (by omega) (by omega)).sm (by decide) (by decide)) ((Rk.ov_fb (N := 3000) (D := 1000) (by omega) (by omega) (by omega)).sm (by decide) (by decide)) W)
      generalize Rk.mi (Rk.ov (h) (1)) (Rk.ov (18 + q) (10)) = z at *
      obtain ⟨o1, o2⟩ := z
      generalize Rk.ov (h) (1) = zh at *
      obtain ⟨j1, j2⟩ := zh
      generalize Rk.ov (q) (1) = y0 at *
      obtain ⟨u0, v0⟩ := y0
      generalize Rk.ov (18 + q) (10) = y1 at *
      obtain ⟨u1, v1⟩ := y1
      go_enter Tryz.func44, Tryz.ntmps44
      go_wp2_with fail
      go_quiet (fail)
      go_wp2_with fail
      refine (HO0.out _).mono ?_
      rintro e w1 ⟨rfl, hb⟩
      unfold fv
      have hg1 : Blk w1 (w.heap.size + 1) 45 #[.int .i64 0, .int .i64 0] := (Blk.drewN (Blk.new_ (w := w.alloc (.cells #[.int .i64 h, .int .i64 q, .int .i64 m, .int .i64 r] 35)) (cs := #[.int .i64 0, .int .i64 0]) (by simp)) nq).below hb (by simp)
      have B1 : Below w.heap.size w w1 := (below_drewN (al2 w (.cells #[.int .i64 h, .int .i64 q, .int .i64 m, .int .i64 r] 35) (.cells #[.int .i64 0, .int .i64 0] 45)) nq).trans (hb.mono (by simp; omega))
      obtain ⟨va, hva⟩ : ∃ va, va = w1.alloc (.cells #[.int .i64 u0, .int .i64 v0] 45) := ⟨_, rfl⟩
      have hga : Blk va (w.heap.size + 1) 45 #[.int .i64 0, .int .i64 0] := by rw [hva]; exact hg1.alloc _
      have hta : Blk va w1.heap.size 45 #[.int .i64 u0, .int .i64 v0] := by rw [hva]; exact Blk.new _ _ _
      have Ba : Below w.heap.size w va := by rw [hva]; exact al B1 (Nat.le_refl _) _
      have hgt : w.heap.size + 1 < w1.heap.size := hg1.lt
      have HVa := Lib.hid hva
      have HGa := Lib.hid hga
      have HTa := Lib.hid hta
      have HBa := Lib.hid Ba
      clear hva hga hta Ba B1 hg1 hb
      go_wp2_with fail
      rw [← HVa.out]
      refine (HO1.out _).mono ?_
      rintro e wa ⟨rfl, hb⟩
      unfold fv
      have hgX := HGa.out.below hb HGa.out.lt
      have htX := HTa.out.below hb HTa.out.lt
      have BX := HBa.out.trans (hb.mono HBa.out.size)
      obtain ⟨vb, hvb⟩ : ∃ vb, vb = (wa.setCell ⟨w1.heap.size, 0, none⟩ (.int .i64 u1)).setCell ⟨w1.heap.size, 1, none⟩ (.int .i64 v1) := ⟨_, rfl⟩
      have hgb : Blk vb (w.heap.size + 1) 45 #[.int .i64 0, .int .i64 0] := by rw [hvb]; exact (hgX.far (by simp; omega) _).far (by simp; omega) _
      have htb : Blk vb w1.heap.size 45 #[.int .i64 u1, .int .i64 v1] := by rw [hvb]; exact st2 htX _ _
      have Bb : Below w.heap.size w vb := by rw [hvb]; exact below_st2 (g := w1.heap.size) BX (by omega) BX.size _ _
      have sf0 := htX.frozen 0
      have sf1 := htX.frozen 1
      have sc0 := htX.cell 0
      have sc1 := htX.cell 1
      simp only [List.getElem?_toArray, List.getElem?_cons_zero, List.getElem?_cons_succ] at sc0 sc1
      have HVb := Lib.hid hvb
      have HGb := Lib.hid hgb
      have HTb := Lib.hid htb
      have HBb := Lib.hid Bb
      clear hgX htX BX hvb hgb htb Bb hb
      have k120 := HTb.out.cell 0
      have k121 := HTb.out.cell 1
      simp only [List.getElem?_toArray, List.getElem?_cons_zero, List.getElem?_cons_succ] at k120 k121
      have l12 := HTb.out.lt
      have lg := HGb.out.lt
      go_wp2_with fail
      rw [← HVb.out]
      go_region_with (first
        | (go_at_call 53; refine (HH.out _).mono ?_; rintro e wx ⟨rfl, hbx⟩; unfold fv; have ix0 := (hbx.cell (p := ⟨w1.heap.size, 0, none⟩) l12).trans k120; have ix1 := (hbx.cell (p := ⟨w1.heap.size, 1, none⟩) l12).trans k121; have HBX := Lib.hid (show Below vb.heap.size vb wx from ⟨hbx.os, hbx.tape, hbx.output, hbx.size, hbx.block⟩); clear hbx)
        | (go_at_call 94; refine (HL.out _).mono ?_; rintro e wy ⟨rfl, hby⟩; unfold fv; have BY : Below vb.heap.size vb wy := HBX.out.trans (hby.mono HBX.out.size); have hgy := HGb.out.below BY lg; have y0 := hgy.cell 0; have y1 := hgy.cell 1; have yf0 := hgy.frozen 0; have yf1 := hgy.frozen 1; have HGY := Lib.hid hgy; have H1 := Lib.hid (HBb.out.trans (BY.mono HBb.out.size)); clear BY hgy hby))
      all_goals
        go_wp2
        have K := st2 HGY.out (.int .i64 o1) (.int .i64 o2)
        have k0 := K.cell 0
        have k1 := K.cell 1
        simp only [List.getElem?_toArray, List.getElem?_cons_zero, List.getElem?_cons_succ] at k0 k1
        refine bodyPost_ret (v := .agg #[.int .i64 o1, .int .i64 o2]) (by simp [results, Tryz.results44, go_sem, k0, k1]) rfl ⟨rfl, ?_⟩
        exact below_st2 (g := w.heap.size + 1) H1.out (by omega) H1.out.size (.int .i64 o1) (.int .i64 o2)
    · rw [Rk.wong_high (by omega) (by omega)]
      have HO0 := Lib.hid (fun W => rby_any (q) (1) W (by omega) (by omega))
      have HO1 := Lib.hid (fun W => rby_any (18 + q) (10) W (by omega) (by omega))
      have HO2 := Lib.hid (fun W => rby_any (2790 + q) (1000) W (by omega) (by omega))
      have HH := Lib.hid (fun W => rby_any (h) (1) W (by omega) (by omega))
      have HL := Lib.hid (fun W => rless_any (Rk.ov (h) (1)) (Rk.ov (2790 + q) (1000)) ((Rk.ov_s (by omega) (by omega)).sm (by decide) (by decide)) ((Rk.ov_fb (N := 3000) (D := 1000) (by omega) (by omega) (by omega)).sm (by decide) (by decide)) W)
      generalize Rk.mi (Rk.ov (h) (1)) (Rk.ov (2790 + q) (1000)) = z at *
      obtain ⟨o1, o2⟩ := z
      generalize Rk.ov (h) (1) = zh at *
      obtain ⟨j1, j2⟩ := zh
      generalize Rk.ov (q) (1) = y0 at *
      obtain ⟨u0, v0⟩ := y0
      generalize Rk.ov (18 + q) (10) = y1 at *
      obtain ⟨u1, v1⟩ := y1
      generalize Rk.ov (2790 + q) (1000) = y2 at *
      obtain ⟨u2, v2⟩ := y2
      go_enter Tryz.func44, Tryz.ntmps44
      go_wp2_with fail
      go_quiet (fail)
      go_wp2_with fail
      refine (HO0.out _).mono ?_
      rintro e w1 ⟨rfl, hb⟩
      unfold fv
      have hg1 : Blk w1 (w.heap.size + 1) 45 #[.int .i64 0, .int .i64 0] := (Blk.drewN (Blk.new_ (w := w.alloc (.cells #[.int .i64 h, .int .i64 q, .int .i64 m, .int .i64 r] 35)) (cs := #[.int .i64 0, .int .i64 0]) (by simp)) nq).below hb (by simp)
      have B1 : Below w.heap.size w w1 := (below_drewN (al2 w (.cells #[.int .i64 h, .int .i64 q, .int .i64 m, .int .i64 r] 35) (.cells #[.int .i64 0, .int .i64 0] 45)) nq).trans (hb.mono (by simp; omega))
      obtain ⟨va, hva⟩ : ∃ va, va = w1.alloc (.cells #[.int .i64 u0, .int .i64 v0] 45) := ⟨_, rfl⟩
      have hga : Blk va (w.heap.size + 1) 45 #[.int .i64 0, .int .i64 0] := by rw [hva]; exact hg1.alloc _
      have hta : Blk va w1.heap.size 45 #[.int .i64 u0, .int .i64 v0] := by rw [hva]; exact Blk.new _ _ _
      have Ba : Below w.heap.size w va := by rw [hva]; exact al B1 (Nat.le_refl _) _
      have hgt : w.heap.size + 1 < w1.heap.size := hg1.lt
      have HVa := Lib.hid hva
      have HGa := Lib.hid hga
      have HTa := Lib.hid hta
      have HBa := Lib.hid Ba
      clear hva hga hta Ba B1 hg1 hb
      go_wp2_with fail
      rw [← HVa.out]
      refine (HO1.out _).mono ?_
      rintro e wa ⟨rfl, hb⟩
      unfold fv
      have hgX := HGa.out.below hb HGa.out.lt
      have htX := HTa.out.below hb HTa.out.lt
      have BX := HBa.out.trans (hb.mono HBa.out.size)
      obtain ⟨vb, hvb⟩ : ∃ vb, vb = (wa.setCell ⟨w1.heap.size, 0, none⟩ (.int .i64 u1)).setCell ⟨w1.heap.size, 1, none⟩ (.int .i64 v1) := ⟨_, rfl⟩
      have hgb : Blk vb (w.heap.size + 1) 45 #[.int .i64 0, .int .i64 0] := by rw [hvb]; exact (hgX.far (by simp; omega) _).far (by simp; omega) _
      have htb : Blk vb w1.heap.size 45 #[.int .i64 u1, .int .i64 v1] := by rw [hvb]; exact st2 htX _ _
      have Bb : Below w.heap.size w vb := by rw [hvb]; exact below_st2 (g := w1.heap.size) BX (by omega) BX.size _ _
      have sf0 := htX.frozen 0
      have sf1 := htX.frozen 1
      have sc0 := htX.cell 0
      have sc1 := htX.cell 1
      simp only [List.getElem?_toArray, List.getElem?_cons_zero, List.getElem?_cons_succ] at sc0 sc1
      have HVb := Lib.hid hvb
      have HGb := Lib.hid hgb
      have HTb := Lib.hid htb
      have HBb := Lib.hid Bb
      clear hgX htX BX hvb hgb htb Bb hb
      go_wp2_with fail
      rw [← HVb.out]
      refine (HO2.out _).mono ?_
      rintro e wb ⟨rfl, hb⟩
      unfold fv
      have hgX := HGb.out.below hb HGb.out.lt
      have htX := HTb.out.below hb HTb.out.lt
      have BX := HBb.out.trans (hb.mono HBb.out.size)
      obtain ⟨vc, hvc⟩ : ∃ vc, vc = (wb.setCell ⟨w1.heap.size, 0, none⟩ (.int .i64 u2)).setCell ⟨w1.heap.size, 1, none⟩ (.int .i64 v2) := ⟨_, rfl⟩
      have hgc : Blk vc (w.heap.size + 1) 45 #[.int .i64 0, .int .i64 0] := by rw [hvc]; exact (hgX.far (by simp; omega) _).far (by simp; omega) _
      have htc : Blk vc w1.heap.size 45 #[.int .i64 u2, .int .i64 v2] := by rw [hvc]; exact st2 htX _ _
      have Bc : Below w.heap.size w vc := by rw [hvc]; exact below_st2 (g := w1.heap.size) BX (by omega) BX.size _ _
      have sf0 := htX.frozen 0
      have sf1 := htX.frozen 1
      have sc0 := htX.cell 0
      have sc1 := htX.cell 1
      simp only [List.getElem?_toArray, List.getElem?_cons_zero, List.getElem?_cons_succ] at sc0 sc1
      have HVc := Lib.hid hvc
      have HGc := Lib.hid hgc
      have HTc := Lib.hid htc
      have HBc := Lib.hid Bc
      clear hgX htX BX hvc hgc htc Bc hb
      have k120 := HTc.out.cell 0
      have k121 := HTc.out.cell 1
      simp only [List.getElem?_toArray, List.getElem?_cons_zero, List.getElem?_cons_succ] at k120 k121
      have l12 := HTc.out.lt
      have lg := HGc.out.lt
      go_wp2_with fail
      rw [← HVc.out]
      go_region_with (first
        | (go_at_call 53; refine (HH.out _).mono ?_; rintro e wx ⟨rfl, hbx⟩; unfold fv; have ix0 := (hbx.cell (p := ⟨w1.heap.size, 0, none⟩) l12).trans k120; have ix1 := (hbx.cell (p := ⟨w1.heap.size, 1, none⟩) l12).trans k121; have HBX := Lib.hid (show Below vc.heap.size vc wx from ⟨hbx.os, hbx.tape, hbx.output, hbx.size, hbx.block⟩); clear hbx)
        | (go_at_call 94; refine (HL.out _).mono ?_; rintro e wy ⟨rfl, hby⟩; unfold fv; have BY : Below vc.heap.size vc wy := HBX.out.trans (hby.mono HBX.out.size); have hgy := HGc.out.below BY lg; have y0 := hgy.cell 0; have y1 := hgy.cell 1; have yf0 := hgy.frozen 0; have yf1 := hgy.frozen 1; have HGY := Lib.hid hgy; have H1 := Lib.hid (HBc.out.trans (BY.mono HBc.out.size)); clear BY hgy hby))
      all_goals
        go_wp2
        have K := st2 HGY.out (.int .i64 o1) (.int .i64 o2)
        have k0 := K.cell 0
        have k1 := K.cell 1
        simp only [List.getElem?_toArray, List.getElem?_cons_zero, List.getElem?_cons_succ] at k0 k1
        refine bodyPost_ret (v := .agg #[.int .i64 o1, .int .i64 o2]) (by simp [results, Tryz.results44, go_sem, k0, k1]) rfl ⟨rfl, ?_⟩
        exact below_st2 (g := w.heap.size + 1) H1.out (by omega) H1.out.size (.int .i64 o1) (.int .i64 o2)

set_option maxRecDepth 100000 in
set_option maxHeartbeats 1600000 in
theorem rscore11_any (h q m r : Int) (hh : 0 ≤ h ∧ h ≤ 64) (hq : 0 ≤ q ∧ q ≤ 64) (hm : 0 ≤ m ∧ m ≤ 64) (hr : 0 ≤ r ∧ r ≤ 64) (w : World) :
    Calls Tryz.prog 44 #[.int .u8 11, .agg #[.int .i64 h, .int .i64 q, .int .i64 m, .int .i64 r]] w (FvPost (Rk.score 11 h q m r) w) := by
  obtain ⟨h0, h1⟩ := hh
  obtain ⟨q0, q1⟩ := hq
  obtain ⟨m0, m1⟩ := hm
  obtain ⟨r0, r1⟩ := hr
  rw [show Rk.score 11 h q m r = Rk.ov h (h + m + (q + r)) from congrArg (Rk.ov h) (by omega)]
  have HO0 := Lib.hid (fun W => rby_any (h) (h + m + (q + r)) W (by omega) (by omega))
  generalize Rk.ov (h) (h + m + (q + r)) = z0 at *
  obtain ⟨o1, o2⟩ := z0
  go_enter Tryz.func44, Tryz.ntmps44
  go_wp2_with fail
  go_quiet (fail)
  go_wp2_with fail
  refine (HO0.out _).mono ?_
  rintro e w1 ⟨rfl, hb0⟩
  have HB0 := Lib.hid (hb0.mono (Nat.le_refl _))
  clear hb0
  have hg : Blk w1 (w.heap.size + 1) 45 #[.int .i64 0, .int .i64 0] := (Blk.drewN (Blk.new_ (w := w.alloc (.cells #[.int .i64 h, .int .i64 q, .int .i64 m, .int .i64 r] 35)) (cs := #[.int .i64 0, .int .i64 0]) (by simp)) nq).below HB0.out (by simp)
  have H1 := Lib.hid ((below_drewN (al2 w (.cells #[.int .i64 h, .int .i64 q, .int .i64 m, .int .i64 r] 35) (.cells #[.int .i64 0, .int .i64 0] 45)) nq).trans (HB0.out.mono (by simp; omega)))
  have c0 : w1.cell? ⟨w.heap.size + 1, 0, none⟩ = some (.int .i64 0) := hg.cell 0
  have c1 : w1.cell? ⟨w.heap.size + 1, 1, none⟩ = some (.int .i64 0) := hg.cell 1
  have f0 := hg.frozen 0
  have f1 := hg.frozen 1
  have lt := hg.lt
  have Hg := Lib.hid hg
  clear hg
  unfold fv
  go_wp2
  have K := st2 Hg.out (.int .i64 o1) (.int .i64 o2)
  have k0 := K.cell 0
  have k1 := K.cell 1
  simp only [List.getElem?_toArray, List.getElem?_cons_zero, List.getElem?_cons_succ] at k0 k1
  refine bodyPost_ret (v := .agg #[.int .i64 o1, .int .i64 o2]) (by simp [results, Tryz.results44, go_sem, k0, k1]) rfl ⟨rfl, ?_⟩
  exact below_st2 (g := w.heap.size + 1) H1.out (by omega) H1.out.size (.int .i64 o1) (.int .i64 o2)

set_option maxRecDepth 100000 in
set_option maxHeartbeats 1600000 in
theorem rscore12_any (h q m r : Int) (hh : 0 ≤ h ∧ h ≤ 64) (hq : 0 ≤ q ∧ q ≤ 64) (hm : 0 ≤ m ∧ m ≤ 64) (hr : 0 ≤ r ∧ r ≤ 64) (w : World) :
    Calls Tryz.prog 44 #[.int .u8 12, .agg #[.int .i64 h, .int .i64 q, .int .i64 m, .int .i64 r]] w (FvPost (Rk.score 12 h q m r) w) := by
  obtain ⟨h0, h1⟩ := hh
  obtain ⟨q0, q1⟩ := hq
  obtain ⟨m0, m1⟩ := hm
  obtain ⟨r0, r1⟩ := hr
  rw [show Rk.score 12 h q m r = Rk.ov (h + r) (h + m + (q + r)) from congrArg (Rk.ov (h + r)) (by omega)]
  have HO0 := Lib.hid (fun W => rby_any (h + r) (h + m + (q + r)) W (by omega) (by omega))
  generalize Rk.ov (h + r) (h + m + (q + r)) = z0 at *
  obtain ⟨o1, o2⟩ := z0
  go_enter Tryz.func44, Tryz.ntmps44
  go_wp2_with fail
  go_quiet (fail)
  go_wp2_with fail
  refine (HO0.out _).mono ?_
  rintro e w1 ⟨rfl, hb0⟩
  have HB0 := Lib.hid (hb0.mono (Nat.le_refl _))
  clear hb0
  have hg : Blk w1 (w.heap.size + 1) 45 #[.int .i64 0, .int .i64 0] := (Blk.drewN (Blk.new_ (w := w.alloc (.cells #[.int .i64 h, .int .i64 q, .int .i64 m, .int .i64 r] 35)) (cs := #[.int .i64 0, .int .i64 0]) (by simp)) nq).below HB0.out (by simp)
  have H1 := Lib.hid ((below_drewN (al2 w (.cells #[.int .i64 h, .int .i64 q, .int .i64 m, .int .i64 r] 35) (.cells #[.int .i64 0, .int .i64 0] 45)) nq).trans (HB0.out.mono (by simp; omega)))
  have c0 : w1.cell? ⟨w.heap.size + 1, 0, none⟩ = some (.int .i64 0) := hg.cell 0
  have c1 : w1.cell? ⟨w.heap.size + 1, 1, none⟩ = some (.int .i64 0) := hg.cell 1
  have f0 := hg.frozen 0
  have f1 := hg.frozen 1
  have lt := hg.lt
  have Hg := Lib.hid hg
  clear hg
  unfold fv
  go_wp2
  have K := st2 Hg.out (.int .i64 o1) (.int .i64 o2)
  have k0 := K.cell 0
  have k1 := K.cell 1
  simp only [List.getElem?_toArray, List.getElem?_cons_zero, List.getElem?_cons_succ] at k0 k1
  refine bodyPost_ret (v := .agg #[.int .i64 o1, .int .i64 o2]) (by simp [results, Tryz.results44, go_sem, k0, k1]) rfl ⟨rfl, ?_⟩
  exact below_st2 (g := w.heap.size + 1) H1.out (by omega) H1.out.size (.int .i64 o1) (.int .i64 o2)

set_option maxRecDepth 100000 in
set_option maxHeartbeats 1600000 in
theorem rscore13_any (h q m r : Int) (hh : 0 ≤ h ∧ h ≤ 64) (hq : 0 ≤ q ∧ q ≤ 64) (hm : 0 ≤ m ∧ m ≤ 64) (hr : 0 ≤ r ∧ r ≤ 64) (w : World) :
    Calls Tryz.prog 44 #[.int .u8 13, .agg #[.int .i64 h, .int .i64 q, .int .i64 m, .int .i64 r]] w (FvPost (Rk.score 13 h q m r) w) := by
  obtain ⟨h0, h1⟩ := hh
  obtain ⟨q0, q1⟩ := hq
  obtain ⟨m0, m1⟩ := hm
  obtain ⟨r0, r1⟩ := hr
  rw [show Rk.score 13 h q m r = Rk.pl (Rk.ov (h) (1)) (Rk.ov (h) (2 * q + h)) from (Rk.gp_all h q).symm]
  have HO0 := Lib.hid (fun W => rby_any (h) (1) W (by omega) (by omega))
  have HO1 := Lib.hid (fun W => rby_any (h) (2 * q + h) W (by omega) (by omega))
  have HO2 := Lib.hid (fun W => rplus_any (Rk.ov (h) (1)) (Rk.ov (h) (2 * q + h)) ((Rk.ov_s (by omega) (by omega)).sm (by decide) (by decide)) ((Rk.ov_s (by omega) (by omega)).sm (by decide) (by decide)) W)
  generalize Rk.ov (h) (1) = z0 at *
  generalize Rk.ov (h) (2 * q + h) = z1 at *
  generalize Rk.pl z0 z1 = z2 at *
  obtain ⟨o1, o2⟩ := z2
  go_enter Tryz.func44, Tryz.ntmps44
  go_wp2_with fail
  go_quiet (fail)
  go_wp2_with fail
  refine (HO0.out _).mono ?_
  rintro e w1 ⟨rfl, hb0⟩
  have HB0 := Lib.hid (hb0.mono (Nat.le_refl _))
  clear hb0
  go_wp2_with fail
  refine (HO1.out _).mono ?_
  rintro e w2 ⟨rfl, hb1⟩
  have HB1 := Lib.hid (HB0.out.trans (hb1.mono HB0.out.size))
  clear hb1
  go_wp2_with fail
  refine (HO2.out _).mono ?_
  rintro e w3 ⟨rfl, hb2⟩
  have HB2 := Lib.hid (HB1.out.trans (hb2.mono HB1.out.size))
  clear hb2
  have hg : Blk w3 (w.heap.size + 1) 45 #[.int .i64 0, .int .i64 0] := (Blk.drewN (Blk.new_ (w := w.alloc (.cells #[.int .i64 h, .int .i64 q, .int .i64 m, .int .i64 r] 35)) (cs := #[.int .i64 0, .int .i64 0]) (by simp)) nq).below HB2.out (by simp)
  have H1 := Lib.hid ((below_drewN (al2 w (.cells #[.int .i64 h, .int .i64 q, .int .i64 m, .int .i64 r] 35) (.cells #[.int .i64 0, .int .i64 0] 45)) nq).trans (HB2.out.mono (by simp; omega)))
  have c0 : w3.cell? ⟨w.heap.size + 1, 0, none⟩ = some (.int .i64 0) := hg.cell 0
  have c1 : w3.cell? ⟨w.heap.size + 1, 1, none⟩ = some (.int .i64 0) := hg.cell 1
  have f0 := hg.frozen 0
  have f1 := hg.frozen 1
  have lt := hg.lt
  have Hg := Lib.hid hg
  clear hg
  unfold fv
  go_wp2
  have K := st2 Hg.out (.int .i64 o1) (.int .i64 o2)
  have k0 := K.cell 0
  have k1 := K.cell 1
  simp only [List.getElem?_toArray, List.getElem?_cons_zero, List.getElem?_cons_succ] at k0 k1
  refine bodyPost_ret (v := .agg #[.int .i64 o1, .int .i64 o2]) (by simp [results, Tryz.results44, go_sem, k0, k1]) rfl ⟨rfl, ?_⟩
  exact below_st2 (g := w.heap.size + 1) H1.out (by omega) H1.out.size (.int .i64 o1) (.int .i64 o2)

set_option maxRecDepth 100000 in
set_option maxHeartbeats 1600000 in
theorem rscore14_any (h q m r : Int) (hh : 0 ≤ h ∧ h ≤ 64) (hq : 0 ≤ q ∧ q ≤ 64) (hm : 0 ≤ m ∧ m ≤ 64) (hr : 0 ≤ r ∧ r ≤ 64) (w : World) :
    Calls Tryz.prog 44 #[.int .u8 14, .agg #[.int .i64 h, .int .i64 q, .int .i64 m, .int .i64 r]] w (FvPost (Rk.score 14 h q m r) w) := by
  obtain ⟨h0, h1⟩ := hh
  obtain ⟨q0, q1⟩ := hq
  obtain ⟨m0, m1⟩ := hm
  obtain ⟨r0, r1⟩ := hr
  obtain ⟨p0, p1⟩ := prod_le h0 h0 (X := 64) (Y := 64) (by omega) (by omega)
  obtain ⟨t0, t1⟩ := prod_le (x := h) (y := h + m + q) (by omega) (by omega) (X := 64) (Y := 192) (by omega) (by omega)
  obtain ⟨u0, u1⟩ := prod_le (x := 10000 * m) (y := q) (by omega) (by omega) (X := 640000) (Y := 64) (by omega) (by omega)
  show Calls _ _ _ _ (FvPost (Rk.ov (h * h) (h * (h + m + q) + 10000 * m * q)) w)
  have HO0 := Lib.hid (fun W => rby_any (h * h) (h * (h + m + q) + 10000 * m * q) W (by omega) (by omega))
  generalize Rk.ov (h * h) (h * (h + m + q) + 10000 * m * q) = z0 at *
  obtain ⟨o1, o2⟩ := z0
  go_enter Tryz.func44, Tryz.ntmps44
  go_wp2_with fail
  go_quiet (fail)
  go_wp2_with fail
  refine (HO0.out _).mono ?_
  rintro e w1 ⟨rfl, hb0⟩
  have HB0 := Lib.hid (hb0.mono (Nat.le_refl _))
  clear hb0
  have hg : Blk w1 (w.heap.size + 1) 45 #[.int .i64 0, .int .i64 0] := (Blk.drewN (Blk.new_ (w := w.alloc (.cells #[.int .i64 h, .int .i64 q, .int .i64 m, .int .i64 r] 35)) (cs := #[.int .i64 0, .int .i64 0]) (by simp)) nq).below HB0.out (by simp)
  have H1 := Lib.hid ((below_drewN (al2 w (.cells #[.int .i64 h, .int .i64 q, .int .i64 m, .int .i64 r] 35) (.cells #[.int .i64 0, .int .i64 0] 45)) nq).trans (HB0.out.mono (by simp; omega)))
  have c0 : w1.cell? ⟨w.heap.size + 1, 0, none⟩ = some (.int .i64 0) := hg.cell 0
  have c1 : w1.cell? ⟨w.heap.size + 1, 1, none⟩ = some (.int .i64 0) := hg.cell 1
  have f0 := hg.frozen 0
  have f1 := hg.frozen 1
  have lt := hg.lt
  have Hg := Lib.hid hg
  clear hg
  unfold fv
  go_wp2
  have K := st2 Hg.out (.int .i64 o1) (.int .i64 o2)
  have k0 := K.cell 0
  have k1 := K.cell 1
  simp only [List.getElem?_toArray, List.getElem?_cons_zero, List.getElem?_cons_succ] at k0 k1
  refine bodyPost_ret (v := .agg #[.int .i64 o1, .int .i64 o2]) (by simp [results, Tryz.results44, go_sem, k0, k1]) rfl ⟨rfl, ?_⟩
  exact below_st2 (g := w.heap.size + 1) H1.out (by omega) H1.out.size (.int .i64 o1) (.int .i64 o2)

end Go.Proofs.YtfpmbjobieeidaaGreat
namespace Go.Proofs.YtfpmbjobieeidaaGreat
open Go.RowKit

theorem rscoreAll (k : Nat) (h0 : 1 ≤ k) (h1 : k ≤ 14) (h q m r : Int) (hh : 0 ≤ h ∧ h ≤ 64) (hq : 0 ≤ q ∧ q ≤ 64) (hm : 0 ≤ m ∧ m ≤ 64) (hr : 0 ≤ r ∧ r ≤ 64) (w : World) :
    Calls Tryz.prog 44 #[.int .u8 k, .agg #[.int .i64 h, .int .i64 q, .int .i64 m, .int .i64 r]] w (FvPost (Rk.score k h q m r) w) := by
  rcases (show k = 1 ∨ k = 2 ∨ k = 3 ∨ k = 4 ∨ k = 5 ∨ k = 6 ∨ k = 7 ∨ k = 8 ∨ k = 9 ∨ k = 10 ∨ k = 11 ∨ k = 12 ∨ k = 13 ∨ k = 14 by omega) with rfl | rfl | rfl | rfl | rfl | rfl | rfl | rfl | rfl | rfl | rfl | rfl | rfl | rfl
  · exact rscore1_any h q m r hh hq hm hr w
  · exact rscore2_any h q m r hh hq hm hr w
  · exact rscore3_any h q m r hh hq hm hr w
  · exact rscore4_any h q m r hh hq hm hr w
  · exact rscore5_any h q m r hh hq hm hr w
  · exact rscore6_any h q m r hh hq hm hr w
  · exact rscore7_any h q m r hh hq hm hr w
  · exact rscore8_any h q m r hh hq hm hr w
  · exact rscore9_any h q m r hh hq hm hr w
  · exact rscore10_any h q m r hh hq hm hr w
  · exact rscore11_any h q m r hh hq hm hr w
  · exact rscore12_any h q m r hh hq hm hr w
  · exact rscore13_any h q m r hh hq hm hr w
  · exact rscore14_any h q m r hh hq hm hr w

end Go.Proofs.YtfpmbjobieeidaaGreat
