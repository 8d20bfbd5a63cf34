/-
  The walks of the formulas (written by wip/gen_score.py).
-/
import Derived.Test.YtfpmbjobieeidaaGreatOver
namespace Go.Proofs.YtfpmbjobieeidaaGreat
open Go.RowKit

theorem Rk.ov_s {n d : Int} (h1 : n.natAbs ≤ 1000) (h2 : d.natAbs ≤ 1000) : Rk.Fb 1000 1000 (Rk.ov n d) := Rk.ov_fb h1 h2 (by omega)
theorem Rk.pl_s {a b : Int × Int} (ha : Rk.Fb 1000 1000 a) (hb : Rk.Fb 1000 1000 b) : Rk.Fb 2000000 1000000 (Rk.pl a b) := (Rk.pl_fb ha hb).mono (by decide) (by decide)
theorem Rk.mi_s {a b : Int × Int} (ha : Rk.Fb 1000 1000 a) (hb : Rk.Fb 1000 1000 b) : Rk.Fb 2000000 1000000 (Rk.mi a b) := (Rk.mi_fb ha hb).mono (by decide) (by decide)
theorem Rk.Fb.sm {N D : Nat} {a : Int × Int} (h : Rk.Fb N D a) (hn : N ≤ 1000000000) (hd : D ≤ 1000000000) : Rk.Sm a := h.mono hn hd
theorem Rk.wong_s {q : Int} (h0 : 0 ≤ q) (h1 : q ≤ 64) : Rk.Fb 2000000 1000000 (Rk.wong q) := by
  unfold Rk.wong
  split
  · exact (Rk.ov_s (by omega) (by omega)).mono (by decide) (by decide)
  · split
    · exact Rk.pl_s (Rk.ov_s (by omega) (by omega)) (Rk.ov_s (by omega) (by omega))
    · exact Rk.pl_s (Rk.ov_s (by omega) (by omega)) (Rk.ov_s (by omega) (by omega))
theorem prod_le {x y : Int} (h0 : 0 ≤ x) (h1 : 0 ≤ y) {X Y : Nat} (hx : x ≤ X) (hy : y ≤ Y) : 0 ≤ x * y ∧ x * y ≤ (X * Y : Nat) := by
  refine ⟨Int.mul_nonneg h0 h1, ?_⟩
  have := Int.mul_le_mul hx hy h1 (by omega)
  simpa using this

set_option maxHeartbeats 800000 in
theorem wong_any (q : Int) (w : World) (q0 : 0 ≤ q) (q1 : q ≤ 64) :
    Calls Tryz.prog 84 #[.int .i64 q] w (FvPost (Rk.wong q) w) := by
  unfold Rk.wong
  by_cases hq : q ≤ 2
  · rw [if_pos hq]
    have HO0 := Lib.hid (fun W => over_any (q) (1) W (by omega) (by omega))
    generalize Rk.ov (q) (1) = z0 at *
    obtain ⟨o1, o2⟩ := z0
    go_enter Tryz.func84, Tryz.ntmps84
    go_wp2_with fail
    refine (HO0.out _).mono ?_
    rintro e w1 ⟨rfl, hb0⟩
    have HB0 := Lib.hid (hb0.mono (Nat.le_refl _))
    clear hb0
    have hg : Blk w1 w.heap.size 45 #[.int .i64 0, .int .i64 0] := (Blk.new w 45 #[.int .i64 0, .int .i64 0]).below HB0.out (by simp)
    have H1 := Lib.hid ((below_alloc_ w _).trans (HB0.out.mono (by simp)))
    have c0 : w1.cell? ⟨w.heap.size, 0, none⟩ = some (.int .i64 0) := hg.cell 0
    have c1 : w1.cell? ⟨w.heap.size, 1, none⟩ = some (.int .i64 0) := hg.cell 1
    have f0 := hg.frozen 0
    have f1 := hg.frozen 1
    have lt := hg.lt
    have Hg := Lib.hid hg
    clear hg
    unfold fv
    go_wp2
    have K := st2 Hg.out (.int .i64 o1) (.int .i64 o2)
    have k0 := K.cell 0
    have k1 := K.cell 1
    simp only [List.getElem?_toArray, List.getElem?_cons_zero, List.getElem?_cons_succ] at k0 k1
    refine bodyPost_ret (v := .agg #[.int .i64 o1, .int .i64 o2]) (by simp [results, Tryz.results84, go_sem, k0, k1]) rfl ⟨rfl, ?_⟩
    exact below_st2 (g := w.heap.size) H1.out (Nat.le_refl _) H1.out.size (.int .i64 o1) (.int .i64 o2)
  · rw [if_neg hq]
    by_cases hq' : q ≤ 10
    · rw [if_pos hq']
      have HO0 := Lib.hid (fun W => over_any (2) (1) W (by omega) (by omega))
      have HO1 := Lib.hid (fun W => over_any (q - 2) (10) W (by omega) (by omega))
      have HO2 := Lib.hid (fun W => plus_any (Rk.ov (2) (1)) (Rk.ov (q - 2) (10)) ((Rk.ov_s (by omega) (by omega)).sm (by decide) (by decide)) ((Rk.ov_s (by omega) (by omega)).sm (by decide) (by decide)) W)
      generalize Rk.ov (2) (1) = z0 at *
      generalize Rk.ov (q - 2) (10) = z1 at *
      generalize Rk.pl z0 z1 = z2 at *
      obtain ⟨o1, o2⟩ := z2
      go_enter Tryz.func84, Tryz.ntmps84
      go_wp2_with fail
      refine (HO0.out _).mono ?_
      rintro e w1 ⟨rfl, hb0⟩
      have HB0 := Lib.hid (hb0.mono (Nat.le_refl _))
      clear hb0
      go_wp2_with fail
      refine (HO1.out _).mono ?_
      rintro e w2 ⟨rfl, hb1⟩
      have HB1 := Lib.hid (HB0.out.trans (hb1.mono HB0.out.size))
      clear hb1
      go_wp2_with fail
      refine (HO2.out _).mono ?_
      rintro e w3 ⟨rfl, hb2⟩
      have HB2 := Lib.hid (HB1.out.trans (hb2.mono HB1.out.size))
      clear hb2
      have hg : Blk w3 w.heap.size 45 #[.int .i64 0, .int .i64 0] := (Blk.new w 45 #[.int .i64 0, .int .i64 0]).below HB2.out (by simp)
      have H1 := Lib.hid ((below_alloc_ w _).trans (HB2.out.mono (by simp)))
      have c0 : w3.cell? ⟨w.heap.size, 0, none⟩ = some (.int .i64 0) := hg.cell 0
      have c1 : w3.cell? ⟨w.heap.size, 1, none⟩ = some (.int .i64 0) := hg.cell 1
      have f0 := hg.frozen 0
      have f1 := hg.frozen 1
      have lt := hg.lt
      have Hg := Lib.hid hg
      clear hg
      unfold fv
      go_wp2
      have K := st2 Hg.out (.int .i64 o1) (.int .i64 o2)
      have k0 := K.cell 0
      have k1 := K.cell 1
      simp only [List.getElem?_toArray, List.getElem?_cons_zero, List.getElem?_cons_succ] at k0 k1
      refine bodyPost_ret (v := .agg #[.int .i64 o1, .int .i64 o2]) (by simp [results, Tryz.results84, go_sem, k0, k1]) rfl ⟨rfl, ?_⟩
      exact below_st2 (g := w.heap.size) H1.out (Nat.le_refl _) H1.out.size (.int .i64 o1) (.int .i64 o2)
    · rw [if_neg hq']
      have HO0 := Lib.hid (fun W => over_any (28) (10) W (by omega) (by omega))
      have HO1 := Lib.hid (fun W => over_any (q - 10) (1000) W (by omega) (by omega))
      have HO2 := Lib.hid (fun W => plus_any (Rk.ov (28) (10)) (Rk.ov (q - 10) (1000)) ((Rk.ov_s (by omega) (by omega)).sm (by decide) (by decide)) ((Rk.ov_s (by omega) (by omega)).sm (by decide) (by decide)) W)
      generalize Rk.ov (28) (10) = z0 at *
      generalize Rk.ov (q - 10) (1000) = z1 at *
      generalize Rk.pl z0 z1 = z2 at *
      obtain ⟨o1, o2⟩ := z2
      go_enter Tryz.func84, Tryz.ntmps84
      go_wp2_with fail
      refine (HO0.out _).mono ?_
      rintro e w1 ⟨rfl, hb0⟩
      have HB0 := Lib.hid (hb0.mono (Nat.le_refl _))
      clear hb0
      go_wp2_with fail
      refine (HO1.out _).mono ?_
      rintro e w2 ⟨rfl, hb1⟩
      have HB1 := Lib.hid (HB0.out.trans (hb1.mono HB0.out.size))
      clear hb1
      go_wp2_with fail
      refine (HO2.out _).mono ?_
      rintro e w3 ⟨rfl, hb2⟩
      have HB2 := Lib.hid (HB1.out.trans (hb2.mono HB1.out.size))
      clear hb2
      have hg : Blk w3 w.heap.size 45 #[.int .i64 0, .int .i64 0] := (Blk.new w 45 #[.int .i64 0, .int .i64 0]).below HB2.out (by simp)
      have H1 := Lib.hid ((below_alloc_ w _).trans (HB2.out.mono (by simp)))
      have c0 : w3.cell? ⟨w.heap.size, 0, none⟩ = some (.int .i64 0) := hg.cell 0
      have c1 : w3.cell? ⟨w.heap.size, 1, none⟩ = some (.int .i64 0) := hg.cell 1
      have f0 := hg.frozen 0
      have f1 := hg.frozen 1
      have lt := hg.lt
      have Hg := Lib.hid hg
      clear hg
      unfold fv
      go_wp2
      have K := st2 Hg.out (.int .i64 o1) (.int .i64 o2)
      have k0 := K.cell 0
      have k1 := K.cell 1
      simp only [List.getElem?_toArray, List.getElem?_cons_zero, List.getElem?_cons_succ] at k0 k1
      refine bodyPost_ret (v := .agg #[.int .i64 o1, .int .i64 o2]) (by simp [results, Tryz.results84, go_sem, k0, k1]) rfl ⟨rfl, ?_⟩
      exact below_st2 (g := w.heap.size) H1.out (Nat.le_refl _) H1.out.size (.int .i64 o1) (.int .i64 o2)

set_option maxHeartbeats 800000 in
theorem score1_any (h q m r : Int) (hh : 0 ≤ h ∧ h ≤ 64) (hq : 0 ≤ q ∧ q ≤ 64) (hm : 0 ≤ m ∧ m ≤ 64) (hr : 0 ≤ r ∧ r ≤ 64) (w : World) :
    Calls Tryz.prog 72 #[.int .i64 h, .int .i64 q, .int .i64 m, .int .i64 r] w (FvPost (Rk.score 1 h q m r) w) := by
  obtain ⟨h0, h1⟩ := hh
  obtain ⟨q0, q1⟩ := hq
  obtain ⟨m0, m1⟩ := hm
  obtain ⟨r0, r1⟩ := hr
  show Calls _ _ _ _ (FvPost (Rk.bt (Rk.ov (h) (h + m)) (Rk.pl (Rk.ov (h) (h + m)) (Rk.ov (q) (q + r)))) w)
  have HO0 := Lib.hid (fun W => over_any (h) (h + m) W (by omega) (by omega))
  have HO1 := Lib.hid (fun W => over_any (h) (h + m) W (by omega) (by omega))
  have HO2 := Lib.hid (fun W => over_any (q) (q + r) W (by omega) (by omega))
  have HO3 := Lib.hid (fun W => plus_any (Rk.ov (h) (h + m)) (Rk.ov (q) (q + r)) ((Rk.ov_s (by omega) (by omega)).sm (by decide) (by decide)) ((Rk.ov_s (by omega) (by omega)).sm (by decide) (by decide)) W)
  have HO4 := Lib.hid (fun W => by_any (Rk.ov (h) (h + m)) (Rk.pl (Rk.ov (h) (h + m)) (Rk.ov (q) (q + r))) ((Rk.ov_s (by omega) (by omega)).sm (by decide) (by decide)) ((Rk.pl_s (Rk.ov_s (by omega) (by omega)) (Rk.ov_s (by omega) (by omega))).sm (by decide) (by decide)) W)
  generalize Rk.ov (h) (h + m) = z0 at *
  generalize Rk.ov (q) (q + r) = z1 at *
  generalize Rk.pl z0 z1 = z2 at *
  generalize Rk.bt z0 z2 = z3 at *
  obtain ⟨o1, o2⟩ := z3
  go_enter Tryz.func72, Tryz.ntmps72
  go_wp2_with fail
  refine (HO0.out _).mono ?_
  rintro e w1 ⟨rfl, hb0⟩
  have HB0 := Lib.hid (hb0.mono (Nat.le_refl _))
  clear hb0
  go_wp2_with fail
  refine (HO1.out _).mono ?_
  rintro e w2 ⟨rfl, hb1⟩
  have HB1 := Lib.hid (HB0.out.trans (hb1.mono HB0.out.size))
  clear hb1
  go_wp2_with fail
  refine (HO2.out _).mono ?_
  rintro e w3 ⟨rfl, hb2⟩
  have HB2 := Lib.hid (HB1.out.trans (hb2.mono HB1.out.size))
  clear hb2
  go_wp2_with fail
  refine (HO3.out _).mono ?_
  rintro e w4 ⟨rfl, hb3⟩
  have HB3 := Lib.hid (HB2.out.trans (hb3.mono HB2.out.size))
  clear hb3
  go_wp2_with fail
  refine (HO4.out _).mono ?_
  rintro e w5 ⟨rfl, hb4⟩
  have HB4 := Lib.hid (HB3.out.trans (hb4.mono HB3.out.size))
  clear hb4
  have hg : Blk w5 w.heap.size 45 #[.int .i64 0, .int .i64 0] := (Blk.new w 45 #[.int .i64 0, .int .i64 0]).below HB4.out (by simp)
  have H1 := Lib.hid ((below_alloc_ w _).trans (HB4.out.mono (by simp)))
  have c0 : w5.cell? ⟨w.heap.size, 0, none⟩ = some (.int .i64 0) := hg.cell 0
  have c1 : w5.cell? ⟨w.heap.size, 1, none⟩ = some (.int .i64 0) := hg.cell 1
  have f0 := hg.frozen 0
  have f1 := hg.frozen 1
  have lt := hg.lt
  have Hg := Lib.hid hg
  clear hg
  unfold fv
  go_wp2
  have K := st2 Hg.out (.int .i64 o1) (.int .i64 o2)
  have k0 := K.cell 0
  have k1 := K.cell 1
  simp only [List.getElem?_toArray, List.getElem?_cons_zero, List.getElem?_cons_succ] at k0 k1
  refine bodyPost_ret (v := .agg #[.int .i64 o1, .int .i64 o2]) (by simp [results, Tryz.results72, go_sem, k0, k1]) rfl ⟨rfl, ?_⟩
  exact below_st2 (g := w.heap.size) H1.out (Nat.le_refl _) H1.out.size (.int .i64 o1) (.int .i64 o2)

set_option maxHeartbeats 800000 in
theorem score2_any (h q m r : Int) (hh : 0 ≤ h ∧ h ≤ 64) (hq : 0 ≤ q ∧ q ≤ 64) (hm : 0 ≤ m ∧ m ≤ 64) (hr : 0 ≤ r ∧ r ≤ 64) (w : World) :
    Calls Tryz.prog 74 #[.int .i64 h, .int .i64 q, .int .i64 m, .int .i64 r] w (FvPost (Rk.score 2 h q m r) w) := by
  obtain ⟨h0, h1⟩ := hh
  obtain ⟨q0, q1⟩ := hq
  obtain ⟨m0, m1⟩ := hm
  obtain ⟨r0, r1⟩ := hr
  obtain ⟨p0, p1⟩ := prod_le h0 h0 (X := 64) (Y := 64) (by omega) (by omega)
  obtain ⟨t0, t1⟩ := prod_le (x := h + m) (y := h + q) (by omega) (by omega) (X := 128) (Y := 128) (by omega) (by omega)
  show Calls _ _ _ _ (FvPost (Rk.ov (h * h) ((h + m) * (h + q))) w)
  have HO0 := Lib.hid (fun W => over_any (h * h) ((h + m) * (h + q)) W (by omega) (by omega))
  generalize Rk.ov (h * h) ((h + m) * (h + q)) = z0 at *
  obtain ⟨o1, o2⟩ := z0
  go_enter Tryz.func74, Tryz.ntmps74
  go_wp2_with fail
  refine (HO0.out _).mono ?_
  rintro e w1 ⟨rfl, hb0⟩
  have HB0 := Lib.hid (hb0.mono (Nat.le_refl _))
  clear hb0
  have hg : Blk w1 w.heap.size 45 #[.int .i64 0, .int .i64 0] := (Blk.new w 45 #[.int .i64 0, .int .i64 0]).below HB0.out (by simp)
  have H1 := Lib.hid ((below_alloc_ w _).trans (HB0.out.mono (by simp)))
  have c0 : w1.cell? ⟨w.heap.size, 0, none⟩ = some (.int .i64 0) := hg.cell 0
  have c1 : w1.cell? ⟨w.heap.size, 1, none⟩ = some (.int .i64 0) := hg.cell 1
  have f0 := hg.frozen 0
  have f1 := hg.frozen 1
  have lt := hg.lt
  have Hg := Lib.hid hg
  clear hg
  unfold fv
  go_wp2
  have K := st2 Hg.out (.int .i64 o1) (.int .i64 o2)
  have k0 := K.cell 0
  have k1 := K.cell 1
  simp only [List.getElem?_toArray, List.getElem?_cons_zero, List.getElem?_cons_succ] at k0 k1
  refine bodyPost_ret (v := .agg #[.int .i64 o1, .int .i64 o2]) (by simp [results, Tryz.results74, go_sem, k0, k1]) rfl ⟨rfl, ?_⟩
  exact below_st2 (g := w.heap.size) H1.out (Nat.le_refl _) H1.out.size (.int .i64 o1) (.int .i64 o2)

set_option maxHeartbeats 800000 in
theorem score3_any (h q m r : Int) (hh : 0 ≤ h ∧ h ≤ 64) (hq : 0 ≤ q ∧ q ≤ 64) (hm : 0 ≤ m ∧ m ≤ 64) (hr : 0 ≤ r ∧ r ≤ 64) (w : World) :
    Calls Tryz.prog 75 #[.int .i64 h, .int .i64 q, .int .i64 m, .int .i64 r] w (FvPost (Rk.score 3 h q m r) w) := by
  obtain ⟨h0, h1⟩ := hh
  obtain ⟨q0, q1⟩ := hq
  obtain ⟨m0, m1⟩ := hm
  obtain ⟨r0, r1⟩ := hr
  show Calls _ _ _ _ (FvPost (Rk.ov (h) (h + m + q)) w)
  have HO0 := Lib.hid (fun W => over_any (h) (h + m + q) W (by omega) (by omega))
  generalize Rk.ov (h) (h + m + q) = z0 at *
  obtain ⟨o1, o2⟩ := z0
  go_enter Tryz.func75, Tryz.ntmps75
  go_wp2_with fail
  refine (HO0.out _).mono ?_
  rintro e w1 ⟨rfl, hb0⟩
  have HB0 := Lib.hid (hb0.mono (Nat.le_refl _))
  clear hb0
  have hg : Blk w1 w.heap.size 45 #[.int .i64 0, .int .i64 0] := (Blk.new w 45 #[.int .i64 0, .int .i64 0]).below HB0.out (by simp)
  have H1 := Lib.hid ((below_alloc_ w _).trans (HB0.out.mono (by simp)))
  have c0 : w1.cell? ⟨w.heap.size, 0, none⟩ = some (.int .i64 0) := hg.cell 0
  have c1 : w1.cell? ⟨w.heap.size, 1, none⟩ = some (.int .i64 0) := hg.cell 1
  have f0 := hg.frozen 0
  have f1 := hg.frozen 1
  have lt := hg.lt
  have Hg := Lib.hid hg
  clear hg
  unfold fv
  go_wp2
  have K := st2 Hg.out (.int .i64 o1) (.int .i64 o2)
  have k0 := K.cell 0
  have k1 := K.cell 1
  simp only [List.getElem?_toArray, List.getElem?_cons_zero, List.getElem?_cons_succ] at k0 k1
  refine bodyPost_ret (v := .agg #[.int .i64 o1, .int .i64 o2]) (by simp [results, Tryz.results75, go_sem, k0, k1]) rfl ⟨rfl, ?_⟩
  exact below_st2 (g := w.heap.size) H1.out (Nat.le_refl _) H1.out.size (.int .i64 o1) (.int .i64 o2)

set_option maxHeartbeats 800000 in
theorem score4_any (h q m r : Int) (hh : 0 ≤ h ∧ h ≤ 64) (hq : 0 ≤ q ∧ q ≤ 64) (hm : 0 ≤ m ∧ m ≤ 64) (hr : 0 ≤ r ∧ r ≤ 64) (w : World) :
    Calls Tryz.prog 76 #[.int .i64 h, .int .i64 q, .int .i64 m, .int .i64 r] w (FvPost (Rk.score 4 h q m r) w) := by
  obtain ⟨h0, h1⟩ := hh
  obtain ⟨q0, q1⟩ := hq
  obtain ⟨m0, m1⟩ := hm
  obtain ⟨r0, r1⟩ := hr
  show Calls _ _ _ _ (FvPost (Rk.ov (2 * h) (h + m + h + q)) w)
  have HO0 := Lib.hid (fun W => over_any (2 * h) (h + m + h + q) W (by omega) (by omega))
  generalize Rk.ov (2 * h) (h + m + h + q) = z0 at *
  obtain ⟨o1, o2⟩ := z0
  go_enter Tryz.func76, Tryz.ntmps76
  go_wp2_with fail
  refine (HO0.out _).mono ?_
  rintro e w1 ⟨rfl, hb0⟩
  have HB0 := Lib.hid (hb0.mono (Nat.le_refl _))
  clear hb0
  have hg : Blk w1 w.heap.size 45 #[.int .i64 0, .int .i64 0] := (Blk.new w 45 #[.int .i64 0, .int .i64 0]).below HB0.out (by simp)
  have H1 := Lib.hid ((below_alloc_ w _).trans (HB0.out.mono (by simp)))
  have c0 : w1.cell? ⟨w.heap.size, 0, none⟩ = some (.int .i64 0) := hg.cell 0
  have c1 : w1.cell? ⟨w.heap.size, 1, none⟩ = some (.int .i64 0) := hg.cell 1
  have f0 := hg.frozen 0
  have f1 := hg.frozen 1
  have lt := hg.lt
  have Hg := Lib.hid hg
  clear hg
  unfold fv
  go_wp2
  have K := st2 Hg.out (.int .i64 o1) (.int .i64 o2)
  have k0 := K.cell 0
  have k1 := K.cell 1
  simp only [List.getElem?_toArray, List.getElem?_cons_zero, List.getElem?_cons_succ] at k0 k1
  refine bodyPost_ret (v := .agg #[.int .i64 o1, .int .i64 o2]) (by simp [results, Tryz.results76, go_sem, k0, k1]) rfl ⟨rfl, ?_⟩
  exact below_st2 (g := w.heap.size) H1.out (Nat.le_refl _) H1.out.size (.int .i64 o1) (.int .i64 o2)

set_option maxHeartbeats 800000 in
theorem score5_any (h q m r : Int) (hh : 0 ≤ h ∧ h ≤ 64) (hq : 0 ≤ q ∧ q ≤ 64) (hm : 0 ≤ m ∧ m ≤ 64) (hr : 0 ≤ r ∧ r ≤ 64) (w : World) :
    Calls Tryz.prog 77 #[.int .i64 h, .int .i64 q, .int .i64 m, .int .i64 r] w (FvPost (Rk.score 5 h q m r) w) := by
  obtain ⟨h0, h1⟩ := hh
  obtain ⟨q0, q1⟩ := hq
  obtain ⟨m0, m1⟩ := hm
  obtain ⟨r0, r1⟩ := hr
  show Calls _ _ _ _ (FvPost (Rk.bt (Rk.pl (Rk.ov (h) (h + m)) (Rk.ov (h) (h + q))) (Rk.ov (2) (1))) w)
  have HO0 := Lib.hid (fun W => over_any (h) (h + m) W (by omega) (by omega))
  have HO1 := Lib.hid (fun W => over_any (h) (h + q) W (by omega) (by omega))
  have HO2 := Lib.hid (fun W => plus_any (Rk.ov (h) (h + m)) (Rk.ov (h) (h + q)) ((Rk.ov_s (by omega) (by omega)).sm (by decide) (by decide)) ((Rk.ov_s (by omega) (by omega)).sm (by decide) (by decide)) W)
  have HO3 := Lib.hid (fun W => over_any (2) (1) W (by omega) (by omega))
  have HO4 := Lib.hid (fun W => by_any (Rk.pl (Rk.ov (h) (h + m)) (Rk.ov (h) (h + q))) (Rk.ov (2) (1)) ((Rk.pl_s (Rk.ov_s (by omega) (by omega)) (Rk.ov_s (by omega) (by omega))).sm (by decide) (by decide)) ((Rk.ov_s (by omega) (by omega)).sm (by decide) (by decide)) W)
  generalize Rk.ov (h) (h + m) = z0 at *
  generalize Rk.ov (h) (h + q) = z1 at *
  generalize Rk.pl z0 z1 = z2 at *
  generalize Rk.ov (2) (1) = z3 at *
  generalize Rk.bt z2 z3 = z4 at *
  obtain ⟨o1, o2⟩ := z4
  go_enter Tryz.func77, Tryz.ntmps77
  go_wp2_with fail
  refine (HO0.out _).mono ?_
  rintro e w1 ⟨rfl, hb0⟩
  have HB0 := Lib.hid (hb0.mono (Nat.le_refl _))
  clear hb0
  go_wp2_with fail
  refine (HO1.out _).mono ?_
  rintro e w2 ⟨rfl, hb1⟩
  have HB1 := Lib.hid (HB0.out.trans (hb1.mono HB0.out.size))
  clear hb1
  go_wp2_with fail
  refine (HO2.out _).mono ?_
  rintro e w3 ⟨rfl, hb2⟩
  have HB2 := Lib.hid (HB1.out.trans (hb2.mono HB1.out.size))
  clear hb2
  go_wp2_with fail
  refine (HO3.out _).mono ?_
  rintro e w4 ⟨rfl, hb3⟩
  have HB3 := Lib.hid (HB2.out.trans (hb3.mono HB2.out.size))
  clear hb3
  go_wp2_with fail
  refine (HO4.out _).mono ?_
  rintro e w5 ⟨rfl, hb4⟩
  have HB4 := Lib.hid (HB3.out.trans (hb4.mono HB3.out.size))
  clear hb4
  have hg : Blk w5 w.heap.size 45 #[.int .i64 0, .int .i64 0] := (Blk.new w 45 #[.int .i64 0, .int .i64 0]).below HB4.out (by simp)
  have H1 := Lib.hid ((below_alloc_ w _).trans (HB4.out.mono (by simp)))
  have c0 : w5.cell? ⟨w.heap.size, 0, none⟩ = some (.int .i64 0) := hg.cell 0
  have c1 : w5.cell? ⟨w.heap.size, 1, none⟩ = some (.int .i64 0) := hg.cell 1
  have f0 := hg.frozen 0
  have f1 := hg.frozen 1
  have lt := hg.lt
  have Hg := Lib.hid hg
  clear hg
  unfold fv
  go_wp2
  have K := st2 Hg.out (.int .i64 o1) (.int .i64 o2)
  have k0 := K.cell 0
  have k1 := K.cell 1
  simp only [List.getElem?_toArray, List.getElem?_cons_zero, List.getElem?_cons_succ] at k0 k1
  refine bodyPost_ret (v := .agg #[.int .i64 o1, .int .i64 o2]) (by simp [results, Tryz.results77, go_sem, k0, k1]) rfl ⟨rfl, ?_⟩
  exact below_st2 (g := w.heap.size) H1.out (Nat.le_refl _) H1.out.size (.int .i64 o1) (.int .i64 o2)

set_option maxHeartbeats 800000 in
theorem score7_any (h q m r : Int) (hh : 0 ≤ h ∧ h ≤ 64) (hq : 0 ≤ q ∧ q ≤ 64) (hm : 0 ≤ m ∧ m ≤ 64) (hr : 0 ≤ r ∧ r ≤ 64) (w : World) :
    Calls Tryz.prog 79 #[.int .i64 h, .int .i64 q, .int .i64 m, .int .i64 r] w (FvPost (Rk.score 7 h q m r) w) := by
  obtain ⟨h0, h1⟩ := hh
  obtain ⟨q0, q1⟩ := hq
  obtain ⟨m0, m1⟩ := hm
  obtain ⟨r0, r1⟩ := hr
  show Calls _ _ _ _ (FvPost (Rk.mi (Rk.ov (h) (1)) (Rk.ov (q) (q + r + 1))) w)
  have HO0 := Lib.hid (fun W => over_any (h) (1) W (by omega) (by omega))
  have HO1 := Lib.hid (fun W => over_any (q) (q + r + 1) W (by omega) (by omega))
  have HO2 := Lib.hid (fun W => minus_any (Rk.ov (h) (1)) (Rk.ov (q) (q + r + 1)) ((Rk.ov_s (by omega) (by omega)).sm (by decide) (by decide)) ((Rk.ov_s (by omega) (by omega)).sm (by decide) (by decide)) W)
  generalize Rk.ov (h) (1) = z0 at *
  generalize Rk.ov (q) (q + r + 1) = z1 at *
  generalize Rk.mi z0 z1 = z2 at *
  obtain ⟨o1, o2⟩ := z2
  go_enter Tryz.func79, Tryz.ntmps79
  go_wp2_with fail
  refine (HO0.out _).mono ?_
  rintro e w1 ⟨rfl, hb0⟩
  have HB0 := Lib.hid (hb0.mono (Nat.le_refl _))
  clear hb0
  go_wp2_with fail
  refine (HO1.out _).mono ?_
  rintro e w2 ⟨rfl, hb1⟩
  have HB1 := Lib.hid (HB0.out.trans (hb1.mono HB0.out.size))
  clear hb1
  go_wp2_with fail
  refine (HO2.out _).mono ?_
  rintro e w3 ⟨rfl, hb2⟩
  have HB2 := Lib.hid (HB1.out.trans (hb2.mono HB1.out.size))
  clear hb2
  have hg : Blk w3 w.heap.size 45 #[.int .i64 0, .int .i64 0] := (Blk.new w 45 #[.int .i64 0, .int .i64 0]).below HB2.out (by simp)
  have H1 := Lib.hid ((below_alloc_ w _).trans (HB2.out.mono (by simp)))
  have c0 : w3.cell? ⟨w.heap.size, 0, none⟩ = some (.int .i64 0) := hg.cell 0
  have c1 : w3.cell? ⟨w.heap.size, 1, none⟩ = some (.int .i64 0) := hg.cell 1
  have f0 := hg.frozen 0
  have f1 := hg.frozen 1
  have lt := hg.lt
  have Hg := Lib.hid hg
  clear hg
  unfold fv
  go_wp2
  have K := st2 Hg.out (.int .i64 o1) (.int .i64 o2)
  have k0 := K.cell 0
  have k1 := K.cell 1
  simp only [List.getElem?_toArray, List.getElem?_cons_zero, List.getElem?_cons_succ] at k0 k1
  refine bodyPost_ret (v := .agg #[.int .i64 o1, .int .i64 o2]) (by simp [results, Tryz.results79, go_sem, k0, k1]) rfl ⟨rfl, ?_⟩
  exact below_st2 (g := w.heap.size) H1.out (Nat.le_refl _) H1.out.size (.int .i64 o1) (.int .i64 o2)

set_option maxHeartbeats 800000 in
theorem score8_any (h q m r : Int) (hh : 0 ≤ h ∧ h ≤ 64) (hq : 0 ≤ q ∧ q ≤ 64) (hm : 0 ≤ m ∧ m ≤ 64) (hr : 0 ≤ r ∧ r ≤ 64) (w : World) :
    Calls Tryz.prog 81 #[.int .i64 h, .int .i64 q, .int .i64 m, .int .i64 r] w (FvPost (Rk.score 8 h q m r) w) := by
  obtain ⟨h0, h1⟩ := hh
  obtain ⟨q0, q1⟩ := hq
  obtain ⟨m0, m1⟩ := hm
  obtain ⟨r0, r1⟩ := hr
  show Calls _ _ _ _ (FvPost (Rk.ov (h) (h + q)) w)
  have HO0 := Lib.hid (fun W => over_any (h) (h + q) W (by omega) (by omega))
  generalize Rk.ov (h) (h + q) = z0 at *
  obtain ⟨o1, o2⟩ := z0
  go_enter Tryz.func81, Tryz.ntmps81
  go_wp2_with fail
  refine (HO0.out _).mono ?_
  rintro e w1 ⟨rfl, hb0⟩
  have HB0 := Lib.hid (hb0.mono (Nat.le_refl _))
  clear hb0
  have hg : Blk w1 w.heap.size 45 #[.int .i64 0, .int .i64 0] := (Blk.new w 45 #[.int .i64 0, .int .i64 0]).below HB0.out (by simp)
  have H1 := Lib.hid ((below_alloc_ w _).trans (HB0.out.mono (by simp)))
  have c0 : w1.cell? ⟨w.heap.size, 0, none⟩ = some (.int .i64 0) := hg.cell 0
  have c1 : w1.cell? ⟨w.heap.size, 1, none⟩ = some (.int .i64 0) := hg.cell 1
  have f0 := hg.frozen 0
  have f1 := hg.frozen 1
  have lt := hg.lt
  have Hg := Lib.hid hg
  clear hg
  unfold fv
  go_wp2
  have K := st2 Hg.out (.int .i64 o1) (.int .i64 o2)
  have k0 := K.cell 0
  have k1 := K.cell 1
  simp only [List.getElem?_toArray, List.getElem?_cons_zero, List.getElem?_cons_succ] at k0 k1
  refine bodyPost_ret (v := .agg #[.int .i64 o1, .int .i64 o2]) (by simp [results, Tryz.results81, go_sem, k0, k1]) rfl ⟨rfl, ?_⟩
  exact below_st2 (g := w.heap.size) H1.out (Nat.le_refl _) H1.out.size (.int .i64 o1) (.int .i64 o2)

set_option maxHeartbeats 800000 in
theorem score10_any (h q m r : Int) (hh : 0 ≤ h ∧ h ≤ 64) (hq : 0 ≤ q ∧ q ≤ 64) (hm : 0 ≤ m ∧ m ≤ 64) (hr : 0 ≤ r ∧ r ≤ 64) (w : World) :
    Calls Tryz.prog 83 #[.int .i64 h, .int .i64 q, .int .i64 m, .int .i64 r] w (FvPost (Rk.score 10 h q m r) w) := by
  obtain ⟨h0, h1⟩ := hh
  obtain ⟨q0, q1⟩ := hq
  obtain ⟨m0, m1⟩ := hm
  obtain ⟨r0, r1⟩ := hr
  show Calls _ _ _ _ (FvPost (Rk.mi (Rk.ov (h) (1)) (Rk.wong q)) w)
  have HO0 := Lib.hid (fun W => over_any (h) (1) W (by omega) (by omega))
  have HO1 := Lib.hid (fun W => wong_any q W (by omega) (by omega))
  have HO2 := Lib.hid (fun W => minus_any (Rk.ov (h) (1)) (Rk.wong q) ((Rk.ov_s (by omega) (by omega)).sm (by decide) (by decide)) ((Rk.wong_s (by omega) (by omega)).sm (by decide) (by decide)) W)
  generalize Rk.ov (h) (1) = z0 at *
  generalize Rk.wong q = z1 at *
  generalize Rk.mi z0 z1 = z2 at *
  obtain ⟨o1, o2⟩ := z2
  go_enter Tryz.func83, Tryz.ntmps83
  go_wp2_with fail
  refine (HO0.out _).mono ?_
  rintro e w1 ⟨rfl, hb0⟩
  have HB0 := Lib.hid (hb0.mono (Nat.le_refl _))
  clear hb0
  go_wp2_with fail
  refine (HO1.out _).mono ?_
  rintro e w2 ⟨rfl, hb1⟩
  have HB1 := Lib.hid (HB0.out.trans (hb1.mono HB0.out.size))
  clear hb1
  go_wp2_with fail
  refine (HO2.out _).mono ?_
  rintro e w3 ⟨rfl, hb2⟩
  have HB2 := Lib.hid (HB1.out.trans (hb2.mono HB1.out.size))
  clear hb2
  have hg : Blk w3 w.heap.size 45 #[.int .i64 0, .int .i64 0] := (Blk.new w 45 #[.int .i64 0, .int .i64 0]).below HB2.out (by simp)
  have H1 := Lib.hid ((below_alloc_ w _).trans (HB2.out.mono (by simp)))
  have c0 : w3.cell? ⟨w.heap.size, 0, none⟩ = some (.int .i64 0) := hg.cell 0
  have c1 : w3.cell? ⟨w.heap.size, 1, none⟩ = some (.int .i64 0) := hg.cell 1
  have f0 := hg.frozen 0
  have f1 := hg.frozen 1
  have lt := hg.lt
  have Hg := Lib.hid hg
  clear hg
  unfold fv
  go_wp2
  have K := st2 Hg.out (.int .i64 o1) (.int .i64 o2)
  have k0 := K.cell 0
  have k1 := K.cell 1
  simp only [List.getElem?_toArray, List.getElem?_cons_zero, List.getElem?_cons_succ] at k0 k1
  refine bodyPost_ret (v := .agg #[.int .i64 o1, .int .i64 o2]) (by simp [results, Tryz.results83, go_sem, k0, k1]) rfl ⟨rfl, ?_⟩
  exact below_st2 (g := w.heap.size) H1.out (Nat.le_refl _) H1.out.size (.int .i64 o1) (.int .i64 o2)

set_option maxHeartbeats 800000 in
theorem score11_any (h q m r : Int) (hh : 0 ≤ h ∧ h ≤ 64) (hq : 0 ≤ q ∧ q ≤ 64) (hm : 0 ≤ m ∧ m ≤ 64) (hr : 0 ≤ r ∧ r ≤ 64) (w : World) :
    Calls Tryz.prog 85 #[.int .i64 h, .int .i64 q, .int .i64 m, .int .i64 r] w (FvPost (Rk.score 11 h q m r) w) := by
  obtain ⟨h0, h1⟩ := hh
  obtain ⟨q0, q1⟩ := hq
  obtain ⟨m0, m1⟩ := hm
  obtain ⟨r0, r1⟩ := hr
  show Calls _ _ _ _ (FvPost (Rk.ov (h) (h + m + q + r)) w)
  have HO0 := Lib.hid (fun W => over_any (h) (h + m + q + r) W (by omega) (by omega))
  generalize Rk.ov (h) (h + m + q + r) = z0 at *
  obtain ⟨o1, o2⟩ := z0
  go_enter Tryz.func85, Tryz.ntmps85
  go_wp2_with fail
  refine (HO0.out _).mono ?_
  rintro e w1 ⟨rfl, hb0⟩
  have HB0 := Lib.hid (hb0.mono (Nat.le_refl _))
  clear hb0
  have hg : Blk w1 w.heap.size 45 #[.int .i64 0, .int .i64 0] := (Blk.new w 45 #[.int .i64 0, .int .i64 0]).below HB0.out (by simp)
  have H1 := Lib.hid ((below_alloc_ w _).trans (HB0.out.mono (by simp)))
  have c0 : w1.cell? ⟨w.heap.size, 0, none⟩ = some (.int .i64 0) := hg.cell 0
  have c1 : w1.cell? ⟨w.heap.size, 1, none⟩ = some (.int .i64 0) := hg.cell 1
  have f0 := hg.frozen 0
  have f1 := hg.frozen 1
  have lt := hg.lt
  have Hg := Lib.hid hg
  clear hg
  unfold fv
  go_wp2
  have K := st2 Hg.out (.int .i64 o1) (.int .i64 o2)
  have k0 := K.cell 0
  have k1 := K.cell 1
  simp only [List.getElem?_toArray, List.getElem?_cons_zero, List.getElem?_cons_succ] at k0 k1
  refine bodyPost_ret (v := .agg #[.int .i64 o1, .int .i64 o2]) (by simp [results, Tryz.results85, go_sem, k0, k1]) rfl ⟨rfl, ?_⟩
  exact below_st2 (g := w.heap.size) H1.out (Nat.le_refl _) H1.out.size (.int .i64 o1) (.int .i64 o2)

set_option maxHeartbeats 800000 in
theorem score12_any (h q m r : Int) (hh : 0 ≤ h ∧ h ≤ 64) (hq : 0 ≤ q ∧ q ≤ 64) (hm : 0 ≤ m ∧ m ≤ 64) (hr : 0 ≤ r ∧ r ≤ 64) (w : World) :
    Calls Tryz.prog 86 #[.int .i64 h, .int .i64 q, .int .i64 m, .int .i64 r] w (FvPost (Rk.score 12 h q m r) w) := by
  obtain ⟨h0, h1⟩ := hh
  obtain ⟨q0, q1⟩ := hq
  obtain ⟨m0, m1⟩ := hm
  obtain ⟨r0, r1⟩ := hr
  show Calls _ _ _ _ (FvPost (Rk.ov (h + r) (h + m + q + r)) w)
  have HO0 := Lib.hid (fun W => over_any (h + r) (h + m + q + r) W (by omega) (by omega))
  generalize Rk.ov (h + r) (h + m + q + r) = z0 at *
  obtain ⟨o1, o2⟩ := z0
  go_enter Tryz.func86, Tryz.ntmps86
  go_wp2_with fail
  refine (HO0.out _).mono ?_
  rintro e w1 ⟨rfl, hb0⟩
  have HB0 := Lib.hid (hb0.mono (Nat.le_refl _))
  clear hb0
  have hg : Blk w1 w.heap.size 45 #[.int .i64 0, .int .i64 0] := (Blk.new w 45 #[.int .i64 0, .int .i64 0]).below HB0.out (by simp)
  have H1 := Lib.hid ((below_alloc_ w _).trans (HB0.out.mono (by simp)))
  have c0 : w1.cell? ⟨w.heap.size, 0, none⟩ = some (.int .i64 0) := hg.cell 0
  have c1 : w1.cell? ⟨w.heap.size, 1, none⟩ = some (.int .i64 0) := hg.cell 1
  have f0 := hg.frozen 0
  have f1 := hg.frozen 1
  have lt := hg.lt
  have Hg := Lib.hid hg
  clear hg
  unfold fv
  go_wp2
  have K := st2 Hg.out (.int .i64 o1) (.int .i64 o2)
  have k0 := K.cell 0
  have k1 := K.cell 1
  simp only [List.getElem?_toArray, List.getElem?_cons_zero, List.getElem?_cons_succ] at k0 k1
  refine bodyPost_ret (v := .agg #[.int .i64 o1, .int .i64 o2]) (by simp [results, Tryz.results86, go_sem, k0, k1]) rfl ⟨rfl, ?_⟩
  exact below_st2 (g := w.heap.size) H1.out (Nat.le_refl _) H1.out.size (.int .i64 o1) (.int .i64 o2)

set_option maxHeartbeats 800000 in
theorem score14_any (h q m r : Int) (hh : 0 ≤ h ∧ h ≤ 64) (hq : 0 ≤ q ∧ q ≤ 64) (hm : 0 ≤ m ∧ m ≤ 64) (hr : 0 ≤ r ∧ r ≤ 64) (w : World) :
    Calls Tryz.prog 88 #[.int .i64 h, .int .i64 q, .int .i64 m, .int .i64 r] w (FvPost (Rk.score 14 h q m r) w) := by
  obtain ⟨h0, h1⟩ := hh
  obtain ⟨q0, q1⟩ := hq
  obtain ⟨m0, m1⟩ := hm
  obtain ⟨r0, r1⟩ := hr
  obtain ⟨p0, p1⟩ := prod_le h0 h0 (X := 64) (Y := 64) (by omega) (by omega)
  obtain ⟨t0, t1⟩ := prod_le (x := h) (y := h + m + q) (by omega) (by omega) (X := 64) (Y := 192) (by omega) (by omega)
  obtain ⟨u0, u1⟩ := prod_le (x := 10000 * m) (y := q) (by omega) (by omega) (X := 640000) (Y := 64) (by omega) (by omega)
  show Calls _ _ _ _ (FvPost (Rk.ov (h * h) (h * (h + m + q) + 10000 * m * q)) w)
  have HO0 := Lib.hid (fun W => over_any (h * h) (h * (h + m + q) + 10000 * m * q) W (by omega) (by omega))
  generalize Rk.ov (h * h) (h * (h + m + q) + 10000 * m * q) = z0 at *
  obtain ⟨o1, o2⟩ := z0
  go_enter Tryz.func88, Tryz.ntmps88
  go_wp2_with fail
  refine (HO0.out _).mono ?_
  rintro e w1 ⟨rfl, hb0⟩
  have HB0 := Lib.hid (hb0.mono (Nat.le_refl _))
  clear hb0
  have hg : Blk w1 w.heap.size 45 #[.int .i64 0, .int .i64 0] := (Blk.new w 45 #[.int .i64 0, .int .i64 0]).below HB0.out (by simp)
  have H1 := Lib.hid ((below_alloc_ w _).trans (HB0.out.mono (by simp)))
  have c0 : w1.cell? ⟨w.heap.size, 0, none⟩ = some (.int .i64 0) := hg.cell 0
  have c1 : w1.cell? ⟨w.heap.size, 1, none⟩ = some (.int .i64 0) := hg.cell 1
  have f0 := hg.frozen 0
  have f1 := hg.frozen 1
  have lt := hg.lt
  have Hg := Lib.hid hg
  clear hg
  unfold fv
  go_wp2
  have K := st2 Hg.out (.int .i64 o1) (.int .i64 o2)
  have k0 := K.cell 0
  have k1 := K.cell 1
  simp only [List.getElem?_toArray, List.getElem?_cons_zero, List.getElem?_cons_succ] at k0 k1
  refine bodyPost_ret (v := .agg #[.int .i64 o1, .int .i64 o2]) (by simp [results, Tryz.results88, go_sem, k0, k1]) rfl ⟨rfl, ?_⟩
  exact below_st2 (g := w.heap.size) H1.out (Nat.le_refl _) H1.out.size (.int .i64 o1) (.int .i64 o2)

set_option maxHeartbeats 800000 in
theorem score6_any (h q m r : Int) (hh : 0 ≤ h ∧ h ≤ 64) (hq : 0 ≤ q ∧ q ≤ 64) (hm : 0 ≤ m ∧ m ≤ 64) (hr : 0 ≤ r ∧ r ≤ 64) (w : World) :
    Calls Tryz.prog 78 #[.int .i64 h, .int .i64 q, .int .i64 m, .int .i64 r] w (FvPost (Rk.score 6 h q m r) w) := by
  obtain ⟨h0, h1⟩ := hh
  obtain ⟨q0, q1⟩ := hq
  obtain ⟨m0, m1⟩ := hm
  obtain ⟨r0, r1⟩ := hr
  obtain ⟨p0, p1⟩ := prod_le h0 h0 (X := 64) (Y := 64) (by omega) (by omega)
  obtain ⟨t0, t1⟩ := prod_le (x := 2 * h) (y := h) (by omega) (by omega) (X := 128) (Y := 64) (by omega) (by omega)
  by_cases hz : q + m = 0
  · rw [show Rk.score 6 h q m r = Rk.ov (2 * h * h) 1 from if_pos hz]
    have HO0 := Lib.hid (fun W => over_any (2 * h * h) (1) W (by omega) (by omega))
    generalize Rk.ov (2 * h * h) (1) = z0 at *
    obtain ⟨o1, o2⟩ := z0
    go_enter Tryz.func78, Tryz.ntmps78
    go_wp2_with fail
    refine (HO0.out _).mono ?_
    rintro e w1 ⟨rfl, hb0⟩
    have HB0 := Lib.hid (hb0.mono (Nat.le_refl _))
    clear hb0
    have hg : Blk w1 w.heap.size 45 #[.int .i64 0, .int .i64 0] := (Blk.new w 45 #[.int .i64 0, .int .i64 0]).below HB0.out (by simp)
    have H1 := Lib.hid ((below_alloc_ w _).trans (HB0.out.mono (by simp)))
    have c0 : w1.cell? ⟨w.heap.size, 0, none⟩ = some (.int .i64 0) := hg.cell 0
    have c1 : w1.cell? ⟨w.heap.size, 1, none⟩ = some (.int .i64 0) := hg.cell 1
    have f0 := hg.frozen 0
    have f1 := hg.frozen 1
    have lt := hg.lt
    have Hg := Lib.hid hg
    clear hg
    unfold fv
    go_wp2
    have K := st2 Hg.out (.int .i64 o1) (.int .i64 o2)
    have k0 := K.cell 0
    have k1 := K.cell 1
    simp only [List.getElem?_toArray, List.getElem?_cons_zero, List.getElem?_cons_succ] at k0 k1
    refine bodyPost_ret (v := .agg #[.int .i64 o1, .int .i64 o2]) (by simp [results, Tryz.results78, go_sem, k0, k1]) rfl ⟨rfl, ?_⟩
    exact below_st2 (g := w.heap.size) H1.out (Nat.le_refl _) H1.out.size (.int .i64 o1) (.int .i64 o2)
  · rw [show Rk.score 6 h q m r = Rk.ov (h * h) (q + m) from if_neg hz]
    have HO0 := Lib.hid (fun W => over_any (h * h) (q + m) W (by omega) (by omega))
    generalize Rk.ov (h * h) (q + m) = z0 at *
    obtain ⟨o1, o2⟩ := z0
    go_enter Tryz.func78, Tryz.ntmps78
    go_wp2_with fail
    refine (HO0.out _).mono ?_
    rintro e w1 ⟨rfl, hb0⟩
    have HB0 := Lib.hid (hb0.mono (Nat.le_refl _))
    clear hb0
    have hg : Blk w1 w.heap.size 45 #[.int .i64 0, .int .i64 0] := (Blk.new w 45 #[.int .i64 0, .int .i64 0]).below HB0.out (by simp)
    have H1 := Lib.hid ((below_alloc_ w _).trans (HB0.out.mono (by simp)))
    have c0 : w1.cell? ⟨w.heap.size, 0, none⟩ = some (.int .i64 0) := hg.cell 0
    have c1 : w1.cell? ⟨w.heap.size, 1, none⟩ = some (.int .i64 0) := hg.cell 1
    have f0 := hg.frozen 0
    have f1 := hg.frozen 1
    have lt := hg.lt
    have Hg := Lib.hid hg
    clear hg
    unfold fv
    go_wp2
    have K := st2 Hg.out (.int .i64 o1) (.int .i64 o2)
    have k0 := K.cell 0
    have k1 := K.cell 1
    simp only [List.getElem?_toArray, List.getElem?_cons_zero, List.getElem?_cons_succ] at k0 k1
    refine bodyPost_ret (v := .agg #[.int .i64 o1, .int .i64 o2]) (by simp [results, Tryz.results78, go_sem, k0, k1]) rfl ⟨rfl, ?_⟩
    exact below_st2 (g := w.heap.size) H1.out (Nat.le_refl _) H1.out.size (.int .i64 o1) (.int .i64 o2)

set_option maxHeartbeats 800000 in
theorem score13_any (h q m r : Int) (hh : 0 ≤ h ∧ h ≤ 64) (hq : 0 ≤ q ∧ q ≤ 64) (hm : 0 ≤ m ∧ m ≤ 64) (hr : 0 ≤ r ∧ r ≤ 64) (w : World) :
    Calls Tryz.prog 87 #[.int .i64 h, .int .i64 q, .int .i64 m, .int .i64 r] w (FvPost (Rk.score 13 h q m r) w) := by
  obtain ⟨h0, h1⟩ := hh
  obtain ⟨q0, q1⟩ := hq
  obtain ⟨m0, m1⟩ := hm
  obtain ⟨r0, r1⟩ := hr
  by_cases hz : h = 0
  · rw [show Rk.score 13 h q m r = Rk.ov 0 1 from if_pos hz]
    have HO0 := Lib.hid (fun W => over_any (0) (1) W (by omega) (by omega))
    generalize Rk.ov (0) (1) = z0 at *
    obtain ⟨o1, o2⟩ := z0
    go_enter Tryz.func87, Tryz.ntmps87
    go_wp2_with fail
    refine (HO0.out _).mono ?_
    rintro e w1 ⟨rfl, hb0⟩
    have HB0 := Lib.hid (hb0.mono (Nat.le_refl _))
    clear hb0
    have hg : Blk w1 w.heap.size 45 #[.int .i64 0, .int .i64 0] := (Blk.new w 45 #[.int .i64 0, .int .i64 0]).below HB0.out (by simp)
    have H1 := Lib.hid ((below_alloc_ w _).trans (HB0.out.mono (by simp)))
    have c0 : w1.cell? ⟨w.heap.size, 0, none⟩ = some (.int .i64 0) := hg.cell 0
    have c1 : w1.cell? ⟨w.heap.size, 1, none⟩ = some (.int .i64 0) := hg.cell 1
    have f0 := hg.frozen 0
    have f1 := hg.frozen 1
    have lt := hg.lt
    have Hg := Lib.hid hg
    clear hg
    unfold fv
    go_wp2
    have K := st2 Hg.out (.int .i64 o1) (.int .i64 o2)
    have k0 := K.cell 0
    have k1 := K.cell 1
    simp only [List.getElem?_toArray, List.getElem?_cons_zero, List.getElem?_cons_succ] at k0 k1
    refine bodyPost_ret (v := .agg #[.int .i64 o1, .int .i64 o2]) (by simp [results, Tryz.results87, go_sem, k0, k1]) rfl ⟨rfl, ?_⟩
    exact below_st2 (g := w.heap.size) H1.out (Nat.le_refl _) H1.out.size (.int .i64 o1) (.int .i64 o2)
  · rw [show Rk.score 13 h q m r = Rk.pl (Rk.ov h 1) (Rk.ov h (2 * q + h)) from if_neg hz]
    have HO0 := Lib.hid (fun W => over_any (h) (1) W (by omega) (by omega))
    have HO1 := Lib.hid (fun W => over_any (h) (2 * q + h) W (by omega) (by omega))
    have HO2 := Lib.hid (fun W => plus_any (Rk.ov (h) (1)) (Rk.ov (h) (2 * q + h)) ((Rk.ov_s (by omega) (by omega)).sm (by decide) (by decide)) ((Rk.ov_s (by omega) (by omega)).sm (by decide) (by decide)) W)
    generalize Rk.ov (h) (1) = z0 at *
    generalize Rk.ov (h) (2 * q + h) = z1 at *
    generalize Rk.pl z0 z1 = z2 at *
    obtain ⟨o1, o2⟩ := z2
    go_enter Tryz.func87, Tryz.ntmps87
    go_wp2_with fail
    refine (HO0.out _).mono ?_
    rintro e w1 ⟨rfl, hb0⟩
    have HB0 := Lib.hid (hb0.mono (Nat.le_refl _))
    clear hb0
    go_wp2_with fail
    refine (HO1.out _).mono ?_
    rintro e w2 ⟨rfl, hb1⟩
    have HB1 := Lib.hid (HB0.out.trans (hb1.mono HB0.out.size))
    clear hb1
    go_wp2_with fail
    refine (HO2.out _).mono ?_
    rintro e w3 ⟨rfl, hb2⟩
    have HB2 := Lib.hid (HB1.out.trans (hb2.mono HB1.out.size))
    clear hb2
    have hg : Blk w3 w.heap.size 45 #[.int .i64 0, .int .i64 0] := (Blk.new w 45 #[.int .i64 0, .int .i64 0]).below HB2.out (by simp)
    have H1 := Lib.hid ((below_alloc_ w _).trans (HB2.out.mono (by simp)))
    have c0 : w3.cell? ⟨w.heap.size, 0, none⟩ = some (.int .i64 0) := hg.cell 0
    have c1 : w3.cell? ⟨w.heap.size, 1, none⟩ = some (.int .i64 0) := hg.cell 1
    have f0 := hg.frozen 0
    have f1 := hg.frozen 1
    have lt := hg.lt
    have Hg := Lib.hid hg
    clear hg
    unfold fv
    go_wp2
    have K := st2 Hg.out (.int .i64 o1) (.int .i64 o2)
    have k0 := K.cell 0
    have k1 := K.cell 1
    simp only [List.getElem?_toArray, List.getElem?_cons_zero, List.getElem?_cons_succ] at k0 k1
    refine bodyPost_ret (v := .agg #[.int .i64 o1, .int .i64 o2]) (by simp [results, Tryz.results87, go_sem, k0, k1]) rfl ⟨rfl, ?_⟩
    exact below_st2 (g := w.heap.size) H1.out (Nat.le_refl _) H1.out.size (.int .i64 o1) (.int .i64 o2)

set_option maxHeartbeats 800000 in
theorem score9_any (h q m r : Int) (hh : 0 ≤ h ∧ h ≤ 64) (hq : 0 ≤ q ∧ q ≤ 64) (hm : 0 ≤ m ∧ m ≤ 64) (hr : 0 ≤ r ∧ r ≤ 64) (w : World) :
    Calls Tryz.prog 82 #[.int .i64 h, .int .i64 q, .int .i64 m, .int .i64 r] w (FvPost (Rk.score 9 h q m r) w) := by
  obtain ⟨h0, h1⟩ := hh
  obtain ⟨q0, q1⟩ := hq
  obtain ⟨m0, m1⟩ := hm
  obtain ⟨r0, r1⟩ := hr
  show Calls _ _ _ _ (FvPost (Rk.pos (Rk.mi (Rk.ov (h) (h + m)) (Rk.ov (q) (q + r)))) w)
  have HS := Lib.hid (show Rk.Fb 2000000 1000000 (Rk.mi (Rk.ov (h) (h + m)) (Rk.ov (q) (q + r))) from (Rk.mi_s (Rk.ov_s (by omega) (by omega)) (Rk.ov_s (by omega) (by omega))))
  have HO0 := Lib.hid (fun W => over_any (h) (h + m) W (by omega) (by omega))
  have HO1 := Lib.hid (fun W => over_any (q) (q + r) W (by omega) (by omega))
  have HO2 := Lib.hid (fun W => minus_any (Rk.ov (h) (h + m)) (Rk.ov (q) (q + r)) ((Rk.ov_s (by omega) (by omega)).sm (by decide) (by decide)) ((Rk.ov_s (by omega) (by omega)).sm (by decide) (by decide)) W)
  generalize Rk.ov (h) (h + m) = z0 at *
  generalize Rk.ov (q) (q + r) = z1 at *
  generalize Rk.mi z0 z1 = z2 at *
  obtain ⟨o1, o2⟩ := z2
  obtain ⟨bo1, bo2⟩ : -2000000 ≤ o1 ∧ o1 ≤ 2000000 := by have h : o1.natAbs ≤ 2000000 := HS.out.1; omega
  go_enter Tryz.func82, Tryz.ntmps82
  go_wp2_with fail
  refine (HO0.out _).mono ?_
  rintro e w1 ⟨rfl, hb0⟩
  have HB0 := Lib.hid (hb0.mono (Nat.le_refl _))
  clear hb0
  go_wp2_with fail
  refine (HO1.out _).mono ?_
  rintro e w2 ⟨rfl, hb1⟩
  have HB1 := Lib.hid (HB0.out.trans (hb1.mono HB0.out.size))
  clear hb1
  go_wp2_with fail
  refine (HO2.out _).mono ?_
  rintro e w3 ⟨rfl, hb2⟩
  have HB2 := Lib.hid (HB1.out.trans (hb2.mono HB1.out.size))
  clear hb2
  have hg : Blk w3 w.heap.size 45 #[.int .i64 0, .int .i64 0] := (Blk.new w 45 #[.int .i64 0, .int .i64 0]).below HB2.out (by simp)
  have H1 := Lib.hid ((below_alloc_ w _).trans (HB2.out.mono (by simp)))
  have c0 : w3.cell? ⟨w.heap.size, 0, none⟩ = some (.int .i64 0) := hg.cell 0
  have c1 : w3.cell? ⟨w.heap.size, 1, none⟩ = some (.int .i64 0) := hg.cell 1
  have f0 := hg.frozen 0
  have f1 := hg.frozen 1
  have lt := hg.lt
  have Hg := Lib.hid hg
  clear hg
  unfold fv
  go_wp2
  have K := (st2 Hg.out (.int .i64 (max o1 (-o1))) (.int .i64 o2)).alloc (.cells #[.int .i64 (max o1 (-o1)), .int .i64 o2] 45)
  have k0 := K.cell 0
  have k1 := K.cell 1
  simp only [List.getElem?_toArray, List.getElem?_cons_zero, List.getElem?_cons_succ] at k0 k1
  refine bodyPost_ret (v := .agg #[.int .i64 (max o1 (-o1)), .int .i64 o2]) (by simp [results, Tryz.results82, go_sem, k0, k1]) rfl ⟨rfl, ?_⟩
  have h2 := below_st2 (g := w.heap.size) H1.out (Nat.le_refl _) H1.out.size (.int .i64 (max o1 (-o1))) (.int .i64 o2)
  exact h2.alloc (by have := H1.out.size; simpa using this) _

end Go.Proofs.YtfpmbjobieeidaaGreat
