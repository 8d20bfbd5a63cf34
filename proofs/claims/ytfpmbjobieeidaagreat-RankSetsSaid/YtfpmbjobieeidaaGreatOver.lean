/-
  The walks of the small fractions: over, plus, minus, by.
-/
import Derived.Test.YtfpmbjobieeidaaGreatFrac
import Derived.Test.YtfpmbjobieeidaaGreatPlainA
namespace Go.Proofs.YtfpmbjobieeidaaGreat
open Go.RowKit

/-- A fraction as a value. -/
def fv (a : Int × Int) : Value := .agg #[.int .i64 a.1, .int .i64 a.2]
def FvPost (a : Int × Int) (w : World) (e : Ending) (w' : World) : Prop := e = .returned (fv a) ∧ Below w.heap.size w w'

theorem st2 {w : World} {g : Nat} {t : TypeId} {a b : Value} (h : Blk w g t #[a, b]) (x y : Value) : Blk ((w.setCell ⟨g, 0, none⟩ x).setCell ⟨g, 1, none⟩ y) g t #[x, y] := (h.set_ 0 x).set_ 1 y
theorem below_st2 {B : Nat} {a w : World} (h : Below B a w) {g : Nat} (hB : B ≤ g) (hw : B ≤ w.heap.size) (x y : Value) : Below B a ((w.setCell ⟨g, 0, none⟩ x).setCell ⟨g, 1, none⟩ y) :=
  (h.grown (grown_setCell w ⟨g, 0, none⟩ x) hw (fun k e => by simp at e; omega)).grown (grown_setCell _ ⟨g, 1, none⟩ y) (by simpa using hw) (fun k e => by simp at e; omega)
theorem below_alloc_ (w : World) (o : Obj) : Below w.heap.size w (w.alloc o) := (Below.refl _ _).alloc (Nat.le_refl _) _

theorem fr_ov {n d : Int} (hn : n.natAbs ≤ 9000000000000000000) (hd : d.natAbs ≤ 9000000000000000000) (h : d ≠ 0) : Rk.ov n d = (Rk.frN n d, Rk.frD n d) := by
  unfold Rk.ov Rk.frN Rk.frD
  have hk : Rk.frOk n d := ⟨h, by omega, by omega⟩
  rw [if_neg h, if_pos hk, if_pos hk]

set_option maxHeartbeats 400000 in
theorem over_any (n d : Int) (w : World) (hn : n.natAbs ≤ 9000000000000000000) (hd : d.natAbs ≤ 9000000000000000000) :
    Calls Tryz.prog 50 #[.int .i64 n, .int .i64 d] w (FvPost (Rk.ov n d) w) := by
  by_cases h : d = 0
  · subst h
    go_enter Tryz.func50, Tryz.ntmps50
    go_wp2
    refine bodyPost_ret (v := .agg #[.int .i64 0, .int .i64 1]) (by simp [results, Tryz.results50, go_sem]) rfl ⟨rfl, ?_⟩
    exact (Below.refl _ _).alloc (Nat.le_refl _) _
  · have hz : (d == 0) = false := by simpa using h
    have HF := Lib.hid (fun W => fraction_any n d (by omega) (by omega) (by omega) (by omega) W)
    have He := Lib.hid (fr_ov hn hd h)
    go_enter Tryz.func50, Tryz.ntmps50
    go_wp2_with fail
    refine (HF.out _).mono ?_
    rintro e w1 ⟨rfl, hb⟩
    have h1 : Below w.heap.size w w1 := (below_alloc_ w _).trans (hb.mono (by simp))
    have H1 := Lib.hid h1
    have hg : Blk w1 w.heap.size 45 #[.int .i64 0, .int .i64 0] := (Blk.new w _ _).below hb (by simp)
    have c0 : w1.cell? ⟨w.heap.size, 0, none⟩ = some (.int .i64 0) := hg.cell 0
    have c1 : w1.cell? ⟨w.heap.size, 1, none⟩ = some (.int .i64 0) := hg.cell 1
    have f0 := hg.frozen 0
    have f1 := hg.frozen 1
    have lt : w.heap.size < w1.heap.size := hg.lt
    have Hg := Lib.hid hg
    clear hb h1 hg
    generalize Rk.frN n d = x at *
    generalize Rk.frD n d = y at *
    generalize Rk.frErr n d = z at *
    go_wp2
    have K := (st2 Hg.out (.int .i64 x) (.int .i64 y)).alloc (.cells #[.int .i64 x, .int .i64 y] 45)
    have k0 := K.cell 0
    have k1 := K.cell 1
    simp only [List.getElem?_toArray, List.getElem?_cons_zero, List.getElem?_cons_succ] at k0 k1
    refine bodyPost_ret (v := .agg #[.int .i64 x, .int .i64 y]) (by simp [results, Tryz.results50, go_sem, k0, k1]) rfl ⟨by rw [He.out]; rfl, ?_⟩
    have h2 := below_st2 H1.out (Nat.le_refl _) H1.out.size (.int .i64 x) (.int .i64 y)
    exact h2.alloc (by have := H1.out.size; simpa using this) _


set_option maxHeartbeats 400000 in
theorem plus_any (a b : Int × Int) (ha : Rk.Sm a) (hb : Rk.Sm b) (w : World) :
    Calls Tryz.prog 49 #[fv a, fv b] w (FvPost (Rk.pl a b) w) := by
  obtain ⟨p1, p2, p3, p4⟩ := ha.cross hb
  clear ha hb
  obtain ⟨x, y⟩ := a
  obtain ⟨u, v⟩ := b
  simp only at p1 p2 p3 p4

  have HO := Lib.hid (fun W => over_any (x * v + u * y) (y * v) W (by omega) (by omega))
  have Hop : Hid (Rk.pl (x, y) (u, v) = Rk.ov (x * v + u * y) (y * v)) := rfl
  rw [Hop.out]
  clear Hop
  unfold fv
  have r1 : -1000000000000000000 ≤ x * v ∧ x * v ≤ 1000000000000000000 := by omega
  have r2 : -1000000000000000000 ≤ u * y ∧ u * y ≤ 1000000000000000000 := by omega
  have r3 : -1000000000000000000 ≤ y * v ∧ y * v ≤ 1000000000000000000 := by omega
  have r4 : -1000000000000000000 ≤ y * u ∧ y * u ≤ 1000000000000000000 := by omega
  obtain ⟨r1, s1⟩ := r1
  obtain ⟨r2, s2⟩ := r2
  obtain ⟨r3, s3⟩ := r3
  obtain ⟨r4, s4⟩ := r4
  clear p1 p2 p3 p4
  generalize Rk.ov (x * v + u * y) (y * v) = o at *
  obtain ⟨o1, o2⟩ := o
  go_enter Tryz.func49, Tryz.ntmps49
  go_wp2_with fail
  refine (HO.out _).mono ?_
  rintro e w1 ⟨rfl, hb⟩
  have h1 : Below w.heap.size w w1 := (((below_alloc_ w _).alloc (by simp) _).alloc (by simp; omega) _).trans (hb.mono (by simp; omega))
  have H1 := Lib.hid h1
  have hg : Blk w1 (w.heap.size + 1 + 1) 45 #[.int .i64 0, .int .i64 0] := by
    have h := (Blk.new ((w.alloc (.cells #[.int .i64 x, .int .i64 y] 45)).alloc (.cells #[.int .i64 u, .int .i64 v] 45)) 45 #[.int .i64 0, .int .i64 0]).below hb (by simp)
    simpa using h
  have c0 : w1.cell? ⟨w.heap.size + 1 + 1, 0, none⟩ = some (.int .i64 0) := hg.cell 0
  have c1 : w1.cell? ⟨w.heap.size + 1 + 1, 1, none⟩ = some (.int .i64 0) := hg.cell 1
  have f0 := hg.frozen 0
  have f1 := hg.frozen 1
  have lt := hg.lt
  have Hg := Lib.hid hg
  clear hb h1 hg
  unfold fv
  go_wp2
  have K := st2 Hg.out (.int .i64 o1) (.int .i64 o2)
  have k0 := K.cell 0
  have k1 := K.cell 1
  simp only [List.getElem?_toArray, List.getElem?_cons_zero, List.getElem?_cons_succ] at k0 k1
  refine bodyPost_ret (v := .agg #[.int .i64 o1, .int .i64 o2]) (by simp [results, Tryz.results49, go_sem, k0, k1]) rfl ⟨rfl, ?_⟩
  exact below_st2 H1.out (by omega) H1.out.size (.int .i64 o1) (.int .i64 o2)

set_option maxHeartbeats 400000 in
theorem minus_any (a b : Int × Int) (ha : Rk.Sm a) (hb : Rk.Sm b) (w : World) :
    Calls Tryz.prog 80 #[fv a, fv b] w (FvPost (Rk.mi a b) w) := by
  obtain ⟨p1, p2, p3, p4⟩ := ha.cross hb
  clear ha hb
  obtain ⟨x, y⟩ := a
  obtain ⟨u, v⟩ := b
  simp only at p1 p2 p3 p4

  have HO := Lib.hid (fun W => over_any (x * v - u * y) (y * v) W (by omega) (by omega))
  have Hop : Hid (Rk.mi (x, y) (u, v) = Rk.ov (x * v - u * y) (y * v)) := rfl
  rw [Hop.out]
  clear Hop
  unfold fv
  have r1 : -1000000000000000000 ≤ x * v ∧ x * v ≤ 1000000000000000000 := by omega
  have r2 : -1000000000000000000 ≤ u * y ∧ u * y ≤ 1000000000000000000 := by omega
  have r3 : -1000000000000000000 ≤ y * v ∧ y * v ≤ 1000000000000000000 := by omega
  have r4 : -1000000000000000000 ≤ y * u ∧ y * u ≤ 1000000000000000000 := by omega
  obtain ⟨r1, s1⟩ := r1
  obtain ⟨r2, s2⟩ := r2
  obtain ⟨r3, s3⟩ := r3
  obtain ⟨r4, s4⟩ := r4
  clear p1 p2 p3 p4
  generalize Rk.ov (x * v - u * y) (y * v) = o at *
  obtain ⟨o1, o2⟩ := o
  go_enter Tryz.func80, Tryz.ntmps80
  go_wp2_with fail
  refine (HO.out _).mono ?_
  rintro e w1 ⟨rfl, hb⟩
  have h1 : Below w.heap.size w w1 := (((below_alloc_ w _).alloc (by simp) _).alloc (by simp; omega) _).trans (hb.mono (by simp; omega))
  have H1 := Lib.hid h1
  have hg : Blk w1 (w.heap.size + 1 + 1) 45 #[.int .i64 0, .int .i64 0] := by
    have h := (Blk.new ((w.alloc (.cells #[.int .i64 x, .int .i64 y] 45)).alloc (.cells #[.int .i64 u, .int .i64 v] 45)) 45 #[.int .i64 0, .int .i64 0]).below hb (by simp)
    simpa using h
  have c0 : w1.cell? ⟨w.heap.size + 1 + 1, 0, none⟩ = some (.int .i64 0) := hg.cell 0
  have c1 : w1.cell? ⟨w.heap.size + 1 + 1, 1, none⟩ = some (.int .i64 0) := hg.cell 1
  have f0 := hg.frozen 0
  have f1 := hg.frozen 1
  have lt := hg.lt
  have Hg := Lib.hid hg
  clear hb h1 hg
  unfold fv
  go_wp2
  have K := st2 Hg.out (.int .i64 o1) (.int .i64 o2)
  have k0 := K.cell 0
  have k1 := K.cell 1
  simp only [List.getElem?_toArray, List.getElem?_cons_zero, List.getElem?_cons_succ] at k0 k1
  refine bodyPost_ret (v := .agg #[.int .i64 o1, .int .i64 o2]) (by simp [results, Tryz.results80, go_sem, k0, k1]) rfl ⟨rfl, ?_⟩
  exact below_st2 H1.out (by omega) H1.out.size (.int .i64 o1) (.int .i64 o2)

set_option maxHeartbeats 400000 in
theorem by_any (a b : Int × Int) (ha : Rk.Sm a) (hb : Rk.Sm b) (w : World) :
    Calls Tryz.prog 73 #[fv a, fv b] w (FvPost (Rk.bt a b) w) := by
  obtain ⟨p1, p2, p3, p4⟩ := ha.cross hb
  clear ha hb
  obtain ⟨x, y⟩ := a
  obtain ⟨u, v⟩ := b
  simp only at p1 p2 p3 p4

  have HO := Lib.hid (fun W => over_any (x * v) (y * u) W (by omega) (by omega))
  have Hop : Hid (Rk.bt (x, y) (u, v) = Rk.ov (x * v) (y * u)) := rfl
  rw [Hop.out]
  clear Hop
  unfold fv
  have r1 : -1000000000000000000 ≤ x * v ∧ x * v ≤ 1000000000000000000 := by omega
  have r2 : -1000000000000000000 ≤ u * y ∧ u * y ≤ 1000000000000000000 := by omega
  have r3 : -1000000000000000000 ≤ y * v ∧ y * v ≤ 1000000000000000000 := by omega
  have r4 : -1000000000000000000 ≤ y * u ∧ y * u ≤ 1000000000000000000 := by omega
  obtain ⟨r1, s1⟩ := r1
  obtain ⟨r2, s2⟩ := r2
  obtain ⟨r3, s3⟩ := r3
  obtain ⟨r4, s4⟩ := r4
  clear p1 p2 p3 p4
  generalize Rk.ov (x * v) (y * u) = o at *
  obtain ⟨o1, o2⟩ := o
  go_enter Tryz.func73, Tryz.ntmps73
  go_wp2_with fail
  refine (HO.out _).mono ?_
  rintro e w1 ⟨rfl, hb⟩
  have h1 : Below w.heap.size w w1 := (((below_alloc_ w _).alloc (by simp) _).alloc (by simp; omega) _).trans (hb.mono (by simp; omega))
  have H1 := Lib.hid h1
  have hg : Blk w1 (w.heap.size + 1 + 1) 45 #[.int .i64 0, .int .i64 0] := by
    have h := (Blk.new ((w.alloc (.cells #[.int .i64 x, .int .i64 y] 45)).alloc (.cells #[.int .i64 u, .int .i64 v] 45)) 45 #[.int .i64 0, .int .i64 0]).below hb (by simp)
    simpa using h
  have c0 : w1.cell? ⟨w.heap.size + 1 + 1, 0, none⟩ = some (.int .i64 0) := hg.cell 0
  have c1 : w1.cell? ⟨w.heap.size + 1 + 1, 1, none⟩ = some (.int .i64 0) := hg.cell 1
  have f0 := hg.frozen 0
  have f1 := hg.frozen 1
  have lt := hg.lt
  have Hg := Lib.hid hg
  clear hb h1 hg
  unfold fv
  go_wp2
  have K := st2 Hg.out (.int .i64 o1) (.int .i64 o2)
  have k0 := K.cell 0
  have k1 := K.cell 1
  simp only [List.getElem?_toArray, List.getElem?_cons_zero, List.getElem?_cons_succ] at k0 k1
  refine bodyPost_ret (v := .agg #[.int .i64 o1, .int .i64 o2]) (by simp [results, Tryz.results73, go_sem, k0, k1]) rfl ⟨rfl, ?_⟩
  exact below_st2 H1.out (by omega) H1.out.size (.int .i64 o1) (.int .i64 o2)

set_option maxHeartbeats 400000 in
theorem rplus_any (a b : Int × Int) (ha : Rk.Sm a) (hb : Rk.Sm b) (w : World) :
    Calls Tryz.prog 52 #[fv a, fv b] w (FvPost (Rk.pl a b) w) := by
  obtain ⟨p1, p2, p3, p4⟩ := ha.cross hb
  have hd : 1 ≤ a.2 * b.2 := Int.mul_pos ha.2.1 hb.2.1; clear ha hb
  obtain ⟨x, y⟩ := a
  obtain ⟨u, v⟩ := b
  simp only at p1 p2 p3 p4

  have hd : y * v ≠ 0 := by simp only at hd; omega
  have HO := Lib.hid (fun W => rfraction_any (x * v + u * y) (y * v) (by omega) (by omega) (by omega) (by omega) W)
  have He := Lib.hid (fr_ov (n := x * v + u * y) (d := y * v) (by omega) (by omega) hd)
  have Hop : Hid (Rk.pl (x, y) (u, v) = Rk.ov (x * v + u * y) (y * v)) := rfl
  rw [Hop.out]
  clear Hop hd
  unfold fv
  have r1 : -1000000000000000000 ≤ x * v ∧ x * v ≤ 1000000000000000000 := by omega
  have r2 : -1000000000000000000 ≤ u * y ∧ u * y ≤ 1000000000000000000 := by omega
  have r3 : -1000000000000000000 ≤ y * v ∧ y * v ≤ 1000000000000000000 := by omega
  have r4 : -1000000000000000000 ≤ y * u ∧ y * u ≤ 1000000000000000000 := by omega
  obtain ⟨r1, s1⟩ := r1
  obtain ⟨r2, s2⟩ := r2
  obtain ⟨r3, s3⟩ := r3
  obtain ⟨r4, s4⟩ := r4
  clear p1 p2 p3 p4
  go_enter Tryz.func52, Tryz.ntmps52
  go_wp2_with fail
  refine (HO.out _).mono ?_
  rintro e w1 ⟨rfl, hb⟩
  have h1 : Below w.heap.size w w1 := (((below_alloc_ w _).alloc (by simp) _).alloc (by simp; omega) _).trans (hb.mono (by simp; omega))
  have H1 := Lib.hid h1
  have hg : Blk w1 (w.heap.size + 1 + 1) 45 #[.int .i64 0, .int .i64 0] := by
    have h := (Blk.new ((w.alloc (.cells #[.int .i64 x, .int .i64 y] 45)).alloc (.cells #[.int .i64 u, .int .i64 v] 45)) 45 #[.int .i64 0, .int .i64 0]).below hb (by simp)
    simpa using h
  have c0 : w1.cell? ⟨w.heap.size + 1 + 1, 0, none⟩ = some (.int .i64 0) := hg.cell 0
  have c1 : w1.cell? ⟨w.heap.size + 1 + 1, 1, none⟩ = some (.int .i64 0) := hg.cell 1
  have f0 := hg.frozen 0
  have f1 := hg.frozen 1
  have lt := hg.lt
  have Hg := Lib.hid hg
  clear hb h1 hg
  generalize Rk.frN (x * v + u * y) (y * v) = o1 at *
  generalize Rk.frD (x * v + u * y) (y * v) = o2 at *
  generalize Rk.frErr (x * v + u * y) (y * v) = z at *
  go_wp2
  have K := (st2 Hg.out (.int .i64 o1) (.int .i64 o2)).alloc (.cells #[.int .i64 o1, .int .i64 o2] 45)
  have k0 := K.cell 0
  have k1 := K.cell 1
  simp only [List.getElem?_toArray, List.getElem?_cons_zero, List.getElem?_cons_succ] at k0 k1
  refine bodyPost_ret (v := .agg #[.int .i64 o1, .int .i64 o2]) (by simp [results, Tryz.results52, go_sem, k0, k1]) rfl ⟨by rw [He.out]; rfl, ?_⟩
  have h2 := below_st2 (g := w.heap.size + 1 + 1) H1.out (by omega) H1.out.size (.int .i64 o1) (.int .i64 o2)
  exact h2.alloc (by have := H1.out.size; simpa using this) _

set_option maxHeartbeats 400000 in
theorem rover_any (a b : Int × Int) (ha : Rk.Sm a) (hb : Rk.Sm b) (w : World) :
    Calls Tryz.prog 93 #[fv a, fv b] w (FvPost (Rk.bt a b) w) := by
  obtain ⟨p1, p2, p3, p4⟩ := ha.cross hb
  clear ha hb
  obtain ⟨x, y⟩ := a
  obtain ⟨u, v⟩ := b
  simp only at p1 p2 p3 p4

  have HO := Lib.hid (fun W => rfraction_any (x * v) (y * u) (by omega) (by omega) (by omega) (by omega) W)
  have Hop : Hid (Rk.bt (x, y) (u, v) = Rk.ov (x * v) (y * u)) := rfl
  rw [Hop.out]
  clear Hop
  unfold fv
  have r1 : -1000000000000000000 ≤ x * v ∧ x * v ≤ 1000000000000000000 := by omega
  have r2 : -1000000000000000000 ≤ u * y ∧ u * y ≤ 1000000000000000000 := by omega
  have r3 : -1000000000000000000 ≤ y * v ∧ y * v ≤ 1000000000000000000 := by omega
  have r4 : -1000000000000000000 ≤ y * u ∧ y * u ≤ 1000000000000000000 := by omega
  obtain ⟨r1, s1⟩ := r1
  obtain ⟨r2, s2⟩ := r2
  obtain ⟨r3, s3⟩ := r3
  obtain ⟨r4, s4⟩ := r4
  clear p1 p2 p3 p4
  by_cases hd : y * u = 0
  · have e0 : Rk.frErr (x * v) (y * u) = 1 := by unfold Rk.frErr; rw [if_pos hd]
    have He : Hid (Rk.ov (x * v) (y * u) = (0, 1)) := by unfold Rk.ov; rw [if_pos hd]; rfl
    have E0 := Lib.hid e0
    clear e0 hd
    go_enter Tryz.func93, Tryz.ntmps93
    go_wp2_with fail
    refine (HO.out _).mono ?_
    rintro e w1 ⟨rfl, hb⟩
    rw [E0.out]
    have h1 : Below w.heap.size w w1 := (((below_alloc_ w _).alloc (by simp) _).alloc (by simp; omega) _).trans (hb.mono (by simp; omega))
    have H1 := Lib.hid h1
    have hg : Blk w1 (w.heap.size + 1 + 1) 45 #[.int .i64 0, .int .i64 0] := by
      have h := (Blk.new ((w.alloc (.cells #[.int .i64 x, .int .i64 y] 45)).alloc (.cells #[.int .i64 u, .int .i64 v] 45)) 45 #[.int .i64 0, .int .i64 0]).below hb (by simp)
      simpa using h
    have c0 : w1.cell? ⟨w.heap.size + 1 + 1, 0, none⟩ = some (.int .i64 0) := hg.cell 0
    have c1 : w1.cell? ⟨w.heap.size + 1 + 1, 1, none⟩ = some (.int .i64 0) := hg.cell 1
    have f0 := hg.frozen 0
    have f1 := hg.frozen 1
    have lt := hg.lt
    have Hg := Lib.hid hg
    clear hb h1 hg
    generalize Rk.frN (x * v) (y * u) = q1 at *
    generalize Rk.frD (x * v) (y * u) = q2 at *
    go_wp2
    have K := (st2 Hg.out (.int .i64 0) (.int .i64 1)).alloc (.cells #[.int .i64 q1, .int .i64 q2] 45)
    have k0 := K.cell 0
    have k1 := K.cell 1
    simp only [List.getElem?_toArray, List.getElem?_cons_zero, List.getElem?_cons_succ] at k0 k1
    refine bodyPost_ret (v := .agg #[.int .i64 0, .int .i64 1]) (by simp [results, Tryz.results93, go_sem, k0, k1]) rfl ⟨by rw [He.out]; rfl, ?_⟩
    have h2 := below_st2 (g := w.heap.size + 1 + 1) H1.out (by omega) H1.out.size (.int .i64 0) (.int .i64 1)
    exact h2.alloc (by have := H1.out.size; simpa using this) _
  · have He := Lib.hid (fr_ov (n := x * v) (d := y * u) (by omega) (by omega) hd)
    have e0 : Rk.frErr (x * v) (y * u) = 0 := by unfold Rk.frErr; rw [if_neg hd, if_neg (by omega)]
    have E0 := Lib.hid e0
    clear e0 hd
    go_enter Tryz.func93, Tryz.ntmps93
    go_wp2_with fail
    refine (HO.out _).mono ?_
    rintro e w1 ⟨rfl, hb⟩
    rw [E0.out]
    have h1 : Below w.heap.size w w1 := (((below_alloc_ w _).alloc (by simp) _).alloc (by simp; omega) _).trans (hb.mono (by simp; omega))
    have H1 := Lib.hid h1
    have hg : Blk w1 (w.heap.size + 1 + 1) 45 #[.int .i64 0, .int .i64 0] := by
      have h := (Blk.new ((w.alloc (.cells #[.int .i64 x, .int .i64 y] 45)).alloc (.cells #[.int .i64 u, .int .i64 v] 45)) 45 #[.int .i64 0, .int .i64 0]).below hb (by simp)
      simpa using h
    have c0 : w1.cell? ⟨w.heap.size + 1 + 1, 0, none⟩ = some (.int .i64 0) := hg.cell 0
    have c1 : w1.cell? ⟨w.heap.size + 1 + 1, 1, none⟩ = some (.int .i64 0) := hg.cell 1
    have f0 := hg.frozen 0
    have f1 := hg.frozen 1
    have lt := hg.lt
    have Hg := Lib.hid hg
    clear hb h1 hg
    generalize Rk.frN (x * v) (y * u) = o1 at *
    generalize Rk.frD (x * v) (y * u) = o2 at *
    go_wp2
    have K := (st2 Hg.out (.int .i64 o1) (.int .i64 o2)).alloc (.cells #[.int .i64 o1, .int .i64 o2] 45)
    have k0 := K.cell 0
    have k1 := K.cell 1
    simp only [List.getElem?_toArray, List.getElem?_cons_zero, List.getElem?_cons_succ] at k0 k1
    refine bodyPost_ret (v := .agg #[.int .i64 o1, .int .i64 o2]) (by simp [results, Tryz.results93, go_sem, k0, k1]) rfl ⟨by rw [He.out]; rfl, ?_⟩
    have h2 := below_st2 (g := w.heap.size + 1 + 1) H1.out (by omega) H1.out.size (.int .i64 o1) (.int .i64 o2)
    exact h2.alloc (by have := H1.out.size; simpa using this) _

set_option maxHeartbeats 400000 in
theorem rby_any (n d : Int) (w : World) (hn : n.natAbs ≤ 9000000000000000000) (hd : d.natAbs ≤ 9000000000000000000) :
    Calls Tryz.prog 53 #[.int .i64 n, .int .i64 d] w (FvPost (Rk.ov n d) w) := by
  have HO := Lib.hid (fun W => rfraction_any n d (by omega) (by omega) (by omega) (by omega) W)
  by_cases h : d = 0
  · have e0 : Rk.frErr n d = 1 := by unfold Rk.frErr; rw [if_pos h]
    have He : Hid (Rk.ov n d = (0, 1)) := by unfold Rk.ov; rw [if_pos h]; rfl
    have E0 := Lib.hid e0
    clear e0 h
    go_enter Tryz.func53, Tryz.ntmps53
    go_wp2_with fail
    refine (HO.out _).mono ?_
    rintro e w1 ⟨rfl, hb⟩
    rw [E0.out]
    have h1 : Below w.heap.size w w1 := (below_alloc_ w _).trans (hb.mono (by simp))
    have H1 := Lib.hid h1
    have hg : Blk w1 w.heap.size 45 #[.int .i64 0, .int .i64 0] := (Blk.new w _ _).below hb (by simp)
    have c0 : w1.cell? ⟨w.heap.size, 0, none⟩ = some (.int .i64 0) := hg.cell 0
    have c1 : w1.cell? ⟨w.heap.size, 1, none⟩ = some (.int .i64 0) := hg.cell 1
    have f0 := hg.frozen 0
    have f1 := hg.frozen 1
    have lt := hg.lt
    have Hg := Lib.hid hg
    clear hb h1 hg
    generalize Rk.frN n d = q1 at *
    generalize Rk.frD n d = q2 at *
    go_wp2
    have K := (st2 Hg.out (.int .i64 0) (.int .i64 1)).alloc (.cells #[.int .i64 q1, .int .i64 q2] 45)
    have k0 := K.cell 0
    have k1 := K.cell 1
    simp only [List.getElem?_toArray, List.getElem?_cons_zero, List.getElem?_cons_succ] at k0 k1
    refine bodyPost_ret (v := .agg #[.int .i64 0, .int .i64 1]) (by simp [results, Tryz.results53, go_sem, k0, k1]) rfl ⟨by rw [He.out]; rfl, ?_⟩
    have h2 := below_st2 (g := w.heap.size) H1.out (by omega) H1.out.size (.int .i64 0) (.int .i64 1)
    exact h2.alloc (by have := H1.out.size; simpa using this) _
  · have He := Lib.hid (fr_ov hn hd h)
    have e0 : Rk.frErr n d = 0 := by unfold Rk.frErr; rw [if_neg h, if_neg (by omega)]
    have E0 := Lib.hid e0
    clear e0 h
    go_enter Tryz.func53, Tryz.ntmps53
    go_wp2_with fail
    refine (HO.out _).mono ?_
    rintro e w1 ⟨rfl, hb⟩
    rw [E0.out]
    have h1 : Below w.heap.size w w1 := (below_alloc_ w _).trans (hb.mono (by simp))
    have H1 := Lib.hid h1
    have hg : Blk w1 w.heap.size 45 #[.int .i64 0, .int .i64 0] := (Blk.new w _ _).below hb (by simp)
    have c0 : w1.cell? ⟨w.heap.size, 0, none⟩ = some (.int .i64 0) := hg.cell 0
    have c1 : w1.cell? ⟨w.heap.size, 1, none⟩ = some (.int .i64 0) := hg.cell 1
    have f0 := hg.frozen 0
    have f1 := hg.frozen 1
    have lt := hg.lt
    have Hg := Lib.hid hg
    clear hb h1 hg
    generalize Rk.frN n d = o1 at *
    generalize Rk.frD n d = o2 at *
    go_wp2
    have K := (st2 Hg.out (.int .i64 o1) (.int .i64 o2)).alloc (.cells #[.int .i64 o1, .int .i64 o2] 45)
    have k0 := K.cell 0
    have k1 := K.cell 1
    simp only [List.getElem?_toArray, List.getElem?_cons_zero, List.getElem?_cons_succ] at k0 k1
    refine bodyPost_ret (v := .agg #[.int .i64 o1, .int .i64 o2]) (by simp [results, Tryz.results53, go_sem, k0, k1]) rfl ⟨by rw [He.out]; rfl, ?_⟩
    have h2 := below_st2 (g := w.heap.size) H1.out (by omega) H1.out.size (.int .i64 o1) (.int .i64 o2)
    exact h2.alloc (by have := H1.out.size; simpa using this) _

set_option maxHeartbeats 400000 in
theorem rless_any (a b : Int × Int) (ha : Rk.Sm a) (hb : Rk.Sm b) (w : World) :
    Calls Tryz.prog 94 #[fv a, fv b] w (FvPost (Rk.mi a b) w) := by
  obtain ⟨p1, p2, p3, p4⟩ := ha.cross hb
  have HSa := Lib.hid ha; have HSb := Lib.hid (show Rk.Sm (-b.1, b.2) from ⟨by have := hb.1; simp; omega, hb.2.1, hb.2.2⟩); have nb : -1000000000 ≤ b.1 ∧ b.1 ≤ 1000000000 := (by have := hb.1; omega); obtain ⟨nb1, nb2⟩ := nb; clear ha hb
  obtain ⟨x, y⟩ := a
  obtain ⟨u, v⟩ := b
  simp only at p1 p2 p3 p4

  simp only at nb1 nb2 HSb
  have HO := Lib.hid (fun W => rplus_any (x, y) (-u, v) HSa.out HSb.out W)
  have Hop : Rk.mi (x, y) (u, v) = Rk.pl (x, y) (-u, v) := by unfold Rk.mi Rk.pl; simp only [Int.neg_mul, Int.sub_eq_add_neg]
  rw [Hop]
  clear Hop p1 p2 p3 p4
  unfold FvPost fv
  unfold FvPost fv at HO
  generalize Rk.pl (x, y) (-u, v) = o at *
  obtain ⟨o1, o2⟩ := o
  go_enter Tryz.func94, Tryz.ntmps94
  go_wp2_with fail
  refine (HO.out _).mono ?_
  rintro e w1 ⟨rfl, hb⟩
  have h1 : Below w.heap.size w w1 := (((below_alloc_ w _).alloc (by simp) _).alloc (by simp; omega) _).trans (hb.mono (by simp; omega))
  have H1 := Lib.hid h1
  have hg : Blk w1 (w.heap.size + 1 + 1) 45 #[.int .i64 0, .int .i64 0] := by
    have h := (Blk.new ((w.alloc (.cells #[.int .i64 x, .int .i64 y] 45)).alloc (.cells #[.int .i64 u, .int .i64 v] 45)) 45 #[.int .i64 0, .int .i64 0]).below hb (by simp)
    simpa using h
  have c0 : w1.cell? ⟨w.heap.size + 1 + 1, 0, none⟩ = some (.int .i64 0) := hg.cell 0
  have c1 : w1.cell? ⟨w.heap.size + 1 + 1, 1, none⟩ = some (.int .i64 0) := hg.cell 1
  have f0 := hg.frozen 0
  have f1 := hg.frozen 1
  have lt := hg.lt
  have Hg := Lib.hid hg
  clear hb h1 hg
  go_wp2
  have K := st2 Hg.out (.int .i64 o1) (.int .i64 o2)
  have k0 := K.cell 0
  have k1 := K.cell 1
  simp only [List.getElem?_toArray, List.getElem?_cons_zero, List.getElem?_cons_succ] at k0 k1
  refine bodyPost_ret (v := .agg #[.int .i64 o1, .int .i64 o2]) (by simp [results, Tryz.results94, go_sem, k0, k1]) rfl ⟨rfl, ?_⟩
  exact below_st2 H1.out (by omega) H1.out.size (.int .i64 o1) (.int .i64 o2)

end Go.Proofs.YtfpmbjobieeidaaGreat
