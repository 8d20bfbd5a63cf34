/-
  The scores: no program in sight.
-/
import Derived.Test.YtfpmbjobieeidaaPlainA
namespace Go.Proofs.Ytfpmbjobieeidaa.Rk

/-- A quotient in lowest terms; 0 if the denominator is 0. -/
def ov (n d : Int) : Int × Int := if d = 0 then (0, 1) else (frNum n d, frDen n d)
def pl (a b : Int × Int) : Int × Int := ov (a.1 * b.2 + b.1 * a.2) (a.2 * b.2)
def mi (a b : Int × Int) : Int × Int := ov (a.1 * b.2 - b.1 * a.2) (a.2 * b.2)
def bt (a b : Int × Int) : Int × Int := ov (a.1 * b.2) (a.2 * b.1)

/-- Bounds of a fraction. -/
def Fb (N D : Nat) (a : Int × Int) : Prop := a.1.natAbs ≤ N ∧ 1 ≤ a.2 ∧ a.2 ≤ D
theorem Fb.mono {N D N' D' : Nat} {a : Int × Int} (h : Fb N D a) (h1 : N ≤ N') (h2 : D ≤ D') : Fb N' D' a := ⟨by have := h.1; omega, h.2.1, by have := h.2.2; omega⟩

theorem frNum_abs (n d : Int) : (frNum n d).natAbs ≤ n.natAbs := by
  unfold frNum
  have h := Int.natAbs_tdiv_le_natAbs (if d < 0 then -n else n) (Int.gcd n d)
  split at h <;> split <;> first | omega | simp_all
theorem frDen_abs (n d : Int) : (frDen n d).natAbs ≤ d.natAbs := by
  unfold frDen
  have h := Int.natAbs_tdiv_le_natAbs (if d < 0 then -d else d) (Int.gcd n d)
  split at h <;> split <;> first | omega | simp_all
theorem ov_fb {n d : Int} {N D : Nat} (h1 : n.natAbs ≤ N) (h2 : d.natAbs ≤ D) (h3 : 1 ≤ D) : Fb N D (ov n d) := by
  unfold ov
  split
  · exact ⟨by simp, by simp, by simp; omega⟩
  · rename_i h
    have a1 := frNum_abs n d
    have a2 := frDen_abs n d
    have a3 := frDen_pos (n := n) h
    exact ⟨by simp; omega, by simp; omega, by simp; omega⟩
theorem mul_abs {x y : Int} {X Y : Nat} (hx : x.natAbs ≤ X) (hy : y.natAbs ≤ Y) : (x * y).natAbs ≤ X * Y := by
  rw [Int.natAbs_mul]; exact Nat.mul_le_mul hx hy
theorem den_abs {N D : Nat} {a : Int × Int} (h : Fb N D a) : a.2.natAbs ≤ D := by have := h.2; omega
theorem pl_fb {a b : Int × Int} {N D N' D' : Nat} (ha : Fb N D a) (hb : Fb N' D' b) : Fb (N * D' + N' * D) (D * D') (pl a b) := by
  have h1 := mul_abs ha.1 (den_abs hb)
  have h2 := mul_abs hb.1 (den_abs ha)
  have h3 := mul_abs (den_abs ha) (den_abs hb)
  refine ov_fb ?_ h3 ?_
  · omega
  · exact Nat.mul_pos (by have := ha.2; omega) (by have := hb.2; omega)
theorem mi_fb {a b : Int × Int} {N D N' D' : Nat} (ha : Fb N D a) (hb : Fb N' D' b) : Fb (N * D' + N' * D) (D * D') (mi a b) := by
  have h1 := mul_abs ha.1 (den_abs hb)
  have h2 := mul_abs hb.1 (den_abs ha)
  have h3 := mul_abs (den_abs ha) (den_abs hb)
  refine ov_fb ?_ h3 ?_
  · omega
  · exact Nat.mul_pos (by have := ha.2; omega) (by have := hb.2; omega)
theorem bt_fb {a b : Int × Int} {N D N' D' : Nat} (ha : Fb N D a) (hb : Fb N' D' b) (h : 1 ≤ D * N') : Fb (N * D') (D * N') (bt a b) :=
  ov_fb (mul_abs ha.1 (den_abs hb)) (mul_abs (den_abs ha) hb.1) h

/-- Small enough to be added, subtracted and divided. -/
def Sm (a : Int × Int) : Prop := Fb 1000000000 1000000000 a
theorem Sm.cross {a b : Int × Int} (ha : Sm a) (hb : Sm b) : (a.1 * b.2).natAbs ≤ 1000000000000000000 ∧ (b.1 * a.2).natAbs ≤ 1000000000000000000 ∧ (a.2 * b.2).natAbs ≤ 1000000000000000000 ∧ (a.2 * b.1).natAbs ≤ 1000000000000000000 :=
  ⟨mul_abs ha.1 (den_abs hb), mul_abs hb.1 (den_abs ha), mul_abs (den_abs ha) (den_abs hb), mul_abs (den_abs ha) hb.1⟩
theorem ov_sm {n d : Int} (h1 : n.natAbs ≤ 1000000000) (h2 : d.natAbs ≤ 1000000000) : Sm (ov n d) := ov_fb h1 h2 (by omega)

/-- What passing tests take off, by Wong. -/
def wong (q : Int) : Int × Int := if q ≤ 2 then ov q 1 else if q ≤ 10 then pl (ov 2 1) (ov (q - 2) 10) else pl (ov 28 10) (ov (q - 10) 1000)
/-- The numerator's amount. -/
def pos (a : Int × Int) : Int × Int := (max a.1 (-a.1), a.2)
/-- The score of a tally by a formula. -/
def score (k : Nat) (h q m r : Int) : Int × Int :=
  match k with
  | 1 => bt (ov h (h + m)) (pl (ov h (h + m)) (ov q (q + r)))
  | 2 => ov (h * h) ((h + m) * (h + q))
  | 3 => ov h (h + m + q)
  | 4 => ov (2 * h) (h + m + h + q)
  | 5 => bt (pl (ov h (h + m)) (ov h (h + q))) (ov 2 1)
  | 6 => if q + m = 0 then ov (2 * h * h) 1 else ov (h * h) (q + m)
  | 7 => mi (ov h 1) (ov q (q + r + 1))
  | 8 => ov h (h + q)
  | 9 => pos (mi (ov h (h + m)) (ov q (q + r)))
  | 10 => mi (ov h 1) (wong q)
  | 11 => ov h (h + m + q + r)
  | 12 => ov (h + r) (h + m + q + r)
  | 13 => if h = 0 then ov 0 1 else pl (ov h 1) (ov h (2 * q + h))
  | _ => ov (h * h) (h * (h + m + q) + 10000 * m * q)

/-- The first error of a tally's numbers. -/
def tErr : List Int → Int
  | [] => 0
  | n :: l => if n < 0 then 1 else if 64 < n then 3 else tErr l
def scoreErr (k : Nat) (l : List Int) : Int := if 1 ≤ k ∧ k ≤ 14 then tErr l else 1
def scoreOf (k : Nat) (h q m r : Int) : Int × Int := if scoreErr k [h, q, m, r] = 0 then score k h q m r else (0, 0)
theorem tErr_drop {l : List Int} {j : Nat} (h : j < l.length) : tErr (l.drop j) = if l.getD j 0 < 0 then 1 else if 64 < l.getD j 0 then 3 else tErr (l.drop (j + 1)) := by
  rw [List.drop_eq_getElem_cons h, tErr, List.getD_eq_getElem?_getD, List.getElem?_eq_getElem h]
  rfl
theorem tErr_zero {h q m r : Int} (e : tErr [h, q, m, r] = 0) : (0 ≤ h ∧ h ≤ 64) ∧ (0 ≤ q ∧ q ≤ 64) ∧ (0 ≤ m ∧ m ≤ 64) ∧ (0 ≤ r ∧ r ≤ 64) := by
  unfold tErr at e
  split at e; · cases e
  split at e; · cases e
  unfold tErr at e
  split at e; · cases e
  split at e; · cases e
  unfold tErr at e
  split at e; · cases e
  split at e; · cases e
  unfold tErr at e
  split at e; · cases e
  split at e; · cases e
  omega
end Go.Proofs.Ytfpmbjobieeidaa.Rk
