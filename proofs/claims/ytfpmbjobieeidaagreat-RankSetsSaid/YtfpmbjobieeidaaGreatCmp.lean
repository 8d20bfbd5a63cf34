/-
  The walks of both Compares.
-/
import Derived.Test.YtfpmbjobieeidaaGreatNum
import Derived.Test.YtfpmbjobieeidaaGreatShelf
import Derived.Sort.Grow
namespace Go.Proofs.YtfpmbjobieeidaaGreat
open Go.RowKit

theorem mul64_any (x y : Nat) (hx : x ≤ 9223372036854775808) (hy : y ≤ 9223372036854775807) (w : World) :
    Calls Tryz.prog 91 #[.int .u64 (x : Int), .int .u64 (y : Int)] w fun e w' => e = .returned (.tuple #[.int .u64 (Rk.hi x y : Int), .int .u64 (Rk.lo x y : Int)]) ∧ w = w' :=
  (Tryz.bits_Mul64 x y (by omega) (by omega) w).mono fun _ _ ⟨he, hw⟩ => ⟨he, hw.symm⟩
theorem mul64_call (x y : Int) (hx0 : 0 ≤ x) (hy0 : 0 ≤ y) (hx : x ≤ 9223372036854775808) (hy : y ≤ 9223372036854775807) (w : World) :
    Calls Tryz.prog 91 #[.int .u64 x, .int .u64 y] w fun e w' => e = .returned (.tuple #[.int .u64 (Rk.hi x.toNat y.toNat : Int), .int .u64 (Rk.lo x.toNat y.toNat : Int)]) ∧ w = w' := by
  have h := mul64_any x.toNat y.toNat (by omega) (by omega) w
  rwa [Int.toNat_of_nonneg hx0, Int.toNat_of_nonneg hy0] at h

theorem sign_call (n s : Int) (h : Int.sign n = s) (w : World) :
    Calls Tryz.prog 90 #[.int .i64 n] w fun e w' => e = .returned (.int .i64 s) ∧ w = w' := by
  subst h; exact sign_any n w

theorem sign_two {a b s : Int} (ha : Int.sign a = s) (hb : Int.sign b = s) (n : Int) (hn : n = a ∨ n = b) (w : World) :
    Calls Tryz.prog 90 #[.int .i64 n] w fun e w' => e = .returned (.int .i64 s) ∧ w = w' := by
  rcases hn with rfl | rfl
  · exact sign_call _ _ ha w
  · exact sign_call _ _ hb w

theorem sign_case (n s : Int) (h : n < 0 ∧ s = -1 ∨ n = 0 ∧ s = 0 ∨ 0 < n ∧ s = 1) (w : World) :
    Calls Tryz.prog 90 #[.int .i64 n] w fun e w' => e = .returned (.int .i64 s) ∧ w = w' := by
  rcases h with ⟨h, rfl⟩ | ⟨h, rfl⟩ | ⟨h, rfl⟩
  · exact sign_call _ _ (Rk.sign_of_lt h) w
  · exact sign_call _ _ (by rw [h]; rfl) w
  · exact sign_call _ _ (Rk.sign_of_gt h) w

def CmpPost (an ad bn bd : Int) (w : World) (e : Ending) (w' : World) : Prop := e = .returned (.int .i64 (Rk.cmp an ad bn bd)) ∧ Below w.heap.size w w'
theorem CmpPost.mk' {an ad bn bd c : Int} {w w' : World} {e : Ending} (he : e = .returned (.int .i64 c)) (h : Rk.cmp an ad bn bd = c) (hb : Below w.heap.size w w') : CmpPost an ad bn bd w e w' := by
  subst h
  exact ⟨he, hb⟩

/-- The world has drawn, and has new blocks. -/
def LaysN (w w' : World) : Prop := ∃ q os, w' = Sort.grow (w.drewN q) os
theorem LaysN.below {w w' : World} (h : LaysN w w') : Below w.heap.size w w' := by
  obtain ⟨q, os, rfl⟩ := h
  exact ⟨rfl, rfl, rfl, by rw [Sort.size_grow]; exact Nat.le_add_right _ _, fun i hi => by
    show (w.heap ++ os)[i]? = w.heap[i]?
    rw [Array.getElem?_append_left hi]⟩
theorem lays2 (w : World) (o o' : Obj) (q : Nat) : LaysN w (((w.alloc o).alloc o').drewN q) :=
  ⟨q, #[o, o'], by
    rw [Sort.alloc_eq_grow, Sort.alloc_eq_grow, Sort.grow_grow]
    rfl⟩
theorem LaysN.trans {w w' w'' : World} (h : LaysN w w') (k : LaysN w' w'') : LaysN w w'' := by
  obtain ⟨q, os, rfl⟩ := h
  obtain ⟨q', os', rfl⟩ := k
  exact ⟨q + q', os ++ os', by rw [show (Sort.grow (w.drewN q) os).drewN q' = Sort.grow ((w.drewN q).drewN q') os from rfl, Sort.grow_grow, World.drewN_drewN]⟩

/-- What the two products and the two signs come to, hidden from the walk. -/
structure CmpIn (an ad bn bd s : Int) (xh xl yh yl : Nat) : Prop where
  m1 : ∀ W, Calls Tryz.prog 91 #[.int .u64 (an.natAbs : Int), .int .u64 bd] W fun e w' => e = .returned (.tuple #[.int .u64 (xh : Int), .int .u64 (xl : Int)]) ∧ W = w'
  m2 : ∀ W, Calls Tryz.prog 91 #[.int .u64 (bn.natAbs : Int), .int .u64 ad] W fun e w' => e = .returned (.tuple #[.int .u64 (yh : Int), .int .u64 (yl : Int)]) ∧ W = w'
  sa : Int.sign an = s
  sb : Int.sign bn = s

set_option maxHeartbeats 400000 in
theorem compare_core (an ad bn bd s r : Int) (xh xl yh yl : Nat) (h0 : -9223372036854775808 ≤ an) (h1 : an ≤ 9223372036854775807) (k0 : 0 < ad) (k1 : ad ≤ 9223372036854775807)
    (i0 : -9223372036854775808 ≤ bn) (i1 : bn ≤ 9223372036854775807) (j0 : 0 < bd) (j1 : bd ≤ 9223372036854775807) (H : CmpIn an ad bn bd s xh xl yh yl) (hs : s = 1 ∨ s = -1)
    (hc : yh < xh ∧ r = s ∨ xh = yh ∧ yl < xl ∧ r = s ∨ xh = yh ∧ xl = yl ∧ r = 0 ∨ xh = yh ∧ xl < yl ∧ r = -s ∨ xh < yh ∧ r = -s) (w : World) :
    Calls Tryz.prog 43 #[.agg #[.int .i64 an, .int .i64 ad], .agg #[.int .i64 bn, .int .i64 bd]] w fun e w' => e = .returned (.int .i64 r) ∧ LaysN w w' := by
  rcases hs with rfl | rfl <;> rcases hc with ⟨hl, rfl⟩ | ⟨rfl, hl, rfl⟩ | ⟨rfl, rfl, rfl⟩ | ⟨rfl, hl, rfl⟩ | ⟨hl, rfl⟩
  all_goals
    go_enter Tryz.func43, Tryz.ntmps43
    go_wp2
    go_quiet ((go_at_call 90; exact quiet_left (sign_two H.sa H.sb _ (by first | exact .inl rfl | exact .inr rfl) _)))
    go_wp2
    go_quiet ((first | (go_at_call 92; exact quiet_add_left (amount_any _ (by omega) (by omega) _)) | (go_at_call 91; exact quiet_add_left (H.m1 _))))
    go_wp2
    go_quiet ((first | (go_at_call 92; exact quiet_add_left (amount_any _ (by omega) (by omega) _)) | (go_at_call 91; exact quiet_add_left (H.m2 _))))
    go_wp2
    go_ret
    exact ⟨rfl, lays2 _ _ _ _⟩

/-- The facts that the walk is given, from plain arithmetic. -/
theorem cmpIn_of {an ad bn bd : Int} (h0 : -9223372036854775808 ≤ an) (h1 : an ≤ 9223372036854775807) (k0 : 0 < ad) (k1 : ad ≤ 9223372036854775807)
    (i0 : -9223372036854775808 ≤ bn) (i1 : bn ≤ 9223372036854775807) (j0 : 0 < bd) (j1 : bd ≤ 9223372036854775807) (hmix : ¬ (Int.sign an ≠ Int.sign bn ∨ Int.sign an = 0)) :
    ∃ s xh xl yh yl, CmpIn an ad bn bd s xh xl yh yl ∧ (s = 1 ∨ s = -1) ∧ ((s = 1 → 0 < an ∧ 0 < bn) ∧ (s = -1 → an < 0 ∧ bn < 0)) ∧
      (yh < xh ∧ Rk.cmp an ad bn bd = s ∨ xh = yh ∧ yl < xl ∧ Rk.cmp an ad bn bd = s ∨ xh = yh ∧ xl = yl ∧ Rk.cmp an ad bn bd = 0 ∨ xh = yh ∧ xl < yl ∧ Rk.cmp an ad bn bd = -s ∨ xh < yh ∧ Rk.cmp an ad bn bd = -s) := by
  have Hd : Rk.cmp an ad bn bd = Int.sign (an * bd - bn * ad) := by
    unfold Rk.cmp Rk.nu Rk.de
    rw [if_neg (by omega), if_neg (by omega), if_neg (by omega), if_neg (by omega)]
  have hsame : 0 < an ∧ 0 < bn ∨ an < 0 ∧ bn < 0 := by
    rcases Rk.sign_cases an with ⟨_, e⟩ | ⟨_, e⟩ | ⟨_, e⟩ <;> rcases Rk.sign_cases bn with ⟨_, f⟩ | ⟨_, f⟩ | ⟨_, f⟩ <;> rw [e, f] at hmix <;> omega
  have M1 := fun W => mul64_any an.natAbs bd.toNat (by omega) (by omega) W
  have M2 := fun W => mul64_any bn.natAbs ad.toNat (by omega) (by omega) W
  rw [Int.toNat_of_nonneg (by omega)] at M1 M2
  rw [Hd]
  rcases hsame with ⟨p, q⟩ | ⟨p, q⟩
  · exact ⟨1, _, _, _, _, ⟨M1, M2, Rk.sign_of_gt p, Rk.sign_of_gt q⟩, .inl rfl, ⟨fun _ => ⟨p, q⟩, fun h => by omega⟩, Rk.hilo_cases (Rk.cross_pos p q j0 k0)⟩
  · exact ⟨-1, _, _, _, _, ⟨M1, M2, Rk.sign_of_lt p, Rk.sign_of_lt q⟩, .inr rfl, ⟨fun h => by omega, fun _ => ⟨p, q⟩⟩, Rk.hilo_cases (Rk.cross_neg p q j0 k0)⟩

set_option maxHeartbeats 400000 in
theorem compare_pos (an ad bn bd : Int) (h0 : -9223372036854775808 ≤ an) (h1 : an ≤ 9223372036854775807) (k0 : 0 < ad) (k1 : ad ≤ 9223372036854775807)
    (i0 : -9223372036854775808 ≤ bn) (i1 : bn ≤ 9223372036854775807) (j0 : 0 < bd) (j1 : bd ≤ 9223372036854775807) (w : World) :
    Calls Tryz.prog 43 #[.agg #[.int .i64 an, .int .i64 ad], .agg #[.int .i64 bn, .int .i64 bd]] w fun e w' => e = .returned (.int .i64 (Rk.cmp an ad bn bd)) ∧ LaysN w w' := by
  by_cases hmix : Int.sign an ≠ Int.sign bn ∨ Int.sign an = 0
  · have Hd := Lib.hid (show Rk.cmp an ad bn bd = Int.sign (an * bd - bn * ad) by
      unfold Rk.cmp Rk.nu Rk.de
      rw [if_neg (by omega), if_neg (by omega), if_neg (by omega), if_neg (by omega)])
    have Hx := Lib.hid (Rk.cross_mixed j0 k0 hmix)
    have sa := Rk.sign_cases an
    have sb := Rk.sign_cases bn
    have hs1 : -1 ≤ Int.sign an ∧ Int.sign an ≤ 1 := by omega
    have hs2 : -1 ≤ Int.sign bn ∧ Int.sign bn ≤ 1 := by omega
    have ht : (Int.sign an != Int.sign bn) = true ∨ (Int.sign an != Int.sign bn) = false ∧ (Int.sign an == 0) = true := by
      by_cases h : Int.sign an = Int.sign bn
      · right; simp [h]; omega
      · left; simp [h]
    clear hmix sa sb
    rcases ht with ht | ⟨ht, ht'⟩
    all_goals
      go_enter Tryz.func43, Tryz.ntmps43
      go_wp2
      go_quiet ((go_at_call 90; exact quiet_left (sign_any _ _)))
      go_wp2_with (go_at_call 90; refine (sign_any _ _).mono ?_; rintro e w' ⟨rfl, rfl⟩)
      go_ret
      exact ⟨ret_int (Hd.out.trans Hx.out).symm, lays2 _ _ _ _⟩
  · obtain ⟨s, xh, xl, yh, yl, H, hs, _, hc⟩ := cmpIn_of h0 h1 k0 k1 i0 i1 j0 j1 hmix
    exact compare_core an ad bn bd s _ xh xl yh yl h0 h1 k0 k1 i0 i1 j0 j1 H hs hc w

theorem cmp_flat (an ad bn bd : Int) (h : ad ≤ 0 ∨ bd ≤ 0) : Rk.cmp an ad bn bd = if 0 < ad then Int.sign an else if 0 < bd then -Int.sign bn else 0 := by
  unfold Rk.cmp Rk.nu Rk.de
  by_cases ha : ad ≤ 0
  · by_cases hb : bd ≤ 0
    · rw [if_pos ha, if_pos ha, if_pos hb, if_pos hb, if_neg (by omega), if_neg (by omega)]; simp
    · rw [if_pos ha, if_pos ha, if_neg hb, if_neg hb, if_neg (by omega), if_pos (by omega)]; simp
  · have hb : bd ≤ 0 := by omega
    rw [if_neg ha, if_neg ha, if_pos hb, if_pos hb, if_pos (by omega)]; simp

set_option maxHeartbeats 400000 in
theorem compare_any (an ad bn bd : Int) (h0 : -9223372036854775808 ≤ an) (h1 : an ≤ 9223372036854775807) (k1 : ad ≤ 9223372036854775807)
    (i0 : -9223372036854775808 ≤ bn) (i1 : bn ≤ 9223372036854775807) (j1 : bd ≤ 9223372036854775807) (w : World) :
    Calls Tryz.prog 43 #[.agg #[.int .i64 an, .int .i64 ad], .agg #[.int .i64 bn, .int .i64 bd]] w (CmpPost an ad bn bd w) := by
  by_cases hp : 0 < ad ∧ 0 < bd
  · exact (compare_pos an ad bn bd h0 h1 hp.1 k1 i0 i1 hp.2 j1 w).mono fun _ _ h => ⟨h.1, h.2.below⟩
  · have Hf := Lib.hid (cmp_flat an ad bn bd (by omega))
    have hcase : (0 < ad ∧ bd ≤ 0) ∨ (ad ≤ 0 ∧ 0 < bd) ∨ (ad ≤ 0 ∧ bd ≤ 0) := by omega
    clear hp
    rcases hcase with ⟨ha, hb⟩ | ⟨ha, hb⟩ | ⟨ha, hb⟩
    · have Hg := Lib.hid (show Rk.cmp an ad bn bd = Int.sign an by rw [Hf.out, if_pos ha])
      clear Hf
      rcases Rk.sign_cases an with ⟨hx, e⟩ | ⟨hx, e⟩ | ⟨hx, e⟩ <;> rw [e] at Hg <;> clear e
      all_goals
        go_enter Tryz.func43, Tryz.ntmps43
        go_wp2
        go_quiet ((go_at_call 90; exact quiet_left (sign_case _ _ (by first | exact .inl ⟨by omega, rfl⟩ | exact .inr (.inl ⟨by omega, rfl⟩) | exact .inr (.inr ⟨by omega, rfl⟩)) _)))
        go_wp2_with (go_at_call 90; refine (sign_case _ _ (by first | exact .inl ⟨by omega, rfl⟩ | exact .inr (.inl ⟨by omega, rfl⟩) | exact .inr (.inr ⟨by omega, rfl⟩)) _).mono ?_; rintro e w' ⟨rfl, rfl⟩)
        go_ret
        exact CmpPost.mk' rfl Hg.out (below_drewN ((((Below.refl _ _).alloc (Nat.le_refl _) _).alloc (by simp) _)) _)
    · have Hg := Lib.hid (show Rk.cmp an ad bn bd = -Int.sign bn by rw [Hf.out, if_neg (by omega), if_pos hb])
      clear Hf
      rcases Rk.sign_cases bn with ⟨hx, e⟩ | ⟨hx, e⟩ | ⟨hx, e⟩ <;> rw [e] at Hg <;> clear e
      all_goals
        go_enter Tryz.func43, Tryz.ntmps43
        go_wp2
        go_quiet ((go_at_call 90; exact quiet_left (sign_case _ _ (by first | exact .inl ⟨by omega, rfl⟩ | exact .inr (.inl ⟨by omega, rfl⟩) | exact .inr (.inr ⟨by omega, rfl⟩)) _)))
        go_wp2_with (go_at_call 90; refine (sign_case _ _ (by first | exact .inl ⟨by omega, rfl⟩ | exact .inr (.inl ⟨by omega, rfl⟩) | exact .inr (.inr ⟨by omega, rfl⟩)) _).mono ?_; rintro e w' ⟨rfl, rfl⟩)
        go_ret
        exact CmpPost.mk' rfl Hg.out (below_drewN ((((Below.refl _ _).alloc (Nat.le_refl _) _).alloc (by simp) _)) _)
    · have Hg := Lib.hid (show Rk.cmp an ad bn bd = 0 by rw [Hf.out, if_neg (by omega), if_neg (by omega)])
      clear Hf
      go_enter Tryz.func43, Tryz.ntmps43
      go_wp2
      go_quiet ((go_at_call 90; exact quiet_left (sign_case _ _ (by first | exact .inl ⟨by omega, rfl⟩ | exact .inr (.inl ⟨by omega, rfl⟩) | exact .inr (.inr ⟨by omega, rfl⟩)) _)))
      go_wp2_with (go_at_call 90; refine (sign_case _ _ (by first | exact .inl ⟨by omega, rfl⟩ | exact .inr (.inl ⟨by omega, rfl⟩) | exact .inr (.inr ⟨by omega, rfl⟩)) _).mono ?_; rintro e w' ⟨rfl, rfl⟩)
      go_ret
      exact CmpPost.mk' rfl Hg.out (below_drewN ((((Below.refl _ _).alloc (Nat.le_refl _) _).alloc (by simp) _)) _)

end Go.Proofs.YtfpmbjobieeidaaGreat
