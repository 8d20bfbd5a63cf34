/-
  The walk of the reference's Compare.
-/
import Derived.Test.YtfpmbjobieeidaaGreatCmp
namespace Go.Proofs.YtfpmbjobieeidaaGreat
open Go.RowKit

theorem size_call (n m : Int) (hm : (n.natAbs : Int) = m) (h0 : -9223372036854775808 ≤ n) (h1 : n ≤ 9223372036854775807) (w : World) :
    Calls Tryz.prog 95 #[.int .i64 n] w fun e w' => e = .returned (.int .u64 m) ∧ w = w' := by
  subst hm; exact size_any n h0 h1 w

structure RCmpIn (a b c d p q : Int) (xh xl yh yl : Nat) : Prop where
  m1 : ∀ W, Calls Tryz.prog 91 #[.int .u64 p, .int .u64 d] W fun e w' => e = .returned (.tuple #[.int .u64 (xh : Int), .int .u64 (xl : Int)]) ∧ W = w'
  m2 : ∀ W, Calls Tryz.prog 91 #[.int .u64 q, .int .u64 b] W fun e w' => e = .returned (.tuple #[.int .u64 (yh : Int), .int .u64 (yl : Int)]) ∧ W = w'
  hp : (a.natAbs : Int) = p
  hq : (c.natAbs : Int) = q

set_option maxHeartbeats 4000000 in
theorem rcompare_core (an ad bn bd a b c d p q s r : Int) (xh xl yh yl : Nat) (h0 : -9223372036854775808 ≤ a) (h1 : a ≤ 9223372036854775807) (k1 : b ≤ 9223372036854775807)
    (i0 : -9223372036854775808 ≤ c) (i1 : c ≤ 9223372036854775807) (j1 : d ≤ 9223372036854775807) (ha : 0 < ad ∧ a = an ∧ b = ad ∨ ad ≤ 0 ∧ a = 0 ∧ b = 1) (hb : 0 < bd ∧ c = bn ∧ d = bd ∨ bd ≤ 0 ∧ c = 0 ∧ d = 1)
    (H : RCmpIn a b c d p q xh xl yh yl) (hs : 0 ≤ a ∧ 0 ≤ c ∧ s = 1 ∨ a < 0 ∧ c < 0 ∧ s = -1)
    (hc : yh < xh ∧ r = s ∨ xh = yh ∧ yl < xl ∧ r = s ∨ xh = yh ∧ xl = yl ∧ r = 0 ∨ xh = yh ∧ xl < yl ∧ r = -s ∨ xh < yh ∧ r = -s) (w : World) :
    Calls Tryz.prog 45 #[.agg #[.int .i64 an, .int .i64 ad], .agg #[.int .i64 bn, .int .i64 bd]] w fun e w' => e = .returned (.int .i64 r) ∧ Below w.heap.size w w' := by
  rcases ha with ⟨ha, rfl, rfl⟩ | ⟨ha, rfl, rfl⟩ <;> rcases hb with ⟨hb, rfl, rfl⟩ | ⟨hb, rfl, rfl⟩ <;> rcases hs with ⟨hs1, hs2, rfl⟩ | ⟨hs1, hs2, rfl⟩
  all_goals try omega
  all_goals rcases hc with ⟨hl, rfl⟩ | ⟨rfl, hl, rfl⟩ | ⟨rfl, rfl, rfl⟩ | ⟨rfl, hl, rfl⟩ | ⟨hl, rfl⟩
  all_goals
    go_enter Tryz.func45, Tryz.ntmps45
    go_wp2
    go_quiet ((first | (go_at_call 95; exact quiet_left (size_call _ _ H.hp (by omega) (by omega) _)) | (go_at_call 91; exact quiet_left (H.m1 _))))
    go_wp2
    go_quiet ((first | (go_at_call 95; exact quiet_add_left (size_call _ _ H.hq (by omega) (by omega) _)) | (go_at_call 91; exact quiet_add_left (H.m2 _))))
    go_wp2
    go_ret
    exact ⟨rfl, below_drewN (((Below.refl _ _).alloc (Nat.le_refl _) _).alloc (by simp) _) _⟩

set_option maxHeartbeats 400000 in
theorem rcompare_mixed (an ad bn bd a c r : Int) (h0 : -9223372036854775808 ≤ a) (h1 : a ≤ 9223372036854775807)
    (i0 : -9223372036854775808 ≤ c) (i1 : c ≤ 9223372036854775807) (ha : 0 < ad ∧ a = an ∨ ad ≤ 0 ∧ a = 0) (hb : 0 < bd ∧ c = bn ∨ bd ≤ 0 ∧ c = 0)
    (hs : 0 ≤ a ∧ c < 0 ∧ r = 1 ∨ a < 0 ∧ 0 ≤ c ∧ r = -1) (w : World) :
    Calls Tryz.prog 45 #[.agg #[.int .i64 an, .int .i64 ad], .agg #[.int .i64 bn, .int .i64 bd]] w fun e w' => e = .returned (.int .i64 r) ∧ Below w.heap.size w w' := by
  rcases ha with ⟨ha, rfl⟩ | ⟨ha, rfl⟩ <;> rcases hb with ⟨hb, rfl⟩ | ⟨hb, rfl⟩ <;> rcases hs with ⟨hs1, hs2, rfl⟩ | ⟨hs1, hs2, rfl⟩
  all_goals try omega
  all_goals
    go_enter Tryz.func45, Tryz.ntmps45
    go_wp2
    go_ret
    exact ⟨rfl, (((Below.refl _ _).alloc (Nat.le_refl _) _).alloc (by simp) _)⟩

theorem rcompare_any (an ad bn bd : Int) (h0 : -9223372036854775808 ≤ an) (h1 : an ≤ 9223372036854775807) (k1 : ad ≤ 9223372036854775807)
    (i0 : -9223372036854775808 ≤ bn) (i1 : bn ≤ 9223372036854775807) (j1 : bd ≤ 9223372036854775807) (w : World) :
    Calls Tryz.prog 45 #[.agg #[.int .i64 an, .int .i64 ad], .agg #[.int .i64 bn, .int .i64 bd]] w (CmpPost an ad bn bd w) := by
  have pa : 0 < ad ∧ Rk.nu an ad = an ∧ Rk.de an ad = ad ∨ ad ≤ 0 ∧ Rk.nu an ad = 0 ∧ Rk.de an ad = 1 := by unfold Rk.nu Rk.de; by_cases h : ad ≤ 0 <;> simp [h] <;> omega
  have pb : 0 < bd ∧ Rk.nu bn bd = bn ∧ Rk.de bn bd = bd ∨ bd ≤ 0 ∧ Rk.nu bn bd = 0 ∧ Rk.de bn bd = 1 := by unfold Rk.nu Rk.de; by_cases h : bd ≤ 0 <;> simp [h] <;> omega
  have hc : Rk.cmp an ad bn bd = Int.sign (Rk.nu an ad * Rk.de bn bd - Rk.nu bn bd * Rk.de an ad) := rfl
  generalize Rk.nu an ad = a at *
  generalize Rk.de an ad = b at *
  generalize Rk.nu bn bd = c at *
  generalize Rk.de bn bd = d at *
  have hb : 0 < b := by omega
  have hd : 0 < d := by omega
  by_cases hm : 0 ≤ a ∧ c < 0 ∨ a < 0 ∧ 0 ≤ c
  · refine rcompare_mixed an ad bn bd a c (Rk.cmp an ad bn bd) (by omega) (by omega) (by omega) (by omega) (by omega) (by omega) ?_ w
    rw [hc]
    rcases hm with ⟨p, q⟩ | ⟨p, q⟩
    · left
      refine ⟨p, q, ?_⟩
      have := Int.mul_nonneg p (show 0 ≤ d by omega)
      have := Int.mul_neg_of_neg_of_pos q hb
      exact Rk.sign_of_gt (by omega)
    · right
      refine ⟨p, q, ?_⟩
      have := Int.mul_neg_of_neg_of_pos p hd
      have := Int.mul_nonneg q (show 0 ≤ b by omega)
      exact Rk.sign_of_lt (by omega)
  · have M1 := fun W => mul64_any a.natAbs d.toNat (by omega) (by omega) W
    have M2 := fun W => mul64_any c.natAbs b.toNat (by omega) (by omega) W
    rw [Int.toNat_of_nonneg (by omega)] at M1 M2
    have hcase : ∃ s : Int, (0 ≤ a ∧ 0 ≤ c ∧ s = 1 ∨ a < 0 ∧ c < 0 ∧ s = -1) ∧ Int.sign (a * d - c * b) = if c.natAbs * b.toNat < a.natAbs * d.toNat then s else if a.natAbs * d.toNat = c.natAbs * b.toNat then 0 else -s := by
      by_cases h : 0 ≤ a
      · exact ⟨1, .inl ⟨h, by omega, rfl⟩, Rk.cross_nonneg h (by omega) hd hb⟩
      · exact ⟨-1, .inr ⟨by omega, by omega, rfl⟩, Rk.cross_neg (by omega) (by omega) hd hb⟩
    obtain ⟨s, hs, hx⟩ := hcase
    exact rcompare_core an ad bn bd a b c d _ _ s _ _ _ _ _ (by omega) (by omega) (by omega) (by omega) (by omega) (by omega) pa pb ⟨M1, M2, rfl, rfl⟩ hs (hc ▸ Rk.hilo_cases hx) w

end Go.Proofs.YtfpmbjobieeidaaGreat
