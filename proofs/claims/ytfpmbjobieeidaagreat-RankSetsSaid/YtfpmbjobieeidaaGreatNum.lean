/-
  The walks of the small functions on numbers: gcd, sign, amount, size, Fraction.
-/
import Derived.Test.YtfpmbjobieeidaaGreatBase
import Derived.Test.YtfpmbjobieeidaaGreatPlainA
namespace Go.Proofs.YtfpmbjobieeidaaGreat
open Go.RowKit

theorem gcd_step (p q : Int) : Int.gcd q (p % q) = Int.gcd p q := by
  have h := Int.gcd_add_mul_left_right q (p % q) (p / q)
  rw [Int.emod_add_mul_ediv] at h
  rw [← h, Int.gcd_comm]

set_option maxHeartbeats 400000 in
theorem gcd_any (a b : Int) (h0 : 0 ≤ a) (h1 : 0 ≤ b) (ha : a ≤ 9223372036854775807) (hb : b ≤ 9223372036854775807) (w : World) :
    Calls Tryz.prog 71 #[.int .i64 a, .int .i64 b] w fun e w' => e = .returned (.int .i64 (Int.gcd a b : Int)) ∧ ∃ n, w' = w.drewN n := by
  go_enter Tryz.func71, Tryz.ntmps71
  go_wp2
  go_loopw [0, 1] (fun x y wr => ∃ p q : Int, 0 ≤ p ∧ 0 ≤ q ∧ p ≤ 9223372036854775807 ∧ q ≤ 9223372036854775807 ∧ x = .int .i64 p ∧ y = .int .i64 q ∧ Hid (Int.gcd p q = Int.gcd a b) ∧ ∃ n, wr = w.drewN n) (fun _ y _ => (intOf y).toNat)
  case atStart => exact ⟨a, b, h0, h1, ha, hb, rfl, rfl, rfl, 0, rfl⟩
  case round =>
    obtain ⟨p, q, hp, hq, hp', hq', rfl, rfl, hg, n, rfl⟩ := hrel
    by_cases hz : q = 0
    · subst hz
      go_wp2
      go_ret
      have hz := hg.out
      simp at hz
      exact ⟨ret_int (by rw [← hz, Int.natAbs_of_nonneg hp]), n, rfl⟩
    · have hz' : (q != 0) = true := by simp [hz]
      have hm1 := Int.emod_nonneg p hz
      have hm2 := Int.emod_lt_of_pos p (b := q) (by omega)
      have hs := Lib.hid (gcd_step p q)
      go_wp2
      go_quiet (fail)
      go_roundw
      case rel =>
        repeat apply Exists.intro
        exact ⟨⟨q, p % q, by omega, by omega, by omega, by omega, rfl, rfl, hs.out.trans hg.out, _, World.drewN_drewN ..⟩, rfl⟩
      case measure => simp [intOf]; omega

set_option maxHeartbeats 400000 in
theorem sign_any (n : Int) (w : World) :
    Calls Tryz.prog 90 #[.int .i64 n] w fun e w' => e = .returned (.int .i64 (Int.sign n)) ∧ w = w' := by
  rcases Rk.sign_cases n with ⟨h, e⟩ | ⟨h, e⟩ | ⟨h, e⟩ <;> rw [e] <;> clear e
  all_goals
    go_enter Tryz.func90, Tryz.ntmps90
    go_wp2
    go_ret
    exact ⟨rfl, rfl⟩

set_option maxHeartbeats 400000 in
theorem amount_any (n : Int) (h0 : -9223372036854775808 ≤ n) (h1 : n ≤ 9223372036854775807) (w : World) :
    Calls Tryz.prog 92 #[.int .i64 n] w fun e w' => e = .returned (.int .u64 (n.natAbs : Int)) ∧ w = w' := by
  by_cases h : n < 0
  all_goals
    go_enter Tryz.func92, Tryz.ntmps92
    go_wp2
    go_ret
    exact ⟨ret_int (by first | omega | (simp only [IntKind.wrap, IntKind.signed, IntKind.bits]; simp; omega)), rfl⟩

set_option maxHeartbeats 400000 in
theorem size_any (n : Int) (h0 : -9223372036854775808 ≤ n) (h1 : n ≤ 9223372036854775807) (w : World) :
    Calls Tryz.prog 95 #[.int .i64 n] w fun e w' => e = .returned (.int .u64 (n.natAbs : Int)) ∧ w = w' := by
  by_cases h : n < 0
  all_goals
    go_enter Tryz.func95, Tryz.ntmps95
    go_wp2
    go_ret
    exact ⟨ret_int (by first | omega | (simp only [IntKind.wrap, IntKind.signed, IntKind.bits]; simp; omega)), rfl⟩

end Go.Proofs.YtfpmbjobieeidaaGreat
