/-
  The walks of both Fractions and both Compares.
-/
import Derived.Test.YtfpmbjobieeidaaGreatNum
import Derived.Test.YtfpmbjobieeidaaGreatShelf
import Derived.RegionTactic
namespace Go.Proofs.YtfpmbjobieeidaaGreat
open Go.RowKit

theorem frErr_of {n d : Int} (hd : d ≠ 0) (hn : -9223372036854775807 ≤ n) (hd' : -9223372036854775807 ≤ d) : Rk.frErr n d = 0 ∧ Rk.frOk n d := by
  unfold Rk.frErr Rk.frOk
  rw [if_neg hd, if_neg (by omega)]
  exact ⟨rfl, hd, by omega, by omega⟩

/-- The end of a Fraction's walk. -/
def FrPost (n d : Int) (w : World) (e : Ending) (w' : World) : Prop :=
  e = .returned (.tuple #[.agg #[.int .i64 (Rk.frN n d), .int .i64 (Rk.frD n d)], .int .i64 (Rk.frErr n d)]) ∧ Below w.heap.size w w'

theorem FrPost.mk' {n d a b c : Int} {w w' : World} {e : Ending} (he : e = .returned (.tuple #[.agg #[.int .i64 a, .int .i64 b], .int .i64 c]))
    (h : Rk.frN n d = a ∧ Rk.frD n d = b ∧ Rk.frErr n d = c) (hb : Below w.heap.size w w') : FrPost n d w e w' := by
  obtain ⟨rfl, rfl, rfl⟩ := h
  exact ⟨he, hb⟩

theorem tdiv_in {n g : Int} (h0 : -9223372036854775807 ≤ n) (h1 : n ≤ 9223372036854775807) : -9223372036854775807 ≤ n.tdiv g ∧ n.tdiv g ≤ 9223372036854775807 := by
  have h := Int.natAbs_tdiv_le_natAbs n g
  omega

theorem max_gcd {n d : Int} : Int.gcd (max (-n) n) d = Int.gcd n d := by
  have e : (max (-n) n) = n.natAbs := by omega
  rw [e, Int.gcd_eq_natAbs_gcd_natAbs, Int.natAbs_natCast, ← Int.gcd_eq_natAbs_gcd_natAbs]
theorem max_gcd' {n d : Int} : Int.gcd (max n (-n)) d = Int.gcd n d := by rw [Int.max_comm, max_gcd]
theorem gcd_call (a b g : Int) (hg : (Int.gcd a b : Int) = g) (h0 : 0 ≤ a) (h1 : 0 ≤ b) (ha : a ≤ 9223372036854775807) (hb : b ≤ 9223372036854775807) (w : World) :
    Calls Tryz.prog 71 #[.int .i64 a, .int .i64 b] w fun e w' => e = .returned (.int .i64 g) ∧ ∃ n, w' = w.drewN n := by
  rw [← hg]; exact gcd_any a b h0 h1 ha hb w

set_option maxHeartbeats 400000 in
theorem fraction_any (n d : Int) (h0 : -9223372036854775808 ≤ n) (h1 : n ≤ 9223372036854775807) (k0 : -9223372036854775808 ≤ d) (k1 : d ≤ 9223372036854775807) (w : World) :
    Calls Tryz.prog 33 #[.int .i64 n, .int .i64 d] w (FrPost n d w) := by
  by_cases hd : d = 0
  · subst hd
    have Hf := Lib.hid (show Rk.frN n 0 = 0 ∧ Rk.frD n 0 = 0 ∧ Rk.frErr n 0 = 1 by simp [Rk.frN, Rk.frD, Rk.frErr, Rk.frOk])
    go_enter Tryz.func33, Tryz.ntmps33
    go_wp2
    refine bodyPost_ret (v := .tuple #[.agg #[.int .i64 0, .int .i64 0], .int .i64 1]) (by simp [results, Tryz.results33, go_sem]) rfl (FrPost.mk' rfl Hf.out ?_)
    exact (Below.refl _ _).alloc (Nat.le_refl _) _
  · by_cases hm : n = -9223372036854775808 ∨ d = -9223372036854775808
    · have Hf := Lib.hid (show Rk.frN n d = 0 ∧ Rk.frD n d = 0 ∧ Rk.frErr n d = 3 by
        have : ¬ Rk.frOk n d := by unfold Rk.frOk; omega
        simp [Rk.frN, Rk.frD, Rk.frErr, this, hd, hm])
      rcases hm with hm | hm
      · subst hm
        go_enter Tryz.func33, Tryz.ntmps33
        go_wp2
        refine bodyPost_ret (v := .tuple #[.agg #[.int .i64 0, .int .i64 0], .int .i64 3]) (by simp [results, Tryz.results33, go_sem]) rfl (FrPost.mk' rfl Hf.out ?_)
        exact (Below.refl _ _).alloc (Nat.le_refl _) _
      · subst hm
        by_cases hn : n < -9223372036854775807
        all_goals
          go_enter Tryz.func33, Tryz.ntmps33
          go_wp2
          refine bodyPost_ret (v := .tuple #[.agg #[.int .i64 0, .int .i64 0], .int .i64 3]) (by simp [results, Tryz.results33, go_sem]) rfl (FrPost.mk' rfl Hf.out ?_)
          exact (Below.refl _ _).alloc (Nat.le_refl _) _
    · have h0' : -9223372036854775807 ≤ n := by omega
      have k0' : -9223372036854775807 ≤ d := by omega
      clear hm h0 k0
      obtain ⟨he, hok⟩ := frErr_of hd h0' k0'
      have hg := Rk.gcd_pos (n := n) hd
      have hg2 : (Int.gcd n d : Int) ≤ 9223372036854775807 := by
        have := Int.gcd_le_natAbs_right n hd
        omega
      have b1 : (n == -9223372036854775808) = false := by simp; omega
      have b2 : (d == -9223372036854775808) = false := by simp; omega
      have b3 : (d == 0) = false := by simpa using hd
      obtain ⟨t1, t2⟩ := tdiv_in (g := Int.gcd n d) h0' h1
      obtain ⟨t3, t4⟩ := tdiv_in (g := Int.gcd n d) k0' k1
      by_cases hneg : d < 0
      · have Hf := Lib.hid (show Rk.frN n d = wrap64 (-n.tdiv (Int.gcd n d)) ∧ Rk.frD n d = wrap64 (-d.tdiv (Int.gcd n d)) ∧ Rk.frErr n d = 0 by
          rw [IntWalk.wrap64_in _ ⟨by omega, by omega⟩, IntWalk.wrap64_in _ ⟨by omega, by omega⟩]
          simp [Rk.frN, Rk.frD, hok, he, Rk.frNum, Rk.frDen, hneg, Int.neg_tdiv])
        have Hg := Lib.hid (show (Int.gcd (max (-n) n) (-d) : Int) = Int.gcd n d by rw [Int.gcd_neg, max_gcd])
        clear he hok t1 t2 t3 t4
        generalize (Int.gcd n d : Int) = g at hg hg2 Hf Hg
        go_enter Tryz.func33, Tryz.ntmps33
        go_wp2_with (go_at_call 71; refine (gcd_call _ _ g Hg.out (by omega) (by omega) (by omega) (by omega) _).mono ?_; rintro e w' ⟨rfl, q, rfl⟩)
        go_region
        go_wp2
        refine bodyPost_ret (v := .tuple #[.agg #[.int .i64 (wrap64 (-n.tdiv g)), .int .i64 (wrap64 (-d.tdiv g))], .int .i64 0]) (by simp [results, Tryz.results33, go_sem]) rfl (FrPost.mk' rfl Hf.out ?_)
        exact ((below_drewN ((Below.refl _ _).alloc (Nat.le_refl _) _) _).setCell (Nat.le_refl _) _).setCell (Nat.le_refl _) _
      · have Hf := Lib.hid (show Rk.frN n d = n.tdiv (Int.gcd n d) ∧ Rk.frD n d = d / (Int.gcd n d) ∧ Rk.frErr n d = 0 by
          simp [Rk.frN, Rk.frD, hok, he, Rk.frNum, Rk.frDen, hneg, Int.tdiv_eq_ediv_of_nonneg (show 0 ≤ d by omega)])
        have Hg := Lib.hid (show (Int.gcd (max n (-n)) d : Int) = Int.gcd n d by rw [max_gcd'])
        clear he hok t1 t2 t3 t4
        generalize (Int.gcd n d : Int) = g at hg hg2 Hf Hg
        go_enter Tryz.func33, Tryz.ntmps33
        go_wp2_with (go_at_call 71; refine (gcd_call _ _ g Hg.out (by omega) (by omega) (by omega) (by omega) _).mono ?_; rintro e w' ⟨rfl, q, rfl⟩)
        go_region
        go_wp2
        refine bodyPost_ret (v := .tuple #[.agg #[.int .i64 (n.tdiv g), .int .i64 (d / g)], .int .i64 0]) (by simp [results, Tryz.results33, go_sem]) rfl (FrPost.mk' rfl Hf.out ?_)
        exact ((below_drewN ((Below.refl _ _).alloc (Nat.le_refl _) _) _).setCell (Nat.le_refl _) _).setCell (Nat.le_refl _) _

set_option maxHeartbeats 400000 in
theorem rfraction_any (n d : Int) (h0 : -9223372036854775808 ≤ n) (h1 : n ≤ 9223372036854775807) (k0 : -9223372036854775808 ≤ d) (k1 : d ≤ 9223372036854775807) (w : World) :
    Calls Tryz.prog 97 #[.int .i64 n, .int .i64 d] w (FrPost n d w) := by
  by_cases hd : d = 0
  · subst hd
    have Hf := Lib.hid (show Rk.frN n 0 = 0 ∧ Rk.frD n 0 = 0 ∧ Rk.frErr n 0 = 1 by simp [Rk.frN, Rk.frD, Rk.frErr, Rk.frOk])
    go_enter Tryz.func97, Tryz.ntmps97
    go_wp2
    refine bodyPost_ret (v := .tuple #[.agg #[.int .i64 0, .int .i64 0], .int .i64 1]) (by simp [results, Tryz.results97, go_sem]) rfl (FrPost.mk' rfl Hf.out ?_)
    exact (Below.refl _ _).alloc (Nat.le_refl _) _
  · by_cases hm : n = -9223372036854775808 ∨ d = -9223372036854775808
    · have Hf := Lib.hid (show Rk.frN n d = 0 ∧ Rk.frD n d = 0 ∧ Rk.frErr n d = 3 by
        have : ¬ Rk.frOk n d := by unfold Rk.frOk; omega
        simp [Rk.frN, Rk.frD, Rk.frErr, this, hd, hm])
      rcases hm with hm | hm
      · subst hm
        go_enter Tryz.func97, Tryz.ntmps97
        go_wp2
        refine bodyPost_ret (v := .tuple #[.agg #[.int .i64 0, .int .i64 0], .int .i64 3]) (by simp [results, Tryz.results97, go_sem]) rfl (FrPost.mk' rfl Hf.out ?_)
        exact (Below.refl _ _).alloc (Nat.le_refl _) _
      · subst hm
        by_cases hn : n < -9223372036854775807
        all_goals
          go_enter Tryz.func97, Tryz.ntmps97
          go_wp2
          refine bodyPost_ret (v := .tuple #[.agg #[.int .i64 0, .int .i64 0], .int .i64 3]) (by simp [results, Tryz.results97, go_sem]) rfl (FrPost.mk' rfl Hf.out ?_)
          exact (Below.refl _ _).alloc (Nat.le_refl _) _
    · have h0' : -9223372036854775807 ≤ n := by omega
      have k0' : -9223372036854775807 ≤ d := by omega
      clear hm h0 k0
      obtain ⟨he, hok⟩ := frErr_of hd h0' k0'
      have hg := Rk.gcd_pos (n := n) hd
      have hg2 : (Int.gcd n d : Int) ≤ 9223372036854775807 := by
        have := Int.gcd_le_natAbs_right n hd
        omega
      have b1 : (n == -9223372036854775808) = false := by simp; omega
      have b2 : (d == -9223372036854775808) = false := by simp; omega
      have b3 : (d == 0) = false := by simpa using hd
      obtain ⟨t1, t2⟩ := tdiv_in (g := Int.gcd n d) h0' h1
      obtain ⟨t3, t4⟩ := tdiv_in (g := Int.gcd n d) k0' k1
      have Hg := Lib.hid (show (Int.gcd n.natAbs d.natAbs : Int) = Int.gcd n d by rw [Int.gcd_eq_natAbs_gcd_natAbs, Int.natAbs_natCast, Int.natAbs_natCast, ← Int.gcd_eq_natAbs_gcd_natAbs])
      by_cases hneg : d < 0
      · have Hf := Lib.hid (show Rk.frN n d = wrap64 (-n.tdiv (Int.gcd n d)) ∧ Rk.frD n d = wrap64 (-d.tdiv (Int.gcd n d)) ∧ Rk.frErr n d = 0 by
          rw [IntWalk.wrap64_in _ ⟨by omega, by omega⟩, IntWalk.wrap64_in _ ⟨by omega, by omega⟩]
          simp [Rk.frN, Rk.frD, hok, he, Rk.frNum, Rk.frDen, hneg, Int.neg_tdiv])
        clear he hok t1 t2 t3 t4
        generalize (Int.gcd n d : Int) = g at hg hg2 Hf Hg
        by_cases hn : 0 < n
        all_goals
          go_enter Tryz.func97, Tryz.ntmps97
          go_wp2
          go_loopw [6, 7] (fun x y wr => ∃ p q : Int, 0 ≤ p ∧ 0 ≤ q ∧ p ≤ 9223372036854775807 ∧ q ≤ 9223372036854775807 ∧ x = .int .i64 p ∧ y = .int .i64 q ∧ Hid ((Int.gcd p q : Int) = g) ∧ ∃ k, wr = (w.alloc (.cells #[.int .i64 0, .int .i64 0] 45)).drewN k) (fun _ y _ => (intOf y).toNat)
          case atStart =>
            refine ⟨n.natAbs, d.natAbs, by omega, by omega, by omega, by omega, ?_, ?_, Hg, 0, rfl⟩ <;> (first | rfl | (congr 1; omega))
          case round =>
            obtain ⟨p, q, hp, hq, hp', hq', rfl, rfl, hg', k, rfl⟩ := hrel
            by_cases hz : q = 0
            · subst hz
              have hpg := hg'.out
              simp at hpg
              obtain rfl : p = g := by omega
              clear hpg hg'
              go_wp2
              go_region
              go_wp2
              refine bodyPost_ret (v := .tuple #[.agg #[.int .i64 (wrap64 (-n.tdiv p)), .int .i64 (wrap64 (-d.tdiv p))], .int .i64 0]) (by simp [results, Tryz.results97, go_sem] <;> exact (Int.tdiv_eq_ediv_of_nonneg (by omega)).symm) rfl (FrPost.mk' rfl Hf.out ?_)
              exact ((below_drewN ((Below.refl _ _).alloc (Nat.le_refl _) _) _).setCell (Nat.le_refl _) _).setCell (Nat.le_refl _) _
            · have hz' : (q != 0) = true := by simp [hz]
              have hm1 := Int.emod_nonneg p hz
              have hm2 := Int.emod_lt_of_pos p (b := q) (by omega)
              have hs := Lib.hid (gcd_step p q)
              go_wp2
              go_quiet (fail)
              go_roundw
              case rel =>
                repeat apply Exists.intro
                exact ⟨⟨q, p % q, by omega, by omega, by omega, by omega, rfl, rfl, (congrArg (fun x : Nat => (x : Int)) hs.out).trans hg'.out, _, World.drewN_drewN ..⟩, rfl⟩
              case measure => simp [intOf]; omega
      · have Hf := Lib.hid (show Rk.frN n d = n.tdiv (Int.gcd n d) ∧ Rk.frD n d = d / (Int.gcd n d) ∧ Rk.frErr n d = 0 by
          simp [Rk.frN, Rk.frD, hok, he, Rk.frNum, Rk.frDen, hneg, Int.tdiv_eq_ediv_of_nonneg (show 0 ≤ d by omega)])
        clear he hok t1 t2 t3 t4
        generalize (Int.gcd n d : Int) = g at hg hg2 Hf Hg
        by_cases hn : n < 0
        all_goals
          go_enter Tryz.func97, Tryz.ntmps97
          go_wp2
          go_loopw [6, 7] (fun x y wr => ∃ p q : Int, 0 ≤ p ∧ 0 ≤ q ∧ p ≤ 9223372036854775807 ∧ q ≤ 9223372036854775807 ∧ x = .int .i64 p ∧ y = .int .i64 q ∧ Hid ((Int.gcd p q : Int) = g) ∧ ∃ k, wr = (w.alloc (.cells #[.int .i64 0, .int .i64 0] 45)).drewN k) (fun _ y _ => (intOf y).toNat)
          case atStart =>
            refine ⟨n.natAbs, d.natAbs, by omega, by omega, by omega, by omega, ?_, ?_, Hg, 0, rfl⟩ <;> (first | rfl | (congr 1; omega))
          case round =>
            obtain ⟨p, q, hp, hq, hp', hq', rfl, rfl, hg', k, rfl⟩ := hrel
            by_cases hz : q = 0
            · subst hz
              have hpg := hg'.out
              simp at hpg
              obtain rfl : p = g := by omega
              clear hpg hg'
              go_wp2
              go_region
              go_wp2
              refine bodyPost_ret (v := .tuple #[.agg #[.int .i64 (n.tdiv p), .int .i64 (d / p)], .int .i64 0]) (by simp [results, Tryz.results97, go_sem] <;> exact (Int.tdiv_eq_ediv_of_nonneg (by omega)).symm) rfl (FrPost.mk' rfl Hf.out ?_)
              exact ((below_drewN ((Below.refl _ _).alloc (Nat.le_refl _) _) _).setCell (Nat.le_refl _) _).setCell (Nat.le_refl _) _
            · have hz' : (q != 0) = true := by simp [hz]
              have hm1 := Int.emod_nonneg p hz
              have hm2 := Int.emod_lt_of_pos p (b := q) (by omega)
              have hs := Lib.hid (gcd_step p q)
              go_wp2
              go_quiet (fail)
              go_roundw
              case rel =>
                repeat apply Exists.intro
                exact ⟨⟨q, p % q, by omega, by omega, by omega, by omega, rfl, rfl, (congrArg (fun x : Nat => (x : Int)) hs.out).trans hg'.out, _, World.drewN_drewN ..⟩, rfl⟩
              case measure => simp [intOf]; omega

end Go.Proofs.YtfpmbjobieeidaaGreat
