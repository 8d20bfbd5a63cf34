/-
  The walks of increasing, Set, CheckSets.
-/
import Derived.Test.YtfpmbjobieeidaaGreatBase
import Derived.Test.YtfpmbjobieeidaaGreatPlainA
namespace Go.Proofs.YtfpmbjobieeidaaGreat
open Go.RowKit

set_option maxHeartbeats 400000 in
theorem increasing_any (v : Value) (xs : List Int) (m : Int) (B : Nat) (w : World) (hv : Ints w B v xs) :
    Calls Tryz.prog 37 #[v, .int .i64 m] w fun e w' => e = .returned (.bool (Rk.incr m xs)) ∧ w = w' := by
  obtain ⟨A, c, rfl, hn, hm, hr⟩ := hv
  have hlen : xs.length ≤ 17592186043904 := by omega
  clear hn hm
  go_enter Tryz.func37, Tryz.ntmps37
  go_wp2
  go_loop [9] (fun i => ∃ k : Nat, k ≤ xs.length ∧ i = .int .i64 k ∧ Rk.IncrTo m xs k) (fun i => xs.length - (intOf i).toNat)
  case atStart => exact ⟨0, Nat.zero_le _, rfl, Rk.IncrTo.zero _ _⟩
  case round =>
    obtain ⟨k, hk, rfl, hi⟩ := hrel
    by_cases hlt : k < xs.length
    · obtain ⟨ad, rfl, _, hc⟩ := ints_at hr hlt
      have Hno := Lib.hid (fun h => Rk.incr_no (bound := m) hlt h)
      have Hyes := Lib.hid (fun h1 h2 h3 => hi.succ (k := k) h1 h2 h3)
      by_cases hz : 0 < k
      · obtain ⟨ad', e, _, hc'⟩ := ints_at hr (show k - 1 < xs.length by omega)
        obtain rfl : ad = ad' := by injection e
        clear hr hi e
        generalize xs.getD k 0 = x at *
        generalize xs.getD (k - 1) 0 = y at *
        go_wp2
        all_goals first
          | (go_ret; exact ⟨ret_bool (Hno.out (by omega)).symm, rfl⟩)
          | (refine ⟨⟨k + 1, by omega, by go_num, Hyes.out (by omega) (by omega) (by omega)⟩, ?_⟩; simp [intOf]; omega)
      · obtain rfl : k = 0 := by omega
        rw [add_zero_] at hc
        clear hr hi
        generalize xs.getD 0 0 = x at *
        go_wp2
        all_goals first
          | (go_ret; exact ⟨ret_bool (Hno.out (by omega)).symm, rfl⟩)
          | (refine ⟨⟨0 + 1, by omega, by go_num, Hyes.out (by omega) (by omega) (by omega)⟩, ?_⟩; simp [intOf]; omega)
    · obtain rfl : k = xs.length := by omega
      have Hyes := Lib.hid (Rk.incr_yes hi)
      clear hi
      go_wp2
      go_ret
      exact ⟨ret_bool Hyes.out.symm, rfl⟩

set_option maxHeartbeats 4000000 in
theorem set_any (v : Value) (xs : List Int) (m : Int) (B : Nat) (w : World) (hv : Ints w B v xs) :
    Calls Tryz.prog 38 #[v, .int .i64 m] w fun e w' => e = .returned (.bool (Rk.incr m xs)) ∧ ∃ n, w' = w.drewN n := by
  obtain ⟨A, c, rfl, hn, hm, hr⟩ := hv
  have hlen : xs.length ≤ 17592186043904 := by omega
  clear hn hm
  go_enter Tryz.func38, Tryz.ntmps38
  go_wp2
  go_loopw [5] (fun i wr => ∃ k : Nat, k ≤ xs.length ∧ i = .int .i64 k ∧ Rk.IncrTo m xs k ∧ ∃ n, wr = w.drewN n) (fun i _ => xs.length - (intOf i).toNat)
  case atStart => exact ⟨0, Nat.zero_le _, rfl, Rk.IncrTo.zero _ _, 0, rfl⟩
  case round =>
    obtain ⟨k, hk, rfl, hi, n, rfl⟩ := hrel
    by_cases hlt : k < xs.length
    · obtain ⟨ad, rfl, _, hc⟩ := ints_at hr hlt
      have Hno := Lib.hid (fun h => Rk.incr_no (bound := m) hlt h)
      have Hyes := Lib.hid (fun h1 h2 h3 => hi.succ (k := k) h1 h2 h3)
      by_cases hz : 0 < k
      · obtain ⟨ad', e, _, hc'⟩ := ints_at hr (show k - 1 < xs.length by omega)
        obtain rfl : ad = ad' := by injection e
        clear hr hi e
        generalize xs.getD k 0 = x at *
        generalize xs.getD (k - 1) 0 = y at *
        rcases (show x < 0 ∨ 0 ≤ x ∧ m ≤ x ∨ 0 ≤ x ∧ x < m ∧ x ≤ y ∨ 0 ≤ x ∧ x < m ∧ y < x by omega) with h | ⟨h, h'⟩ | ⟨h, h', h''⟩ | ⟨h, h', h''⟩
        · have b1 : decide (x < 0) = true := by simpa using h
          go_wp2
          go_quiet (fail)
          go_wp2
          go_ret
          exact ⟨ret_bool (Hno.out (by omega)).symm, _, World.drewN_drewN ..⟩
        · have b1 : decide (x < 0) = false := by simpa using h
          have b2 : decide (m ≤ x) = true := by simpa using h'
          go_wp2
          go_quiet (fail)
          go_wp2
          go_ret
          exact ⟨ret_bool (Hno.out (by omega)).symm, _, World.drewN_drewN ..⟩
        · have b1 : decide (x < 0) = false := by simpa using h
          have b2 : decide (m ≤ x) = false := by simpa using h'
          have b3 : decide (x ≤ y) = true := by simpa using h''
          go_wp2
          go_quiet (fail)
          go_wp2
          go_ret
          exact ⟨ret_bool (Hno.out (by omega)).symm, _, World.drewN_drewN ..⟩
        · have b1 : decide (x < 0) = false := by simpa using h
          have b2 : decide (m ≤ x) = false := by simpa using h'
          have b3 : decide (x ≤ y) = false := by simpa using h''
          go_wp2
          go_quiet (fail)
          go_wp2
          go_roundw
          case rel =>
            exact ⟨k + 1, by omega, by go_num, Hyes.out (by omega) (by omega) (by omega), _, rfl⟩
          case measure => simp [intOf]; omega
      · obtain rfl : k = 0 := by omega
        rw [add_zero_] at hc
        clear hr hi
        generalize xs.getD 0 0 = x at *
        rcases (show x < 0 ∨ 0 ≤ x ∧ m ≤ x ∨ 0 ≤ x ∧ x < m by omega) with h | ⟨h, h'⟩ | ⟨h, h'⟩
        · have b1 : decide (x < 0) = true := by simpa using h
          go_wp2
          go_quiet (fail)
          go_wp2
          go_ret
          exact ⟨ret_bool (Hno.out (by omega)).symm, _, World.drewN_drewN ..⟩
        · have b1 : decide (x < 0) = false := by simpa using h
          have b2 : decide (m ≤ x) = true := by simpa using h'
          go_wp2
          go_quiet (fail)
          go_wp2
          go_ret
          exact ⟨ret_bool (Hno.out (by omega)).symm, _, World.drewN_drewN ..⟩
        · have b1 : decide (x < 0) = false := by simpa using h
          have b2 : decide (m ≤ x) = false := by simpa using h'
          go_wp2
          go_quiet (fail)
          go_wp2
          go_roundw
          case rel =>
            exact ⟨0 + 1, by omega, by go_num, Hyes.out (by omega) (by omega) (by omega), _, rfl⟩
          case measure => simp [intOf]; omega
    · obtain rfl : k = xs.length := by omega
      have Hyes := Lib.hid (Rk.incr_yes hi)
      clear hi
      go_wp2
      go_ret
      exact ⟨ret_bool Hyes.out.symm, n, rfl⟩

/-- Sets that may be: the error. -/
def setsErr (xss : List (List Int)) : Int := if 256 < xss.length then 3 else if ∀ i, i < xss.length → Rk.incr 256 (xss.getD i []) = true then 0 else 1

set_option maxHeartbeats 400000 in
theorem checksets_any (v : Value) (xss : List (List Int)) (B : Nat) (w : World) (hv : Sets w B v xss) :
    Calls Tryz.prog 22 #[v] w fun e w' => e = .returned (.int .i64 (setsErr xss)) ∧ w = w' := by
  obtain ⟨A, c, vs, rfl, hn, hm, hr, hi⟩ := hv
  have hlen : xss.length ≤ 5864062014634 := by omega
  clear hn hm
  by_cases hbig : 256 < xss.length
  · have He := Lib.hid (show setsErr xss = 3 by unfold setsErr; rw [if_pos hbig])
    go_enter Tryz.func22, Tryz.ntmps22
    go_wp2
    go_ret
    exact ⟨ret_int He.out.symm, rfl⟩
  · go_enter Tryz.func22, Tryz.ntmps22
    go_wp2
    go_loop [10] (fun i => ∃ k : Nat, k ≤ xss.length ∧ i = .int .i64 k ∧ Hid (∀ i, i < k → Rk.incr 256 (xss.getD i []) = true)) (fun i => xss.length - (intOf i).toNat)
    case atStart => exact ⟨0, Nat.zero_le _, rfl, fun i h => by omega⟩
    case round =>
      obtain ⟨k, hk, rfl, hp⟩ := hrel
      by_cases hlt : k < xss.length
      · obtain ⟨ad, u, rfl, _, hc, hu⟩ := sets_at hr hi hlt
        by_cases hin : Rk.incr 256 (xss.getD k []) = true
        · have Hc := Lib.hid (increasing_any u _ 256 B w hu)
          rw [hin] at Hc
          have Hq := Lib.hid (show ∀ i, i < k + 1 → Rk.incr 256 (xss.getD i []) = true from fun i h => by
            by_cases e : i = k
            · subst e; exact hin
            · exact hp.out i (by omega))
          clear hr hi hu hin
          go_wp2_with (go_at_call 37; refine Hc.out.mono ?_; rintro e w' ⟨rfl, rfl⟩)
          go_round
          case rel => exact ⟨k + 1, by omega, by go_num, Hq⟩
          case measure => simp [intOf]; omega
        · have Hc := Lib.hid (increasing_any u _ 256 B w hu)
          simp only [Bool.not_eq_true] at hin
          rw [hin] at Hc
          have He := Lib.hid (show setsErr xss = 1 by
            unfold setsErr
            rw [if_neg hbig, if_neg (fun h => by rw [h k hlt] at hin; cases hin)])
          clear hr hi hu hin
          go_wp2_with (go_at_call 37; refine Hc.out.mono ?_; rintro e w' ⟨rfl, rfl⟩)
          go_ret
          exact ⟨ret_int He.out.symm, rfl⟩
      · obtain rfl : k = xss.length := by omega
        have He := Lib.hid (show setsErr xss = 0 by
          unfold setsErr
          rw [if_neg hbig, if_pos hp.out])
        clear hr hi
        go_wp2
        go_ret
        exact ⟨ret_int He.out.symm, rfl⟩

set_option maxHeartbeats 400000 in
theorem rchecksets_any (v : Value) (xss : List (List Int)) (B : Nat) (w : World) (hv : Sets w B v xss) :
    Calls Tryz.prog 23 #[v] w fun e w' => e = .returned (.int .i64 (setsErr xss)) ∧ ∃ n, w' = w.drewN n := by
  obtain ⟨A, c, vs, rfl, hn, hm, hr, hi⟩ := hv
  have hlen : xss.length ≤ 5864062014634 := by omega
  clear hn hm
  by_cases hbig : 256 < xss.length
  · have He := Lib.hid (show setsErr xss = 3 by unfold setsErr; rw [if_pos hbig])
    go_enter Tryz.func23, Tryz.ntmps23
    go_wp2
    go_ret
    exact ⟨ret_int He.out.symm, 0, rfl⟩
  · go_enter Tryz.func23, Tryz.ntmps23
    go_wp2
    go_loopw [3] (fun i wr => ∃ k : Nat, k ≤ xss.length ∧ i = .int .i64 k ∧ Hid (∀ i, i < k → Rk.incr 256 (xss.getD i []) = true) ∧ ∃ n, wr = w.drewN n) (fun i _ => xss.length - (intOf i).toNat)
    case atStart => exact ⟨0, Nat.zero_le _, rfl, fun i h => by omega, 0, rfl⟩
    case round =>
      obtain ⟨k, hk, rfl, hp, n, rfl⟩ := hrel
      by_cases hlt : k < xss.length
      · obtain ⟨ad, u, rfl, _, hc, hu⟩ := sets_at hr hi hlt
        by_cases hin : Rk.incr 256 (xss.getD k []) = true
        · have Hc := Lib.hid (fun q => set_any u _ 256 B (w.drewN q) (hu.keep fun _ _ => rfl))
          rw [hin] at Hc
          have Hq := Lib.hid (show ∀ i, i < k + 1 → Rk.incr 256 (xss.getD i []) = true from fun i h => by
            by_cases e : i = k
            · subst e; exact hin
            · exact hp.out i (by omega))
          clear hr hi hu hin
          go_wp2_with (go_at_call 38; refine (Hc.out _).mono ?_; rintro e w' ⟨rfl, q, rfl⟩)
          go_roundw
          case rel => exact ⟨k + 1, by omega, by go_num, Hq, _, rfl⟩
          case measure => simp [intOf]; omega
        · have Hc := Lib.hid (fun q => set_any u _ 256 B (w.drewN q) (hu.keep fun _ _ => rfl))
          simp only [Bool.not_eq_true] at hin
          rw [hin] at Hc
          have He := Lib.hid (show setsErr xss = 1 by
            unfold setsErr
            rw [if_neg hbig, if_neg (fun h => by rw [h k hlt] at hin; cases hin)])
          clear hr hi hu hin
          go_wp2_with (go_at_call 38; refine (Hc.out _).mono ?_; rintro e w' ⟨rfl, q, rfl⟩)
          go_ret
          exact ⟨ret_int He.out.symm, _, rfl⟩
      · obtain rfl : k = xss.length := by omega
        have He := Lib.hid (show setsErr xss = 0 by
          unfold setsErr
          rw [if_neg hbig, if_pos hp.out])
        clear hr hi
        go_wp2
        go_ret
        exact ⟨ret_int He.out.symm, _, rfl⟩

end Go.Proofs.YtfpmbjobieeidaaGreat
