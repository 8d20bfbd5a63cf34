/-
  The walks of slices.Index and slices.Contains over whole numbers.
-/
import Derived.Test.YtfpmbjobieeidaaRInts
import Derived.Test.YtfpmbjobieeidaaPlainJ
namespace Go.Proofs.Ytfpmbjobieeidaa
open Go.RowKit

set_option maxHeartbeats 400000 in
theorem index_any (u : Value) (xs : List Int) (n : Int) (B : Nat) (w : World) (hu : Ints w B u xs) :
    Calls Try.prog 102 #[u, .int .i64 n] w fun e w' => (∃ i : Int, e = .returned (.int .i64 i) ∧ (0 ≤ i ↔ n ∈ xs)) ∧ w = w' := by
  obtain ⟨A, c, rfl, hn, hm, hr⟩ := hu
  clear hn
  go_enter Try.func102, Try.ntmps102
  go_wp2
  go_loop [8] (fun i => ∃ k : Nat, k ≤ xs.length ∧ i = .int .i64 k ∧ Hid (∀ j, j < k → xs.getD j 0 ≠ n)) (fun i => xs.length - (intOf i).toNat)
  case atStart => exact ⟨0, Nat.zero_le _, rfl, fun j h => by omega⟩
  case round =>
    obtain ⟨k, hk, rfl, he⟩ := hrel
    by_cases hlt : k < xs.length
    · obtain ⟨ad, rfl, _, hc⟩ := ints_at hr hlt
      by_cases hx : xs.getD k 0 = n
      · have Hr := Lib.hid (show n ∈ xs by rw [← hx]; exact Rk.memD hlt)
        have hb : (n == xs.getD k 0) = true := by simpa using hx.symm
        clear hr he hx
        generalize xs.getD k 0 = x at *
        go_wp2
        go_ret
        exact ⟨⟨k, rfl, ⟨fun _ => Hr.out, fun _ => by omega⟩⟩, rfl⟩
      · have He := Lib.hid (show ∀ j, j < k + 1 → xs.getD j 0 ≠ n from fun j hj => by
          by_cases e : j = k
          · rw [e]; exact hx
          · exact he.out j (by omega))
        have hb : (n == xs.getD k 0) = false := by simpa using fun e : n = xs.getD k 0 => hx e.symm
        clear hr he hx
        generalize xs.getD k 0 = x at *
        go_wp2
        go_round
        case rel => exact ⟨k + 1, hlt, by go_num, He⟩
        case measure => simp [intOf]; omega
    · have Hr := Lib.hid (show ¬ n ∈ xs from fun h => by
        obtain ⟨j, hj, e⟩ := Rk.mem_getD (d := 0) h
        exact he.out j (by omega) e)
      clear hr he
      go_wp2
      go_ret
      exact ⟨⟨-1, rfl, ⟨fun h => absurd h (by decide), fun h => absurd h Hr.out⟩⟩, rfl⟩

set_option maxHeartbeats 400000 in
theorem contains_any (u : Value) (xs : List Int) (n : Int) (B : Nat) (w : World) (hu : Ints w B u xs) :
    Calls Try.prog 69 #[u, .int .i64 n] w fun e w' => e = .returned (.bool (decide (n ∈ xs))) ∧ w = w' := by
  have HI := Lib.hid (index_any u xs n B w hu)
  clear hu
  go_enter Try.func69, Try.ntmps69
  go_wp2_with fail
  refine HI.out.mono ?_
  rintro e w' ⟨⟨i, rfl, hi⟩, rfl⟩
  have Hi := Lib.hid (show decide (0 ≤ i) = decide (n ∈ xs) from decide_eq_decide.2 hi)
  clear hi
  go_wp2
  go_ret
  exact ⟨ret_bool Hi.out, rfl⟩
end Go.Proofs.Ytfpmbjobieeidaa
